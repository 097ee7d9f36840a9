/- SessionNil: one of the row's closed facts (each alone nears a process's memory). -/
import Derived.Test.YtpkaflphdjdokaaGreatDoorRows
import Derived.JoinedOf
namespace Go.Proofs.YtpkaflphdjdokaaGreatDoor.sessionNil
open Go
theorem factFC : (Rows.sessionNilRow.recurses == Tryz.checked.prog.recurses 3) = true := by kernel_rfl
end Go.Proofs.YtpkaflphdjdokaaGreatDoor.sessionNil
