/- SessionNil: the row's closed facts. -/
import Derived.Test.YtpkaflphdjdokaaGreatDoorRows
import Derived.Test.YtpkaflphdjdokaaGreatDoorEngW
import Derived.JoinedOf
import Derived.Test.YtpkaflphdjdokaaGreatDoorSessionNilFA
import Derived.Test.YtpkaflphdjdokaaGreatDoorSessionNilFB
import Derived.Test.YtpkaflphdjdokaaGreatDoorSessionNilFC
import Derived.Test.YtpkaflphdjdokaaGreatDoorSessionNilFD
import Derived.Test.YtpkaflphdjdokaaGreatDoorSessionNilFE
namespace Go.Proofs.YtpkaflphdjdokaaGreatDoor.sessionNil
open Go Go.Eng
set_option maxRecDepth 100000 in
set_option maxHeartbeats 0 in
/-- The row's closed facts, one by one. -/
theorem facts : joinedFacts Tryz.checked.prog 3 Tryz.f3 Rows.sessionNilSpec Rows.sessionNilRow = true := by
  unfold joinedFacts
  repeat' (with_reducible refine and_intro ?_ ?_)
  all_goals (with_reducible first | exact factFE | exact factFA | exact factFB | exact factFC | exact factFD | skip)
  all_goals (as_aux_lemma => kernel_rfl)
end Go.Proofs.YtpkaflphdjdokaaGreatDoor.sessionNil
