/- VmAdds: a run. -/
import Derived.Test.YtflblenelggblaaGreatDoorVa6
namespace Go.Proofs.YtflblenelggblaaGreatDoor
open Go Go.Proofs Go.Eng Go.RowKit
noncomputable section
theorem run_gt0 (es : Nat → TypeId) : isTrueR (callF Tryz.prog (vmX false false false true true true false) vmExt 100 (.fn 3) [.sym 0, .sym 1] (globH 5 es gl)) = 1 := by kernel_rfl
end
end Go.Proofs.YtflblenelggblaaGreatDoor
