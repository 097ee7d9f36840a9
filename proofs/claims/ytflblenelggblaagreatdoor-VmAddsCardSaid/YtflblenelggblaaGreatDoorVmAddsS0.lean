/- A call of the closed run, by the evaluator. -/
import Derived.Test.YtflblenelggblaaGreatDoorVmAddsSum
namespace Go.Proofs.YtflblenelggblaaGreatDoor
open Go Go.Proofs Go.Eng
noncomputable section
theorem l18_11_ok (es : Nat → TypeId) : l18_11.ok (callF Tryz.prog X0 noExt 100 (.fn l18_11.f) l18_11.args (l18_11.inH 5 es gl)) = 1 := by kernel_rfl
end
end Go.Proofs.YtflblenelggblaaGreatDoor
