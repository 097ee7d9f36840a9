/- A call of the closed run, by the evaluator. -/
import Derived.Test.YtflblenelggblaaGreatDoorVmAddsSum
namespace Go.Proofs.YtflblenelggblaaGreatDoor
open Go Go.Proofs Go.Eng
noncomputable section
theorem l12_6679_ok (es : Nat → TypeId) : l12_6679.ok (callF Tryz.prog X0 noExt 100 (.fn l12_6679.f) l12_6679.args (l12_6679.inH 5 es gl)) = 1 := by kernel_rfl
end
end Go.Proofs.YtflblenelggblaaGreatDoor
