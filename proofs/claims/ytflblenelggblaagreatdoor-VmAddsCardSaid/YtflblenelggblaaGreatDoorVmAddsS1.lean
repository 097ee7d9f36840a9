/- A call of the closed run, by the evaluator. -/
import Derived.Test.YtflblenelggblaaGreatDoorVmAddsSum
namespace Go.Proofs.YtflblenelggblaaGreatDoor
open Go Go.Proofs Go.Eng
noncomputable section
theorem l19_2836_ok (es : Nat → TypeId) : l19_2836.ok (callF Tryz.prog X0 noExt 100 (.fn l19_2836.f) l19_2836.args (l19_2836.inH 5 es gl)) = 1 := by kernel_rfl
end
end Go.Proofs.YtflblenelggblaaGreatDoor
