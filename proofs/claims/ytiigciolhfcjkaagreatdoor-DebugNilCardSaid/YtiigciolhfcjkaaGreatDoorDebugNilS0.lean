/- A call of the closed run, by the evaluator. -/
import Derived.Test.YtiigciolhfcjkaaGreatDoorDebugNilSum
namespace Go.Proofs.YtiigciolhfcjkaaGreatDoor
open Go Go.Proofs Go.Eng
noncomputable section
theorem s22_8_ok (es : Nat → TypeId) : s22_8.ok (callF Tryz.prog X0 asX 100 (.fn s22_8.f) s22_8.args (s22_8.inH 8 es gl)) = 1 := by kernel_rfl
end
end Go.Proofs.YtiigciolhfcjkaaGreatDoor
