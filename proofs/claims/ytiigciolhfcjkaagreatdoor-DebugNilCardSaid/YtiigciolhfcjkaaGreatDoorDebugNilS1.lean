/- A call of the closed run, by the evaluator. -/
import Derived.Test.YtiigciolhfcjkaaGreatDoorDebugNilSum
namespace Go.Proofs.YtiigciolhfcjkaaGreatDoor
open Go Go.Proofs Go.Eng
noncomputable section
theorem s4_3239_ok (es : Nat → TypeId) : s4_3239.ok (callF Tryz.prog X0 asX 100 (.fn s4_3239.f) s4_3239.args (s4_3239.inH 8 es gl)) = 1 := by kernel_rfl
end
end Go.Proofs.YtiigciolhfcjkaaGreatDoor
