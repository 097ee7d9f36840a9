/- A call of the closed run, by the evaluator. -/
import Derived.Test.YtiigciolhfcjkaaGreatDoorDebugNilSum
namespace Go.Proofs.YtiigciolhfcjkaaGreatDoor
open Go Go.Proofs Go.Eng
noncomputable section
theorem s4_5727_ok (es : Nat → TypeId) : s4_5727.ok (callF Tryz.prog X0 asX 100 (.fn s4_5727.f) s4_5727.args (s4_5727.inH 8 es gl)) = 1 := by kernel_rfl
end
end Go.Proofs.YtiigciolhfcjkaaGreatDoor
