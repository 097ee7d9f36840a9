/- VmAdds: the law's call, at any two numbers. -/
import Derived.Test.YtflblenelggblaaGreatDoorVaR0
import Derived.Test.YtflblenelggblaaGreatDoorVaR1
import Derived.Test.YtflblenelggblaaGreatDoorVaR2
import Derived.Test.YtflblenelggblaaGreatDoorVaR3
import Derived.Test.YtflblenelggblaaGreatDoorVaR4
import Derived.Test.YtflblenelggblaaGreatDoorVaR5
set_option linter.unusedVariables false
namespace Go.Proofs.YtflblenelggblaaGreatDoor
open Go Go.Proofs Go.Eng Go.RowKit

theorem wf_range {a : Int} (h : (Lit.int .i64 a).wf = true) : -9223372036854775808 ≤ a ∧ a ≤ 9223372036854775807 := by
  have hr : IntKind.min .i64 ≤ a ∧ a ≤ IntKind.max .i64 := by simpa [Lit.wf] using h
  have e0 : IntKind.min .i64 = -9223372036854775808 := by decide
  have e1 : IntKind.max .i64 = 9223372036854775807 := by decide
  rw [e0, e1] at hr; exact hr
theorem vm_case {a b : Int} {lt le eq ne gt ge b0 : Bool} (h1 : lt = decide (a < b)) (h2 : le = decide (a ≤ b)) (h3 : eq = decide (a = b)) (h4 : ne = !decide (a = b)) (h5 : gt = decide (b < a)) (h6 : ge = decide (b ≤ a)) (hz : b0 = decide (b = 0))
    (ha0 : -9223372036854775808 ≤ a) (ha1 : a ≤ 9223372036854775807) (W : World) (hg : Globs hv W gl) (hng : 5 ≤ W.heap.size)
    (hrun : ∀ es : Nat → TypeId, isTrueR (callF Tryz.prog (vmX lt le eq ne gt ge b0) vmExt 100 (.fn 3) [.sym 0, .sym 1] (globH 5 es gl)) = 1) :
    Calls Tryz.prog 3 #[.int .i64 a, .int .i64 b] W fun e w' => e = .returned (.bool true) ∧ Below W.heap.size W w' :=
  true_calls (env := envL hv (valsL a b lt le eq ne gt ge)) envK rfl (callF_ok (P := Tryz.prog) (X := vmX lt le eq ne gt ge b0) prog_names vals_ok (vmF_ok h1 h2 h3 h4 h5 h6 hz ha0 ha1) prog_mix prog_ok (vmExt_ok ha0 ha1) 100) gl_lt (hrun (globElem W)) (by kernel_rfl) hng hg (.cons (VRel.at rfl) (.cons (VRel.at rfl) .nil))

theorem vm_walk (a b : Int) (ha0 : -9223372036854775808 ≤ a) (ha1 : a ≤ 9223372036854775807) (W : World) (hg : Globs hv W gl) (hng : 5 ≤ W.heap.size) :
    Calls Tryz.prog 3 #[.int .i64 a, .int .i64 b] W fun e w' => e = .returned (.bool true) ∧ Below W.heap.size W w' := by
  rcases Int.lt_trichotomy a b with h | h | h
  · by_cases hb : b = 0
    · exact vm_case (lt := true) (le := true) (eq := false) (ne := true) (gt := false) (ge := false) (b0 := true) (by simp; omega) (by simp; omega) (by simp; omega) (by simp; omega) (by simp; omega) (by simp; omega) (by simp; omega) ha0 ha1 W hg hng run_lt1
    · exact vm_case (lt := true) (le := true) (eq := false) (ne := true) (gt := false) (ge := false) (b0 := false) (by simp; omega) (by simp; omega) (by simp; omega) (by simp; omega) (by simp; omega) (by simp; omega) (by simp; omega) ha0 ha1 W hg hng run_lt0
  · by_cases hb : b = 0
    · exact vm_case (lt := false) (le := true) (eq := true) (ne := false) (gt := false) (ge := true) (b0 := true) (by simp; omega) (by simp; omega) (by simp; omega) (by simp; omega) (by simp; omega) (by simp; omega) (by simp; omega) ha0 ha1 W hg hng run_eq1
    · exact vm_case (lt := false) (le := true) (eq := true) (ne := false) (gt := false) (ge := true) (b0 := false) (by simp; omega) (by simp; omega) (by simp; omega) (by simp; omega) (by simp; omega) (by simp; omega) (by simp; omega) ha0 ha1 W hg hng run_eq0
  · by_cases hb : b = 0
    · exact vm_case (lt := false) (le := false) (eq := false) (ne := true) (gt := true) (ge := true) (b0 := true) (by simp; omega) (by simp; omega) (by simp; omega) (by simp; omega) (by simp; omega) (by simp; omega) (by simp; omega) ha0 ha1 W hg hng run_gt1
    · exact vm_case (lt := false) (le := false) (eq := false) (ne := true) (gt := true) (ge := true) (b0 := false) (by simp; omega) (by simp; omega) (by simp; omega) (by simp; omega) (by simp; omega) (by simp; omega) (by simp; omega) ha0 ha1 W hg hng run_gt0
end Go.Proofs.YtflblenelggblaaGreatDoor
