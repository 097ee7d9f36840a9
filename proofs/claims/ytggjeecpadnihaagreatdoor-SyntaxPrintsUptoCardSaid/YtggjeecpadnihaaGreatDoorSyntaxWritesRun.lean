/- The document's examples (lives) as a closed run over the package-level tables; what it says of the call in any memory in which they lie. -/
import Derived.Test.YtggjeecpadnihaaGreatDoorRows
import Derived.Test.YtggjeecpadnihaaGreatDoorAs
namespace Go.Proofs.YtggjeecpadnihaaGreatDoor
open Go Go.Proofs Go.Eng
noncomputable section

def X0 : Cx := ⟨[], 9⟩
def tb (d : DataW Unit) : List AVal := (tabD d).getD []
def gl : List (Nat × List AVal) := [(0, [AVal.sym KH]), (1, tb Rows.laid_hindcast_lex_signs), (2, tb Rows.laid_hindcast_lex_words), (3, tb Rows.laid_internal_strconv_uint64pow10), (7, tb Rows.laid_math_bits_deBruijn32tab), (8, tb Rows.laid_math_bits_deBruijn64tab)]
theorem lives_run (es : Nat → TypeId) : isTrueR (callN Tryz.prog X0 asX 100 (.fn 6) [] (globH 9 es gl)) = 1 := by kernel_rfl
theorem prog_ok : progOk Tryz.prog = true := by kernel_rfl
theorem prog_mix : Tryz.prog.follows .mixedOrders = true := by kernel_rfl
theorem gl_lt : ∀ x ∈ gl, x.1 < 9 := by
  intro x hx
  have h : (gl.all fun x => Nat.ble (x.1 + 1) 9) = true := by kernel_rfl
  have := List.all_eq_true.1 h x hx
  exact Nat.le_of_ble_eq_true this
theorem gl_lit : litG gl = true := by kernel_rfl
/-- lives tells true, in any memory in which the tables lie. -/
theorem lives_calls (w : World) (hng : 9 ≤ w.heap.size) (hg : Globs hv w gl) : Calls Tryz.prog 6 #[] w fun x w' => x = .returned (.bool true) ∧ RowKit.Below w.heap.size w w' :=
  true_calls rfl rfl (callN_ok (P := Tryz.prog) (X := X0) (env := fun _ => hv) (fun _ => rfl) nofacts prog_mix prog_ok (as_ok (fun _ => rfl) rfl (by decide)) 100) gl_lt (lives_run _) (by kernel_rfl) hng hg .nil
end
end Go.Proofs.YtggjeecpadnihaaGreatDoor
