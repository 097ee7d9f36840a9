/- The document's examples (lives) as a closed run over the package-level tables; what it says of the call in any memory in which they lie. -/
import Derived.Test.YtflblenelggblaaGreatDoorVmAddsS0
import Derived.Test.YtflblenelggblaaGreatDoorVmAddsS1
import Derived.Test.YtflblenelggblaaGreatDoorVmAddsS2
import Derived.Test.YtflblenelggblaaGreatDoorVmAddsSum
set_option linter.unusedVariables false
namespace Go.Proofs.YtflblenelggblaaGreatDoor
open Go Go.Proofs Go.Eng
noncomputable section
theorem lives_run (es : Nat → TypeId) : isTrueR (callF Tryz.prog X0 noExt 100 (.fn 10) [] (globH 5 es gl)) = 1 := by kernel_rfl
theorem prog_ok : progOk Tryz.prog = true := by kernel_rfl
theorem prog_names : plainNames Tryz.prog = true := by kernel_rfl
theorem prog_mix : Tryz.prog.follows .mixedOrders = true := by kernel_rfl
theorem gl_lt : ∀ x ∈ gl, x.1 < 5 := by
  intro x hx
  have h : (gl.all fun x => Nat.ble (x.1 + 1) 5) = true := by kernel_rfl
  have := List.all_eq_true.1 h x hx
  exact Nat.le_of_ble_eq_true this
theorem gl_lit : litG gl = true := by kernel_rfl
theorem call_ok {env : Nat → Value} (he : EnvOk env) (hK : env KH = hv) : CallOk Tryz.prog env (okcP Tryz.prog) 5 (callF Tryz.prog X0 noExt 100) :=
  callF_ok (P := Tryz.prog) (X := X0) prog_names he nofacts prog_mix prog_ok noExt_ok 100
theorem lsums_ok {env : Nat → Value} (he : EnvOk env) (hK : env KH = hv) : CallOk Tryz.prog env (okcP Tryz.prog) 5 (sumExt gl lsums) :=
  sumExt_ok gl_lt (all_cons (fun es => ⟨_, call_ok he hK, l18_11_ok es⟩) (all_cons (fun es => ⟨_, call_ok he hK, l19_2836_ok es⟩) (all_cons (fun es => ⟨_, call_ok he hK, l12_6679_ok es⟩) all_nil)))
/-- lives tells true, in any memory in which the tables lie. -/
theorem lives_calls (w : World) (hng : 5 ≤ w.heap.size) (hg : Globs hv w gl) : Calls Tryz.prog 10 #[] w fun x w' => x = .returned (.bool true) ∧ RowKit.Below w.heap.size w w' :=
  true_calls rfl rfl (callF_ok (P := Tryz.prog) (X := X0) (env := fun _ => hv) prog_names (fun _ => rfl) nofacts prog_mix prog_ok noExt_ok 100) gl_lt (lives_run _) (by kernel_rfl) hng hg .nil
end
end Go.Proofs.YtflblenelggblaaGreatDoor
