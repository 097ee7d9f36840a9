/- The document's examples (lives) as a closed run over the package-level tables; what it says of the call in any memory in which they lie. -/
import Derived.Test.YtpnkohfmpdehaaaGreatDoorRows
import Derived.Test.YtpnkohfmpdehaaaGreatDoorAs
namespace Go.Proofs.YtpnkohfmpdehaaaGreatDoor
open Go Go.Proofs Go.Eng
noncomputable section

def X0 : Cx := ⟨[], 9⟩
def tb (d : DataW Unit) : List AVal := (tabD d).getD []
def gl : List (Nat × List AVal) := [(0, [AVal.sym KH]), (1, tb Rows.laid_hindcast_lex_signs), (2, tb Rows.laid_hindcast_lex_words), (6, tb Rows.laid_internal_strconv_uint64pow10), (7, tb Rows.laid_math_bits_deBruijn32tab), (8, tb Rows.laid_math_bits_deBruijn64tab)]
theorem lives_run (es : Nat → TypeId) : isTrueR (callF Tryz.prog X0 asX 100 (.fn 6) [] (globH 9 es gl)) = 1 := by kernel_rfl
theorem prog_ok : progOk Tryz.prog = true := by kernel_rfl
theorem prog_names : plainNames Tryz.prog = true := by kernel_rfl
theorem prog_mix : Tryz.prog.follows .mixedOrders = true := by kernel_rfl
theorem gl_lt : ∀ x ∈ gl, x.1 < 9 := by
  intro x hx
  have h : (gl.all fun x => Nat.ble (x.1 + 1) 9) = true := by kernel_rfl
  have := List.all_eq_true.1 h x hx
  exact Nat.le_of_ble_eq_true this
theorem gl_lit : litG gl = true := by kernel_rfl
/-- lives tells true, in any memory in which the tables lie. -/
theorem lives_calls (w : World) (hng : 9 ≤ w.heap.size) (hg : Globs hv w gl) : Calls Tryz.prog 6 #[] w fun x w' => x = .returned (.bool true) ∧ RowKit.Below w.heap.size w w' :=
  true_calls rfl rfl (callF_ok (P := Tryz.prog) (X := X0) (env := fun _ => hv) prog_names (fun _ => rfl) nofacts prog_mix prog_ok (as_ok (fun _ => rfl) rfl (by decide)) 100) gl_lt (lives_run _) (by kernel_rfl) hng hg .nil
end
end Go.Proofs.YtpnkohfmpdehaaaGreatDoor
namespace Go.Proofs.YtpnkohfmpdehaaaGreatDoor.syntaxSigns
open Go Go.Eng
noncomputable section
def allN (n : Nat) (p : Nat → Bool) : Bool := Nat.rec (motive := fun _ => Bool) true (fun i ih => match p i with | true => ih | false => false) n
theorem allN_of {n : Nat} {p : Nat → Bool} (h : allN n p = true) : ∀ i, i < n → p i = true := by
  induction n with
  | zero => intro i hi; omega
  | succ n ih =>
    have h' : (match p n with | true => allN n p | false => false) = true := h
    split at h'
    · rename_i hp
      intro i hi
      rcases Nat.lt_or_ge i n with hlt | hge
      · exact ih h' i hlt
      · obtain rfl : i = n := by omega
        exact hp
    · cases h'
def X1 (m0 : Nat) (m1 : Nat) : Cx := ⟨[⟨.conv 3 23, .sym 0, .nptr, .sym 2⟩, ⟨.bin .rem, .sym 2, .int .u64 (Int.ofNat (12 + 1)), .int .u64 (Int.ofNat m0)⟩, ⟨.conv 3 23, .sym 1, .nptr, .sym 3⟩, ⟨.bin .rem, .sym 3, .int .u64 (Int.ofNat (12 + 1)), .int .u64 (Int.ofNat m1)⟩], 9⟩
def test (es : Nat → TypeId) (m0 : Nat) : Bool := allN 13 fun m1 => Nat.beq (isTrueR (callF Tryz.prog (X1 m0 m1) (extOf 6 gl) 100 (.fn 3) [.sym 0, .sym 1] (globH 9 es gl))) 1
end
end Go.Proofs.YtpnkohfmpdehaaaGreatDoor.syntaxSigns
