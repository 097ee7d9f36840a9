/- The engine, part VB: a function whose answer is known by a contract, at what the call hands in and what the heap holds. -/
import Derived.Test.YtggjeecpadnihaaGreatDoorEngVA
set_option linter.unusedVariables false
namespace Go.Eng
open Go.RowKit

section
variable {P : Program} {env : Nat → Value} {hv : Value}

/-- Function f, at arguments and a heap of which 'chk' tells the answer; it leaves the heap as it is. -/
noncomputable def extV (f : FuncId) (gl : List (Nat × List AVal)) (chk : List AVal → AHeap → Option AVal) : CallF := fun t args h =>
  match t with
  | .fn g => (match Nat.beq g f && chkG h gl with
    | true => (match chk args h with
      | some v => some (.ret v, h)
      | none => none)
    | false => none)
  | _ => none

theorem extV_ok {okc : FuncId → Code → Bool} {ng : Nat} {f : FuncId} {gl : List (Nat × List AVal)} {chk : List AVal → AHeap → Option AVal} (hk : env KH = hv) (hlt : ∀ x ∈ gl, x.1 < ng) (hlit : litG gl = true)
    (hf : ∀ (ρ : Rho) (h : AHeap) (w : World) (args : List AVal) (v : AVal) (args' : List Value), HRel P env okc ρ h w → chk args h = some v → VRels ρ env args args' → ng ≤ w.heap.size → Globs hv w gl →
      Calls P f ⟨args'⟩ w fun x w' => (∃ y, x = .returned y ∧ VRel ρ env v y) ∧ Below w.heap.size w w') : CallOk P env okc ng (extV f gl chk) := by
  refine ⟨?_, ?_⟩
  · intro ρ h w hr hg f' args e h' hx hb args' ha cs
    have hx2 : (match Nat.beq f' f && chkG h gl with
      | true => (match chk args h with
        | some v => some (AEnd.ret v, h)
        | none => none)
      | false => none) = some (e, h') := hx
    cases hc : (Nat.beq f' f && chkG h gl) with
    | false => rw [hc] at hx2; cases hx2
    | true =>
    rw [hc] at hx2
    simp only at hx2
    cases hv' : chk args h with
    | none => rw [hv'] at hx2; cases hx2
    | some v =>
    rw [hv'] at hx2
    cases hx2
    rw [Bool.and_eq_true] at hc
    obtain ⟨hgf, hch⟩ := hc
    obtain rfl := Nat.eq_of_beq_eq_true hgf
    have hng : ng ≤ w.heap.size := by
      rcases Nat.eq_zero_or_pos ng with h0 | h0
      · omega
      · obtain ⟨i, h1, h2, _⟩ := hg (ng - 1) (by omega)
        have := hr.bound _ _ h1
        omega
    obtain ⟨x, w', fr, ⟨⟨y, rfl, hy⟩, hbw⟩, q1, q2, q3⟩ := hf ρ h w args v args' hr hv' ha hng (chkG_globs hk hr hg gl hlt hlit hch) cs
    exact ⟨ρ, w', fr, _, q1, q2, q3, Go'.of_below hr hbw, hy⟩
  · intro ρ h w hr hg b i args e h' hx
    cases hx
end
end Go.Eng
