import Derived.Test.YtiagpaoomijidaaSt26
namespace Go.Proofs.Ytiagpaoomijidaa
open Go.RowKit Go.Proofs
set_option linter.unusedVariables false

/-- A row of Puts that came in. -/
def ActsIn (w : World) (so : Option Addr) (n : Nat) (P : Nat → Int) (Q : Nat → ByteArray) : Prop :=
  ∀ i, i < n → ∃ a, so = some a ∧ w.cell? (a.add (i * 2)) = some (.int .i64 (P i)) ∧ w.cell? (a.add (i * 2 + 1)) = some (.string (Q i)) ∧ -9223372036854775808 ≤ P i ∧ P i ≤ 9223372036854775807

def leastA (least q : Int) : Int := if 0 ≤ q ∧ (least < 0 ∨ q < least) then q else least

/-- One Put of StoreFirst's loop. -/
theorem first_step {wr : World} {N may : Nat} {least : Int} {l : List (Int × List UInt8)} (q : Int) (S : StoreAt wr N N may l) (h : First may least l) (hm : 1 ≤ may) (hm2 : may ≤ 64) (hq2 : q ≤ 9223372036854775807) :
    Calls Try.prog 12 #[.pointer (some ⟨N, 0, none⟩), .int .i64 q, .slice none 0 0] wr fun e w' => ∃ z, e = .returned (.int .i64 z) ∧ ∃ l', First may (leastA least q) l' ∧ StoreAt w' N N may l' ∧ Below N wr w' := by
  have hN : N < wr.heap.size := by obtain ⟨c, hc⟩ := store_cells51 S; exact (Array.getElem?_eq_some_iff.1 hc).1
  by_cases hq : q < 0
  · refine (put_arg N N may l _ q wr S hm hq).mono ?_
    rintro e w' ⟨rfl, hb⟩
    have e : leastA least q = least := by unfold leastA; rw [if_neg (by omega)]
    exact ⟨_, rfl, l, by rw [e]; exact h, S.below hb, hb.mono (by omega)⟩
  · have hl := h.len
    refine (put_any N N may l q _ [] wr S hm (by omega) hq2 h.rise h.ranged (by omega) (.inl ⟨rfl, rfl⟩) (by simp) (by omega)).mono ?_
    rintro e w' ⟨rfl, hx, i, hp, S'⟩
    have e : leastA least q = if least < 0 ∨ q < least then q else least := by
      unfold leastA
      by_cases hc : least < 0 ∨ q < least
      · rw [if_pos ⟨by omega, hc⟩, if_pos hc]
      · rw [if_neg (fun h => hc h.2), if_neg hc]
    exact ⟨_, rfl, _, by rw [e]; exact first_put h (by omega) hq2 hm hp, S', hx.under (Nat.le_refl _) (Nat.le_refl _) (by omega)⟩

/-- What All tells, place by place. -/
theorem all_gen {w : World} {B N most : Nat} {l : List (Int × List UInt8)} (S : StoreAt w B N most l) (hm : 0 < most) (hl : l.length ≤ 1000) : Calls Try.prog 16 #[.pointer (some ⟨N, 0, none⟩)] w fun e w' => ∃ so c, e = .returned (.slice so l.length c) ∧ Aside (∀ i, i < l.length → ∃ g, so = some ⟨g, 0, none⟩ ∧ g < w'.heap.size ∧ w'.cell? ⟨g, i, none⟩ = some (.int .i64 (posOf l i))) ∧ Below w.heap.size w w' := by
  by_cases h0 : 0 < l.length
  · refine (all_row S hm hl h0).mono ?_
    rintro e w' ⟨g, c, rfl, hc, hb⟩
    exact ⟨_, c, rfl, fun i hi => ⟨g, rfl, hc.out.1, hc.out.2 i hi⟩, hb⟩
  · refine (all_of S hm hl).mono ?_
    rintro e w' ⟨v, rfl, hi, hb⟩
    obtain ⟨so, c, rfl, _⟩ := hi.isIn
    exact ⟨so, c, by simp, fun i hi => absurd hi (by omega), hb⟩
end Go.Proofs.Ytiagpaoomijidaa
