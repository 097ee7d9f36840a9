import Derived.Test.YtiagpaoomijidaaSt18
namespace Go.Proofs.Ytiagpaoomijidaa
open Go.RowKit Go.Proofs
set_option linter.unusedVariables false

theorem place_exists (p : Nat → Int) (q : Int) : ∀ (n : Nat), (∀ s t, s < t → t < n → p s < p t) → ∃ i, Place p n q i
  | 0, _ => ⟨0, Nat.le_refl _, fun t h => absurd h (Nat.not_lt_zero _), fun t _ h => absurd h (Nat.not_lt_zero _)⟩
  | n + 1, hm => by
    obtain ⟨i, h1, h2, h3⟩ := place_exists p q n (fun s t hs ht => hm s t hs (by omega))
    by_cases hi : i = n
    · subst hi
      by_cases hq : p i < q
      · exact ⟨i + 1, Nat.le_refl _, fun t ht => by
          by_cases h : t = i
          · subst h; exact hq
          · exact h2 t (by omega), fun t a b => by omega⟩
      · exact ⟨i, by omega, h2, fun t a b => by
          obtain rfl : t = i := by omega
          omega⟩
    · refine ⟨i, by omega, h2, fun t a b => ?_⟩
      by_cases h : t = n
      · subst h
        have := hm i t (by omega) (by omega)
        have := h3 i (Nat.le_refl _) (by omega)
        omega
      · exact h3 t a (by omega)

/-- The list behind a Put at a place. -/
def putL (most : Nat) (l : List (Int × List UInt8)) (q : Int) (b : List UInt8) (i : Nat) : List (Int × List UInt8) :=
  if i < l.length ∧ posOf l i = q then l.set i (q, b) else grownL most l q b i

def PutPost (w w' : World) (base sb most : Nat) (l : List (Int × List UInt8)) (q : Int) (b : List UInt8) (e : Ending) : Prop :=
  e = .returned (.int .i64 0) ∧ BelowX sb base w w' ∧ ∃ i, Place (posOf l) l.length q i ∧ StoreAt w' base sb most (putL most l q b i)

theorem put_any (sb base most : Nat) (l : List (Int × List UInt8)) (q : Int) (bv : Value) (b : List UInt8) (w : World) (h : StoreAt w base sb most l) (hm : 0 < most) (hq : 0 ≤ q) (hq2 : q ≤ 9223372036854775807) (hr : Rising l) (hrg : Ranged l) (hl : l.length ≤ 999) (hb : BytesIn w bv b) (hbl : b.length ≤ 140737488351232)
    (hbase : base ≤ w.heap.size) : Calls Try.prog 12 #[.pointer (some ⟨sb, 0, none⟩), .int .i64 q, bv] w fun e w' => PutPost w w' base sb most l q b e := by
  obtain ⟨i, hp⟩ := place_exists (posOf l) q l.length hr
  by_cases hi : i < l.length ∧ posOf l i = q
  · refine (put_there sb base most l q bv b i w h hm hq hr hl hb hbl hp hi.1 hi.2 hbase).mono ?_
    rintro e w' ⟨rfl, h1, h2⟩
    exact ⟨rfl, h2, i, hp, by rw [putL, if_pos hi]; exact h1⟩
  · refine (put_new sb base most l q bv b i w h hm hq hr hl hb hbl hp hi hrg hq2 hbase).mono ?_
    rintro e w' ⟨rfl, h1, h2⟩
    exact ⟨rfl, h2, i, hp, by rw [putL, if_neg hi]; exact h1⟩
end Go.Proofs.Ytiagpaoomijidaa
