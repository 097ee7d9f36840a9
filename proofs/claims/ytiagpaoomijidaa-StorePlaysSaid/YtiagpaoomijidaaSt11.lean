import Derived.Test.YtiagpaoomijidaaSt10
namespace Go.Proofs.Ytiagpaoomijidaa
open Go.RowKit Go.Proofs
set_option linter.unusedVariables false

theorem setCell_block {w : World} {b o : Nat} {c : Array Value} {t : TypeId} {fr : Nat × Nat} {v : Value} (h : w.heap[b]? = some (.cells c t fr)) :
    (w.setCell ⟨b, o, none⟩ v).heap[b]? = some (.cells (c.setIfInBounds o v) t fr) := by
  have hlt : b < w.heap.size := (Array.getElem?_eq_some_iff.1 h).1
  have he : w.heap[b] = .cells c t fr := by have := Array.getElem?_eq_some_iff.1 h; exact this.2
  show (w.heap.modify b _)[b]? = _
  rw [Array.getElem?_eq_getElem (by simpa using hlt), Array.getElem_modify, if_pos rfl, he]
  rfl

/-- What lies below B, and what holds no items, is as it was, but for one block. -/
structure BelowX (sb B : Nat) (w w' : World) : Prop where
  os : w'.os = w.os
  tape : w'.tape = w.tape
  output : w'.output = w.output
  size : w.heap.size ≤ w'.heap.size
  block : ∀ k, k < w.heap.size → k ≠ sb → (k < B ∨ ∀ c fr, w.heap[k]? ≠ some (.cells c 57 fr)) → w'.heap[k]? = w.heap[k]?
theorem BelowX.full {sb B : Nat} {w w' : World} (h : Below w.heap.size w w') : BelowX sb B w w' := ⟨h.os, h.tape, h.output, h.size, fun k hk _ _ => h.block k hk⟩
theorem BelowX.below {sb B : Nat} {w w' : World} (h : BelowX sb B w w') (hb : B ≤ sb) (hB : B ≤ w.heap.size) : Below B w w' := ⟨h.os, h.tape, h.output, h.size, fun k hk => h.block k (by omega) (by omega) (.inl hk)⟩
theorem BelowX.trans {sb B : Nat} {a b c : World} (h : BelowX sb B a b) (k : BelowX sb B b c) : BelowX sb B a c :=
  ⟨k.os.trans h.os, k.tape.trans h.tape, k.output.trans h.output, Nat.le_trans h.size k.size, fun i hi hn ht => by
    have e := h.block i hi hn ht
    exact (k.block i (Nat.lt_of_lt_of_le hi h.size) hn (by rw [e]; exact ht)).trans e⟩
theorem BelowX.drew {sb B : Nat} {a w : World} (h : BelowX sb B a w) : BelowX sb B a w.drew := ⟨h.os, h.tape, h.output, h.size, h.block⟩
theorem BelowX.drewN {sb B : Nat} {a w : World} (h : BelowX sb B a w) {n : Nat} : BelowX sb B a (w.drewN n) := ⟨h.os, h.tape, h.output, h.size, h.block⟩
theorem BelowX.setOwn {sb B : Nat} {a w : World} (h : BelowX sb B a w) {o : Nat} (u : Value) : BelowX sb B a (w.setCell ⟨sb, o, none⟩ u) :=
  have hb : Below 0 w (w.setCell ⟨sb, o, none⟩ u) := (Below.refl 0 w).setCell (Nat.zero_le _) u
  ⟨hb.os.trans h.os, hb.tape.trans h.tape, hb.output.trans h.output, Nat.le_trans h.size hb.size, fun k hk hn ht => (Below.heap_setCell _ _ _ _ hn).trans (h.block k hk hn ht)⟩
theorem BelowX.set57 {sb B g : Nat} {a w : World} (h : BelowX sb B a w) {o : Nat} {c : Array Value} {fr : Nat × Nat} (hg : a.heap[g]? = some (.cells c 57 fr)) (hB : B ≤ g) (u : Value) : BelowX sb B a (w.setCell ⟨g, o, none⟩ u) :=
  have hb : Below 0 w (w.setCell ⟨g, o, none⟩ u) := (Below.refl 0 w).setCell (Nat.zero_le _) u
  ⟨hb.os.trans h.os, hb.tape.trans h.tape, hb.output.trans h.output, Nat.le_trans h.size hb.size, fun k hk hn ht => by
    have hne : k ≠ g := by
      rintro rfl
      rcases ht with h1 | h1
      · omega
      · exact h1 _ _ hg
    exact (Below.heap_setCell _ _ _ _ hne).trans (h.block k hk hn ht)⟩

theorem ownsRow_set {w : World} {base : Nat} {e : TypeId} {size : Nat} {v : Value} {n : Nat} {xs : List Value} {b o : Nat} {c : Array Value} {t : TypeId} {fr : Nat × Nat} {u : Value}
    (h : w.ownsRow base e size v n xs) (hb : w.heap[b]? = some (.cells c t fr)) (hne : t ≠ e) : (w.setCell ⟨b, o, none⟩ u).ownsRow base e size v n xs := by
  refine ⟨h.1, ?_⟩
  rcases h.2 with h2 | ⟨g, cap, cur, h1, h2, h3, h4⟩
  · exact .inl h2
  · refine .inr ⟨g, cap, cur, h1, h2, ?_, h4⟩
    have hgb : g ≠ b := fun e => by subst e; rw [hb] at h3; cases h3; exact hne rfl
    rw [Below.heap_setCell _ _ _ _ hgb]; exact h3

theorem RowAt.set {w : World} {base : Nat} {v : Value} {n : Nat} {xs : List Value} {b o : Nat} {c : Array Value} {t : TypeId} {fr : Nat × Nat} {u : Value}
    (h : RowAt w base v n xs) (hb : w.heap[b]? = some (.cells c t fr)) (hne : t ≠ 57) : RowAt (w.setCell ⟨b, o, none⟩ u) base v n xs := by
  refine ⟨h.1, ?_⟩
  rcases h.2 with h2 | ⟨g, cap, cur, h1, h2, h3, h4⟩
  · exact .inl h2
  · refine .inr ⟨g, cap, cur, h1, h2, ?_, h4⟩
    have hgb : g ≠ b := fun e => by subst e; rw [hb] at h3; cases h3; exact hne rfl
    rw [Below.heap_setCell _ _ _ _ hgb]; exact h3

theorem ItemsAt.set {w : World} {base : Nat} {sv : Value} {it : List (Int × Value)} {l : List (Int × List UInt8)} {b o : Nat} {c : Array Value} {fr : Nat × Nat} {u : Value}
    (h : ItemsAt w base sv it l) (hb : w.heap[b]? = some (.cells c 51 fr)) : ItemsAt (w.setCell ⟨b, o, none⟩ u) base sv it l :=
  ⟨h.row.set hb (by decide), h.len, fun i x y hx hy => ⟨(h.pos i x y hx hy).1, ownsRow_set (h.pos i x y hx hy).2 hb (by decide)⟩⟩

theorem store_set {w : World} {base sb most : Nat} {old sv : Value} {it : List (Int × Value)} {l : List (Int × List UInt8)} (hsb : w.heap[sb]? = some (.cells #[.int .i64 most, old] 51 (0, 0))) (hb : True) (hi : ItemsAt w base sv it l) :
    StoreAt (w.setCell ⟨sb, 1, none⟩ sv) base sb most l :=
  ⟨sv, it, setCell_block hsb, hb, hi.set hsb⟩

theorem items_erase {w w1 : World} {base : Nat} {sv sv' : Value} {it : List (Int × Value)} {l : List (Int × List UInt8)} {i : Nat} (h : ItemsAt w base sv it l) (hb : Below w.heap.size w w1) (hi : i < l.length)
    (hrow : RowAt w1 base sv' (it.length - 1) (rowCells (it.eraseIdx i))) : ItemsAt w1 base sv' (it.eraseIdx i) (l.eraseIdx i) := by
  have hl := h.len
  refine ⟨by rw [List.length_eraseIdx_of_lt (by omega)]; exact hrow, by rw [List.length_eraseIdx_of_lt (by omega), List.length_eraseIdx_of_lt hi, hl], fun j x y hx hy => ?_⟩
  rw [List.getElem?_eraseIdx] at hx hy
  by_cases hj : j < i
  · rw [if_pos hj] at hx hy
    exact ⟨(h.pos j x y hx hy).1, ownsRow_below (h.pos j x y hx hy).2 hb⟩
  · rw [if_neg hj] at hx hy
    exact ⟨(h.pos (j + 1) x y hx hy).1, ownsRow_below (h.pos (j + 1) x y hx hy).2 hb⟩

theorem drop_any (sb base most : Nat) (l : List (Int × List UInt8)) (i : Nat) (w : World) (h : StoreAt w base sb most l) (hi : i < l.length) (hl : l.length ≤ 1000) (hb : base ≤ w.heap.size) :
    Calls Try.prog 26 #[.pointer (some ⟨sb, 0, none⟩), .int .i64 i] w fun e w' => e = .returned (.tuple #[]) ∧ StoreAt w' base sb most (l.eraseIdx i) ∧ BelowX sb base w w' := by
  obtain ⟨sv, it, h1, h2, h3⟩ := h
  have hlen := h3.len
  rcases h3.row.2 with ⟨rfl, h4⟩ | ⟨g, cap, cur, rfl, h5, h6, h7, h8, h9, h10⟩
  · omega
  · by_cases hm : i + 1 < it.length
    · refine (drop_mid sb g it.length cap i _ it w h1 (h3.row.base (Nat.zero_le _)) rfl h3.one hm h7 (by omega)).mono ?_
      rintro e w' ⟨g', c', w1, rfl, q1, q2, rfl⟩
      have hsb : sb < w.heap.size := (Array.getElem?_eq_some_iff.1 h1).1
      have h1' : w1.heap[sb]? = some (.cells #[.int .i64 most, .slice (some ⟨g, 0, none⟩) it.length cap] 51 (0, 0)) := by rw [q2.block sb hsb]; exact h1
      exact ⟨rfl, store_set h1' h2 (items_erase h3 q2 hi ((RowAt.of_own q1).base hb)), (BelowX.full q2).setOwn _⟩
    · have hil : it.length = i + 1 := by omega
      rw [hil] at h1
      refine (drop_end sb g cap i _ w h1 (by omega) (by omega)).mono ?_
      rintro e w' ⟨rfl, n, rfl⟩
      have hbw : Below w.heap.size w (w.drewN n) := below_drewN (Below.refl _ _)
      have h1' : (w.drewN n).heap[sb]? = some (.cells #[.int .i64 most, .slice (some ⟨g, 0, none⟩) (i + 1) cap] 51 (0, 0)) := h1
      refine ⟨rfl, store_set h1' h2 (items_erase h3 hbw hi ?_), (BelowX.full hbw).setOwn _⟩
      have he : it.eraseIdx i = it.take i := by rw [eraseIdx_eq, List.drop_of_length_le (by omega), List.append_nil]
      rw [he, hil]
      refine ⟨by rw [rowCells_len, List.length_take]; omega, .inr ⟨g, i, cur, by simp, h5, h6, by omega, by unfold maxLen; omega, by omega, ?_⟩⟩
      rw [show (i + 1 - 1) * 2 = i * 2 by omega, ← rowCells_take, ← h10, List.take_take, Nat.min_eq_left (by omega)]
end Go.Proofs.Ytiagpaoomijidaa
