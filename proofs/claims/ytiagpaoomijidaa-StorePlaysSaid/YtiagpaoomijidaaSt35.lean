import Derived.Test.YtiagpaoomijidaaSt34
namespace Go.Proofs.Ytiagpaoomijidaa
open Go.RowKit Go.Proofs
set_option linter.unusedVariables false
set_option linter.unusedSimpArgs false

/-! ### The reference's list -/
def strV (b : List UInt8) : Value := .string ⟨b.toArray⟩
def refCells (l : List (Int × List UInt8)) : List Value := l.flatMap fun x => [.int .i64 x.1, strV x.2]
theorem refCells_len (l : List (Int × List UInt8)) : (refCells l).length = l.length * 2 := by
  induction l with
  | nil => rfl
  | cons x l ih => simp [refCells] at ih ⊢; omega
theorem refCells_append (a b : List (Int × List UInt8)) : refCells (a ++ b) = refCells a ++ refCells b := by simp [refCells]
theorem refCells_get : ∀ (l : List (Int × List UInt8)) (i : Nat) (x : Int × List UInt8), l[i]? = some x → (refCells l)[i * 2]? = some (.int .i64 x.1) ∧ (refCells l)[i * 2 + 1]? = some (strV x.2)
  | [], i, x, h => by simp at h
  | y :: l, 0, x, h => by simp at h; subst h; exact ⟨rfl, rfl⟩
  | y :: l, i + 1, x, h => by
    obtain ⟨h1, h2⟩ := refCells_get l i x (by simpa using h)
    have e : refCells (y :: l) = .int .i64 y.1 :: strV y.2 :: refCells l := rfl
    rw [e, show (i + 1) * 2 = i * 2 + 1 + 1 by omega]
    exact ⟨by simpa using h1, by simpa using h2⟩

/-- A list of the reference's, in memory of the call's own. -/
def RefAt (w : World) (base : Nat) (v : Value) (l : List (Int × List UInt8)) : Prop := w.ownsRow base 54 2 v l.length (refCells l)
/-- .. as it is read. -/
def RefIn (w : World) (v : Value) (l : List (Int × List UInt8)) : Prop :=
  ∃ so c, v = .slice so l.length c ∧ ∀ i x, l[i]? = some x → ∃ g, so = some ⟨g, 0, none⟩ ∧ g < w.heap.size ∧ w.cell? ⟨g, i * 2, none⟩ = some (.int .i64 x.1) ∧ w.cell? ⟨g, i * 2 + 1, none⟩ = some (strV x.2)

theorem RefAt.isIn {w : World} {base : Nat} {v : Value} {l : List (Int × List UInt8)} (h : RefAt w base v l) : RefIn w v l := by
  rcases h.2 with ⟨h1, h2⟩ | ⟨g, cap, cur, h1, h2⟩
  · exact ⟨none, 0, by rw [h2]; exact h1, fun i x hx => by have := (List.getElem?_eq_some_iff.1 hx).1; omega⟩
  · subst h1
    refine ⟨some ⟨g, 0, none⟩, cap, rfl, fun i x hx => ⟨g, rfl, ?_⟩⟩
    obtain ⟨k1, k2⟩ := refCells_get l i x hx
    have a1 := World.ownsRow.cells h rfl (i * 2) _ k1
    have a2 := World.ownsRow.cells h rfl (i * 2 + 1) _ k2
    rw [addr_add, Nat.zero_add] at a1 a2
    exact ⟨World.block_lt_of_cell? w _ a1, a1, a2⟩
theorem RefIn.below {w w' : World} {v : Value} {l : List (Int × List UInt8)} (h : RefIn w v l) (hb : Below w.heap.size w w') : RefIn w' v l := by
  obtain ⟨so, c, h1, h2⟩ := h
  refine ⟨so, c, h1, fun i x hx => ?_⟩
  obtain ⟨g, h3, h4, h5, h6⟩ := h2 i x hx
  exact ⟨g, h3, Nat.lt_of_lt_of_le h4 hb.size, (hb.cell (p := ⟨g, i * 2, none⟩) h4).trans h5, (hb.cell (p := ⟨g, i * 2 + 1, none⟩) h4).trans h6⟩

theorem info54 : (Try.prog.info? 54).map (fun i => (i.zero, i.size, i.bytes)) = some (some (.agg #[.int .i64 0, .string ⟨#[]⟩]), 2, 24) := by kernel_rfl

/-- The list with one more, in the place of one at its position. -/
def withL (l : List (Int × List UInt8)) (q : Int) (b : List UInt8) (i : Nat) : List (Int × List UInt8) := if i < l.length ∧ posOf l i = q then l.set i (q, b) else moreL l q b i

/-- How much of it is there behind so many of the old ones. -/
def withN (l : List (Int × List UInt8)) (q : Int) (i k : Nat) : Nat := if k ≤ i ∨ (i < l.length ∧ posOf l i = q) then k else k + 1

theorem take_succ_get {α : Type} {l : List α} {k : Nat} {x : α} (h : l[k]? = some x) : l.take (k + 1) = l.take k ++ [x] := by
  obtain ⟨hk, e⟩ := List.getElem?_eq_some_iff.1 h
  rw [List.take_succ_eq_append_getElem hk, e]
theorem take_self {l : List (Int × List UInt8)} {q : Int} {b : List UInt8} {i k : Nat} (hi : i ≤ l.length) (hk : k ≤ i) : (withL l q b i).take k = l.take k := by
  unfold withL
  split
  · rw [List.take_set]
    rw [List.set_eq_of_length_le]
    rw [List.length_take]; omega
  · unfold moreL
    rw [List.take_append_of_le_length (by rw [List.length_take]; omega), List.take_take, Nat.min_eq_left hk]

theorem with_len {l : List (Int × List UInt8)} {q : Int} {b : List UInt8} {i : Nat} (hi : i ≤ l.length) : (withL l q b i).length = if i < l.length ∧ posOf l i = q then l.length else l.length + 1 := by
  unfold withL
  split
  · simp
  · exact more_len _ _ _ hi
/-- What lies at each place of it. -/
theorem with_get {l : List (Int × List UInt8)} {q : Int} {b : List UInt8} {i k : Nat} {x : Int × List UInt8} (hi : i ≤ l.length) (hx : l[k]? = some x) (hk : k ≠ i ∨ ¬ (i < l.length ∧ posOf l i = q)) : (withL l q b i)[if k < i ∨ (i < l.length ∧ posOf l i = q) then k else k + 1]? = some x := by
  unfold withL
  by_cases hf : i < l.length ∧ posOf l i = q
  · rw [if_pos hf, if_pos (.inr hf)]
    have hne : k ≠ i := hk.resolve_right (fun h => h hf)
    rw [List.getElem?_set, if_neg (Ne.symm hne)]
    exact hx
  · rw [if_neg hf]
    unfold moreL
    by_cases h1 : k < i
    · rw [if_pos (.inl h1), more_get l _ i k hi, if_pos h1]; exact hx
    · rw [if_neg (by rintro (h | h); exact h1 h; exact hf h), more_get l _ i (k + 1) hi, if_neg (by omega), if_neg (by omega)]
      exact hx
theorem with_at {l : List (Int × List UInt8)} {q : Int} {b : List UInt8} {i : Nat} (hi : i ≤ l.length) : (withL l q b i)[i]? = some (q, b) := by
  unfold withL
  split
  · rename_i h
    rw [List.getElem?_set, if_pos rfl, if_pos h.1]
  · unfold moreL
    rw [more_get l _ i i hi, if_neg (by omega), if_pos rfl]

/-- An item more, behind a list of the call's own: what the append's law asks, and what is so behind it. -/
theorem ref_own {wr : World} {base m : Nat} {v5 : Value} {L : List (Int × List UInt8)} (h : RefAt wr base v5 L) (o : Obj) : ((wr.drewN m).alloc o).ownsRow base 54 2 v5 L.length (refCells L) := World.ownsRow.alloc (ownsRow_heap h rfl) o
theorem ref_new {wr : World} {m : Nat} {x : Int × List UInt8} {t : TypeId} : ∀ j u, [Value.int .i64 x.1, strV x.2][j]? = some u → ((wr.drewN m).alloc (.cells #[.int .i64 x.1, strV x.2] t)).cell? ((⟨wr.heap.size, 0, none⟩ : Addr).add j) = some u := by
  intro j u hj
  rw [addr_add]
  refine (cell_new (wr.drewN m) _ _ _).trans ?_
  match j, hj with
  | 0, hj => exact hj
  | 1, hj => exact hj
  | j + 2, hj => simp at hj
theorem ref_pushed {wr w1 w' : World} {base m B : Nat} {v5 v' : Value} {L : List (Int × List UInt8)} {x : Int × List UInt8} {o : Obj} (h : RefAt wr base v5 L) (ho : w'.ownsRow base 54 2 v' (L.length + 1) (refCells L ++ [.int .i64 x.1, strV x.2]))
    (hg : ((wr.drewN m).alloc o).grownBy w' v5.ownBlock) (hb : Below B w1 wr) (hB : B ≤ base) (hw : B ≤ wr.heap.size) : RefAt w' base v' (L ++ [x]) ∧ Below B w1 w' := by
  constructor
  · unfold RefAt
    rw [refCells_append]
    simpa [refCells] using ho
  · exact ((below_drewN hb).alloc hw o).grown hg (by have : (wr.drewN m).heap = wr.heap := rfl; simp [this]; omega) (fun j hj => Nat.le_trans hB (World.ownsRow.lt h j hj).1)
end Go.Proofs.Ytiagpaoomijidaa
