import Derived.Test.YtiagpaoomijidaaSt17
import Derived.Test.YtiagpaoomijidaaSt9
namespace Go.Proofs.Ytiagpaoomijidaa
open Go.RowKit Go.Proofs
set_option linter.unusedVariables false

/-- The list with one more, and with one less again where there may not be so many. -/
def moreL (l : List (Int × List UInt8)) (q : Int) (b : List UInt8) (i : Nat) : List (Int × List UInt8) := l.take i ++ (q, b) :: l.drop i
def goesL (l : List (Int × List UInt8)) (q : Int) (i : Nat) : Nat := if scanN l q l.length < 0 then i else (scanN l q l.length).toNat
def grownL (most : Nat) (l : List (Int × List UInt8)) (q : Int) (b : List UInt8) (i : Nat) : List (Int × List UInt8) :=
  if (moreL l q b i).length ≤ most then moreL l q b i else (moreL l q b i).eraseIdx (goesL (moreL l q b i) q i)

theorem grown_block {w w' : World} {row : Option Nat} (h : w.grownBy w' row) (k : Nat) (hk : k < w.heap.size) (hne : row ≠ some k) : w'.heap[k]? = w.heap[k]? := h.block k hk (fun e => hne e.symm)
theorem ownsRow_grown {w w' : World} {base : Nat} {e : TypeId} {size : Nat} {v : Value} {n : Nat} {xs : List Value} {row : Option Nat} (h : w.ownsRow base e size v n xs) (hg : w.grownBy w' row) (hne : ∀ k c fr, row = some k → w.heap[k]? ≠ some (.cells c e fr)) : w'.ownsRow base e size v n xs := by
  refine ⟨h.1, ?_⟩
  rcases h.2 with h2 | ⟨g, cap, cur, h1, h2, h3, h4⟩
  · exact .inl h2
  · refine .inr ⟨g, cap, cur, h1, h2, ?_, h4⟩
    have hlt : g < w.heap.size := (Array.getElem?_eq_some_iff.1 h3).1
    rw [grown_block hg g hlt (fun e => hne g _ _ e h3)]; exact h3
theorem own57 {w : World} {base n : Nat} {sv : Value} {xs : List Value} (h : RowAt w base sv n xs) (k : Nat) (hk : sv.ownBlock = some k) : base ≤ k ∧ k < w.heap.size ∧ ∃ c, w.heap[k]? = some (.cells c 57 (0, 0)) := by
  rcases h.2 with ⟨rfl, _⟩ | ⟨g, cap, cur, rfl, h5, h6, _⟩
  · cases hk
  · cases hk; exact ⟨h5, (Array.getElem?_eq_some_iff.1 h6).1, cur, h6⟩
theorem row_form {w : World} {base n : Nat} {sv : Value} {xs : List Value} (h : RowAt w base sv n xs) : ∃ o c, sv = .slice o n c := by
  rcases h.2 with ⟨rfl, rfl⟩ | ⟨g, cap, cur, rfl, h5⟩
  · exact ⟨_, _, rfl⟩
  · exact ⟨_, _, rfl⟩
theorem more_get {α : Type} (l : List α) (x : α) (i j : Nat) (hi : i ≤ l.length) : (l.take i ++ x :: l.drop i)[j]? = if j < i then l[j]? else if j = i then some x else l[j - 1]? := by
  have hl : (l.take i).length = i := by rw [List.length_take]; omega
  by_cases h : j < i
  · rw [if_pos h, List.getElem?_append_left (by omega), List.getElem?_take, if_pos h]
  · rw [if_neg h, List.getElem?_append_right (by omega), hl]
    by_cases h2 : j = i
    · subst h2; simp
    · rw [if_neg h2, show j - i = (j - 1 - i) + 1 by omega, List.getElem?_cons_succ, List.getElem?_drop]
      congr 1; omega
theorem more_len {α : Type} (l : List α) (x : α) (i : Nat) (hi : i ≤ l.length) : (l.take i ++ x :: l.drop i).length = l.length + 1 := by
  rw [List.length_append, List.length_take, List.length_cons, List.length_drop]; omega

/-- What the insertion makes of a store. -/
theorem ins_post {w w4 w5 : World} {sb base most i : Nat} {sv sv' v' : Value} {it : List (Int × Value)} {l : List (Int × List UInt8)} {q : Int} {b : List UInt8} {cell : Nat} (h1 : w.heap[sb]? = some (.cells #[.int .i64 most, sv] 51 (0, 0))) (h2 : True) (h3 : ItemsAt w base sv it l) (hbase : base ≤ w.heap.size)
    (hi : i ≤ l.length) (hb : Below w.heap.size w w4) (hv : BytesAt w4 w.heap.size v' b) (hrow : RowAt w5 base sv' ((rowCells (it.take i ++ (q, v') :: it.drop i)).length / 2) (rowCells (it.take i ++ (q, v') :: it.drop i)))
    (hg : (w4.alloc (.cells #[.int .i64 q, v'] 57)).grownBy w5 sv.ownBlock) (hcell : w.heap.size ≤ cell) (hq : w4.cell? ⟨cell, 0, none⟩ = some (.int .i64 q)) :
    w5.cell? ⟨sb, 1, none⟩ = some sv ∧ w5.frozen? ⟨sb, 1, none⟩ = false ∧ StoreAt (w5.setCell ⟨sb, 1, none⟩ sv') base sb most (moreL l q b i) ∧ BelowX sb base w (w5.setCell ⟨sb, 1, none⟩ sv') ∧ (w5.setCell ⟨sb, 1, none⟩ sv').cell? ⟨cell, 0, none⟩ = some (.int .i64 q) ∧ (∃ so c, sv' = .slice so (l.length + 1) c) ∧ (w5.setCell ⟨sb, 1, none⟩ sv').cell? ⟨sb, 0, none⟩ = some (.int .i64 most) ∧ (w5.setCell ⟨sb, 1, none⟩ sv').cell? ⟨sb, 1, none⟩ = some sv' := by
  have hs : sb < w.heap.size := (Array.getElem?_eq_some_iff.1 h1).1
  have hlen := h3.len
  have hb4 := hb.alloc hb.size (.cells #[.int .i64 q, v'] 57)
  have hnot : sv.ownBlock ≠ some sb := fun e => by
    obtain ⟨_, _, c, hc⟩ := own57 h3.row sb e
    rw [h1] at hc; cases hc
  have hsb5 : w5.heap[sb]? = some (.cells #[.int .i64 most, sv] 51 (0, 0)) := by
    rw [grown_block hg sb (Nat.lt_of_lt_of_le hs hb4.size) hnot, hb4.block sb hs]; exact h1
  have hnew : ∀ {x : Value} {y : List UInt8} {B : Nat}, BytesAt w4 B x y → BytesAt w5 B x y := fun h => by
    refine ownsRow_grown (ownsRow_below h ((Below.refl _ _).alloc (Nat.le_refl _) (.cells #[.int .i64 q, v'] 57))) hg fun k c fr hk hc => ?_
    obtain ⟨k1, k2, c', hc'⟩ := own57 h3.row k hk
    rw [hb4.block k k2, hc'] at hc; cases hc
  have hit : (it.take i ++ (q, v') :: it.drop i).length = it.length + 1 := more_len _ _ _ (by omega)
  rw [rowCells_len, hit, Nat.mul_div_cancel _ (by decide)] at hrow
  have hitems : ItemsAt w5 base sv' (it.take i ++ (q, v') :: it.drop i) (moreL l q b i) := by
    refine ⟨by rw [hit]; exact hrow, by rw [hit, moreL, more_len _ _ _ hi, hlen], fun j x y hx hy => ?_⟩
    rw [more_get _ _ _ _ (by omega)] at hx
    rw [moreL, more_get _ _ _ _ hi] at hy
    by_cases c1 : j < i
    · rw [if_pos c1] at hx hy
      exact ⟨(h3.pos j x y hx hy).1, hnew (ownsRow_below (h3.pos j x y hx hy).2 hb)⟩
    · rw [if_neg c1] at hx hy
      by_cases c2 : j = i
      · rw [if_pos c2] at hx hy
        cases hx; cases hy
        exact ⟨rfl, hnew (ownsRow_base hv hbase)⟩
      · rw [if_neg c2] at hx hy
        exact ⟨(h3.pos _ x y hx hy).1, hnew (ownsRow_below (h3.pos _ x y hx hy).2 hb)⟩
  have hsb6 := setCell_block (o := 1) (v := sv') hsb5
  have hcb : cell < w4.heap.size := World.block_lt_of_cell? w4 _ hq
  have hcne : sv.ownBlock ≠ some cell := fun e => by
    obtain ⟨_, k2, _⟩ := own57 h3.row cell e
    omega
  have hbase5 : BelowX sb base w w5 := by
    have h0 : Below 0 w w5 := (hb4.mono (Nat.zero_le _)).grown hg (Nat.zero_le _) fun k hk => Nat.zero_le _
    refine ⟨h0.os, h0.tape, h0.output, h0.size, fun k hk hn ht => ?_⟩
    rw [grown_block hg k (Nat.lt_of_lt_of_le hk hb4.size) (fun e => by
      obtain ⟨k1, k2, c, hc⟩ := own57 h3.row k e
      rcases ht with h1 | h1
      · omega
      · exact h1 _ _ hc)]
    exact hb4.block k hk
  refine ⟨by rw [cell_block hsb5]; rfl, by unfold World.frozen?; rw [hsb5]; rfl, store_set hsb5 h2 hitems, hbase5.setOwn _, ?_, ?_, by rw [cell_block hsb6]; rfl, by rw [cell_block hsb6]; rfl⟩
  · have hb5 : w5.heap[cell]? = w4.heap[cell]? := by
      rw [grown_block hg cell (Nat.lt_of_lt_of_le hcb ((Below.refl w4.heap.size w4).alloc (Nat.le_refl _) (.cells #[.int .i64 q, v'] 57)).size) hcne]
      exact ((Below.refl w4.heap.size w4).alloc (Nat.le_refl _) (.cells #[.int .i64 q, v'] 57)).block cell hcb
    rw [← hq]
    exact World.cell?_of_block (by rw [Below.heap_setCell _ _ _ _ (by show cell ≠ sb; omega)]; exact hb5)
  · obtain ⟨so, c, h⟩ := row_form hrow
    exact ⟨so, c, by rw [h, hlen]⟩

end Go.Proofs.Ytiagpaoomijidaa
