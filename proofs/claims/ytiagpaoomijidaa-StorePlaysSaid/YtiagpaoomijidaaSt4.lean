import Derived.Test.YtiagpaoomijidaaSt3
import Derived.Laws.AppendOwn
namespace Go.Proofs.Ytiagpaoomijidaa
open Go.RowKit Go.Proofs
set_option linter.unusedVariables false

/-! ### What a store is -/
/-- A row's cells: positions, and slices of bytes. -/
def rowCells (l : List (Int × Value)) : List Value := l.flatMap fun x => [.int .i64 x.1, x.2]

theorem rowCells_len (l : List (Int × Value)) : (rowCells l).length = l.length * 2 := by
  induction l with
  | nil => rfl
  | cons x l ih => simp [rowCells] at ih ⊢; omega
theorem rowCells_cons (x : Int × Value) (l : List (Int × Value)) : rowCells (x :: l) = .int .i64 x.1 :: x.2 :: rowCells l := rfl
theorem rowCells_append (a b : List (Int × Value)) : rowCells (a ++ b) = rowCells a ++ rowCells b := by simp [rowCells]
theorem rowCells_get : ∀ (l : List (Int × Value)) (i : Nat) (x : Int × Value), l[i]? = some x → (rowCells l)[i * 2]? = some (.int .i64 x.1) ∧ (rowCells l)[i * 2 + 1]? = some x.2
  | [], i, x, h => by simp at h
  | y :: l, 0, x, h => by simp at h; subst h; exact ⟨rfl, rfl⟩
  | y :: l, i + 1, x, h => by
    obtain ⟨h1, h2⟩ := rowCells_get l i x (by simpa using h)
    rw [rowCells_cons, show (i + 1) * 2 = i * 2 + 1 + 1 by omega]
    exact ⟨by simpa using h1, by simpa using h2⟩
theorem rowCells_take : ∀ (l : List (Int × Value)) (i : Nat), (rowCells l).take (i * 2) = rowCells (l.take i)
  | [], i => by simp [rowCells]
  | y :: l, 0 => by simp [rowCells]
  | y :: l, i + 1 => by
    rw [rowCells_cons, show (i + 1) * 2 = i * 2 + 1 + 1 by omega]
    simp only [List.take_succ_cons, rowCells_cons, rowCells_take l i]
theorem rowCells_drop : ∀ (l : List (Int × Value)) (i : Nat), (rowCells l).drop (i * 2) = rowCells (l.drop i)
  | [], i => by simp [rowCells]
  | y :: l, 0 => by simp
  | y :: l, i + 1 => by
    rw [rowCells_cons, show (i + 1) * 2 = i * 2 + 1 + 1 by omega]
    simp only [List.drop_succ_cons, rowCells_drop l i]

def byteV (b : UInt8) : Value := .int .u8 b.toNat

/-- A slice of bytes, in memory of the call's own. -/
def BytesAt (w : World) (base : Nat) (v : Value) (b : List UInt8) : Prop := w.ownsRow base 5 1 v b.length (b.map byteV)

/-- A row of items: there may be more behind. -/
def RowAt (w : World) (base : Nat) (v : Value) (n : Nat) (xs : List Value) : Prop :=
  xs.length = n * 2 ∧ ((v = .slice none 0 0 ∧ n = 0) ∨
    ∃ g cap cur, v = .slice (some ⟨g, 0, none⟩) n cap ∧ base ≤ g ∧ w.heap[g]? = some (.cells cur 57 (0, 0)) ∧ n ≤ cap ∧ cap ≤ maxLen ∧ cap * 2 ≤ cur.size ∧ cur.toList.take (n * 2) = xs)

theorem RowAt.of_own {w : World} {base : Nat} {v : Value} {n : Nat} {xs : List Value} (h : w.ownsRow base 57 2 v n xs) : RowAt w base v n xs := by
  refine ⟨h.1, ?_⟩
  rcases h.2 with h2 | ⟨g, cap, cur, h1, h2, h3, h4, h5, h6, h7⟩
  · exact .inl h2
  · exact .inr ⟨g, cap, cur, h1, h2, h3, h4, h5, by omega, h7⟩

theorem RowAt.base {w : World} {base base' : Nat} {v : Value} {n : Nat} {xs : List Value} (h : RowAt w base v n xs) (hb : base' ≤ base) : RowAt w base' v n xs := by
  refine ⟨h.1, ?_⟩
  rcases h.2 with h2 | ⟨g, cap, cur, h1, h2, h3⟩
  · exact .inl h2
  · exact .inr ⟨g, cap, cur, h1, Nat.le_trans hb h2, h3⟩

theorem RowAt.below {w w' : World} {base : Nat} {v : Value} {n : Nat} {xs : List Value} (h : RowAt w base v n xs) (hb : Below w.heap.size w w') : RowAt w' base v n xs := by
  refine ⟨h.1, ?_⟩
  rcases h.2 with h2 | ⟨g, cap, cur, h1, h2, h3, h4⟩
  · exact .inl h2
  · refine .inr ⟨g, cap, cur, h1, h2, ?_, h4⟩
    have hlt : g < w.heap.size := (Array.getElem?_eq_some_iff.1 h3).1
    rw [hb.block g hlt]; exact h3

theorem cell_block {w : World} {g o : Nat} {c : Array Value} {t : TypeId} {fr : Nat × Nat} (h : w.heap[g]? = some (.cells c t fr)) : w.cell? ⟨g, o, none⟩ = c[o]? := by
  unfold World.cell?
  rw [h]
  rfl

theorem RowAt.cells {w : World} {base g n cap : Nat} {xs : List Value} (h : RowAt w base (.slice (some ⟨g, 0, none⟩) n cap) n xs) (j : Nat) (u : Value) (hu : xs[j]? = some u) : w.cell? ⟨g, 0 + j, none⟩ = some u := by
  rcases h.2 with ⟨h1, _⟩ | ⟨g', cap', cur, h1, _, h3, _, _, _, h7⟩
  · cases h1
  · cases h1
    rw [cell_block h3, Nat.zero_add]
    rw [← h7, List.getElem?_take] at hu
    split at hu
    · simpa using hu
    · cases hu

/-- A store's items, in memory of the call's own: the row, and the bytes. -/
structure ItemsAt (w : World) (base : Nat) (sv : Value) (it : List (Int × Value)) (l : List (Int × List UInt8)) : Prop where
  row : RowAt w base sv it.length (rowCells it)
  len : it.length = l.length
  pos : ∀ (i : Nat) x y, it[i]? = some x → l[i]? = some y → x.1 = y.1 ∧ BytesAt w base x.2 y.2

/-- A store. -/
def StoreAt (w : World) (base sb : Nat) (most : Nat) (l : List (Int × List UInt8)) : Prop :=
  ∃ sv it, w.heap[sb]? = some (.cells #[.int .i64 most, sv] 51 (0, 0)) ∧ True ∧ ItemsAt w base sv it l

theorem ownsRow_below {w w' : World} {base : Nat} {e : TypeId} {size : Nat} {v : Value} {n : Nat} {xs : List Value} (h : w.ownsRow base e size v n xs) (hb : Below w.heap.size w w') : w'.ownsRow base e size v n xs := by
  refine ⟨h.1, ?_⟩
  rcases h.2 with h2 | ⟨g, cap, cur, h1, h2, h3, h4⟩
  · exact .inl h2
  · refine .inr ⟨g, cap, cur, h1, h2, ?_, h4⟩
    have hlt : g < w.heap.size := (Array.getElem?_eq_some_iff.1 h3).1
    rw [hb.block g hlt]; exact h3

theorem ItemsAt.below {w w' : World} {base : Nat} {sv : Value} {it : List (Int × Value)} {l : List (Int × List UInt8)} (h : ItemsAt w base sv it l) (hb : Below w.heap.size w w') : ItemsAt w' base sv it l :=
  ⟨h.row.below hb, h.len, fun i x y hx hy => ⟨(h.pos i x y hx hy).1, ownsRow_below (h.pos i x y hx hy).2 hb⟩⟩

theorem StoreAt.below {w w' : World} {base sb most : Nat} {l : List (Int × List UInt8)} (h : StoreAt w base sb most l) (hb : Below w.heap.size w w') : StoreAt w' base sb most l := by
  obtain ⟨sv, it, h1, h2, h3⟩ := h
  have hlt : sb < w.heap.size := (Array.getElem?_eq_some_iff.1 h1).1
  exact ⟨sv, it, by rw [hb.block sb hlt]; exact h1, h2, h3.below hb⟩

/-! ### New, find -/
theorem store_new (w : World) (k : Int) (m : Nat) (hk : k = m) : StoreAt (w.alloc (.cells #[.int .i64 k, .slice none 0 0] 51)) w.heap.size w.heap.size m [] := by
  subst hk
  exact ⟨.slice none 0 0, [], by show (w.heap.push _)[w.heap.size]? = _; simp, trivial, .of_own (World.ownsRow_nil _ _ _ _), rfl, fun i x y hx _ => by simp at hx⟩

theorem new_any (n : Int) (w : World) : Calls Try.prog 8 #[.int .i64 n] w fun e w' => e = .returned (.pointer (some ⟨w.heap.size, 0, none⟩)) ∧ StoreAt w' w.heap.size w.heap.size (max 1 (min n 64)).toNat [] ∧ Below w.heap.size w w' := by
  go_enter Try.func8, Try.ntmps8
  go_wp2
  all_goals
    go_ret
    exact ⟨rfl, store_new w _ _ (by omega), (Below.refl _ _).alloc (Nat.le_refl _) _⟩

theorem addr_add (g o k : Nat) : (⟨g, o, none⟩ : Addr).add k = ⟨g, o + k, none⟩ := by
  unfold Addr.add
  split
  · rename_i h; subst h; rfl
  · rfl

theorem ItemsAt.cells {w : World} {base : Nat} {g n cap : Nat} {it : List (Int × Value)} {l : List (Int × List UInt8)} (h : ItemsAt w base (.slice (some ⟨g, 0, none⟩) n cap) it l) (hn : n = it.length) (i : Nat) (x : Int × Value) (hx : it[i]? = some x) :
    w.cell? ⟨g, 0 + i * 2, none⟩ = some (.int .i64 x.1) ∧ w.cell? ⟨g, 0 + i * 2 + 1, none⟩ = some x.2 := by
  subst hn
  obtain ⟨h1, h2⟩ := rowCells_get it i x hx
  exact ⟨h.row.cells _ _ h1, h.row.cells _ _ h2⟩

/-- The positions, one after the other. -/
def posOf (l : List (Int × List UInt8)) (i : Nat) : Int := (l.getD i (0, [])).1

def Rising (l : List (Int × List UInt8)) : Prop := ∀ s t, s < t → t < l.length → posOf l s < posOf l t

theorem bsearch_nil (q : Int) (w : World) : Calls Try.prog 27 #[.slice none 0 0, .int .i64 q, .func (.func 28) #[] #[]] w fun e w' => e = .returned (.tuple #[.int .i64 0, .bool false]) ∧ Below w.heap.size w w' := by
  go_enter Try.func27, Try.ntmps27
  go_wp2
  refine wp_loop_rounds 1 ?_
  rw [rounds_succ]
  go_wp2
  go_ret2
  exact ⟨rfl, Below.refl _ _⟩

theorem find_any (sb base most : Nat) (l : List (Int × List UInt8)) (q : Int) (w : World) (h : StoreAt w base sb most l) (hr : Rising l) (hl : l.length < 4611686018427387904) :
    Calls Try.prog 22 #[.pointer (some ⟨sb, 0, none⟩), .int .i64 q] w fun e w' => Found (posOf l) l.length q w w' e := by
  obtain ⟨sv, it, h1, h2, h3⟩ := h
  have hlt : sb < w.heap.size := (Array.getElem?_eq_some_iff.1 h1).1
  have c1 : w.cell? ⟨sb, 0 + 1, none⟩ = some sv := by simp [World.cell?, h1]
  rcases h3.row.2 with ⟨rfl, h4⟩ | ⟨g, cap, cur, rfl, h5, h6, h7, h8, h9, h10⟩
  · go_enter Try.func22, Try.ntmps22
    go_wp2_with (go_at_call 27; refine (bsearch_nil _ _).mono ?_; rintro e w' ⟨rfl, hbw⟩)
    go_ret2
    have hl0 : l.length = 0 := by rw [← h3.len]; exact h4
    exact ⟨0, ⟨Nat.zero_le _, fun t ht => absurd ht (Nat.not_lt_zero _), fun t _ ht => by omega⟩, by simp [hl0], hbw⟩
  · have hn : it.length = l.length := h3.len
    have hg : g < w.heap.size := (Array.getElem?_eq_some_iff.1 h6).1
    have hc : ∀ i, i < l.length → w.cell? ⟨g, 0 + i * 2, none⟩ = some (.int .i64 (posOf l i)) ∧ w.cell? ⟨g, 0 + i * 2 + 1, none⟩ = some ((it.getD i (0, .bool false)).2) := by
      intro i hi
      have hx : it[i]? = some (it.getD i (0, .bool false)) := by rw [List.getD_eq_getElem?_getD, List.getElem?_eq_getElem (by omega)]; rfl
      have hy : l[i]? = some (l.getD i (0, [])) := by rw [List.getD_eq_getElem?_getD, List.getElem?_eq_getElem hi]; rfl
      obtain ⟨k1, k2⟩ := h3.cells rfl i _ hx
      rw [(h3.pos i _ _ hx hy).1] at k1
      exact ⟨k1, k2⟩
    have B := bsearch_any g 0 it.length cap (posOf l) (fun i => (it.getD i (0, .bool false)).2) q w hg (by omega) (by rw [hn]; exact hc) (by rw [hn]; exact hr)
    rw [hn] at B
    have HB : Hid (Calls Try.prog 27 #[.slice (some ⟨g, 0, none⟩) l.length cap, .int .i64 q, .func (.func 28) #[] #[]] w fun e w' => Found (posOf l) l.length q w w' e) := Lib.hid B
    clear B hc
    rw [hn] at c1
    go_enter Try.func22, Try.ntmps22
    go_wp2_with (go_at_call 27; refine HB.out.mono ?_; rintro e w' ⟨i, hp, rfl, hbw⟩)
    go_ret2
    exact ⟨i, hp, rfl, hbw⟩
end Go.Proofs.Ytiagpaoomijidaa
