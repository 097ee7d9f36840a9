import Derived.Test.YtiagpaoomijidaaSt16
namespace Go.Proofs.Ytiagpaoomijidaa
open Go.RowKit Go.Proofs
set_option linter.unusedVariables false

/-- Behind the item's making: the item in memory of its own, the position in the closure's cell. -/
structure Mid (w W : World) (q : Int) (b : List UInt8) (vb : Nat) (v' : Value) : Prop where
  item : W.heap[vb]? = some (.cells #[.int .i64 q, v'] 57 (0, 0))
  above : w.heap.size < vb
  cell : W.cell? ⟨w.heap.size, 0, none⟩ = some (.int .i64 q)
  bytes : BytesAt W w.heap.size v' b
  below : Below w.heap.size w W

theorem name_world {K : Act → World → Prop} {a : Act} {w : World} {M : World → Prop} (hM : M w) (h : ∀ W, M W → K a W) : K a w := h w hM

theorem bytes_form {w : World} {base : Nat} {v : Value} {b : List UInt8} (h : BytesAt w base v b) : ∃ o c, v = .slice o b.length c := by
  rcases h.2 with ⟨h1, h2⟩ | ⟨g, cap, cur, h1, h2⟩
  · exact ⟨none, 0, by rw [h1, h2]⟩
  · exact ⟨_, _, h1⟩
theorem pre_start (w : World) (q : Int) : (w.alloc (.cells #[.int .i64 q] 3)).drew.cell? ⟨w.heap.size, 0, none⟩ = some (.int .i64 q) ∧ Below w.heap.size w (w.alloc (.cells #[.int .i64 q] 3)).drew :=
  ⟨by show (w.alloc _).cell? _ = _; unfold World.cell? World.alloc; simp, ((Below.refl _ _).alloc (Nat.le_refl _) _).drew⟩
theorem pre_alloc {w W : World} {v : Value} (o : Obj) (h : W.cell? ⟨w.heap.size, 0, none⟩ = some v) (hb : Below w.heap.size w W) : (W.alloc o).cell? ⟨w.heap.size, 0, none⟩ = some v ∧ Below w.heap.size w (W.alloc o) :=
  ⟨by rw [World.cell?_alloc_lt _ _ _ (World.block_lt_of_cell? W _ h)]; exact h, hb.alloc hb.size _⟩
theorem pre_call {w W W' : World} {v : Value} (h : W.cell? ⟨w.heap.size, 0, none⟩ = some v) (hb : Below w.heap.size w W) (hc : Below W.heap.size W W') : W'.cell? ⟨w.heap.size, 0, none⟩ = some v ∧ Below w.heap.size w W' :=
  ⟨by rw [hc.cell (World.block_lt_of_cell? W _ h)]; exact h, hb.trans (hc.mono hb.size)⟩

theorem pre_item {w w2 : World} {q : Int} (h : Below (((w.alloc (.cells #[.int .i64 q] 3)).drew).alloc (.cells #[.int .i64 0, .slice none 0 0] 57)).heap.size (((w.alloc (.cells #[.int .i64 q] 3)).drew).alloc (.cells #[.int .i64 0, .slice none 0 0] 57)) w2) :
    w2.cell? ⟨w.heap.size + 1, 0, none⟩ = some (.int .i64 0) ∧ w2.cell? ⟨w.heap.size + 1, 1, none⟩ = some (.slice none 0 0) ∧ w2.frozen? ⟨w.heap.size + 1, 0, none⟩ = false ∧ w2.frozen? ⟨w.heap.size + 1, 1, none⟩ = false := by
  have hb : w.heap.size + 1 < (((w.alloc (.cells #[.int .i64 q] 3)).drew).alloc (.cells #[.int .i64 0, .slice none 0 0] 57)).heap.size := by show w.heap.size + 1 < ((w.heap.push _).push _).size; simp
  have hk : ((((w.alloc (.cells #[.int .i64 q] 3)).drew).alloc (.cells #[.int .i64 0, .slice none 0 0] 57))).heap[w.heap.size + 1]? = some (.cells #[.int .i64 0, .slice none 0 0] 57 (0, 0)) := by show ((w.heap.push _).push _)[_]? = _; rw [Array.getElem?_push, if_pos (by simp)]
  rw [h.cell hb, h.cell (p := ⟨_, 1, none⟩) hb, h.frozen hb, h.frozen (p := ⟨_, 1, none⟩) hb]
  refine ⟨?_, ?_, ?_, ?_⟩
  · rw [cell_block hk]; rfl
  · rw [cell_block hk]; rfl
  · unfold World.frozen?; rw [hk]; rfl
  · unfold World.frozen?; rw [hk]; rfl
theorem pre_set {w W : World} {v u : Value} {k o : Nat} (h : W.cell? ⟨w.heap.size, 0, none⟩ = some v) (hb : Below w.heap.size w W) (hk : w.heap.size < k) : (W.setCell ⟨k, o, none⟩ u).cell? ⟨w.heap.size, 0, none⟩ = some v ∧ Below w.heap.size w (W.setCell ⟨k, o, none⟩ u) :=
  ⟨by rw [← h]; exact World.cell?_of_block (Below.heap_setCell _ _ _ _ (Nat.ne_of_lt hk)), hb.setCell (Nat.le_of_lt hk) _⟩
theorem pre_set2 {w W : World} {v u u' : Value} {o o' : Nat} (h : W.cell? ⟨w.heap.size, 0, none⟩ = some v ∧ Below w.heap.size w W) :
    ((W.setCell ⟨w.heap.size + 1, o, none⟩ u).setCell ⟨w.heap.size + 1, o', none⟩ u').cell? ⟨w.heap.size, 0, none⟩ = some v ∧ Below w.heap.size w ((W.setCell ⟨w.heap.size + 1, o, none⟩ u).setCell ⟨w.heap.size + 1, o', none⟩ u') :=
  pre_set (pre_set h.1 h.2 (Nat.lt_succ_self _)).1 (pre_set h.1 h.2 (Nat.lt_succ_self _)).2 (Nat.lt_succ_self _)

theorem name_exit {K : Act → World → Prop} {Q : Exit → Act → World → Prop} {a : Act} {w : World} {M : World → Prop} (hM : M w) (h : ∀ W, M W → K a W) : Exit.then K Q .normal a w := h w hM
theorem midA {w w2 : World} {q : Int} {b : List UInt8} {v' : Value} (hv : BytesAt w2 (w.alloc (.cells #[.int .i64 q] 3)).drew.heap.size v' b) (h : Below (w.alloc (.cells #[.int .i64 q] 3)).drew.heap.size (w.alloc (.cells #[.int .i64 q] 3)).drew w2) :
    Mid w (w2.alloc (.cells #[.int .i64 q, v'] 57)) q b w2.heap.size v' := by
  have h1 := pre_call (pre_start w q).1 (pre_start w q).2 h
  have h2 := pre_alloc (.cells #[.int .i64 q, v'] 57) h1.1 h1.2
  have hs : w.heap.size < w2.heap.size := by
    have := h.size
    have e : (w.alloc (.cells #[.int .i64 q] 3)).drew.heap.size = w.heap.size + 1 := by show (w.heap.push _).size = _; simp
    omega
  exact ⟨by show (w2.heap.push _)[_]? = _; simp, hs, h2.1, ownsRow_base (ownsRow_below hv ((Below.refl _ _).alloc (Nat.le_refl _) _)) (pre_start w q).2.size, h2.2⟩
theorem midB {w w2 : World} {q : Int} {b : List UInt8} {v' : Value} (hv : BytesAt w2 (((w.alloc (.cells #[.int .i64 q] 3)).drew).alloc (.cells #[.int .i64 0, .slice none 0 0] 57)).heap.size v' b)
    (h : Below (((w.alloc (.cells #[.int .i64 q] 3)).drew).alloc (.cells #[.int .i64 0, .slice none 0 0] 57)).heap.size (((w.alloc (.cells #[.int .i64 q] 3)).drew).alloc (.cells #[.int .i64 0, .slice none 0 0] 57)) w2) :
    Mid w ((w2.setCell ⟨w.heap.size + 1, 0, none⟩ (.int .i64 q)).setCell ⟨w.heap.size + 1, 1, none⟩ v') q b (w.heap.size + 1) v' := by
  have h0 := pre_alloc (.cells #[.int .i64 0, .slice none 0 0] 57) (pre_start w q).1 (pre_start w q).2
  have h1 := pre_call h0.1 h0.2 h
  have h2 := pre_set2 (o := 0) (o' := 1) (u := .int .i64 q) (u' := v') h1
  have hb : w.heap.size + 1 < (((w.alloc (.cells #[.int .i64 q] 3)).drew).alloc (.cells #[.int .i64 0, .slice none 0 0] 57)).heap.size := by show w.heap.size + 1 < ((w.heap.push _).push _).size; simp
  have hk : ((((w.alloc (.cells #[.int .i64 q] 3)).drew).alloc (.cells #[.int .i64 0, .slice none 0 0] 57))).heap[w.heap.size + 1]? = some (.cells #[.int .i64 0, .slice none 0 0] 57 (0, 0)) := by show ((w.heap.push _).push _)[_]? = _; rw [Array.getElem?_push, if_pos (by simp)]
  rw [← h.block _ hb] at hk
  have k1 := setCell_block (o := 0) (v := .int .i64 q) hk
  have k2 := setCell_block (o := 1) (v := v') k1
  exact ⟨k2, Nat.lt_succ_self _, h2.1, ownsRow_base (ownsRow_set (ownsRow_set hv hk (by decide)) k1 (by decide)) h0.2.size, h2.2⟩
theorem place_unique {p : Nat → Int} {n i j : Nat} {q : Int} (h : Place p n q i) (k : Place p n q j) : i = j := by
  rcases Nat.lt_trichotomy i j with e | e | e
  · have := k.2.1 i e; have := h.2.2 i (Nat.le_refl _) (by have := k.1; omega); omega
  · exact e
  · have := h.2.1 j e; have := k.2.2 j (Nat.le_refl _) (by have := h.1; omega); omega

theorem rowCells_set : ∀ (it : List (Int × Value)) (i : Nat) (q : Int) (v : Value), ((rowCells it).set (i * 2) (.int .i64 q)).set (i * 2 + 1) v = rowCells (it.set i (q, v))
  | [], i, q, v => by simp [rowCells]
  | x :: it, 0, q, v => by simp [rowCells_cons]
  | x :: it, i + 1, q, v => by
    rw [rowCells_cons, show (i + 1) * 2 = i * 2 + 1 + 1 by omega, List.set_cons_succ, List.set_cons_succ, List.set_cons_succ, List.set_cons_succ, List.set_cons_succ, rowCells_cons, rowCells_set it i q v]
theorem items_put {W : World} {base g n cap i : Nat} {it : List (Int × Value)} {l : List (Int × List UInt8)} {q : Int} {v' : Value} {b : List UInt8} (h3 : ItemsAt W base (.slice (some ⟨g, 0, none⟩) n cap) it l) (hn : n = it.length) (hi : i < n) (hv : BytesAt W base v' b) :
    ItemsAt ((W.setCell ⟨g, i * 2, none⟩ (.int .i64 q)).setCell ⟨g, i * 2 + 1, none⟩ v') base (.slice (some ⟨g, 0, none⟩) n cap) (it.set i (q, v')) (l.set i (q, b)) := by
  subst hn
  rcases h3.row.2 with ⟨h, _⟩ | ⟨g', cap', cur, h, h5, h6, h7, h8, h9, h10⟩
  · cases h
  · cases h
    have k1 := setCell_block (o := i * 2) (v := .int .i64 q) h6
    have k2 := setCell_block (o := i * 2 + 1) (v := v') k1
    have hlen := h3.len
    have keep : ∀ {x : Value} {y : List UInt8}, BytesAt W base x y → BytesAt ((W.setCell ⟨g, i * 2, none⟩ (.int .i64 q)).setCell ⟨g, i * 2 + 1, none⟩ v') base x y := fun h => ownsRow_set (ownsRow_set h h6 (by decide)) k1 (by decide)
    refine ⟨⟨by rw [rowCells_len, List.length_set], .inr ⟨g, cap, _, by rw [List.length_set], h5, k2, by rw [List.length_set]; exact h7, h8, by simpa using h9, ?_⟩⟩, by simpa using h3.len, fun j x y hx hy => ?_⟩
    · rw [List.length_set, Array.toList_setIfInBounds, Array.toList_setIfInBounds, List.take_set, List.take_set, h10, rowCells_set]
    · rw [List.getElem?_set] at hx hy
      by_cases hj : i = j
      · subst hj
        rw [if_pos rfl, if_pos (by omega)] at hx hy
        cases hx; cases hy
        exact ⟨rfl, keep hv⟩
      · rw [if_neg hj] at hx hy
        exact ⟨(h3.pos j x y hx hy).1, keep (h3.pos j x y hx hy).2⟩
theorem other2 {w3 : World} {k g o a a' : Nat} {u u' : Value} (hk : k ≠ g) : ((w3.setCell ⟨g, a, none⟩ u).setCell ⟨g, a', none⟩ u').drew.cell? ⟨k, o, none⟩ = w3.cell? ⟨k, o, none⟩ :=
  World.cell?_of_block (show ((w3.setCell ⟨g, a, none⟩ u).setCell ⟨g, a', none⟩ u').heap[k]? = _ by rw [Below.heap_setCell _ _ _ _ hk, Below.heap_setCell _ _ _ _ hk])
theorem there_cells {w w3 : World} {sb base most g n cap i : Nat} {it : List (Int × Value)} {l : List (Int × List UInt8)} (h1 : w.heap[sb]? = some (.cells #[.int .i64 most, .slice (some ⟨g, 0, none⟩) n cap] 51 (0, 0))) (h3 : ItemsAt w base (.slice (some ⟨g, 0, none⟩) n cap) it l) (hn : n = it.length) (hb : Below w.heap.size w w3) (hi : i < n) :
    w3.cell? ⟨sb, 1, none⟩ = some (.slice (some ⟨g, 0, none⟩) n cap) ∧ (∃ u, w3.cell? ⟨g, i * 2, none⟩ = some u) ∧ (∃ u, w3.cell? ⟨g, i * 2 + 1, none⟩ = some u) ∧ w3.frozen? ⟨g, i * 2, none⟩ = false ∧ w3.frozen? ⟨g, i * 2 + 1, none⟩ = false := by
  subst hn
  obtain ⟨r1, r2, r3, r4, r5⟩ := row_room h3.row
  have hs : sb < w.heap.size := (Array.getElem?_eq_some_iff.1 h1).1
  refine ⟨by rw [hb.cell hs, cell_block h1]; rfl, ?_, ?_, ?_, ?_⟩
  · rw [hb.cell r4]; exact Option.isSome_iff_exists.1 (r5 _ (by omega)).1
  · rw [hb.cell r4]; exact Option.isSome_iff_exists.1 (r5 _ (by omega)).1
  · rw [hb.frozen r4]; exact (r5 _ (by omega)).2
  · rw [hb.frozen r4]; exact (r5 _ (by omega)).2

set_option maxRecDepth 100000 in
set_option maxHeartbeats 2000000 in
theorem put_there (sb base most : Nat) (l : List (Int × List UInt8)) (q : Int) (bv : Value) (b : List UInt8) (i : Nat) (w : World) (h : StoreAt w base sb most l) (hm : 0 < most) (hq : 0 ≤ q) (hr : Rising l) (hl : l.length ≤ 999) (hb : BytesIn w bv b) (hbl : b.length ≤ 140737488351232)
    (hp : Place (posOf l) l.length q i) (hi : i < l.length) (hpi : posOf l i = q) (hbase : base ≤ w.heap.size) :
    Calls Try.prog 12 #[.pointer (some ⟨sb, 0, none⟩), .int .i64 q, bv] w fun e w' => e = .returned (.int .i64 0) ∧ StoreAt w' base sb most (l.set i (q, b)) ∧ BelowX sb base w w' := by
  have HS : Hid (StoreAt w base sb most l) := Lib.hid h
  have HP : Hid (Place (posOf l) l.length q i) := Lib.hid hp
  have HR : Hid (Rising l) := Lib.hid hr
  obtain ⟨sv, it, h1, h2, h3⟩ := h
  have hlen := h3.len
  obtain ⟨g, cap, rfl⟩ : ∃ g cap, sv = .slice (some ⟨g, 0, none⟩) it.length cap := by
    rcases h3.row.2 with ⟨rfl, h4⟩ | ⟨g, cap, cur, rfl, _⟩
    · omega
    · exact ⟨_, _, rfl⟩
  have FIN : Hid (∀ w3 v', Below w.heap.size w w3 → BytesAt w3 w.heap.size v' b → StoreAt ((w3.setCell ⟨g, i * 2, none⟩ (.int .i64 q)).setCell ⟨g, i * 2 + 1, none⟩ v') base sb most (l.set i (q, b)) ∧ BelowX sb base w ((w3.setCell ⟨g, i * 2, none⟩ (.int .i64 q)).setCell ⟨g, i * 2 + 1, none⟩ v')) := Lib.hid (fun w3 v' hbw hv => by
    have hs : sb < w.heap.size := (Array.getElem?_eq_some_iff.1 h1).1
    have h1' : w3.heap[sb]? = _ := (hbw.block sb hs).trans h1
    have h3' := h3.below hbw
    have hne : sb ≠ g := by
      rintro rfl
      rcases h3.row.2 with ⟨h, _⟩ | ⟨g', cap', cur, h, h5, h6, _⟩
      · cases h
      · cases h; rw [h1] at h6; cases h6
    obtain ⟨r1, _⟩ := row_room h3.row
    obtain ⟨cur, hcur⟩ : ∃ cur, w.heap[g]? = some (.cells cur 57 (0, 0)) := by
      rcases h3.row.2 with ⟨h, _⟩ | ⟨g', cap', cur, h, h5, h6, _⟩
      · cases h
      · cases h; exact ⟨cur, h6⟩
    exact ⟨⟨_, _, by rw [Below.heap_setCell _ _ _ _ hne, Below.heap_setCell _ _ _ _ hne]; exact h1', h2, items_put h3' rfl (by omega) (ownsRow_base hv hbase)⟩, ((BelowX.full hbw).set57 hcur r1 _).set57 hcur r1 _⟩)
  have hgw : g < w.heap.size := by
    rcases h3.row.2 with ⟨h, _⟩ | ⟨g', cap', cur, h, h5, h6, _⟩
    · cases h
    · cases h; exact (Array.getElem?_eq_some_iff.1 h6).1
  have hne1 : sb ≠ g := by
    rintro rfl
    rcases h3.row.2 with ⟨h, _⟩ | ⟨g', cap', cur, h, h5, h6, _⟩
    · cases h
    · cases h; rw [h1] at h6; cases h6
  have TC : Hid (∀ w3, Below w.heap.size w w3 → _) := Lib.hid fun w3 hb => there_cells (i := i) h1 h3 rfl hb (by omega)
  rw [hlen] at TC
  have hi1 : (0 : Int) ≤ i := Int.natCast_nonneg _
  have hi2 : (i : Int) < l.length := by omega
  have c0 : w.cell? ⟨sb, 0, none⟩ = some (.int .i64 most) := by simp [World.cell?, h1]
  have ha : sb < w.heap.size := World.block_lt_of_cell? w _ c0
  have HC : Hid (∀ W, Below w.heap.size w W → Calls Try.prog 21 #[bv] W fun e w' => Cloned W w' b e) := Lib.hid fun W hW => clone_any (by
    rcases hb with h | ⟨a, cap, h, hc⟩
    · exact .inl h
    · exact .inr ⟨a, cap, h, fun j u hu => by
        have := hc j u hu
        rw [hW.cell (World.block_lt_of_cell? w _ this)]; exact this⟩) hbl
  clear h1 h3 hp hb hr
  go_enter Try.func12, Try.ntmps12
  go_wp2_with (first
    | (go_at_call 20; refine (made_yes _ most _ hm ((World.cell?_alloc_lt _ _ _ ha).trans c0)).mono ?_; rintro e w' ⟨rfl, rfl⟩))
  go_region_held3 (fun w' => w'.cell? ⟨w.heap.size, 0, none⟩ = some (.int .i64 q) ∧ Below w.heap.size w w')
    (first
      | exact pre_start w q
      | exact pre_alloc _ (pre_start w q).1 (pre_start w q).2
      | exact pre_call (pre_start w q).1 (pre_start w q).2 hbv
      | exact pre_alloc _ (pre_call (pre_start w q).1 (pre_start w q).2 hbv).1 (pre_call (pre_start w q).1 (pre_start w q).2 hbv).2
      | exact pre_call (pre_alloc _ (pre_start w q).1 (pre_start w q).2).1 (pre_alloc _ (pre_start w q).1 (pre_start w q).2).2 hbv
      | exact pre_set2 (pre_call (pre_alloc _ (pre_start w q).1 (pre_start w q).2).1 (pre_alloc _ (pre_start w q).1 (pre_start w q).2).2 hbv))
    (first
      | (go_at_call 21; refine (HC.out _ (by first | assumption | exact (pre_start w q).2 | exact (pre_alloc _ (pre_start w q).1 (pre_start w q).2).2)).mono ?_; rintro e w2 ⟨v', rfl, hv', hbv⟩; obtain ⟨so, sc, rfl⟩ := bytes_form hv'; refine And.elim (fun f0 ff => And.elim (fun f1 fg => And.elim (fun f2 f3 => ?_) fg) ff) (pre_item hbv))
      | (go_at_call 21; refine (HC.out _ (by first | assumption | exact (pre_start w q).2 | exact (pre_alloc _ (pre_start w q).1 (pre_start w q).2).2)).mono ?_; rintro e w2 ⟨v', rfl, hv', hbv⟩; obtain ⟨so, sc, rfl⟩ := bytes_form hv'))
  all_goals first | (refine name_exit (M := fun W => Mid w W q b w2.heap.size (.slice so b.length sc)) (midA hv' hbv) ?_; generalize w2.heap.size = vb) | (refine name_exit (M := fun W => Mid w W q b (w.heap.size + 1) (.slice so b.length sc)) (midB hv' hbv) ?_; generalize w.heap.size + 1 = vb)
  all_goals
    clear hbv hv'
    intro W HM
    obtain ⟨hitem, habove, hcell, hbytes, hbelow⟩ := HM
    have HSW : Hid (StoreAt W base sb most l) := Lib.hid (HS.out.below hbelow)
    have HIT := Lib.hid hitem
    have HBY := Lib.hid hbytes
    have HBE := Lib.hid hbelow
    clear hitem hbytes hbelow
    go_wp2_with (go_at_call 22; refine (find_any sb base most l q _ HSW.out HR.out (by omega)).mono ?_; rintro e w3 ⟨i', hp', rfl, hb3⟩; obtain rfl := place_unique HP.out hp'; clear hp'; have hd1 : (decide (i < l.length) && decide (posOf l i = q)) = true := (by simp [hi, hpi]); rw [hd1]; clear hd1)
    have hb4 := HBE.out.trans (hb3.mono HBE.out.size)
    obtain ⟨k1, ⟨u0, k2⟩, ⟨u1, k3⟩, k4, k5⟩ := TC.out w3 hb4
    have k6 : w3.cell? _ = some _ := (hb3.cell (World.block_lt_of_cell? W _ ((cell_block HIT.out).trans rfl))).trans ((cell_block HIT.out (o := 0)).trans rfl)
    have k7 : w3.cell? _ = some _ := (hb3.cell (World.block_lt_of_cell? W _ ((cell_block HIT.out).trans rfl))).trans ((cell_block HIT.out (o := 1)).trans rfl)
    have HF3 := Lib.hid (FIN.out w3 _ hb4 (ownsRow_below HBY.out hb3))
    have hne2 : vb ≠ g := by omega
    have HK : Hid (((w3.setCell ⟨g, i * 2, none⟩ (.int .i64 q)).setCell ⟨g, i * 2 + 1, none⟩ (.slice so b.length sc)).drew.cell? ⟨sb, 1, none⟩ = some (.slice (some ⟨g, 0, none⟩) l.length cap) ∧ ((w3.setCell ⟨g, i * 2, none⟩ (.int .i64 q)).setCell ⟨g, i * 2 + 1, none⟩ (.slice so b.length sc)).drew.cell? ⟨vb, 0, none⟩ = some (.int .i64 q) ∧ ((w3.setCell ⟨g, i * 2, none⟩ (.int .i64 q)).setCell ⟨g, i * 2 + 1, none⟩ (.slice so b.length sc)).drew.cell? ⟨vb, 1, none⟩ = some (.slice so b.length sc)) := Lib.hid ⟨(other2 hne1).trans k1, (other2 hne2).trans k6, (other2 hne2).trans k7⟩
    clear HIT HBY HBE HSW HS HP HR TC FIN HC hb3 hb4 habove
    go_region_held3 (fun w' => w'.cell? ⟨sb, 1, none⟩ = some (.slice (some ⟨g, 0, none⟩) l.length cap) ∧ w'.cell? ⟨vb, 0, none⟩ = some (.int .i64 q) ∧ w'.cell? ⟨vb, 1, none⟩ = some (.slice so b.length sc)) (first | exact HK.out | go_keep) (fail)
    go_wp2
    go_ret
    exact ⟨rfl, HF3.out.1.below ((Below.refl _ _).drew), HF3.out.2.drew⟩
end Go.Proofs.Ytiagpaoomijidaa
