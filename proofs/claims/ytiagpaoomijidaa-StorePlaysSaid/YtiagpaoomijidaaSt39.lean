import Derived.Test.YtiagpaoomijidaaSt38
namespace Go.Proofs.Ytiagpaoomijidaa
open Go.RowKit Go.Proofs
set_option linter.unusedVariables false
set_option linter.unusedSimpArgs false

/-- What StorePlays' loop keeps of the list. -/
structure PlayAt (may : Nat) (l : List (Int × List UInt8)) : Prop where
  first : ∃ least, First may least l
  small : ∀ x ∈ l, x.2.length ≤ 140737488351232

theorem play_nil (may : Nat) : PlayAt may [] := ⟨⟨-1, first_nil may⟩, fun x h => by simp at h⟩

theorem ref_form {w : World} {base : Nat} {v : Value} {l : List (Int × List UInt8)} (h : RefAt w base v l) : ∃ o c, v = .slice o l.length c := by
  obtain ⟨so, c, e, _⟩ := h.isIn
  exact ⟨so, c, e⟩

/-- A Put, by both. -/
theorem play_put {may : Nat} {l : List (Int × List UInt8)} (h : PlayAt may l) (hm1 : 1 ≤ may) (hm2 : may ≤ 64) (q : Int) (b : List UInt8) (hq2 : q ≤ 9223372036854775807) (hb : b.length ≤ 140737488351232) :
    ∃ l' z, PlayAt may l' ∧ (∀ (W : World) (N : Nat) (bv : Value), StoreAt W N N may l → BytesIn W bv b → Calls Try.prog 12 #[.pointer (some ⟨N, 0, none⟩), .int .i64 q, bv] W fun e w' => e = .returned (.int .i64 z) ∧ StoreAt w' N N may l' ∧ BelowX N N W w') ∧
      (∀ (W : World) (N : Nat) (o : Option Addr) (c : Nat), RefAt W N (.slice o l.length c) l → N ≤ W.heap.size → Calls Try.prog 11 #[.agg #[.int .i64 may, .slice o l.length c], .int .i64 q, strV b] W fun e w' => ∃ o' c', e = .returned (.tuple #[.agg #[.int .i64 may, .slice o' l'.length c'], .int .i64 z]) ∧ RefAt w' N (.slice o' l'.length c') l' ∧ Below W.heap.size W w') := by
  obtain ⟨least, hf⟩ := h.first
  have hl := hf.len
  by_cases hq : q < 0
  · refine ⟨l, 2, h, fun W N bv S hbv => (put_arg N N may l bv q W S (by omega) hq).mono ?_, fun W N o c R hN => (refPut_neg may o l.length c ⟨b.toArray⟩ q W hq).mono ?_⟩
    · rintro e w' ⟨rfl, hb⟩
      exact ⟨rfl, S.below hb, BelowX.full hb⟩
    · rintro e w' ⟨rfl, hb⟩
      exact ⟨o, c, rfl, ownsRow_below R hb, hb⟩
  · obtain ⟨i, hp⟩ := place_exists (posOf l) q l.length hf.rise
    refine ⟨putL may l q b i, 0, ⟨⟨_, first_put hf (by omega) hq2 hm1 hp⟩, fun x hx => ?_⟩, fun W N bv S hbv => ?_, fun W N o c R hN => ?_⟩
    · rcases put_mem hf.rise hp hx with rfl | ⟨h1, _⟩
      · exact hb
      · exact h.small x h1
    · have hN : N < W.heap.size := by obtain ⟨c, hc⟩ := store_cells51 S; exact (Array.getElem?_eq_some_iff.1 hc).1
      refine (put_any N N may l q bv b W S (by omega) (by omega) hq2 hf.rise hf.ranged (by omega) hbv hb (by omega)).mono ?_
      rintro e w' ⟨rfl, hx, j, hj, S'⟩
      rw [place_unique hj hp] at S'
      exact ⟨rfl, S', hx⟩
    · refine (refPut_any may l _ q b i W R.isIn hf.rise hf.ranged hp hm1 hm2 hl (by omega) hq2).mono ?_
      rintro e w' ⟨v, rfl, R', hb'⟩
      obtain ⟨o', c', rfl⟩ := ref_form R'
      exact ⟨o', c', rfl, ownsRow_base R' hN, hb'⟩

/-- Floor, by both. -/
theorem play_floor {may : Nat} {l : List (Int × List UInt8)} (h : PlayAt may l) (hm1 : 1 ≤ may) (hm2 : may ≤ 64) (q : Int) :
    ∃ (p : Int) (s : ByteArray) (ok : Bool), (∀ (W : World) (N : Nat), StoreAt W N N may l → Calls Try.prog 13 #[.pointer (some ⟨N, 0, none⟩), .int .i64 q] W fun e w' => ∃ o m c, e = .returned (.tuple #[.int .i64 p, .slice o m c, .bool ok]) ∧ Aside (∀ W', Below w'.heap.size w' W' → (convert 36 9 (.slice o m c)).run Try.prog W' = .ok (.string s) W') ∧ Below W.heap.size W w') ∧
      (∀ (W : World) (N : Nat) (o : Option Addr) (c : Nat), RefAt W N (.slice o l.length c) l → Calls Try.prog 14 #[.agg #[.int .i64 may, .slice o l.length c], .int .i64 q] W fun e w' => e = .returned (.tuple #[.int .i64 p, .string s, .bool ok]) ∧ Below W.heap.size W w') := by
  obtain ⟨least, hf⟩ := h.first
  have hl := hf.len
  by_cases hno : NoFloor l q
  · refine ⟨0, ⟨#[]⟩, false, fun W N S => (floor_any N N may l q W S (by omega) hf.rise (by omega) h.small).mono ?_, fun W N o c R => (refFloor_any may l _ q W R.isIn (by omega)).mono ?_⟩
    · rintro e w' ⟨hb, ⟨_, rfl⟩ | ⟨k, x, v', hx, hle, hgt, rfl, hv⟩⟩
      · exact ⟨none, 0, 0, rfl, fun W' _ => conv_back (b := []) (.inl ⟨rfl, rfl⟩), hb⟩
      · have := hno k (List.getElem?_eq_some_iff.1 hx).1
        have e : posOf l k = x.1 := by unfold posOf; rw [List.getD_eq_getElem?_getD, hx]; rfl
        omega
    · rintro e w' ⟨hb, ⟨_, rfl⟩ | ⟨k, x, hx, hle, hgt, rfl⟩⟩
      · exact ⟨rfl, hb⟩
      · have := hno k (List.getElem?_eq_some_iff.1 hx).1
        have e : posOf l k = x.1 := by unfold posOf; rw [List.getD_eq_getElem?_getD, hx]; rfl
        omega
  · obtain ⟨k, x, hx, hle, hgt⟩ : ∃ (k : Nat) (x : Int × List UInt8), l[k]? = some x ∧ x.1 ≤ q ∧ ∀ t, k < t → t < l.length → q < posOf l t := by
      have key : ∀ n, n ≤ l.length → (∀ t, n ≤ t → t < l.length → q < posOf l t) → ∃ (k : Nat) (x : Int × List UInt8), l[k]? = some x ∧ x.1 ≤ q ∧ ∀ t, k < t → t < l.length → q < posOf l t := by
        intro n
        induction n with
        | zero => intro _ h; exact absurd (fun t ht => h t (Nat.zero_le _) ht) hno
        | succ n ih =>
          intro hn h
          by_cases hc : posOf l n ≤ q
          · refine ⟨n, l[n], List.getElem?_eq_getElem (by omega), by rw [← posOf_get (by omega)]; exact hc, fun t h1 h2 => h t (by omega) h2⟩
          · refine ih (by omega) fun t h1 h2 => ?_
            rcases Nat.lt_or_ge n t with h3 | h3
            · exact h t (by omega) h2
            · obtain rfl : t = n := by omega
              omega
      exact key l.length (Nat.le_refl _) fun t h1 h2 => by omega
    have uniq : ∀ (k' : Nat) (x' : Int × List UInt8), l[k']? = some x' → x'.1 ≤ q → (∀ t, k' < t → t < l.length → q < posOf l t) → x' = x := fun k' x' hx' hle' hgt' => by
      have e : posOf l k = x.1 := by unfold posOf; rw [List.getD_eq_getElem?_getD, hx]; rfl
      have e' : posOf l k' = x'.1 := by unfold posOf; rw [List.getD_eq_getElem?_getD, hx']; rfl
      have h1 := (List.getElem?_eq_some_iff.1 hx).1
      have h2 := (List.getElem?_eq_some_iff.1 hx').1
      have : k = k' := by
        rcases Nat.lt_or_ge k k' with h | h
        · have := hgt k' h h2; omega
        · rcases Nat.lt_or_ge k' k with h3 | h3
          · have := hgt' k h3 h1; omega
          · omega
      subst this
      rw [hx] at hx'
      exact (Option.some.inj hx').symm
    refine ⟨x.1, ⟨x.2.toArray⟩, true, fun W N S => (floor_any N N may l q W S (by omega) hf.rise (by omega) h.small).mono ?_, fun W N o c R => (refFloor_any may l _ q W R.isIn (by omega)).mono ?_⟩
    · rintro e w' ⟨hb, ⟨hn, _⟩ | ⟨k', x', v', hx', hle', hgt', rfl, hv⟩⟩
      · exact absurd hn hno
      · obtain rfl := uniq k' x' hx' hle' hgt'
        obtain ⟨o, c, rfl⟩ := hv.form
        exact ⟨o, _, c, rfl, fun W' hW => conv_back (bytes_keep hv hW).isIn, hb⟩
    · rintro e w' ⟨hb, ⟨hn, _⟩ | ⟨k', x', hx', hle', hgt', rfl⟩⟩
      · exact absurd hn hno
      · obtain rfl := uniq k' x' hx' hle' hgt'
        exact ⟨rfl, hb⟩

theorem ref_keepX {w w' : World} {base sb B : Nat} {v : Value} {l : List (Int × List UInt8)} (h : RefAt w base v l) (hb : BelowX sb B w w') (hs : ∃ c, w.heap[sb]? = some (.cells c 51 (0, 0))) : RefAt w' base v l := by
  refine ⟨h.1, ?_⟩
  rcases h.2 with h2 | ⟨g, cap, cur, h1, h2, h3, h4⟩
  · exact .inl h2
  · refine .inr ⟨g, cap, cur, h1, h2, ?_, h4⟩
    rw [hb.block g (Array.getElem?_eq_some_iff.1 h3).1 (fun e => by subst e; obtain ⟨c, hc⟩ := hs; rw [hc] at h3; cases h3) (.inr fun c fr hc => by rw [hc] at h3; cases h3)]
    exact h3
theorem row27_keepX {w w' : World} {M sb B : Nat} {cs : Array Value} (h : w.heap[M]? = some (.cells cs 27 (0, 0))) (hb : BelowX sb B w w') (hs : ∃ c, w.heap[sb]? = some (.cells c 51 (0, 0))) : w'.heap[M]? = some (.cells cs 27 (0, 0)) := by
  rw [hb.block M (Array.getElem?_eq_some_iff.1 h).1 (fun e => by subst e; obtain ⟨c, hc⟩ := hs; rw [hc] at h; cases h) (.inr fun c fr hc => by rw [hc] at h; cases h)]
  exact h
theorem row_below {w w' : World} {M : Nat} {cs : Array Value} {t : TypeId} {fr : Nat × Nat} (h : w.heap[M]? = some (.cells cs t fr)) (hb : Below w.heap.size w w') : w'.heap[M]? = some (.cells cs t fr) := by
  rw [hb.block M (Array.getElem?_eq_some_iff.1 h).1]; exact h

/-- The state of StorePlays' loop. -/
structure PlayW (W : World) (N M may : Nat) (l : List (Int × List UInt8)) (o : Option Addr) (c : Nat) : Prop where
  store : StoreAt W N N may l
  ref : RefAt W N (.slice o l.length c) l
  row : W.heap[M]? = some (.cells #[.int .i64 may, .slice o l.length c] 27 (0, 0))
theorem PlayW.below {W W' : World} {N M may c : Nat} {l : List (Int × List UInt8)} {o : Option Addr} (h : PlayW W N M may l o c) (hb : Below W.heap.size W W') : PlayW W' N M may l o c :=
  ⟨h.store.below hb, ownsRow_below h.ref hb, row_below h.row hb⟩
theorem PlayW.cell0 {W : World} {N M may c : Nat} {l : List (Int × List UInt8)} {o : Option Addr} (h : PlayW W N M may l o c) : W.cell? ⟨M, 0, none⟩ = some (.int .i64 may) := by rw [cell_block h.row]; rfl
theorem PlayW.cell1 {W : World} {N M may c : Nat} {l : List (Int × List UInt8)} {o : Option Addr} (h : PlayW W N M may l o c) : W.cell? ⟨M, 1, none⟩ = some (.slice o l.length c) := by rw [cell_block h.row]; rfl

theorem play_all {W : World} {N M may c : Nat} {l : List (Int × List UInt8)} {o : Option Addr} (h : PlayW W N M may l o c) (hm1 : 1 ≤ may) (hl : l.length ≤ 1000) : Calls Try.prog 16 #[.pointer (some ⟨N, 0, none⟩)] W fun e w' => ∃ v, e = .returned v ∧ IntsAt w' W.heap.size v (l.map (·.1)) ∧ Below W.heap.size W w' := all_of h.store (by omega) hl
theorem play_refAll {W : World} {N M may c : Nat} {l : List (Int × List UInt8)} {o : Option Addr} (h : PlayW W N M may l o c) (hl : l.length ≤ 1000) : Calls Try.prog 17 #[.agg #[.int .i64 may, .slice o l.length c]] W fun e w' => ∃ v, e = .returned v ∧ IntsAt w' W.heap.size v (l.map (·.1)) ∧ Below W.heap.size W w' := refAll_any may l _ W h.ref.isIn hl
theorem play_same {w : World} {B C : Nat} {va vb : Value} {l : List Int} (ha : IntsAt w B va l) (hb : IntsAt w C vb l) (hl : l.length ≤ 100000) : Calls Try.prog 15 #[va, vb] w fun e w' => e = .returned (.bool true) ∧ Below w.heap.size w w' := by
  refine (same_any va vb l l w ha.isIn hb.isIn hl).mono ?_
  rintro e w' ⟨rfl, h⟩
  exact ⟨by rw [decide_eq_true rfl], h⟩

/-- Behind the reference's Put: the old list, and the new one in a block of its own. -/
structure PlayX (W : World) (N M X may : Nat) (l l' : List (Int × List UInt8)) (o o' : Option Addr) (c c' : Nat) : Prop where
  old : PlayW W N M may l o c
  ref : RefAt W N (.slice o' l'.length c') l'
  row : W.heap[X]? = some (.cells #[.int .i64 may, .slice o' l'.length c'] 27 (0, 0))
  ne : M ≠ X

theorem play_x {W w5 : World} {N M may c c' : Nat} {l l' : List (Int × List UInt8)} {o o' : Option Addr} (h : PlayW W N M may l o c) (hb : Below W.heap.size W w5) (R : RefAt w5 N (.slice o' l'.length c') l') :
    PlayX (w5.alloc (.cells #[.int .i64 may, .slice o' l'.length c'] 27)) N M w5.heap.size may l l' o o' c c' ∧ Below W.heap.size W (w5.alloc (.cells #[.int .i64 may, .slice o' l'.length c'] 27)) := by
  have h5 := h.below hb
  have hM := (Array.getElem?_eq_some_iff.1 h5.row).1
  have hb2 : Below w5.heap.size w5 (w5.alloc (.cells #[.int .i64 may, .slice o' l'.length c'] 27)) := (Below.refl _ _).alloc (Nat.le_refl _) _
  exact ⟨⟨h5.below hb2, ownsRow_below R hb2, heap_alloc_new _ _, by omega⟩, hb.trans (hb2.mono hb.size)⟩

theorem keep_goals {M : Nat → Option Addr → Nat → World → Prop} {G : Prop} (R : Nat → Option Addr → Nat → World → Prop) (h : (∀ X o c W, M X o c W → R X o c W) → G) (k : ∀ X o c W, M X o c W → R X o c W) : G := h k

theorem play_x2 {W w5 : World} {N M may c c' : Nat} {l l' : List (Int × List UInt8)} {o o' : Option Addr} {a0 a1 : Value} (h : PlayW W N M may l o c) (hb : Below (W.alloc (.cells #[a0, a1] 27)).heap.size (W.alloc (.cells #[a0, a1] 27)) w5) (R : RefAt w5 N (.slice o' l'.length c') l') (hN : N < W.heap.size) :
    PlayX ((w5.setCell ⟨W.heap.size, 0, none⟩ (.int .i64 may)).setCell ⟨W.heap.size, 1, none⟩ (.slice o' l'.length c')) N M W.heap.size may l l' o o' c c' ∧
      Below W.heap.size W ((w5.setCell ⟨W.heap.size, 0, none⟩ (.int .i64 may)).setCell ⟨W.heap.size, 1, none⟩ (.slice o' l'.length c')) := by
  have ha : Below W.heap.size W (W.alloc (.cells #[a0, a1] 27)) := (Below.refl _ _).alloc (Nat.le_refl _) _
  have hM := (Array.getElem?_eq_some_iff.1 h.row).1
  have hx : w5.heap[W.heap.size]? = some (.cells #[a0, a1] 27 (0, 0)) := row_below (heap_alloc_new _ _) hb
  have hb2 : Below W.heap.size W w5 := ha.trans (hb.mono ha.size)
  have hb3 : Below W.heap.size W ((w5.setCell ⟨W.heap.size, 0, none⟩ (.int .i64 may)).setCell ⟨W.heap.size, 1, none⟩ (.slice o' l'.length c')) := (hb2.setCell (Nat.le_refl _) _).setCell (Nat.le_refl _) _
  refine ⟨⟨h.below hb3, ?_, setCell_block (setCell_block hx), by omega⟩, hb3⟩
  refine ⟨R.1, ?_⟩
  rcases R.2 with h4 | ⟨g, cap, cur, h4, h5, h6, h7⟩
  · exact .inl h4
  · have hg : g ≠ W.heap.size := fun e => by subst e; rw [hx] at h6; cases h6
    exact .inr ⟨g, cap, cur, h4, h5, by rw [Below.heap_setCell _ _ _ _ hg, Below.heap_setCell _ _ _ _ hg]; exact h6, h7⟩

theorem PlayX.below {W W' : World} {N M X may c c' : Nat} {l l' : List (Int × List UInt8)} {o o' : Option Addr} (h : PlayX W N M X may l l' o o' c c') (hb : Below W.heap.size W W') : PlayX W' N M X may l l' o o' c c' :=
  ⟨h.old.below hb, ownsRow_below h.ref hb, row_below h.row hb, h.ne⟩

/-- Behind both Puts. -/
structure PlayY (W : World) (N M X may : Nat) (l' : List (Int × List UInt8)) (o o' : Option Addr) (n c c' : Nat) : Prop where
  store : StoreAt W N N may l'
  ref : RefAt W N (.slice o' l'.length c') l'
  row : W.heap[M]? = some (.cells #[.int .i64 may, .slice o n c] 27 (0, 0))
  rowx : W.heap[X]? = some (.cells #[.int .i64 may, .slice o' l'.length c'] 27 (0, 0))
  ne : M ≠ X
theorem play_y {W W' : World} {N M X may c c' : Nat} {l l' : List (Int × List UInt8)} {o o' : Option Addr} (h : PlayX W N M X may l l' o o' c c') (S : StoreAt W' N N may l') (hb : BelowX N N W W') : PlayY W' N M X may l' o o' l.length c c' :=
  have hs := store_cells51 h.old.store
  ⟨S, ref_keepX h.ref hb hs, row27_keepX h.old.row hb hs, row27_keepX h.row hb hs, h.ne⟩

/-- 'm = x'. -/
theorem play_m {W : World} {N M X may n c c' : Nat} {l' : List (Int × List UInt8)} {o o' : Option Addr} (h : PlayY W N M X may l' o o' n c c') (hM : N ≤ M) (hMN : M ≠ N) : PlayW ((W.setCell ⟨M, 0, none⟩ (.int .i64 may)).setCell ⟨M, 1, none⟩ (.slice o' l'.length c')) N M may l' o' c' := by
  have e : ∀ k, k ≠ M → ((W.setCell ⟨M, 0, none⟩ (.int .i64 may)).setCell ⟨M, 1, none⟩ (.slice o' l'.length c')).heap[k]? = W.heap[k]? := fun k hk => (Below.heap_setCell _ _ _ _ hk).trans (Below.heap_setCell _ _ _ _ hk)
  refine ⟨?_, ?_, setCell_block (setCell_block h.row)⟩
  · obtain ⟨sv, it, h1, h2, h3⟩ := h.store
    refine ⟨sv, it, by rw [e N (Ne.symm hMN)]; exact h1, h2, ⟨h3.row.1, ?_⟩, h3.len, fun i x y hx hy => ⟨(h3.pos i x y hx hy).1, ?_⟩⟩
    · rcases h3.row.2 with h4 | ⟨g, cap, cur, h4, h5, h6, h7⟩
      · exact .inl h4
      · exact .inr ⟨g, cap, cur, h4, h5, by rw [e g (fun e => by subst e; have hr := h.row; rw [h6] at hr; cases hr)]; exact h6, h7⟩
    · have hp := (h3.pos i x y hx hy).2
      refine ⟨hp.1, ?_⟩
      rcases hp.2 with h4 | ⟨g, cap, cur, h4, h5, h6, h7⟩
      · exact .inl h4
      · exact .inr ⟨g, cap, cur, h4, h5, by rw [e g (fun e => by subst e; have hr := h.row; rw [h6] at hr; cases hr)]; exact h6, h7⟩
  · refine ⟨h.ref.1, ?_⟩
    rcases h.ref.2 with h4 | ⟨g, cap, cur, h4, h5, h6, h7⟩
    · exact .inl h4
    · exact .inr ⟨g, cap, cur, h4, h5, by rw [e g (fun e => by subst e; have hr := h.row; rw [h6] at hr; cases hr)]; exact h6, h7⟩
end Go.Proofs.Ytiagpaoomijidaa
