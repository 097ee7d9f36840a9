import Derived.Test.YtiagpaoomijidaaSt35
namespace Go.Proofs.Ytiagpaoomijidaa
open Go.RowKit Go.Proofs
set_option linter.unusedVariables false
set_option linter.unusedSimpArgs false

set_option maxRecDepth 100000 in
set_option maxHeartbeats 2000000 in
theorem with_any (l : List (Int × List UInt8)) (lv : Value) (q : Int) (b : List UInt8) (i : Nat) (w : World) (h : RefIn w lv l) (hr : Rising l) (hp : Place (posOf l) l.length q i) (hl : l.length ≤ 1000) :
    Calls Try.prog 19 #[lv, .agg #[.int .i64 q, strV b]] w fun e w' => ∃ v, e = .returned v ∧ RefAt w' w.heap.size v (withL l q b i) ∧ Below w.heap.size w w' := by
  obtain ⟨i0, hi, hz0, hz1, hz2⟩ := info_parts info54
  obtain ⟨so, c, rfl, hx⟩ := h
  have HX := Lib.hid hx
  have HP := Lib.hid hp
  have HR := Lib.hid hr
  have hil : i ≤ l.length := hp.1
  clear hx hp hr
  unfold strV
  go_enter Try.func19, Try.ntmps19
  go_wp2_with fail
  obtain ⟨W1, hW1⟩ : ∃ W1, W1 = w.alloc (.cells #[.int .i64 q, .string ⟨b.toArray⟩] 54) := ⟨_, rfl⟩
  have hb1 : Below w.heap.size w W1 := by rw [hW1]; exact (Below.refl _ _).alloc (Nat.le_refl _) _
  have hs1 : w.heap.size < W1.heap.size := by rw [hW1]; simp
  have x1 : W1.cell? ⟨w.heap.size, 0, none⟩ = some (.int .i64 q) := by rw [hW1, cell_new]; rfl
  have x2 : W1.cell? ⟨w.heap.size, 1, none⟩ = some (.string ⟨b.toArray⟩) := by rw [hW1, cell_new]; rfl
  rw [← hW1]
  have HB1 := Lib.hid hb1
  clear hW1 hb1
  go_loopg [5, 6, 7] l.length (fun kx s5 s6 s7 wr => ∃ (k : Nat) (v5 : Value), s7 = .int .i64 k ∧ s6 = .bool (decide (i < k)) ∧ v5 = s5 ∧ k ≤ l.length ∧ l.length - k ≤ kx ∧ Aside (RefAt wr W1.heap.size v5 ((withL l q b i).take (withN l q i k))) ∧ Aside (Below W1.heap.size W1 wr))
  case atStart => exact ⟨0, _, rfl, by simp, rfl, Nat.zero_le _, by omega, by simp [withN]; exact World.ownsRow_nil _ _ _ _, Below.refl _ _⟩
  case round =>
    obtain ⟨k, v5, rfl, rfl, rfl, hk, hg, hown, hb⟩ := hrel
    have y1 := (hb.out.cell (p := ⟨w.heap.size, 0, none⟩) (by show w.heap.size < _; omega)).trans x1
    have y2 := (hb.out.cell (p := ⟨w.heap.size, 1, none⟩) (by show w.heap.size < _; omega)).trans x2
    by_cases hlt : k < l.length
    · obtain ⟨g, e1, e2, e3, e4⟩ := HX.out k l[k] (List.getElem?_eq_getElem hlt)
      subst e1
      have e5 : g < W1.heap.size := by omega
      have c1 := (hb.out.cell (p := ⟨g, k * 2, none⟩) e5).trans ((HB1.out.cell (p := ⟨g, k * 2, none⟩) e2).trans e3)
      have c2 := (hb.out.cell (p := ⟨g, k * 2 + 1, none⟩) e5).trans ((HB1.out.cell (p := ⟨g, k * 2 + 1, none⟩) e2).trans e4)
      rw [← posOf_get hlt] at c1
      have hk0 : (0 : Int) ≤ (k : Int) := by omega
      have hk1 : (k : Int) < (l.length : Int) := by omega
      clear x1 x2 e3 e4
      obtain ⟨L, hL⟩ : ∃ L, L = (withL l q b i).take (withN l q i k) := ⟨_, rfl⟩
      rw [← hL] at hown
      have HLN : Hid (L.length ≤ 1001) := Lib.hid (by
        rw [hL, List.length_take]
        have := with_len (l := l) (q := q) (b := b) hil
        split at this <;> omega)
      have HL := Lib.hid hL
      clear hL
      have hwz := hb.out.size
      have hxk := List.getElem?_eq_getElem hlt
      have HN1 : Hid (k < i ∨ (i < l.length ∧ posOf l i = q) → k ≠ i → (withL l q b i).take (withN l q i (k + 1)) = L ++ [(posOf l k, l[k].2)]) := Lib.hid fun h hne => by
        have ex : (posOf l k, l[k].2) = l[k] := by rw [posOf_get hlt]
        rw [HL.out, ex]
        have w1 : withN l q i k = k := by unfold withN; rw [if_pos (by rcases h with h | h; exact .inl (by omega); exact .inr h)]
        have w2 : withN l q i (k + 1) = k + 1 := by unfold withN; rw [if_pos (by rcases h with h | h; exact .inl (by omega); exact .inr h)]
        rw [w1, w2]
        refine take_succ_get ?_
        have := with_get (q := q) (b := b) hil hxk (.inl hne)
        rwa [if_pos h] at this
      have HN2 : Hid (i < k → ¬ (i < l.length ∧ posOf l i = q) → (withL l q b i).take (withN l q i (k + 1)) = L ++ [(posOf l k, l[k].2)]) := Lib.hid fun h hne => by
        have ex : (posOf l k, l[k].2) = l[k] := by rw [posOf_get hlt]
        rw [HL.out, ex]
        have w1 : withN l q i k = k + 1 := by unfold withN; rw [if_neg (by rintro (h1 | h1); omega; exact hne h1)]
        have w2 : withN l q i (k + 1) = k + 1 + 1 := by unfold withN; rw [if_neg (by rintro (h1 | h1); omega; exact hne h1)]
        rw [w1, w2]
        refine take_succ_get ?_
        have := with_get (q := q) (b := b) hil hxk (.inr hne)
        rwa [if_neg (by rintro (h1 | h1); omega; exact hne h1)] at this
      have HN3 : Hid (k = i → posOf l i = q → (withL l q b i).take (withN l q i (k + 1)) = L ++ [(q, b)]) := Lib.hid fun h hne => by
        subst h
        have hf : k < l.length ∧ posOf l k = q := ⟨hlt, hne⟩
        rw [HL.out]
        have w1 : withN l q k k = k := by unfold withN; rw [if_pos (.inr hf)]
        have w2 : withN l q k (k + 1) = k + 1 := by unfold withN; rw [if_pos (.inr hf)]
        rw [w1, w2]
        exact take_succ_get (with_at hil)
      have HN4 : Hid (k = i → posOf l i ≠ q → (withL l q b i).take (withN l q i (k + 1)) = (L ++ [(q, b)]) ++ [(posOf l k, l[k].2)]) := Lib.hid fun h hne => by
        have ex : (posOf l k, l[k].2) = l[k] := by rw [posOf_get hlt]
        subst h
        have hf : ¬ (k < l.length ∧ posOf l k = q) := fun h => hne h.2
        rw [HL.out, ex]
        have w1 : withN l q k k = k := by unfold withN; rw [if_pos (.inl (Nat.le_refl _))]
        have w2 : withN l q k (k + 1) = k + 1 + 1 := by unfold withN; rw [if_neg (by rintro (h1 | h1); omega; exact hf h1)]
        rw [w1, w2]
        have h2 := with_get (q := q) (b := b) hil hxk (.inr hf)
        rw [if_neg (by rintro (h1 | h1); omega; exact hf h1)] at h2
        rw [take_succ_get h2, take_succ_get (with_at hil)]
      clear hxk
      unfold strV at c2
      generalize hpk : posOf l k = p at *
      have HPK := Lib.hid hpk
      clear hpk
      by_cases hki : k < i
      · have h1 : p < q := by have := HP.out.2.1 k hki; rw [HPK.out] at this; exact this
        have hd : decide (i < k) = false := decide_eq_false (by omega)
        have hd2 : decide (i < k + 1) = false := decide_eq_false (by omega)
        rw [hd]
        go_wp2_with fail
        go_quiet (fail)
        go_wp2
        go_quiet (fail)
        go_wp2_with (at_builtin; refine wpList_append_own _ rfl _ _ 25 rfl W1.heap.size 54 i0 (.agg #[.int .i64 0, .string ⟨#[]⟩]) 2 24 Try.underlying25 hi hz0 hz1 hz2 rfl (by decide) _ L.length (refCells L) rfl (ref_own hown.out _) ⟨wr.heap.size, 0, none⟩ 1 1 [.int .i64 p, .string ⟨l[k].2.toArray⟩] rfl rfl (ref_new (x := (p, l[k].2))) ?c2 ?c3 ?c4 ?c5 ?_)
        case c2 => intro u hu; simp at hu; rcases hu with rfl | rfl <;> rfl
        case c3 => unfold maxLen; have := HLN.out; simp; omega
        case c4 => have := HLN.out; simp; omega
        case c5 => have := hb.out.size; simp; omega
        intro v' w' hown2 hgrow _
        obtain ⟨R1, R2⟩ := ref_pushed hown.out (x := (p, l[k].2)) hown2 hgrow hb.out (Nat.le_refl _) hwz
        have E := HN1.out (.inl hki) (by omega)
        clear hown2 hgrow
        go_wp2
        go_roundg (l.length - (k + 1))
        case measure => omega
        case rel => exact ⟨k + 1, v', by go_num, by rw [hd2], rfl, by omega, Nat.le_refl _, by rw [E]; exact R1, R2⟩
      · by_cases hik : i < k
        · have h1 : p ≠ q := fun e => by
            have h2 := HR.out i k hik hlt
            have h3 := HP.out.2.2 i (Nat.le_refl _) (by omega)
            have := HPK.out
            omega
          have hd : decide (i < k) = true := decide_eq_true hik
          have hd2 : decide (i < k + 1) = true := decide_eq_true (by omega)
          rw [hd]
          go_wp2_with fail
          go_quiet (fail)
          go_wp2
          go_quiet (fail)
          go_wp2_with (at_builtin; refine wpList_append_own _ rfl _ _ 25 rfl W1.heap.size 54 i0 (.agg #[.int .i64 0, .string ⟨#[]⟩]) 2 24 Try.underlying25 hi hz0 hz1 hz2 rfl (by decide) _ L.length (refCells L) rfl (ref_own hown.out _) ⟨wr.heap.size, 0, none⟩ 1 1 [.int .i64 p, .string ⟨l[k].2.toArray⟩] rfl rfl (ref_new (x := (p, l[k].2))) ?c2 ?c3 ?c4 ?c5 ?_)
          case c2 => intro u hu; simp at hu; rcases hu with rfl | rfl <;> rfl
          case c3 => unfold maxLen; have := HLN.out; simp; omega
          case c4 => have := HLN.out; simp; omega
          case c5 => have := hb.out.size; simp; omega
          intro v' w' hown2 hgrow _
          obtain ⟨R1, R2⟩ := ref_pushed hown.out (x := (p, l[k].2)) hown2 hgrow hb.out (Nat.le_refl _) hwz
          have E : (withL l q b i).take (withN l q i (k + 1)) = L ++ [(p, l[k].2)] := by
            by_cases hf : i < l.length ∧ posOf l i = q
            · exact HN1.out (.inr hf) (by omega)
            · exact HN2.out hik hf
          clear hown2 hgrow
          go_wp2
          go_roundg (l.length - (k + 1))
          case measure => omega
          case rel => exact ⟨k + 1, v', by go_num, by rw [hd2], rfl, by omega, Nat.le_refl _, by rw [E]; exact R1, R2⟩
        · obtain rfl : k = i := by omega
          have hd : decide (k < k) = false := decide_eq_false (by omega)
          have hd2 : decide (k < k + 1) = true := decide_eq_true (by omega)
          have hpq : q ≤ p := by have := HP.out.2.2 k (Nat.le_refl _) hlt; rw [HPK.out] at this; exact this
          have c1' : W1.cell? ⟨g, k * 2, none⟩ = some (.int .i64 p) := by rw [← hb.out.cell (p := ⟨g, k * 2, none⟩) e5]; exact c1
          have c2' : W1.cell? ⟨g, k * 2 + 1, none⟩ = some (.string ⟨l[k].2.toArray⟩) := by rw [← hb.out.cell (p := ⟨g, k * 2 + 1, none⟩) e5]; exact c2
          have x1 : W1.cell? ⟨w.heap.size, 0, none⟩ = some (.int .i64 q) := by rw [← hb.out.cell (p := ⟨w.heap.size, 0, none⟩) hs1]; exact y1
          rw [hd]
          by_cases hq : p = q
          · have E := HN3.out rfl (by rw [HPK.out]; exact hq)
            have hpk2 := HPK.out
            subst hq
            clear HN1 HN2 HN3 HN4
            go_wp2_with fail
            go_quiet (fail)
            go_wp2_with (at_builtin; refine wpList_append_own _ rfl _ _ 25 rfl W1.heap.size 54 i0 (.agg #[.int .i64 0, .string ⟨#[]⟩]) 2 24 Try.underlying25 hi hz0 hz1 hz2 rfl (by decide) _ L.length (refCells L) rfl (ref_own hown.out _) ⟨wr.heap.size, 0, none⟩ 1 1 [.int .i64 p, .string ⟨b.toArray⟩] rfl rfl (ref_new (x := (p, b))) ?c2 ?c3 ?c4 ?c5 ?_)
            case c2 => intro u hu; simp at hu; rcases hu with rfl | rfl <;> rfl
            case c3 => unfold maxLen; have := HLN.out; simp; omega
            case c4 => have := HLN.out; simp; omega
            case c5 => have := hb.out.size; simp; omega
            intro v' w' hown2 hgrow _
            obtain ⟨R1, R2⟩ := ref_pushed hown.out (x := (p, b)) hown2 hgrow hb.out (Nat.le_refl _) hwz
            have z1 := (R2.cell (p := ⟨w.heap.size, 0, none⟩) hs1).trans x1
            have z3 := (R2.cell (p := ⟨g, k * 2, none⟩) e5).trans c1'
            have z4 := (R2.cell (p := ⟨g, k * 2 + 1, none⟩) e5).trans c2'
            clear hown2 hgrow
            go_wp2
            go_quiet (fail)
            go_wp2
            go_roundg (l.length - (k + 1))
            case measure => omega
            case rel => exact ⟨k + 1, v', by go_num, by rw [hd2], rfl, by omega, Nat.le_refl _, by rw [E]; exact ownsRow_heap R1 rfl, below_drewN R2⟩
          · have E := HN4.out rfl (by rw [HPK.out]; exact hq)
            go_wp2_with fail
            go_quiet (fail)
            go_wp2_with (at_builtin; refine wpList_append_own _ rfl _ _ 25 rfl W1.heap.size 54 i0 (.agg #[.int .i64 0, .string ⟨#[]⟩]) 2 24 Try.underlying25 hi hz0 hz1 hz2 rfl (by decide) _ L.length (refCells L) rfl (ref_own hown.out _) ⟨wr.heap.size, 0, none⟩ 1 1 [.int .i64 q, .string ⟨b.toArray⟩] rfl rfl (ref_new (x := (q, b))) ?c2 ?c3 ?c4 ?c5 ?_)
            case c2 => intro u hu; simp at hu; rcases hu with rfl | rfl <;> rfl
            case c3 => unfold maxLen; have := HLN.out; simp; omega
            case c4 => have := HLN.out; simp; omega
            case c5 => have := hb.out.size; simp; omega
            intro v' w' hown2 hgrow _
            obtain ⟨R1, R2⟩ := ref_pushed hown.out (x := (q, b)) hown2 hgrow hb.out (Nat.le_refl _) hwz
            have z1 := (R2.cell (p := ⟨w.heap.size, 0, none⟩) hs1).trans x1
            have z3 := (R2.cell (p := ⟨g, k * 2, none⟩) e5).trans c1'
            have z4 := (R2.cell (p := ⟨g, k * 2 + 1, none⟩) e5).trans c2'
            have HR1 := Lib.hid R1
            have HR2 := Lib.hid R2
            clear hown2 hgrow R1 R2
            go_wp2
            go_quiet (fail)
            have hwz2 : W1.heap.size ≤ w'.heap.size := HR2.out.size
            go_wp2_with (at_builtin; refine wpList_append_own _ rfl _ _ 25 rfl W1.heap.size 54 i0 (.agg #[.int .i64 0, .string ⟨#[]⟩]) 2 24 Try.underlying25 hi hz0 hz1 hz2 rfl (by decide) _ (L ++ [(q, b)]).length (refCells (L ++ [(q, b)])) rfl (ref_own HR1.out _) ⟨w'.heap.size, 0, none⟩ 1 1 [.int .i64 p, .string ⟨l[k].2.toArray⟩] rfl rfl (ref_new (x := (p, l[k].2))) ?c2 ?c3 ?c4 ?c5 ?_)
            case c2 => intro u hu; simp at hu; rcases hu with rfl | rfl <;> rfl
            case c3 => unfold maxLen; have := HLN.out; simp; omega
            case c4 => have := HLN.out; simp; omega
            case c5 => simp; omega
            intro v'' w'' hown2 hgrow _
            obtain ⟨R1, R2⟩ := ref_pushed HR1.out (x := (p, l[k].2)) (by rw [List.length_append]; exact hown2) hgrow HR2.out (Nat.le_refl _) hwz2
            clear hown2 hgrow
            go_wp2
            go_roundg (l.length - (k + 1))
            case measure => omega
            case rel => exact ⟨k + 1, v'', by go_num, by rw [hd2], rfl, by omega, Nat.le_refl _, by rw [E]; exact R1, R2⟩
    · obtain rfl : k = l.length := by omega
      have hown' : Aside (RefAt wr W1.heap.size v5 ((withL l q b i).take (withN l q i l.length))) := hown
      by_cases hil2 : i < l.length
      · have hd : decide (i < l.length) = true := decide_eq_true hil2
        rw [hd]
        have E : (withL l q b i).take (withN l q i l.length) = withL l q b i := List.take_of_length_le (by
          have := with_len (l := l) (q := q) (b := b) hil
          rw [this]; unfold withN; split <;> split <;> omega)
        rw [E] at hown
        go_wp2_with fail
        go_ret
        exact ⟨v5, rfl, ownsRow_base hown.out (by omega), HB1.out.trans (hb.out.mono (by omega))⟩
      · obtain rfl : i = l.length := by omega
        have hd : decide (l.length < l.length) = false := decide_eq_false (by omega)
        rw [hd]
        have E : withL l q b l.length = l ++ [(q, b)] := by
          unfold withL moreL; rw [if_neg (by omega)]; simp
        have E2 : (withL l q b l.length).take (withN l q l.length l.length) = l := by
          rw [E, show withN l q l.length l.length = l.length by unfold withN; rw [if_pos (.inl (Nat.le_refl _))]]; simp
        rw [E2] at hown
        have HLN : Hid (l.length ≤ 1001) := Lib.hid (by omega)
        have HE := Lib.hid E
        clear E E2 hown'
        go_wp2_with (at_builtin; refine wpList_append_own _ rfl _ _ 25 rfl W1.heap.size 54 i0 (.agg #[.int .i64 0, .string ⟨#[]⟩]) 2 24 Try.underlying25 hi hz0 hz1 hz2 rfl (by decide) _ l.length (refCells l) rfl (ref_own (m := 0) hown.out _) ⟨wr.heap.size, 0, none⟩ 1 1 [.int .i64 q, .string ⟨b.toArray⟩] rfl rfl (ref_new (m := 0) (x := (q, b))) ?c2 ?c3 ?c4 ?c5 ?_)
        case c2 => intro u hu; simp at hu; rcases hu with rfl | rfl <;> rfl
        case c3 => unfold maxLen; have := HLN.out; simp; omega
        case c4 => have := HLN.out; simp; omega
        case c5 => have := hb.out.size; simp; omega
        intro v' w' hown2 hgrow _
        obtain ⟨R1, R2⟩ := ref_pushed (m := 0) hown.out (x := (q, b)) hown2 hgrow hb.out (Nat.le_refl _) hb.out.size
        clear hown2 hgrow
        go_wp2
        go_ret
        exact ⟨v', rfl, by rw [HE.out]; exact ownsRow_base R1 (by omega), HB1.out.trans (R2.mono (by omega))⟩
end Go.Proofs.Ytiagpaoomijidaa
