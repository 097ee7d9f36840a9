import Derived.Test.YtiagpaoomijidaaSt17b
import Derived.Deep.DrawnRows
import Derived.Deep.QuietTactic
import Derived.BigQuiet
namespace Go.Proofs.Ytiagpaoomijidaa
open Go.RowKit Go.Proofs
set_option linter.unusedVariables false
attribute [local go_sem ↓] Go.wp_at_zero Go.wp_at_succ

set_option maxRecDepth 100000 in
set_option maxHeartbeats 2000000 in
theorem put_new (sb base most : Nat) (l : List (Int × List UInt8)) (q : Int) (bv : Value) (b : List UInt8) (i : Nat) (w : World) (h : StoreAt w base sb most l) (hm : 0 < most) (hq : 0 ≤ q) (hr : Rising l) (hl : l.length ≤ 999) (hb : BytesIn w bv b) (hbl : b.length ≤ 140737488351232)
    (hp : Place (posOf l) l.length q i) (hpi : ¬ (i < l.length ∧ posOf l i = q)) (hrg : Ranged l) (hq2 : q ≤ 9223372036854775807) (hbase : base ≤ w.heap.size) :
    Calls Try.prog 12 #[.pointer (some ⟨sb, 0, none⟩), .int .i64 q, bv] w fun e w' => e = .returned (.int .i64 0) ∧ StoreAt w' base sb most (grownL most l q b i) ∧ BelowX sb base w w' := by
  have HS : Hid (StoreAt w base sb most l) := Lib.hid h
  have HP : Hid (Place (posOf l) l.length q i) := Lib.hid hp
  have HR : Hid (Rising l) := Lib.hid hr
  obtain ⟨sv, it, h1, h2, h3⟩ := h
  have hlen := h3.len
  have HRG : Hid (Ranged (moreL l q b i)) := Lib.hid fun x hx => by
    rcases List.mem_append.1 hx with h | h
    · exact hrg x (List.mem_of_mem_take h)
    · rcases List.mem_cons.1 h with rfl | h
      · exact ⟨hq, hq2⟩
      · exact hrg x (List.mem_of_mem_drop h)
  have hml : (moreL l q b i).length = l.length + 1 := more_len _ _ _ hp.1
  obtain ⟨so1, c1, rfl⟩ := row_form h3.row
  have hil : i ≤ l.length := hp.1
  have HINS : Hid (∀ w4 v', Below w.heap.size w w4 → BytesAt w4 w.heap.size v' b → w4.cell? ⟨w.heap.size, 0, none⟩ = some (.int .i64 q) → Calls Try.prog 23 #[.slice so1 l.length c1, .int .i64 i, .slice (some ⟨w4.heap.size, 0, none⟩) 1 1] (w4.alloc (.cells #[.int .i64 q, v'] 57)) fun e w5 =>
      ∃ so c, e = .returned (.slice so (l.length + 1) c) ∧ w5.cell? ⟨sb, 1, none⟩ = some (.slice so1 l.length c1) ∧ w5.frozen? ⟨sb, 1, none⟩ = false ∧
        Aside (StoreAt (w5.setCell ⟨sb, 1, none⟩ (.slice so (l.length + 1) c)) base sb most (moreL l q b i) ∧ BelowX sb base w (w5.setCell ⟨sb, 1, none⟩ (.slice so (l.length + 1) c)) ∧ (w5.setCell ⟨sb, 1, none⟩ (.slice so (l.length + 1) c)).cell? ⟨w.heap.size, 0, none⟩ = some (.int .i64 q) ∧
          (w5.setCell ⟨sb, 1, none⟩ (.slice so (l.length + 1) c)).cell? ⟨sb, 0, none⟩ = some (.int .i64 most) ∧ (w5.setCell ⟨sb, 1, none⟩ (.slice so (l.length + 1) c)).cell? ⟨sb, 1, none⟩ = some (.slice so (l.length + 1) c))) := Lib.hid fun w4 v' hbw hv hq4 => by
    have hb4 := hbw.alloc hbw.size (.cells #[.int .i64 q, v'] 57)
    have hsz : (w4.alloc (.cells #[.int .i64 q, v'] 57)).heap.size = w4.heap.size + 1 := by show (w4.heap.push _).size = _; simp
    rw [← hlen]
    refine (insert_any i w4.heap.size base (.slice so1 it.length c1) it q v' _ (h3.row.below hb4) (one_of_row it h3.one) (by show (w4.heap.push _)[_]? = _; simp) (by obtain ⟨o, c, rfl⟩ := bytes_form hv; rfl)
      (fun e => by have := (own57 h3.row _ e).2.1; have := hbw.size; omega) (Nat.le_trans hbase hb4.size) (by omega) (by omega)).mono ?_
    rintro e w5 ⟨sv', rfl, hrow, hg⟩
    obtain ⟨p1, p2, p3, p4, p5, ⟨so, c, rfl⟩, p7, p8⟩ := ins_post h1 h2 h3 hbase hil hbw hv hrow hg (Nat.le_refl _) hq4
    rw [hlen] at p1 ⊢
    exact ⟨so, c, rfl, p1, p2, p3, p4, p5, p7, p8⟩
  have k0 : w.cell? ⟨sb, 1, none⟩ = some (.slice so1 l.length c1) := by rw [cell_block h1, ← hlen]; rfl
  have c0 : w.cell? ⟨sb, 0, none⟩ = some (.int .i64 most) := by simp [World.cell?, h1]
  have ha : sb < w.heap.size := World.block_lt_of_cell? w _ c0
  have HC : Hid (∀ W, Below w.heap.size w W → Calls Try.prog 21 #[bv] W fun e w' => Cloned W w' b e) := Lib.hid fun W hW => clone_any (by
    rcases hb with h | ⟨a, cap, h, hc⟩
    · exact .inl h
    · exact .inr ⟨a, cap, h, fun j u hu => by
        have := hc j u hu
        rw [hW.cell (World.block_lt_of_cell? w _ this)]; exact this⟩) hbl
  clear h3 hp hb hr
  go_enter Try.func12, Try.ntmps12
  go_wp2_with (first
    | (go_at_call 20; refine (made_yes _ most _ hm ((World.cell?_alloc_lt _ _ _ ha).trans c0)).mono ?_; rintro e w' ⟨rfl, rfl⟩))
  go_region_held3 (fun w' => w'.cell? ⟨w.heap.size, 0, none⟩ = some (.int .i64 q) ∧ Below w.heap.size w w')
    (first
      | exact pre_start w q
      | exact pre_alloc _ (pre_start w q).1 (pre_start w q).2
      | exact pre_call (pre_start w q).1 (pre_start w q).2 hbv
      | exact pre_alloc _ (pre_call (pre_start w q).1 (pre_start w q).2 hbv).1 (pre_call (pre_start w q).1 (pre_start w q).2 hbv).2
      | exact pre_call (pre_alloc _ (pre_start w q).1 (pre_start w q).2).1 (pre_alloc _ (pre_start w q).1 (pre_start w q).2).2 hbv
      | exact pre_set2 (pre_call (pre_alloc _ (pre_start w q).1 (pre_start w q).2).1 (pre_alloc _ (pre_start w q).1 (pre_start w q).2).2 hbv))
    (first
      | (go_at_call 21; refine (HC.out _ (by first | assumption | exact (pre_start w q).2 | exact (pre_alloc _ (pre_start w q).1 (pre_start w q).2).2)).mono ?_; rintro e w2 ⟨v', rfl, hv', hbv⟩; obtain ⟨so, sc, rfl⟩ := bytes_form hv'; refine And.elim (fun f0 ff => And.elim (fun f1 fg => And.elim (fun f2 f3 => ?_) fg) ff) (pre_item hbv))
      | (go_at_call 21; refine (HC.out _ (by first | assumption | exact (pre_start w q).2 | exact (pre_alloc _ (pre_start w q).1 (pre_start w q).2).2)).mono ?_; rintro e w2 ⟨v', rfl, hv', hbv⟩; obtain ⟨so, sc, rfl⟩ := bytes_form hv'))
  all_goals first | (refine name_exit (M := fun W => Mid w W q b w2.heap.size (.slice so b.length sc)) (midA hv' hbv) ?_; generalize w2.heap.size = vb) | (refine name_exit (M := fun W => Mid w W q b (w.heap.size + 1) (.slice so b.length sc)) (midB hv' hbv) ?_; generalize w.heap.size + 1 = vb)
  all_goals
    clear hbv hv'
    intro W HM
    obtain ⟨hitem, habove, hcell, hbytes, hbelow⟩ := HM
    have HSW : Hid (StoreAt W base sb most l) := Lib.hid (HS.out.below hbelow)
    have HIT := Lib.hid hitem
    have HBY := Lib.hid hbytes
    have HBE := Lib.hid hbelow
    clear hitem hbytes hbelow
    go_wp2_with (go_at_call 22; refine (find_any sb base most l q _ HSW.out HR.out (by omega)).mono ?_; rintro e w3 ⟨i', hp', rfl, hb3⟩; obtain rfl := place_unique HP.out hp'; clear hp'; have hd1 : (decide (i < l.length) && decide (posOf l i = q)) = false := (by simpa using hpi); rw [hd1]; clear hd1)
    have hb4 := HBE.out.trans (hb3.mono HBE.out.size)
    have k1 : w3.cell? ⟨sb, 1, none⟩ = some (.slice so1 l.length c1) := (hb4.cell ha).trans k0
    have k6 : w3.cell? ⟨vb, 0, none⟩ = some (.int .i64 q) := (hb3.cell (World.block_lt_of_cell? W _ ((cell_block HIT.out).trans rfl))).trans ((cell_block HIT.out (o := 0)).trans rfl)
    have k7 : w3.cell? ⟨vb, 1, none⟩ = some (.slice so b.length sc) := (hb3.cell (World.block_lt_of_cell? W _ ((cell_block HIT.out).trans rfl))).trans ((cell_block HIT.out (o := 1)).trans rfl)
    have k8 : w3.cell? ⟨w.heap.size, 0, none⟩ = some (.int .i64 q) := (hb3.cell (World.block_lt_of_cell? W _ hcell)).trans hcell
    have HI3 : Hid (Calls Try.prog 23 #[.slice so1 l.length c1, .int .i64 i, .slice (some ⟨w3.heap.size, 0, none⟩) 1 1] (w3.alloc (.cells #[.int .i64 q, .slice so b.length sc] 57)).drew _) := Lib.hid (HINS.out w3.drew _ hb4.drew (ownsRow_below (ownsRow_below HBY.out hb3) (Below.refl _ _).drew) k8)
    clear HINS HIT HBY HBE HSW HS HP HR HC hb3 hb4 habove hcell k8 k0
    have k1a : (w3.alloc (.cells #[.int .i64 q, .slice so b.length sc] 57)).cell? ⟨sb, 1, none⟩ = some (.slice so1 l.length c1) := (World.cell?_alloc_lt _ _ _ (World.block_lt_of_cell? w3 _ k1)).trans k1
    have k1' : w3.drew.cell? ⟨sb, 1, none⟩ = some (.slice so1 l.length c1) := k1
    have k6' : w3.drew.cell? ⟨vb, 0, none⟩ = some (.int .i64 q) := k6
    have k7' : w3.drew.cell? ⟨vb, 1, none⟩ = some (.slice so b.length sc) := k7
    have n1 := World.new_ne w3 _ k1
    have n2 := World.new_ne w3 _ k6
    have n3 := World.new_ne w3 _ k7
    go_region_law (first | (go_simp; go_at_call 23; refine HI3.out.mono ?_; rintro e w5 ⟨so2, c2, rfl, j1, j2, J⟩))
    all_goals
      refine name_exit (M := fun W' => StoreAt W' base sb most (moreL l q b i) ∧ BelowX sb base w W' ∧ W'.cell? ⟨w.heap.size, 0, none⟩ = some (.int .i64 q) ∧ W'.cell? ⟨sb, 0, none⟩ = some (.int .i64 most) ∧ W'.cell? ⟨sb, 1, none⟩ = some (.slice so2 (l.length + 1) c2)) J ?_
      clear J HI3 k1 k1' k1a k6 k6' k7 k7' n1 n2 n3 j1 j2
      rintro W6 ⟨J1, J2, J3, J4, J5⟩
      have HJ1 := Lib.hid J1
      have HJ2 := Lib.hid J2
      clear J1 J2
      have HG : Hid (grownL most l q b i = if (moreL l q b i).length ≤ most then moreL l q b i else (moreL l q b i).eraseIdx (goesL (moreL l q b i) q i)) := Lib.hid rfl
      generalize moreL l q b i = l' at *
      by_cases hmost : most < l.length + 1
      · have hm1 : (most : Int) < (l.length : Int) + 1 := by omega
        have hsr := scanN_range l' q l'.length
        have HSC : Hid (NearPost l' q = fun w w' e => e = .returned (.int .i64 (scanN l' q l'.length)) ∧ Below w.heap.size w w') := Lib.hid rfl
        have HGO : Hid (goesL l' q i = if scanN l' q l'.length < 0 then i else (scanN l' q l'.length).toNat) := Lib.hid rfl
        by_cases hg : scanN l' q l'.length < 0
        · generalize scanN l' q l'.length = sn at *
          go_wp2_with fail
          go_quiet (fail)
          generalize hW7 : W6.drewN nq = W7
          have hb7 : Below W6.heap.size W6 W7 := by rw [← hW7]; exact below_drewN (Below.refl _ _)
          have HJ7 := Lib.hid (HJ1.out.below hb7)
          have j7 : W7.cell? ⟨w.heap.size, 0, none⟩ = some (.int .i64 q) := (hb7.cell (World.block_lt_of_cell? W6 _ J3)).trans J3
          clear hW7 J3 J4 J5
          go_wp2_with (first
            | (go_at_call 24; refine (nearest_any sb base most l' q ⟨w.heap.size, 0, none⟩ _ HJ7.out j7 HRG.out (by omega)).mono ?_; rw [HSC.out]; rintro e w8 ⟨rfl, hb8⟩)
            | (go_at_call 26; refine (drop_any sb base most l' i _ (HJ7.out.below hb8) (by omega) (by omega) (Nat.le_trans hbase (Nat.le_trans HJ2.out.size (Nat.le_trans hb7.size hb8.size)))).mono ?_; rintro e w9 ⟨rfl, hst, hb9⟩))
          all_goals
            go_ret
            have e : grownL most l q b i = l'.eraseIdx i := by rw [HG.out, if_neg (by omega), HGO.out, if_pos hg]
            rw [e]
            exact ⟨rfl, hst, (HJ2.out.trans (BelowX.full hb7)).trans ((BelowX.full hb8).trans hb9)⟩
        · obtain ⟨gn, hgn⟩ : ∃ gn : Nat, scanN l' q l'.length = gn := ⟨(scanN l' q l'.length).toNat, by omega⟩
          have hgl : gn < l'.length := by omega
          rw [hgn] at HSC HGO hg
          clear hsr hgn
          have hg2 : ¬ (gn : Int) < 0 := by omega
          go_wp2_with fail
          go_quiet (fail)
          generalize hW7 : W6.drewN nq = W7
          have hb7 : Below W6.heap.size W6 W7 := by rw [← hW7]; exact below_drewN (Below.refl _ _)
          have HJ7 := Lib.hid (HJ1.out.below hb7)
          have j7 : W7.cell? ⟨w.heap.size, 0, none⟩ = some (.int .i64 q) := (hb7.cell (World.block_lt_of_cell? W6 _ J3)).trans J3
          clear hW7 J3 J4 J5
          go_wp2_with (first
            | (go_at_call 24; refine (nearest_any sb base most l' q ⟨w.heap.size, 0, none⟩ _ HJ7.out j7 HRG.out (by omega)).mono ?_; rw [HSC.out]; rintro e w8 ⟨rfl, hb8⟩)
            | (go_at_call 26; refine (drop_any sb base most l' gn _ (HJ7.out.below hb8) (by omega) (by omega) (Nat.le_trans hbase (Nat.le_trans HJ2.out.size (Nat.le_trans hb7.size hb8.size)))).mono ?_; rintro e w9 ⟨rfl, hst, hb9⟩))
          all_goals
            go_ret
            have e : grownL most l q b i = l'.eraseIdx gn := by rw [HG.out, if_neg (by omega), HGO.out, if_neg (by omega), Int.toNat_natCast]
            rw [e]
            exact ⟨rfl, hst, (HJ2.out.trans (BelowX.full hb7)).trans ((BelowX.full hb8).trans hb9)⟩
      · have hm1 : ¬ (most : Int) < (l.length : Int) + 1 := by omega
        go_wp2_with fail
        go_quiet (fail)
        go_wp2
        go_ret
        have e : grownL most l q b i = l' := by rw [HG.out, if_pos]; omega
        rw [e]
        exact ⟨rfl, HJ1.out.below (below_drewN (Below.refl _ _)), HJ2.out.drewN⟩
end Go.Proofs.Ytiagpaoomijidaa
