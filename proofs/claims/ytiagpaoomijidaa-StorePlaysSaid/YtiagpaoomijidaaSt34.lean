import Derived.Test.YtiagpaoomijidaaSt33
namespace Go.Proofs.Ytiagpaoomijidaa
open Go.RowKit Go.Proofs
set_option linter.unusedVariables false

set_option maxRecDepth 100000 in
set_option maxHeartbeats 2000000 in
theorem kept_main (most : Int) (so bo : Option Addr) (n c bn bc : Nat) (bl : List UInt8) (P : Nat → Int) (Q : Nat → ByteArray) (w : World) (ha : ActsIn w so n P Q) (hf : ActsFit n Q) (hn : n ≤ 300) (hbv : BytesIn w (.slice bo bn bc) bl) (hbl : bl.length ≤ 140737488351232) :
    Calls Try.prog 5 #[.int .i64 most, .slice so n c, .slice bo bn bc] w fun e w' => e = .returned (.bool true) ∧ Below w.heap.size w w' := by
  have hn1 : ¬ (300 : Int) < (n : Int) := by omega
  have HD := Lib.hid (done_any most so n c P Q w ha hf hn)
  have HA := Lib.hid ha
  have HBV := Lib.hid hbv
  clear hbv
  clear ha hf
  go_enter Try.func5, Try.ntmps5
  go_wp2_with (first
    | (go_at_call 18; with_reducible refine HD.out.mono ?_; rintro e w1 ⟨rfl, may, l, hmay, hk, S, hb1⟩))
  have hm1 : 1 ≤ may := by omega
  have hm2 : may ≤ 64 := by omega
  obtain ⟨N, hN⟩ : ∃ N, N = w.heap.size := ⟨_, rfl⟩
  rw [← hN] at S hb1 ⊢
  have hlm : l.length ≤ may := by obtain ⟨_, hf⟩ := hk.first; exact hf.len
  have C2 := Lib.hid (all_gen S (by omega) (by omega))
  have HS := Lib.hid S
  have HK := Lib.hid hk
  have HB1 := Lib.hid hb1
  have HN := Lib.hid hN
  clear S hk hb1 hN hmay HD
  go_at_call 16
  refine C2.out.mono ?_
  rintro e w2 ⟨ao, ac, rfl, hc2, hb2⟩
  have HC2 := Lib.hid hc2.out
  have S2 : StoreAt w2 N N may l := HS.out.below hb2
  have HS2 := Lib.hid S2
  have HB2 : Hid (Below N w w2) := Lib.hid (HB1.out.trans (hb2.mono (by have := HB1.out.size; have := HN.out; omega)))
  clear hc2 S2 C2 HS HB1 hb2
  simp only
  go_wp2_with fail
  go_loopg [9] l.length (fun kx s9 wr => ∃ (i : Nat), s9 = .int .i64 i ∧ i ≤ l.length ∧ l.length - i ≤ kx ∧ Aside (Below w2.heap.size w2 wr))
  case atStart => exact ⟨0, rfl, by omega, by omega, Below.refl _ _⟩
  case round =>
    obtain ⟨i, rfl, hi, hg, L⟩ := hrel
    by_cases hil : i < l.length
    · obtain ⟨g, hao, hgb, hcell⟩ := HC2.out i hil
      subst hao
      have c1 : wr.cell? ⟨g, i, none⟩ = some (.int .i64 (posOf l i)) := (L.out.cell (p := ⟨g, i, none⟩) hgb).trans hcell
      have C3 := Lib.hid (floor_kept (HS2.out.below L.out) HK.out (by omega) hm2 hil)
      have C4 : Hid (∀ W, Below w2.heap.size w2 W → Calls Try.prog 13 #[.pointer (some ⟨N, 0, none⟩), .int .i64 (posOf l i)] W fun e w' => ∃ o m c, e = .returned (.tuple #[.int .i64 (posOf l i), .slice o m c, .bool true]) ∧
          Aside (∀ W, Below w'.heap.size w' W → (convert 36 9 (.slice o m c)).run Try.prog W = .ok (.string (lastP P Q (posOf l i) n)) W) ∧ Aside (∀ k, k < m → ∃ g, o = some ⟨g, 0, none⟩ ∧ W.heap.size ≤ g ∧ Bytey w' g m) ∧ m ≤ 140737488351232 ∧ Below W.heap.size W w') := Lib.hid fun W hW => floor_kept (HS2.out.below hW) HK.out (by omega) hm2 hil
      have c0 : ∀ W, Below w2.heap.size w2 W → W.cell? ⟨g, i, none⟩ = some (.int .i64 (posOf l i)) := fun W hW => (hW.cell (p := ⟨g, i, none⟩) hgb).trans hcell
      have HC0 := Lib.hid c0
      generalize posOf l i = p at *
      have HL := Lib.hid L.out
      clear L c0 hcell
      generalize wr = wo at *
      go_wp2_with (first
        | (go_at_call 13; with_reducible refine C3.out.mono ?_; rintro e w3 ⟨o, m, c', rfl, hcv, hby, hmb, hb3⟩))
      have hcvw := hcv.out
      have HBY := Lib.hid hby.out
      have HB3 := Lib.hid hb3
      have HB23 : Hid (Below w2.heap.size w2 w3) := Lib.hid (HL.out.trans (hb3.mono HL.out.size))
      have HB03 : Hid (Below w.heap.size w w3) := Lib.hid ((HN.out ▸ HB2.out).trans (HB23.out.mono (by have := HB2.out.size; omega)))
      clear hcv hby hb3 C3 c1
      go_loopg [13, 14] n (fun kx s13 s14 W => ∃ (k : Nat), s14 = .int .i64 k ∧ s13 = .string (lastP P Q p k) ∧ k ≤ n ∧ n - k ≤ kx ∧ Aside (Below w3.heap.size w3 W))
      case atStart => exact ⟨0, rfl, rfl, by omega, by omega, Below.refl _ _⟩
      case round =>
        obtain ⟨k, rfl, rfl, hk, hg2, I⟩ := hrel
        by_cases hkn : k < n
        · obtain ⟨ab, aof, hso, hbw, q0, q1, b1, b2⟩ := acts_cells HA.out hkn
          have hB : Below w.heap.size w wr := HB03.out.trans (I.out.mono HB03.out.size)
          have d1 : wr.cell? ⟨ab, aof + k * 2, none⟩ = some (.int .i64 (P k)) := (hB.cell hbw).trans q0
          have d2 : wr.cell? ⟨ab, aof + k * 2 + 1, none⟩ = some (.string (Q k)) := (hB.cell hbw).trans q1
          have d3 := HC0.out wr (HB23.out.trans (I.out.mono HB23.out.size))
          have HI := Lib.hid I.out
          subst hso
          have hk0 : (0 : Int) ≤ (k : Int) := by omega
          have hk1 : (k : Int) < (n : Int) := by omega
          have hi0 : (0 : Int) ≤ (i : Int) := by omega
          have hi1 : (i : Int) < (l.length : Int) := by omega
          clear q0 q1 hB I
          by_cases hpk : P k = p
          · have e1 : lastP P Q p (k + 1) = Q k := by rw [lastP, if_pos hpk]
            have E1 := Lib.hid e1
            generalize Q k = qk at *
            clear e1
            rw [hpk] at d1
            go_wp2_with fail
            go_quiet (fail)
            go_wp2
            go_roundg (n - (k + 1))
            case measure => omega
            case rel => exact ⟨k + 1, by go_num, by rw [E1.out], by omega, Nat.le_refl _, below_drewN HI.out⟩
          · have e1 : lastP P Q p (k + 1) = lastP P Q p k := by rw [lastP, if_neg hpk]
            have E1 := Lib.hid e1
            generalize P k = pk at *
            clear e1
            go_wp2_with fail
            go_quiet (fail)
            go_wp2
            go_roundg (n - (k + 1))
            case measure => omega
            case rel => exact ⟨k + 1, by go_num, by rw [E1.out], by omega, Nat.le_refl _, below_drewN HI.out⟩
        · obtain rfl : k = n := by omega
          have d3 := HC0.out wr (HB23.out.trans (I.out.mono HB23.out.size))
          have hcv3 := hcvw wr I.out
          have HI := Lib.hid I.out
          have hi0 : (0 : Int) ≤ (i : Int) := by omega
          have hi1 : (i : Int) < (l.length : Int) := by omega
          clear I
          generalize lastP P Q p k = want at *
          go_wp2_with fail
          have HX : Hid (Below wo.heap.size wo wr ∧ ∀ k, k < m → ∃ g, o = some ⟨g, 0, none⟩ ∧ wo.heap.size ≤ g ∧ Bytey wr g m) := Lib.hid ⟨HB3.out.trans (HI.out.mono HB3.out.size), fun k hk => by
            obtain ⟨g, e1, e2, e3⟩ := HBY.out k hk
            exact ⟨g, e1, e2, e3.below HI.out⟩⟩
          clear HI HBY HB3 hcvw d3 hcv3
          generalize wr = wi at *
          go_loopg [15] m (fun kx s15 W => ∃ (j : Nat), s15 = .int .i64 j ∧ j ≤ m ∧ m - j ≤ kx ∧ Aside (Below wo.heap.size wo W ∧ ∀ k, k < m → ∃ g, o = some ⟨g, 0, none⟩ ∧ wo.heap.size ≤ g ∧ Bytey W g m))
          case atStart => exact ⟨0, rfl, by omega, by omega, HX.out⟩
          case round =>
            obtain ⟨j, rfl, hj, hg3, J⟩ := hrel
            by_cases hjm : j < m
            · obtain ⟨gx, e1, e2, e3⟩ := J.out.2 j hjm
              subst e1
              obtain ⟨z, d4⟩ := e3.cell hjm
              have d5 := e3.frozen (k := j)
              have HJ : Hid (∀ z', Below wo.heap.size wo (wr.setCell ⟨gx, j, none⟩ (.int .u8 z')) ∧ ∀ k, k < m → ∃ g, some (⟨gx, 0, none⟩ : Addr) = some ⟨g, 0, none⟩ ∧ wo.heap.size ≤ g ∧ Bytey (wr.setCell ⟨gx, j, none⟩ (.int .u8 z')) g m) := Lib.hid fun z' =>
                ⟨J.out.1.setCell (by exact e2) _, fun k hk => ⟨gx, rfl, e2, e3.set j z'⟩⟩
              clear J e2 e3
              have hj0 : (0 : Int) ≤ (j : Int) := by omega
              have hj1 : (j : Int) < (m : Int) := by omega
              go_wp2_with fail
              go_roundg (m - (j + 1))
              case measure => omega
              case rel => exact ⟨j + 1, by go_num, by omega, Nat.le_refl _, HJ.out _⟩
            · obtain rfl : j = m := by omega
              have hB := HL.out.trans (J.out.1.mono HL.out.size)
              have d3 := HC0.out wr hB
              have C5 := Lib.hid (C4.out wr hB)
              have HB := Lib.hid hB
              clear hB J C4
              go_wp2_with (first
                | (go_at_call 13; with_reducible refine C5.out.mono ?_; rintro e w5 ⟨o5, m5, c5, rfl, hcv5, hby5, hmb5, hb5⟩; have hcv6 := hcv5.out w5 (Below.refl _ _)))
              go_roundg (l.length - (i + 1))
              case measure => omega
              case rel => exact ⟨i + 1, by go_num, by omega, Nat.le_refl _, HB.out.trans (hb5.mono HB.out.size)⟩
    · obtain rfl : i = l.length := by omega
      have HL : Hid (Below w.heap.size w wr) := Lib.hid ((HN.out ▸ HB2.out).trans (L.out.mono (by have := HB2.out.size; have := HN.out; omega)))
      clear L HC2 HS2 HB2 HK HA
      obtain ⟨i0, hi0, hz0, hz1, hz2⟩ := info_parts info5
      have hb := HBV.out
      have GOAL : ∀ (o4 : Option Addr) (m4 c4 : Nat) (w3 w4 : World), w3.heap[wr.heap.size]? = some (.cells #[.int .i64 (5 : Nat), .slice none 0 0] 51 (0, 0)) → Below wr.heap.size wr w3 → Below w3.heap.size w3 w4 → bl.length = m4 → BytesAt w4 w3.heap.size (.slice o4 m4 c4) bl →
          Hid (Calls Try.prog 12 #[.pointer (some ⟨wr.heap.size, 0, none⟩), .int .i64 0, .slice o4 m4 c4] w4 fun e w5 => e = .returned (.int .i64 0) ∧ TurnAt wr w5 wr.heap.size w4.heap.size bl o4) := fun o4 m4 c4 w3 w4 h3 hb3 hb4 hm4 hW => by
        subst hm4
        have hlt : wr.heap.size < w3.heap.size := (Array.getElem?_eq_some_iff.1 h3).1
        refine Lib.hid ((put_one (w := w4) (M := wr.heap.size) (by rw [hb4.block _ hlt]; exact h3) hW.isIn hbl).mono ?_)
        rintro e w5 ⟨rfl, hX, hS⟩
        exact ⟨rfl, turn_start hW hb3.size hlt (Nat.le_refl _) (hb3.trans (hb4.mono hb3.size)) hX hS⟩
      have HCB : Hid (∀ W, Below w.heap.size w W → (convert 36 9 (.slice bo bn bc)).run Try.prog W = .ok (.string ⟨bl.toArray⟩) W) := Lib.hid fun W hW => conv_back (bytesIn_below HBV.out hW rfl)
      have GOAL' := Lib.hid GOAL
      clear GOAL
      rcases hb with ⟨e, hbe⟩ | ⟨ba, bcc, e, hcells⟩
      · cases e
        go_wp2_with (first
          | (go_at_call 8; with_reducible refine (new_fresh 5 _).mono ?_; rintro e w3 ⟨rfl, hst3, hb3⟩))
        have HP := GOAL'.out (some ⟨w3.heap.size, 0, none⟩) 0 0 w3 (w3.alloc (.cells #[] 5)) hst3 hb3 ((Below.refl _ _).alloc (Nat.le_refl _) _) (by rw [hbe]; rfl) (by rw [hbe]; exact World.ownsRow_made w3 #[] 0 (Nat.le_refl _) (Nat.zero_le _) rfl)
        obtain ⟨w4, hw4⟩ : ∃ w4, w4 = w3.alloc (.cells #[] 5) := ⟨_, rfl⟩
        obtain ⟨o4, ho4⟩ : ∃ o4, o4 = some (⟨w3.heap.size, 0, none⟩ : Addr) := ⟨_, rfl⟩
        rw [← ho4, ← hw4] at HP ⊢
        have hlen : bl.length = 0 := by rw [hbe]; rfl
        go_at_call 12
        refine HP.out.mono ?_
        rintro e w5 ⟨rfl, HT⟩
        have HT5 := Lib.hid HT
        have HLN := Lib.hid hlen
        clear HP HT hlen hst3 hb3
        simp only
        generalize wr = wo at *
        go_wp2_with fail
        go_loopg [21] 0 (fun kx s21 W => ∃ (j : Nat), s21 = .int .i64 j ∧ j ≤ 0 ∧ 0 - j ≤ kx ∧ Aside (TurnAt wo W wo.heap.size w4.heap.size bl o4))
        case atStart => exact ⟨0, rfl, by omega, by omega, HT5.out⟩
        case round =>
          obtain ⟨j, rfl, hj, hg3, J⟩ := hrel
          by_cases hjm : j < 0
          · first
            | (exfalso; omega)
            | (obtain ⟨gx, e1, e2, e3, e4, e6⟩ := J.out.bytes j hjm
               subst e1
               obtain ⟨z, d4⟩ := e6.cell hjm
               have d5 := e6.frozen (k := j)
               have HJ : Hid (∀ z', TurnAt wo (wr.setCell ⟨gx, j, none⟩ (.int .u8 z')) wo.heap.size w4.heap.size bl (some ⟨gx, 0, none⟩)) := Lib.hid fun z' => J.out.set e2 e3 e4 j z'
               clear J e2 e3 e4 e6
               have hj0 : (0 : Int) ≤ (j : Int) := by omega
               have hj1 : (j : Int) < (bl.length : Int) := by omega
               go_wp2_with fail
               go_roundg (bl.length - (j + 1))
               case measure => omega
               case rel => exact ⟨j + 1, by go_num, by omega, Nat.le_refl _, HJ.out _⟩)
          · obtain rfl : j = 0 := by omega
            have C6 := Lib.hid (floor_one J.out.store hbl)
            have HJ := Lib.hid J.out.below
            clear J
            go_wp2_with (first
              | (go_at_call 13; with_reducible refine C6.out.mono ?_; rintro e w6 ⟨v6, rfl, hcv6, hb6⟩; have hcv7 := hcv6.out; have hcv8 := HCB.out w6 (HL.out.trans ((HJ.out.mono HL.out.size).trans (hb6.mono (by have := HL.out.size; have := HJ.out.size; omega)))); clear hcv6)
              | (go_at_call 10; with_reducible refine (lives_any _).mono ?_; rintro e w9 ⟨rfl, hb9⟩))
            go_ret
            refine ⟨rfl, HL.out.trans ((HJ.out.mono HL.out.size).trans ((hb6.mono (by have := HL.out.size; have := HJ.out.size; omega)).trans (hb9.mono ?_)))⟩
            have h1 := HL.out.size
            have h2 := HJ.out.size
            have h3 := hb6.size
            omega
      · cases e
        have HCL := Lib.hid hcells
        clear hcells
        go_wp2_with (first
          | (go_at_call 8; with_reducible refine (new_fresh 5 _).mono ?_; rintro e w3 ⟨rfl, hst3, hb3⟩)
          | (at_builtin; refine wpList_append_own _ rfl _ _ 36 rfl w3.heap.size 5 i0 (.int .u8 0) 1 1 Try.underlying36 hi0 hz0 hz1 hz2 rfl (by decide) _ 0 [] rfl (World.ownsRow_made w3 #[] 0 (Nat.le_refl _) (Nat.zero_le _) rfl) ba bl.length bc (bl.map byteV) rfl ?c1 ?c2 ?c3 ?c4 ?c5 ?c6 ?_))
        case c1 => simp
        case c2 =>
          intro j u hu
          have hc := HCL.out j u hu
          have h1 := World.block_lt_of_cell? w _ hc
          have h2 := HL.out.size
          have h3 := hb3.size
          rw [World.cell?_alloc_lt _ _ _ (by omega), hb3.cell (by omega), HL.out.cell h1]
          exact hc
        case c3 => intro u hu; simp at hu; obtain ⟨x, _, rfl⟩ := hu; rfl
        case c4 => unfold maxLen; omega
        case c5 => omega
        case c6 => simp
        intro v' w4 hown hgrow _
        have hown' : BytesAt w4 w3.heap.size v' bl := by simpa [BytesAt] using hown
        obtain ⟨o4, c4, rfl⟩ := hown'.form
        have HP := GOAL'.out o4 bl.length c4 w3 w4 hst3 hb3 (((Below.refl _ _).alloc (Nat.le_refl _) _).grown hgrow (by simp) (fun k h => by simp [Value.ownBlock] at h; omega)) rfl hown'
        clear hown hown' hgrow
        have hlen : bl.length = bl.length := rfl
        go_wp2_with fail
        go_at_call 12
        refine HP.out.mono ?_
        rintro e w5 ⟨rfl, HT⟩
        have HT5 := Lib.hid HT
        have HLN := Lib.hid hlen
        clear HP HT hlen hst3 hb3
        simp only
        generalize wr = wo at *
        go_wp2_with fail
        go_loopg [21] bl.length (fun kx s21 W => ∃ (j : Nat), s21 = .int .i64 j ∧ j ≤ bl.length ∧ bl.length - j ≤ kx ∧ Aside (TurnAt wo W wo.heap.size w4.heap.size bl o4))
        case atStart => exact ⟨0, rfl, by omega, by omega, HT5.out⟩
        case round =>
          obtain ⟨j, rfl, hj, hg3, J⟩ := hrel
          by_cases hjm : j < bl.length
          · first
            | (exfalso; omega)
            | (obtain ⟨gx, e1, e2, e3, e4, e6⟩ := J.out.bytes j hjm
               subst e1
               obtain ⟨z, d4⟩ := e6.cell hjm
               have d5 := e6.frozen (k := j)
               have HJ : Hid (∀ z', TurnAt wo (wr.setCell ⟨gx, j, none⟩ (.int .u8 z')) wo.heap.size w4.heap.size bl (some ⟨gx, 0, none⟩)) := Lib.hid fun z' => J.out.set e2 e3 e4 j z'
               clear J e2 e3 e4 e6
               have hj0 : (0 : Int) ≤ (j : Int) := by omega
               have hj1 : (j : Int) < (bl.length : Int) := by omega
               go_wp2_with fail
               go_roundg (bl.length - (j + 1))
               case measure => omega
               case rel => exact ⟨j + 1, by go_num, by omega, Nat.le_refl _, HJ.out _⟩)
          · obtain rfl : j = bl.length := by omega
            have C6 := Lib.hid (floor_one J.out.store hbl)
            have HJ := Lib.hid J.out.below
            clear J
            go_wp2_with (first
              | (go_at_call 13; with_reducible refine C6.out.mono ?_; rintro e w6 ⟨v6, rfl, hcv6, hb6⟩; have hcv7 := hcv6.out; have hcv8 := HCB.out w6 (HL.out.trans ((HJ.out.mono HL.out.size).trans (hb6.mono (by have := HL.out.size; have := HJ.out.size; omega)))); clear hcv6)
              | (go_at_call 10; with_reducible refine (lives_any _).mono ?_; rintro e w9 ⟨rfl, hb9⟩))
            go_ret
            refine ⟨rfl, HL.out.trans ((HJ.out.mono HL.out.size).trans ((hb6.mono (by have := HL.out.size; have := HJ.out.size; omega)).trans (hb9.mono ?_)))⟩
            have h1 := HL.out.size
            have h2 := HJ.out.size
            have h3 := hb6.size
            omega

theorem store_kept_walk (most : Int) (so : Option Addr) (n c : Nat) (bv : Value) (bl : List UInt8) (P : Nat → Int) (Q : Nat → ByteArray) (w : World) (ha : ActsIn w so n P Q) (hf : ActsFit n Q) (hbv : BytesIn w bv bl) (hbl : bl.length ≤ 140737488351232) :
    Calls Try.prog 5 #[.int .i64 most, .slice so n c, bv] w fun e w' => e = .returned (.bool true) ∧ Below w.heap.size w w' := by
  obtain ⟨bo, bn, bc, rfl⟩ : ∃ bo bn bc, bv = .slice bo bn bc := by
    rcases hbv with ⟨rfl, _⟩ | ⟨a, cap, rfl, _⟩
    · exact ⟨_, _, _, rfl⟩
    · exact ⟨_, _, _, rfl⟩
  by_cases hn : n ≤ 300
  · exact kept_main most so bo n c bn bc bl P Q w ha hf hn hbv hbl
  · have hn1 : (300 : Int) < (n : Int) := by omega
    clear ha hf hbv
    go_enter Try.func5, Try.ntmps5
    go_wp2_with (go_at_call 10; refine (lives_any _).mono ?_; rintro e w9 ⟨rfl, hb9⟩)
    go_ret
    exact ⟨rfl, hb9⟩
end Go.Proofs.Ytiagpaoomijidaa
