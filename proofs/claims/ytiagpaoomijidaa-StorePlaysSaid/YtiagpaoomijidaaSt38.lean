import Derived.Test.YtiagpaoomijidaaSt37
namespace Go.Proofs.Ytiagpaoomijidaa
open Go.RowKit Go.Proofs
set_option linter.unusedVariables false
set_option linter.unusedSimpArgs false

theorem results_row_tmp {P : Program} {fn : Func} {p u : Tmp} {ty : TypeId} (h : fn.results = #[.cell p ty, .tmp u]) (tmps : Array Value) (w : World) (g : Nat) (t : TypeId) (cs : Array Value) (fr : Nat × Nat) (d : TypeDesc)
    (hp : tmps.getD p undef = .pointer (some ⟨g, 0, none⟩)) (hg : w.heap[g]? = some (.cells cs t fr))
    (hu : P.underlying ty = some d) (hd : (match d with | .struct _ | .array _ _ => true | _ => false) = true) (hi : (P.info? ty).map (·.size) = some cs.size) :
    (results fn tmps).run P w = .ok (.tuple #[.agg cs, tmps.getD u undef]) w := by
  rw [results_cell_tmp h, hp]
  simp [asAddr, run_loadVar_row w g t ty cs fr d hg hu hd hi, Result.andThen]

set_option maxRecDepth 100000 in
theorem refPut_neg (most : Nat) (so : Option Addr) (n c : Nat) (b : ByteArray) (q : Int) (w : World) (hq : q < 0) :
    Calls Try.prog 11 #[.agg #[.int .i64 most, .slice so n c], .int .i64 q, .string b] w fun e w' => e = .returned (.tuple #[.agg #[.int .i64 most, .slice so n c], .int .i64 2]) ∧ Below w.heap.size w w' := by
  go_enter Try.func11, Try.ntmps11
  go_wp2_with fail
  refine bodyPost_ret (results_row_tmp rfl _ _ (w.heap.size + 1) 27 _ (0, 0) _ rfl (heap_alloc2_new _ _ _) Try.underlying27 rfl (by kernel_rfl)) rfl ?_
  exact ⟨rfl, ((Below.refl _ _).alloc (Nat.le_refl _) _).alloc (by simp) _⟩

theorem put_small {may : Nat} {l : List (Int × List UInt8)} {q : Int} {b : List UInt8} {i : Nat} (h : (withL l q b i).length ≤ may) : putL may l q b i = withL l q b i := by
  unfold putL
  unfold withL at h ⊢
  split
  · rfl
  · rename_i hf
    rw [if_neg hf] at h
    unfold grownL
    rw [if_pos h]
theorem put_big {may : Nat} {l : List (Int × List UInt8)} {q : Int} {b : List UInt8} {i : Nat} (hm : l.length ≤ may) (h : may < (withL l q b i).length) : ¬ (i < l.length ∧ posOf l i = q) ∧ putL may l q b i = (withL l q b i).eraseIdx (goesL (withL l q b i) q i) := by
  unfold putL
  unfold withL at h ⊢
  split
  · rename_i hf
    rw [if_pos hf] at h
    simp at h
    omega
  · rename_i hf
    rw [if_neg hf] at h
    refine ⟨hf, ?_⟩
    unfold grownL
    rw [if_neg (by omega)]

/-- How near the one that goes is to the next one below. -/
def nearL (l : List (Int × List UInt8)) (g : Int) : Int := if g < 0 then 0 else gapOf l g.toNat

/-- How much stands behind so many of the old ones, where one goes. -/
def lessN (g k : Nat) : Nat := if k ≤ g then k else k - 1

theorem less_skip {l : List (Int × List UInt8)} {g : Nat} : (l.eraseIdx g).take (lessN g (g + 1)) = (l.eraseIdx g).take (lessN g g) := by
  unfold lessN
  rw [if_neg (by omega), if_pos (Nat.le_refl _)]; rfl
theorem less_take {l : List (Int × List UInt8)} {g k : Nat} {x : Int × List UInt8} (hk : l[k]? = some x) (hne : k ≠ g) : (l.eraseIdx g).take (lessN g (k + 1)) = (l.eraseIdx g).take (lessN g k) ++ [x] := by
  unfold lessN
  by_cases h : k < g
  · rw [if_pos (by omega), if_pos (by omega)]
    refine take_succ_get ?_
    rw [List.getElem?_eraseIdx, if_pos h]; exact hk
  · rw [if_neg (by omega), if_neg (by omega)]
    obtain ⟨j, rfl⟩ : ∃ j, k = j + 1 := ⟨k - 1, by omega⟩
    rw [Nat.add_sub_cancel, Nat.add_sub_cancel]
    refine take_succ_get ?_
    rw [List.getElem?_eraseIdx, if_neg (by omega)]; exact hk
theorem less_all {l : List (Int × List UInt8)} {g : Nat} (hg : g < l.length) : (l.eraseIdx g).take (lessN g l.length) = l.eraseIdx g := by
  refine List.take_of_length_le ?_
  rw [List.length_eraseIdx_of_lt hg]
  unfold lessN
  rw [if_neg (by omega)]
  omega

set_option maxRecDepth 100000 in
set_option maxHeartbeats 2000000 in
theorem refPut_any (may : Nat) (l : List (Int × List UInt8)) (lv : Value) (q : Int) (b : List UInt8) (i : Nat) (w : World) (h : RefIn w lv l) (hr : Rising l) (hrg : Ranged l) (hp : Place (posOf l) l.length q i) (hm1 : 1 ≤ may) (hm2 : may ≤ 64) (hl : l.length ≤ may) (hq : 0 ≤ q) (hq2 : q ≤ 9223372036854775807) :
    Calls Try.prog 11 #[.agg #[.int .i64 may, lv], .int .i64 q, strV b] w fun e w' => ∃ v, e = .returned (.tuple #[.agg #[.int .i64 may, v], .int .i64 0]) ∧ RefAt w' w.heap.size v (putL may l q b i) ∧ Below w.heap.size w w' := by
  obtain ⟨i0, hi, hz0, hz1, hz2⟩ := info_parts info54
  obtain ⟨W2, hW2⟩ : ∃ W2, W2 = (w.alloc (.cells #[.int .i64 may, lv] 27)).alloc (.cells #[.int .i64 0, .slice none 0 0] 27) := ⟨_, rfl⟩
  have hb2 : Below w.heap.size w W2 := by rw [hW2]; exact ((Below.refl _ _).alloc (Nat.le_refl _) _).alloc (by simp) _
  have hs2 : w.heap.size + 1 < W2.heap.size := by rw [hW2]; simp
  have k0 : W2.heap[w.heap.size]? = some (.cells #[.int .i64 may, lv] 27 (0, 0)) := by rw [hW2]; exact heap_alloc2_old _ _ _
  have k1 : W2.heap[w.heap.size + 1]? = some (.cells #[.int .i64 0, .slice none 0 0] 27 (0, 0)) := by rw [hW2]; exact heap_alloc2_new _ _ _
  have C := Lib.hid (with_any l lv q b i W2 (h.below hb2) hr hp (by omega))
  have hn : ¬ q < 0 := by omega
  have hil : i ≤ l.length := hp.1
  have HF : Hid (¬ (i < l.length ∧ posOf l i = q) → Rising (withL l q b i) ∧ Ranged (withL l q b i) ∧ posOf (withL l q b i) i = q ∧ (withL l q b i).length = l.length + 1) := Lib.hid fun hf => by
    have e : withL l q b i = moreL l q b i := by unfold withL; rw [if_neg hf]
    rw [e]
    refine ⟨more_rising hr hp hf, fun x hx => ?_, by rw [more_pos hil hil, if_neg (by omega), if_pos rfl], more_len _ _ _ hil⟩
    rcases List.mem_append.1 hx with h1 | h1
    · exact hrg x (List.mem_of_mem_take h1)
    · rcases List.mem_cons.1 h1 with rfl | h1
      · exact ⟨hq, hq2⟩
      · exact hrg x (List.mem_of_mem_drop h1)
  have HS : Hid ((withL l q b i).length ≤ may → putL may l q b i = withL l q b i) := Lib.hid put_small
  have HG : Hid (may < (withL l q b i).length → ¬ (i < l.length ∧ posOf l i = q) ∧ putL may l q b i = (withL l q b i).eraseIdx (goesL (withL l q b i) q i)) := Lib.hid (put_big hl)
  have hln : (withL l q b i).length ≤ 65 := by rw [with_len hil]; split <;> omega
  obtain ⟨so, c, rfl, hx⟩ := h
  clear hx hr hrg hp hq hq2
  unfold strV at C ⊢
  have HB2 := Lib.hid hb2
  clear hb2
  go_enter Try.func11, Try.ntmps11
  go_wp2_with fail
  rw [← hW2]
  clear hW2
  go_at_call 19
  refine C.out.mono ?_
  rintro e w3 ⟨v3, rfl, R3, hb3⟩
  simp only
  generalize hL1 : withL l q b i = L1 at *
  obtain ⟨o3, c3, rfl⟩ : ∃ o3 c3, v3 = .slice o3 L1.length c3 := by
    obtain ⟨so, c, e, _⟩ := R3.isIn
    exact ⟨so, c, e⟩
  have d0 : w3.cell? ⟨w.heap.size, 0, none⟩ = some (.int .i64 may) := by rw [hb3.cell (by show w.heap.size < _; omega)]; simp [World.cell?, k0]
  have HR3 := Lib.hid R3
  have HB3 := Lib.hid hb3
  have HK1 : Hid (w3.heap[w.heap.size + 1]? = some (.cells #[.int .i64 0, .slice none 0 0] 27 (0, 0))) := Lib.hid (by rw [hb3.block _ hs2]; exact k1)
  have d1 : w3.cell? ⟨w.heap.size + 1, 0, none⟩ = some (.int .i64 0) := by simp [World.cell?, HK1.out]
  have d2 : w3.cell? ⟨w.heap.size + 1, 1, none⟩ = some (.slice none 0 0) := by simp [World.cell?, HK1.out]
  have f1 : w3.frozen? ⟨w.heap.size + 1, 0, none⟩ = false := by simp [World.frozen?, HK1.out]
  have f2 : w3.frozen? ⟨w.heap.size + 1, 1, none⟩ = false := by simp [World.frozen?, HK1.out]
  have HFIN : Hid (∀ (W : World) (v : Value), W.heap[w.heap.size + 1]? = some (.cells #[.int .i64 0, .slice none 0 0] 27 (0, 0)) → ((W.setCell ⟨w.heap.size + 1, 0, none⟩ (.int .i64 may)).setCell ⟨w.heap.size + 1, 1, none⟩ v).heap[w.heap.size + 1]? = some (.cells #[.int .i64 may, v] 27 (0, 0))) := Lib.hid fun W v h => setCell_block (setCell_block h)
  have HBF : Hid (∀ (W : World) (v : Value), Below W2.heap.size W2 W → Below w.heap.size w ((W.setCell ⟨w.heap.size + 1, 0, none⟩ (.int .i64 may)).setCell ⟨w.heap.size + 1, 1, none⟩ v)) := Lib.hid fun W v h => ((HB2.out.trans (h.mono (by omega))).setCell (by show w.heap.size ≤ w.heap.size + 1; omega) _).setCell (by show w.heap.size ≤ w.heap.size + 1; omega) _
  have HRF : Hid (∀ (W : World) (v sv : Value) (L : List (Int × List UInt8)), RefAt W W2.heap.size sv L → RefAt ((W.setCell ⟨w.heap.size + 1, 0, none⟩ (.int .i64 may)).setCell ⟨w.heap.size + 1, 1, none⟩ v) w.heap.size sv L) := Lib.hid fun W v sv L h => by
    have e : ∀ k, W2.heap.size ≤ k → ((W.setCell ⟨w.heap.size + 1, 0, none⟩ (.int .i64 may)).setCell ⟨w.heap.size + 1, 1, none⟩ v).heap[k]? = W.heap[k]? := fun k hk => (Below.heap_setCell _ _ _ _ (by show k ≠ w.heap.size + 1; omega)).trans (Below.heap_setCell _ _ _ _ (by show k ≠ w.heap.size + 1; omega))
    refine ⟨h.1, ?_⟩
    rcases h.2 with h2 | ⟨g, cap, cur, h1, h2, h3, h4⟩
    · exact .inl h2
    · exact .inr ⟨g, cap, cur, h1, by omega, by rw [e g h2]; exact h3, h4⟩
  clear R3 hb3 C k0 k1
  by_cases hsm : L1.length ≤ may
  · have hsm' : (L1.length : Int) ≤ (may : Int) := by omega
    go_wp2_with fail
    refine bodyPost_ret (results_row_tmp rfl _ _ (w.heap.size + 1) 27 _ (0, 0) _ rfl (HFIN.out _ _ HK1.out) Try.underlying27 rfl (by kernel_rfl)) rfl ?_
    exact ⟨_, rfl, by rw [HS.out hsm]; exact HRF.out _ _ _ _ HR3.out, HBF.out _ _ HB3.out⟩
  · have hsm' : ¬ (L1.length : Int) ≤ (may : Int) := by omega
    obtain ⟨hf, hput⟩ := HG.out (by omega)
    obtain ⟨hr1, hrg1, hq1, hlen1⟩ := HF.out hf
    have HPUT := Lib.hid hput
    have h2 : 2 ≤ L1.length := by omega
    obtain ⟨g3, c3', e⟩ := own_form HR3.out (by omega)
    cases e
    have HC3 : Hid (∀ k, k < L1.length → w3.cell? ⟨g3, k * 2, none⟩ = some (.int .i64 (posOf L1 k)) ∧ w3.cell? ⟨g3, k * 2 + 1, none⟩ = some (strV (L1.getD k (0, [])).2) ∧ g3 < w3.heap.size) := Lib.hid fun k hk => by
      obtain ⟨so, c, e, hx⟩ := HR3.out.isIn
      cases e
      obtain ⟨g, e1, e2, e3, e4⟩ := hx k L1[k] (List.getElem?_eq_getElem hk)
      cases e1
      exact ⟨by rw [posOf_get hk]; exact e3, by rw [List.getD_eq_getElem?_getD, List.getElem?_eq_getElem hk]; exact e4, e2⟩
    have HR1 := Lib.hid hr1
    have HRG := Lib.hid hrg1
    have HQ1 := Lib.hid hq1
    have HL3 := Lib.hid hlen1
    clear hr1 hrg1 hq1 hf hput HF HG HS hlen1 hL1
    go_wp2_with fail
    go_loopg [9, 10, 11] L1.length (fun kx s9 s10 s11 W => ∃ (k : Nat), s11 = .int .i64 k ∧ s9 = .int .i64 (scanN L1 q k) ∧ s10 = .int .i64 (nearL L1 (scanN L1 q k)) ∧ 1 ≤ k ∧ k ≤ L1.length ∧ L1.length - k ≤ kx ∧ Aside (Below w3.heap.size w3 W))
    case atStart => exact ⟨1, rfl, rfl, rfl, Nat.le_refl _, by omega, by omega, Below.refl _ _⟩
    case round =>
      obtain ⟨k, rfl, rfl, rfl, hk1, hk, hg, I⟩ := hrel
      by_cases hlt : k < L1.length
      · obtain ⟨t, rfl⟩ : ∃ t, k = t + 1 := ⟨k - 1, by omega⟩
        obtain ⟨a1, a2, a3⟩ := HC3.out (t + 1) hlt
        obtain ⟨b1, b2, b3⟩ := HC3.out t (by omega)
        have z1 := (I.out.cell (p := ⟨g3, (t + 1) * 2, none⟩) a3).trans a1
        have z0 := (I.out.cell (p := ⟨g3, t * 2, none⟩) a3).trans b1
        have r1 := HRG.out.pos (t + 1)
        have r0 := HRG.out.pos t
        have HST : Hid (scanN L1 q (t + 1 + 1) = stepN L1 q (scanN L1 q (t + 1)) (t + 1)) := Lib.hid (scanN_succ _ _ _ (by omega))
        have HGP : Hid (gapOf L1 (t + 1) = posOf L1 (t + 1) - posOf L1 t) := Lib.hid (by unfold gapOf; rw [Nat.add_sub_cancel])
        have hwr : IntKind.i64.wrap (posOf L1 (t + 1) - posOf L1 t) = posOf L1 (t + 1) - posOf L1 t := IntWalk.i64_in _ (by omega)
        have HI := Lib.hid I.out
        clear a1 a2 b1 b2 I
        have ht0 : (0 : Int) ≤ (t : Int) := by omega
        have ht1 : (t : Int) + 1 < (L1.length : Int) := by omega
        generalize hG : scanN L1 q (t + 1) = G at *
        generalize hN : nearL L1 G = NR at *
        generalize hp1 : posOf L1 (t + 1) = p1 at *
        generalize posOf L1 t = p0 at *
        have HN := Lib.hid hN
        have HP1 := Lib.hid hp1
        have HGE := Lib.hid hG
        clear hG hN hp1
        by_cases hA : p1 = q
        · have e1 : scanN L1 q (t + 1 + 1) = G := by rw [HST.out]; unfold stepN; rw [if_neg (fun h => h.1 (by rw [HP1.out]; exact hA))]
          have E1 := Lib.hid e1
          have E2 : Hid (nearL L1 G = NR) := HN
          clear e1 HST HGP
          go_wp2_with fail
          go_quiet (fail)
          go_wp2
          go_roundg (L1.length - (t + 1 + 1))
          case measure => omega
          case rel => exact ⟨t + 1 + 1, by go_num, by rw [E1.out], by rw [E1.out, E2.out], by omega, by omega, Nat.le_refl _, below_drewN HI.out⟩
        · skip
          have hGr : G = -1 ∨ (1 ≤ G ∧ G < ((t + 1 : Nat) : Int)) := by have := scanN_range L1 q (t + 1); rw [HGE.out] at this; exact this
          have hst := HST.out
          unfold stepN at hst
          rw [HP1.out] at hst
          by_cases hB : G < 0
          · have e1 : scanN L1 q (t + 1 + 1) = ((t + 1 : Nat) : Int) := by rw [hst, if_pos ⟨hA, .inl hB⟩]
            have E1 := Lib.hid e1
            have E2 : Hid (nearL L1 ((t + 1 : Nat) : Int) = p1 - p0) := Lib.hid (by unfold nearL; rw [if_neg (by omega), Int.toNat_natCast, HGP.out])
            clear e1 HST HGP hst hGr
            go_wp2_with fail
            go_quiet (fail)
            go_wp2
            go_roundg (L1.length - (t + 1 + 1))
            case measure => omega
            case rel => exact ⟨t + 1 + 1, by go_num, by rw [E1.out] <;> go_num, by rw [E1.out, E2.out], by omega, by omega, Nat.le_refl _, below_drewN HI.out⟩
          · have hNR : NR = gapOf L1 G.toNat := by rw [← HN.out]; unfold nearL; rw [if_neg hB]
            by_cases hC : p1 - p0 < NR
            · have e1 : scanN L1 q (t + 1 + 1) = ((t + 1 : Nat) : Int) := by rw [hst, if_pos ⟨hA, .inr (by rw [HGP.out, ← hNR]; exact hC)⟩]
              have E1 := Lib.hid e1
              have E2 : Hid (nearL L1 ((t + 1 : Nat) : Int) = p1 - p0) := Lib.hid (by unfold nearL; rw [if_neg (by omega), Int.toNat_natCast, HGP.out])
              clear e1 HST HGP hst hNR hGr
              go_wp2_with fail
              go_quiet (fail)
              go_wp2
              go_roundg (L1.length - (t + 1 + 1))
              case measure => omega
              case rel => exact ⟨t + 1 + 1, by go_num, by rw [E1.out] <;> go_num, by rw [E1.out, E2.out], by omega, by omega, Nat.le_refl _, below_drewN HI.out⟩
            · have e1 : scanN L1 q (t + 1 + 1) = G := by rw [hst, if_neg]; rintro ⟨_, h | h⟩; exact hB h; exact hC (by rw [hNR, ← HGP.out]; exact h)
              have E1 := Lib.hid e1
              clear e1 HST HGP hst hNR hGr
              go_wp2_with fail
              go_quiet (fail)
              go_wp2
              go_roundg (L1.length - (t + 1 + 1))
              case measure => omega
              case rel => exact ⟨t + 1 + 1, by go_num, by rw [E1.out], by rw [E1.out, HN.out], by omega, by omega, Nat.le_refl _, below_drewN HI.out⟩
      · obtain rfl : k = L1.length := by omega
        obtain ⟨hg1, hg2⟩ := goes_range HR1.out (i := i) (by have := HL3.out; omega) HQ1.out h2
        have HGo : Hid (goesL L1 q i = if scanN L1 q L1.length < 0 then i else (scanN L1 q L1.length).toNat) := Lib.hid rfl
        have hGr : scanN L1 q L1.length = -1 ∨ (1 ≤ scanN L1 q L1.length ∧ scanN L1 q L1.length < (L1.length : Int)) := scanN_range L1 q L1.length
        generalize scanN L1 q L1.length = G at *
        generalize nearL L1 G = NR at *
        generalize hGN : goesL L1 q i = Gn at *
        have HIW := Lib.hid I.out
        have HGN := Lib.hid hGN
        clear I hGN
        generalize wr = wo at *
        go_wp2_with fail
        go_loopg [13, 14] L1.length (fun kx s13 s14 W => ∃ (k : Nat) (v : Value), s14 = .int .i64 k ∧ v = s13 ∧ k ≤ L1.length ∧ L1.length - k ≤ kx ∧ Aside (RefAt W w3.heap.size v ((L1.eraseIdx Gn).take (lessN Gn k))) ∧ Aside (Below w3.heap.size w3 W))
        case atStart => exact ⟨0, _, rfl, rfl, Nat.zero_le _, by omega, by simp [lessN]; exact World.ownsRow_nil _ _ _ _, HIW.out⟩
        case round =>
          obtain ⟨k, v, rfl, rfl, hk, hg, hown, hb⟩ := hrel
          by_cases hlt : k < L1.length
          · obtain ⟨a1, a2, a3⟩ := HC3.out k hlt
            have z1 := (hb.out.cell (p := ⟨g3, k * 2, none⟩) a3).trans a1
            have z2 := (hb.out.cell (p := ⟨g3, k * 2 + 1, none⟩) a3).trans a2
            have hk0 : (0 : Int) ≤ (k : Int) := by omega
            have hk1 : (k : Int) < (L1.length : Int) := by omega
            have hxk : L1[k]? = some (posOf L1 k, (L1.getD k (0, [])).2) := by rw [posOf_get hlt, List.getD_eq_getElem?_getD, List.getElem?_eq_getElem hlt]; rfl
            have HU : Hid (posOf L1 k = q → k = i) := Lib.hid fun h => by
              have hil1 : i < L1.length := by have := HL3.out; omega
              have hqi := HQ1.out
              rcases Nat.lt_or_ge k i with h1 | h1
              · have := HR1.out k i h1 hil1; omega
              · rcases Nat.lt_or_ge i k with h2 | h2
                · have := HR1.out i k h2 hlt; omega
                · omega
            have HV : Hid (k = i → posOf L1 k = q) := Lib.hid fun h => by rw [h]; exact HQ1.out
            obtain ⟨L, hL⟩ : ∃ L, L = (L1.eraseIdx Gn).take (lessN Gn k) := ⟨_, rfl⟩
            have HLN : Hid (L.length ≤ 65) := Lib.hid (by
              rw [hL, List.length_take, List.length_eraseIdx_of_lt hg2]; omega)
            have EL1' : k = Gn → (L1.eraseIdx Gn).take (lessN Gn (k + 1)) = L := fun h => by rw [hL, h]; exact less_skip
            have EL2' : k ≠ Gn → (L1.eraseIdx Gn).take (lessN Gn (k + 1)) = L ++ [(posOf L1 k, (L1.getD k (0, [])).2)] := fun h => by rw [hL]; exact less_take hxk h
            rw [← hL] at hown
            clear hL hxk a1 a2
            unfold strV at z2
            generalize posOf L1 k = p at *
            generalize (L1.getD k (0, [])).2 = bx at *
            by_cases hkG : k = Gn
            · have EL1 := Lib.hid (EL1' hkG)
              clear EL1' EL2'
              rcases hGr with hG | ⟨hG, _⟩
              · subst hG
                have e := HGo.out
                rw [if_pos (by decide)] at e
                have hpq : p = q := HV.out (by omega)
                rw [hpq] at z1
                have hqq : (q != q) = false := by simp
                have hne : ((k : Int) != -1) = true := bne_iff_ne.2 (by omega)
                clear e hkG
                go_wp2_with fail
                go_roundg (L1.length - (k + 1))
                case measure => omega
                case rel => exact ⟨k + 1, v, by go_num, rfl, by omega, Nat.le_refl _, by rw [EL1.out]; exact hown.out, hb.out⟩
              · have e := HGo.out
                rw [if_neg (by omega)] at e
                have hge : (k : Int) = G := by omega
                clear e hkG
                go_wp2_with fail
                go_roundg (L1.length - (k + 1))
                case measure => omega
                case rel => exact ⟨k + 1, v, by go_num, rfl, by omega, Nat.le_refl _, by rw [EL1.out]; exact hown.out, hb.out⟩
            · have EL2 := Lib.hid (EL2' hkG)
              clear EL1' EL2'
              rcases hGr with hG | ⟨hG, _⟩
              · subst hG
                have e := HGo.out
                rw [if_pos (by decide)] at e
                have hpq : ¬ p = q := fun h => hkG (by have := HU.out h; omega)
                have hpq2 : (p != q) = true := bne_iff_ne.2 hpq
                have hne : ((k : Int) != -1) = true := bne_iff_ne.2 (by omega)
                clear e hkG
                go_wp2_with (at_builtin; refine wpList_append_own _ rfl _ _ 25 rfl w3.heap.size 54 i0 (.agg #[.int .i64 0, .string ⟨#[]⟩]) 2 24 Try.underlying25 hi hz0 hz1 hz2 rfl (by decide) _ L.length (refCells L) rfl (ref_own (m := 0) hown.out _) ⟨wr.heap.size, 0, none⟩ 1 1 [.int .i64 p, .string ⟨bx.toArray⟩] rfl rfl (ref_new (m := 0) (x := (p, bx))) ?c2 ?c3 ?c4 ?c5 ?_)
                case c2 => intro u hu; simp at hu; rcases hu with rfl | rfl <;> rfl
                case c3 => unfold maxLen; have := HLN.out; simp; omega
                case c4 => have := HLN.out; simp; omega
                case c5 => have := hb.out.size; simp; omega
                intro v' w' hown2 hgrow _
                obtain ⟨R1, R2⟩ := ref_pushed (m := 0) hown.out (x := (p, bx)) hown2 hgrow hb.out (Nat.le_refl _) hb.out.size
                clear hown2 hgrow
                go_wp2
                go_roundg (L1.length - (k + 1))
                case measure => omega
                case rel => exact ⟨k + 1, v', by go_num, rfl, by omega, Nat.le_refl _, by rw [EL2.out]; exact R1, R2⟩
              · have e := HGo.out
                rw [if_neg (by omega)] at e
                have hge : ¬ (k : Int) = G := by omega
                have hg0 : 0 ≤ G := by omega
                clear e hkG
                go_wp2_with (at_builtin; refine wpList_append_own _ rfl _ _ 25 rfl w3.heap.size 54 i0 (.agg #[.int .i64 0, .string ⟨#[]⟩]) 2 24 Try.underlying25 hi hz0 hz1 hz2 rfl (by decide) _ L.length (refCells L) rfl (ref_own (m := 0) hown.out _) ⟨wr.heap.size, 0, none⟩ 1 1 [.int .i64 p, .string ⟨bx.toArray⟩] rfl rfl (ref_new (m := 0) (x := (p, bx))) ?c2 ?c3 ?c4 ?c5 ?_)
                case c2 => intro u hu; simp at hu; rcases hu with rfl | rfl <;> rfl
                case c3 => unfold maxLen; have := HLN.out; simp; omega
                case c4 => have := HLN.out; simp; omega
                case c5 => have := hb.out.size; simp; omega
                intro v' w' hown2 hgrow _
                obtain ⟨R1, R2⟩ := ref_pushed (m := 0) hown.out (x := (p, bx)) hown2 hgrow hb.out (Nat.le_refl _) hb.out.size
                clear hown2 hgrow
                go_wp2
                go_roundg (L1.length - (k + 1))
                case measure => omega
                case rel => exact ⟨k + 1, v', by go_num, rfl, by omega, Nat.le_refl _, by rw [EL2.out]; exact R1, R2⟩
          · obtain rfl : k = L1.length := by omega
            have ER := less_all hg2
            rw [ER] at hown
            obtain ⟨vo, vc, hvf⟩ : ∃ o c, v = .slice o (L1.eraseIdx Gn).length c := by
              obtain ⟨so, c, e, _⟩ := hown.out.isIn
              exact ⟨so, c, e⟩
            subst hvf
            have HOW := Lib.hid hown.out
            have HBW := Lib.hid hb.out
            have hlt3 : w.heap.size + 1 < w3.heap.size := by have := HB3.out.size; omega
            have d0' := (hb.out.cell (p := ⟨w.heap.size, 0, none⟩) (by show w.heap.size < _; omega)).trans d0
            have d1' := (hb.out.cell (p := ⟨w.heap.size + 1, 0, none⟩) hlt3).trans d1
            have d2' := (hb.out.cell (p := ⟨w.heap.size + 1, 1, none⟩) hlt3).trans d2
            have HK2 : Hid (wr.heap[w.heap.size + 1]? = some (.cells #[.int .i64 0, .slice none 0 0] 27 (0, 0))) := Lib.hid (by rw [hb.out.block _ hlt3]; exact HK1.out)
            have f1' : wr.frozen? ⟨w.heap.size + 1, 0, none⟩ = false := by simp [World.frozen?, HK2.out]
            have f2' : wr.frozen? ⟨w.heap.size + 1, 1, none⟩ = false := by simp [World.frozen?, HK2.out]
            clear hown hb d0 d1 d2 f1 f2
            go_wp2_with fail
            refine bodyPost_ret (results_row_tmp rfl _ _ (w.heap.size + 1) 27 _ (0, 0) _ rfl (HFIN.out _ _ HK2.out) Try.underlying27 rfl (by kernel_rfl)) rfl ?_
            have hw23 := HB3.out.size
            exact ⟨_, rfl, by rw [HPUT.out]; exact HRF.out _ _ _ _ (ownsRow_base HOW.out hw23), HBF.out _ _ (HB3.out.trans (HBW.out.mono hw23))⟩
end Go.Proofs.Ytiagpaoomijidaa
