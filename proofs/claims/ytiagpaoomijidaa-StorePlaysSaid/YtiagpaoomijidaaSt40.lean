import Derived.Test.YtiagpaoomijidaaSt39
import Derived.Deep.CutRange
namespace Go.Proofs.Ytiagpaoomijidaa
open Go.RowKit Go.Proofs
set_option linter.unusedVariables false
set_option linter.unusedSimpArgs false

theorem drew_heap (w : World) : w.drew.heap = w.heap := rfl
theorem le_drew {w : World} {N : Nat} (h : N ≤ w.heap.size) : N ≤ w.drew.heap.size := h
theorem x_facts {W w5 : World} {a0 a1 : Value} (hb : Below (W.alloc (.cells #[a0, a1] 27)).drew.heap.size (W.alloc (.cells #[a0, a1] 27)).drew w5) :
    w5.cell? ⟨W.heap.size, 0, none⟩ = some a0 ∧ w5.cell? ⟨W.heap.size, 1, none⟩ = some a1 ∧ w5.frozen? ⟨W.heap.size, 0, none⟩ = false ∧ w5.frozen? ⟨W.heap.size, 1, none⟩ = false := by
  have hx : w5.heap[W.heap.size]? = some (.cells #[a0, a1] 27 (0, 0)) := row_below (w := (W.alloc (.cells #[a0, a1] 27)).drew) (heap_alloc_new W _) hb
  refine ⟨by rw [cell_block hx]; rfl, by rw [cell_block hx]; rfl, by simp [World.frozen?, hx], by simp [World.frozen?, hx]⟩
theorem below_undrew {w w' : World} (h : Below w.drew.heap.size w.drew w') : Below w.heap.size w w' := ⟨h.os, h.tape, h.output, h.size, h.block⟩
theorem ints_drew {w : World} {B : Nat} {v : Value} {l : List Int} (h : IntsAt w B v l) : IntsAt w.drew B v l := h
theorem below_trans3 {a b b' c c' d : World} (h1 : Below a.heap.size a b) (h2 : Below b'.heap.size b' c) (h3 : Below c'.heap.size c' d) (e1 : b' = b ∨ b' = b.drew := by first | exact .inl rfl | exact .inr rfl) (e2 : c' = c ∨ c' = c.drew := by first | exact .inl rfl | exact .inr rfl) : Below a.heap.size a d := by
  have h2' : Below b.heap.size b c := by
    rcases e1 with rfl | rfl
    · exact h2
    · exact below_undrew h2
  have h3' : Below c.heap.size c d := by
    rcases e2 with rfl | rfl
    · exact h3
    · exact below_undrew h3
  have hs := h2'.size
  exact (h1.trans (h2'.mono h1.size)).trans (h3'.mono (by have := h1.size; omega))
theorem below_trans2 {a b c : World} (h1 : Below a.heap.size a b) (h2 : Below b.heap.size b c) : Below a.heap.size a c := h1.trans (h2.mono h1.size)
theorem new_may {most : Int} {may : Nat} (h : may = (max 1 (min most 64)).toNat) (w : World) : Calls Try.prog 8 #[.int .i64 most] w fun e w' => e = .returned (.pointer (some ⟨w.heap.size, 0, none⟩)) ∧ w'.heap[w.heap.size]? = some (.cells #[.int .i64 may, .slice none 0 0] 51 (0, 0)) ∧ Below w.heap.size w w' := by
  subst h; exact new_fresh most w
theorem refNew_may {most : Int} {may : Nat} (h : may = (max 1 (min most 64)).toNat) (w : World) : Calls Try.prog 9 #[.int .i64 most] w fun e w' => e = .returned (.agg #[.int .i64 may, .slice none 0 0]) ∧ Below w.heap.size w w' := by
  subst h; exact refNew_any most w

set_option maxRecDepth 100000 in
set_option maxHeartbeats 0 in
theorem plays_main (most pos : Int) (so : Option Addr) (n c : Nat) (P : Nat → Int) (Q : Nat → ByteArray) (w : World) (ha : ActsIn w so n P Q) (hf : ActsFit n Q) (hn : n ≤ 300) :
    Calls Try.prog 3 #[.int .i64 most, .slice so n c, .int .i64 pos] w fun e w' => e = .returned (.bool true) ∧ Below w.heap.size w w' := by
  have hn1 : ¬ (300 : Int) < (n : Int) := by omega
  have hn2 : decide (300 < n) = false := decide_eq_false (by omega)
  have HA := Lib.hid ha
  have HF := Lib.hid hf
  clear ha hf
  obtain ⟨may, hmay⟩ : ∃ may, may = (max 1 (min most 64)).toNat := ⟨_, rfl⟩
  have hm1 : 1 ≤ may := by omega
  have hm2 : may ≤ 64 := by omega
  have HM := Lib.hid hmay
  clear hmay
  go_enter Try.func3, Try.ntmps3
  go_wp2_with (first
    | (go_at_call 8; with_reducible refine (new_may HM.out _).mono ?_; rintro e w1 ⟨rfl, hst1, hb1⟩)
    | (go_at_call 9; with_reducible refine (refNew_may HM.out _).mono ?_; rintro e w2 ⟨rfl, hb2⟩))
  obtain ⟨N, hN⟩ : ∃ N, N = w.heap.size := ⟨_, rfl⟩
  obtain ⟨M, hM⟩ : ∃ M, M = w2.heap.size := ⟨_, rfl⟩
  obtain ⟨W0, hW0⟩ : ∃ W0, W0 = w2.alloc (.cells #[.int .i64 may, .slice none 0 0] 27) := ⟨_, rfl⟩
  have hNM : N < M := by have := (Array.getElem?_eq_some_iff.1 hst1).1; have := hb2.size; omega
  have hb0 : Below N w W0 := by rw [hW0, hN]; exact hb1.trans ((hb2.trans ((Below.refl _ _).alloc (Nat.le_refl _) _ |>.mono hb2.size)).mono hb1.size)
  have PW0 : PlayW W0 N M may [] none 0 := by
    have e : W0.heap[N]? = some (.cells #[.int .i64 may, .slice none 0 0] 51 (0, 0)) := by
      have h1 : w2.heap[N]? = some (.cells #[.int .i64 may, .slice none 0 0] 51 (0, 0)) := by rw [hb2.block N (by rw [hN]; exact (Array.getElem?_eq_some_iff.1 hst1).1), hN]; exact hst1
      rw [hW0, Below.heap_alloc w2 _ N (Array.getElem?_eq_some_iff.1 h1).1]; exact h1
    exact ⟨store_empty e, World.ownsRow_nil _ _ _ _, by rw [hW0, hM]; exact heap_alloc_new _ _⟩
  rw [← hW0, ← hM, ← hN]
  have HN := Lib.hid hN
  have HB0 := Lib.hid hb0
  clear hst1 hb1 hb2 hW0 hM hN hb0
  go_loopg [9] n (fun kx s9 wr => ∃ (k : Nat), s9 = .int .i64 k ∧ k ≤ n ∧ n - k ≤ kx ∧ Aside (∃ l o c, PlayAt may l ∧ PlayW wr N M may l o c) ∧ Aside (Below N w wr))
  case atStart => exact ⟨0, rfl, by omega, by omega, (show ∃ l o c, PlayAt may l ∧ PlayW W0 N M may l o c from ⟨[], none, 0, play_nil _, PW0⟩), HB0.out⟩
  case round =>
    obtain ⟨k, rfl, hk, hg, L, hbl⟩ := hrel
    obtain ⟨l, ro, rc, hpl, pw⟩ := L.out
    by_cases hkn : k < n
    · obtain ⟨ab, aof, hso, hbw, q0, q1, b1, b2⟩ := acts_cells HA.out hkn
      subst hso
      have HQ : Hid (∀ W, Below N w W → W.cell? ⟨ab, aof + k * 2, none⟩ = some (.int .i64 (P k)) ∧ W.cell? ⟨ab, aof + k * 2 + 1, none⟩ = some (.string (Q k))) := Lib.hid fun W hW => by
        rw [HN.out] at hW
        exact ⟨(hW.cell hbw).trans q0, (hW.cell hbw).trans q1⟩
      obtain ⟨l', z, hpl', C12, C11⟩ := play_put hpl hm1 hm2 (P k) (Q k).data.toList b2 (HF.out k hkn)
      unfold strV at C11
      rw [bytes_back] at C11
      have HP12 := Lib.hid C12
      have HP11 : Hid (∀ W, Below wr.heap.size wr W → Calls Try.prog 11 #[.agg #[.int .i64 may, .slice ro l.length rc], .int .i64 (P k), .string (Q k)] W fun e w' => ∃ o' c', e = .returned (.tuple #[.agg #[.int .i64 may, .slice o' l'.length c'], .int .i64 z]) ∧ RefAt w' N (.slice o' l'.length c') l' ∧ Below W.heap.size W w') := Lib.hid fun W hW => C11 W N ro rc (ownsRow_below pw.ref hW) (by have := hW.size; have := hbl.out.size; have := HN.out; omega)
      have HPW := Lib.hid pw
      have HBL := Lib.hid hbl.out
      obtain ⟨c1, c2⟩ := HQ.out wr HBL.out
      have HHB : Hid (∀ s : ByteArray, s = Q k → BytesIn wr.drew (.slice none 0 0) [] ) := Lib.hid fun _ _ => .inl ⟨rfl, rfl⟩
      have c3 := pw.cell0
      have c4 := pw.cell1
      have hNr : N ≤ wr.heap.size := by have := hbl.out.size; have := HN.out; omega
      have hk0 : (0 : Int) ≤ (k : Int) := by omega
      have hk1 : (k : Int) < (n : Int) := by omega
      obtain ⟨fp, fs, fok, C13, C14⟩ := play_floor hpl' hm1 hm2 (P k)
      have HP13 := Lib.hid C13
      have HP14 := Lib.hid C14
      have HPL := Lib.hid hpl'
      have hl' : l'.length ≤ 1000 := by obtain ⟨_, h⟩ := hpl'.first; have := h.len; omega
      generalize P k = q at *
      generalize hQ : Q k = s at *
      have HS : Hid (s.data.toList.length ≤ 140737488351232) := Lib.hid (by rw [← hQ]; exact HF.out k hkn)
      clear C11 C12 C13 C14 q0 q1 pw hpl hpl' L hbl HHB hQ PW0
      have c1a : (wr.alloc (.cells #[.int .i64 0, .slice none 0 0] 27)).cell? ⟨ab, aof + k * 2, none⟩ = some (.int .i64 q) := (World.cell?_alloc_lt _ _ _ (World.block_lt_of_cell? wr _ c1)).trans c1
      have c2a : (wr.alloc (.cells #[.int .i64 0, .slice none 0 0] 27)).cell? ⟨ab, aof + k * 2 + 1, none⟩ = some (.string s) := (World.cell?_alloc_lt _ _ _ (World.block_lt_of_cell? wr _ c2)).trans c2
      have c3a : (wr.alloc (.cells #[.int .i64 0, .slice none 0 0] 27)).cell? ⟨M, 0, none⟩ = some (.int .i64 may) := (World.cell?_alloc_lt _ _ _ (World.block_lt_of_cell? wr _ c3)).trans c3
      have c4a : (wr.alloc (.cells #[.int .i64 0, .slice none 0 0] 27)).cell? ⟨M, 1, none⟩ = some (.slice ro l.length rc) := (World.cell?_alloc_lt _ _ _ (World.block_lt_of_cell? wr _ c4)).trans c4
      go_wp2_with fail
      have hNw : N < wr.heap.size := by obtain ⟨c, hc⟩ := store_cells51 HPW.out.store; exact (Array.getElem?_eq_some_iff.1 hc).1
      go_upto_region 7 with fail
      go_cut [10, 11] from 40 to 120 (fun s10 s11 wx => ∃ (X : Nat) (o5 : Option Addr) (c5 : Nat), s10 = .pointer (some ⟨X, 0, none⟩) ∧ s11 = .int .i64 z ∧ Aside (PlayX wx N M X may l l' ro o5 rc c5) ∧ Aside (Below wr.heap.size wr wx))
      case first =>
        rename_i J K' hJ hK'
        go_region_law (first
          | (go_simp; go_at_call 11; with_reducible refine (HP11.out _ ((Below.refl _ _).drew)).mono ?_; rintro e w5 ⟨o5, c5, rfl, R5, hb5⟩)
          | (go_simp; go_at_call 11; with_reducible refine (HP11.out _ (((Below.refl _ _).alloc (Nat.le_refl _) _).drew)).mono ?_; rintro e w5 ⟨o5, c5, rfl, R5, hb5⟩; obtain ⟨x0, x1, x2, x3⟩ := x_facts hb5))
        all_goals
          refine hK' _ _ (Met.intro (hJ _ _ ?_))
          (repeat apply Exists.intro)
          refine ⟨?rel, rfl⟩
          case rel =>
            first
            | exact ⟨_, _, _, rfl, rfl, (play_x HPW.out (below_undrew hb5) R5).1, (play_x HPW.out (below_undrew hb5) R5).2⟩
            | exact ⟨_, _, _, rfl, rfl, (play_x2 HPW.out (below_undrew hb5) R5 hNw).1, (play_x2 HPW.out (below_undrew hb5) R5 hNw).2⟩
      case rest =>
        obtain ⟨X, o5, c5, rfl, rfl, PX, hb6⟩ := hcut
        clear c3a c4a c1a c2a c1 c2 c3 c4 HP11 HPW
        have hBc : Below N w wc := HBL.out.trans (hb6.out.mono hNr)
        obtain ⟨c1, c2⟩ := HQ.out wc hBc
        have hab : ab < wc.heap.size := World.block_lt_of_cell? wc _ c1
        obtain ⟨c', C, fr, hcv, hbi⟩ := conv_bytes (w := wc.drew) s
        have c3 : (wc.alloc (.cells C 5 fr)).cell? ⟨ab, aof + k * 2, none⟩ = some (.int .i64 q) := by
          rw [World.cell?_alloc_lt _ _ _ hab]; exact c1
        have hbi' : BytesIn (wc.alloc (.cells C 5 fr)).drew.drew (.slice (some ⟨wc.heap.size, 0, none⟩) s.size c') s.data.toList := hbi
        have ha5 : Below wc.heap.size wc (wc.alloc (.cells C 5 fr)).drew.drew := ((Below.refl _ _).alloc (Nat.le_refl _) _).drew.drew
        have C12 := Lib.hid (HP12.out _ N _ (PX.out.old.store.below ha5) hbi')
        have HPX := Lib.hid PX.out
        have HBC := Lib.hid hBc
        have HA5 := Lib.hid ha5
        have hNc : N < wc.heap.size := by obtain ⟨c, hc⟩ := store_cells51 PX.out.old.store; exact (Array.getElem?_eq_some_iff.1 hc).1
        clear hbi hbi' ha5 hBc hb6 PX HP12 HS
        have hk0 : (0 : Int) ≤ (k : Int) := by omega
        have hk1 : (k : Int) < (n : Int) := by omega
        go_upto_region 8 with fail
        go_cut [75] from 40 to 120 (fun s75 wx => s75 = .bool false ∧ Aside (PlayY wx N M X may l' ro o5 l.length rc c5) ∧ Aside (Below N w wx))
        case first =>
          rename_i J K' hJ hK'
          go_region_law (first | (go_simp; go_at_call 12; with_reducible refine C12.out.mono ?_; rintro e w7 ⟨rfl, S7, hX7⟩))
          all_goals
            refine hK' _ _ (Met.intro (hJ _ _ ?_))
            (repeat apply Exists.intro)
            refine ⟨?rel, rfl⟩
            case rel => exact ⟨by simp, play_y (HPX.out.below HA5.out) S7 hX7, HBC.out.trans ((HA5.out.mono (Nat.le_of_lt hNc)).trans (hX7.under (Nat.le_refl _) (Nat.le_refl _) (by have := HA5.out.size; omega)))⟩
        case rest =>
          obtain ⟨rfl, PY, hB8⟩ := hcut
          clear C12 HPX HBC HA5 c1 c2 c3 hcv hab hNc
          have hX0 : wc.cell? ⟨X, 0, none⟩ = some (.int .i64 may) := by rw [cell_block PY.out.rowx]; rfl
          have hX1 : wc.cell? ⟨X, 1, none⟩ = some (.slice o5 l'.length c5) := by rw [cell_block PY.out.rowx]; rfl
          have hM0 : wc.cell? ⟨M, 0, none⟩ = some (.int .i64 may) := by rw [cell_block PY.out.row]; rfl
          have hM1 : wc.cell? ⟨M, 1, none⟩ = some (.slice ro l.length rc) := by rw [cell_block PY.out.row]; rfl
          have hF0 : wc.frozen? ⟨M, 0, none⟩ = false := by simp [World.frozen?, PY.out.row]
          have hF1 : wc.frozen? ⟨M, 1, none⟩ = false := by simp [World.frozen?, PY.out.row]
          have HPY := Lib.hid PY.out
          have HB8 := Lib.hid hB8.out
          clear PY hB8
          go_upto_region 11 with fail
          obtain ⟨W8, hW8⟩ : ∃ W8, W8 = (wc.setCell ⟨M, 0, none⟩ (.int .i64 may)).setCell ⟨M, 1, none⟩ (.slice o5 l'.length c5) := ⟨_, rfl⟩
          have PW8 : PlayW W8 N M may l' o5 c5 := by rw [hW8]; exact play_m HPY.out (Nat.le_of_lt hNM) (Nat.ne_of_gt hNM)
          have hB88 : Below N w W8 := by rw [hW8]; exact (HB8.out.setCell (Nat.le_of_lt hNM) _).setCell (Nat.le_of_lt hNM) _
          rw [← hW8]
          clear hW8 hX0 hX1 hM0 hM1 hF0 hF1 HPY HB8
          obtain ⟨c1, c2⟩ := HQ.out W8 hB88
          have C13 := Lib.hid (HP13.out W8 N PW8.store)
          have HPW8 := Lib.hid PW8
          have HB88 := Lib.hid hB88
          have hN8 : N < W8.heap.size := by obtain ⟨c, hc⟩ := store_cells51 PW8.store; exact (Array.getElem?_eq_some_iff.1 hc).1
          clear PW8 hB88
          go_wp2_with (first
            | (go_at_call 13; with_reducible refine C13.out.mono ?_; rintro e w9 ⟨vo, vm, vc, rfl, hcv9, hb9⟩))
          have PW9 := HPW8.out.below hb9
          have hB9 : Below N w w9 := HB88.out.trans (hb9.mono (Nat.le_of_lt hN8))
          obtain ⟨d1, d2⟩ := HQ.out w9 hB9
          have m0 := PW9.cell0
          have m1 := PW9.cell1
          have HCV9 := Lib.hid hcv9.out
          have C14 := Lib.hid (HP14.out w9.drew N o5 c5 (ownsRow_heap PW9.ref rfl))
          have HPW9 := Lib.hid PW9
          have HB9 := Lib.hid hB9
          have hN9 : N < w9.heap.size := by have := hb9.size; omega
          clear C13 HPW8 HB88 c1 c2 PW9 hB9 hb9 hcv9
          go_upto_region 12 with fail
          go_cut [15, 16, 17] from 40 to 120 (fun s15 s16 s17 wx => s15 = .int .i64 fp ∧ s16 = .string fs ∧ s17 = .bool fok ∧ Aside (Below w9.heap.size w9 wx))
          case first =>
            rename_i J K' hJ hK'
            go_region_held3 (fun W' => W'.cell? ⟨M, 0, none⟩ = some (.int .i64 may) ∧ W'.cell? ⟨M, 1, none⟩ = some (.slice o5 l'.length c5) ∧ W'.cell? ⟨ab, aof + k * 2, none⟩ = some (.int .i64 q))
              (first
                | exact ⟨m0, m1, d1⟩
                | go_keep
                | (go_split_ands; exact ⟨(hb10.cell (p := ⟨M, 0, none⟩) (World.block_lt_of_cell? _ _ (by assumption))).trans (by assumption), (hb10.cell (p := ⟨M, 1, none⟩) (World.block_lt_of_cell? _ _ (by assumption))).trans (by assumption), (hb10.cell (p := ⟨ab, aof + k * 2, none⟩) (World.block_lt_of_cell? _ _ (by assumption))).trans (by assumption)⟩))
              ((go_at_call 14; with_reducible refine C14.out.mono ?_; rintro e w10 ⟨rfl, hb10⟩))
            go_wp2
            go_meet
            case rel => exact ⟨rfl, rfl, rfl, below_undrew hb10⟩
          case rest =>
            obtain ⟨rfl, rfl, rfl, hb10⟩ := hcut
            have PW10 := HPW9.out.below hb10.out
            have hB10 : Below N w wc := HB9.out.trans (hb10.out.mono (Nat.le_of_lt hN9))
            have m0 := PW10.cell0
            have m1 := PW10.cell1
            have HC16 : Hid (∀ W, Below wc.heap.size wc W → Calls Try.prog 16 #[.pointer (some ⟨N, 0, none⟩)] W fun e w' => ∃ v, e = .returned v ∧ IntsAt w' W.heap.size v (l'.map (·.1)) ∧ Below W.heap.size W w') := Lib.hid fun W hW => play_all (PW10.below hW) hm1 hl'
            have HC17 : Hid (∀ W, Below wc.heap.size wc W → Calls Try.prog 17 #[.agg #[.int .i64 may, .slice o5 l'.length c5]] W fun e w' => ∃ v, e = .returned v ∧ IntsAt w' W.heap.size v (l'.map (·.1)) ∧ Below W.heap.size W w') := Lib.hid fun W hW => play_refAll (PW10.below hW) hl'
            have HMM : Hid (∀ W, Below wc.heap.size wc W → W.cell? ⟨M, 0, none⟩ = some (.int .i64 may) ∧ W.cell? ⟨M, 1, none⟩ = some (.slice o5 l'.length c5)) := Lib.hid fun W hW => ⟨(PW10.below hW).cell0, (PW10.below hW).cell1⟩
            have HC15 : Hid (∀ W B C va vb, IntsAt W B va (l'.map (·.1)) → IntsAt W C vb (l'.map (·.1)) → Calls Try.prog 15 #[va, vb] W fun e w' => e = .returned (.bool true) ∧ Below W.heap.size W w') := Lib.hid fun W B C va vb ha hb => play_same ha hb (by simp; omega)
            have HCV10 : Hid (∀ W, Below wc.heap.size wc W → (convert 36 9 (.slice vo vm vc)).run Try.prog W = .ok (.string fs) W) := Lib.hid fun W hW => HCV9.out W (hb10.out.trans (hW.mono hb10.out.size))
            have HPW10 := Lib.hid PW10
            have HB10 := Lib.hid hB10
            have hN10 : N < wc.heap.size := by have := hb10.out.size; omega
            clear HPW9 HB9 HCV9 C14 hb10 d1 d2 hN9 PW10 hB10
            generalize wc = wo at *
            go_upto_region 13 with fail
            go_cut [120] from 40 to 120 (fun s120 wx => s120 = .bool false ∧ Aside (Below wo.heap.size wo wx))
            case first =>
              rename_i J K' hJ hK'
              go_region_held3 (fun W' => W'.cell? ⟨M, 0, none⟩ = some (.int .i64 may) ∧ W'.cell? ⟨M, 1, none⟩ = some (.slice o5 l'.length c5) ∧ Below wo.heap.size wo W' ∧ (convert 36 9 (.slice vo vm vc)).run Try.prog W' = .ok (.string fs) W')
                (first
                  | exact ⟨m0, m1, (Below.refl _ _).drew, HCV10.out _ (Below.refl _ _).drew⟩
                  | go_keep
                  | (go_split_ands; exact ⟨(hb13.cell (p := ⟨M, 0, none⟩) (World.block_lt_of_cell? _ _ (by assumption))).trans (by assumption), (hb13.cell (p := ⟨M, 1, none⟩) (World.block_lt_of_cell? _ _ (by assumption))).trans (by assumption), below_trans2 (by assumption) hb13, HCV10.out _ (below_trans2 (by assumption) hb13)⟩)
                  | (go_split_ands; exact ⟨(hb12.cell (p := ⟨M, 0, none⟩) (World.block_lt_of_cell? _ _ (by assumption))).trans (by assumption), (hb12.cell (p := ⟨M, 1, none⟩) (World.block_lt_of_cell? _ _ (by assumption))).trans (by assumption), below_trans2 (by assumption) hb12, HCV10.out _ (below_trans2 (by assumption) hb12)⟩)
                  | (go_split_ands; exact ⟨(hb11.cell (p := ⟨M, 0, none⟩) (World.block_lt_of_cell? _ _ (by assumption))).trans (by assumption), (hb11.cell (p := ⟨M, 1, none⟩) (World.block_lt_of_cell? _ _ (by assumption))).trans (by assumption), below_trans2 (by assumption) hb11, HCV10.out _ (below_trans2 (by assumption) hb11)⟩)
                  | (go_split_ands; exact ⟨by assumption, by assumption, Below.drew (by assumption), HCV10.out _ (Below.drew (by assumption))⟩))
                (first
                  | (go_at_call 16; with_reducible refine (HC16.out _ (by first | exact (Below.refl _ _).drew | exact And.left (And.right (And.right (by assumption))) | exact Below.drew (And.left (And.right (And.right (by assumption)))))).mono ?_; rintro e w11 ⟨va, rfl, ha, hb11⟩)
                  | (go_at_call 17; with_reducible refine (HC17.out _ (by first | exact (Below.refl _ _).drew | exact And.left (And.right (And.right (by assumption))) | exact Below.drew (And.left (And.right (And.right (by assumption)))))).mono ?_; rintro e w12 ⟨vb, rfl, hb, hb12⟩)
                  | (go_at_call 15; with_reducible refine (HC15.out _ _ _ _ _ (by first | exact ints_below ha hb12 | exact ints_below (ints_drew ha) hb12) (by first | exact hb | exact ints_drew hb)).mono ?_; rintro e w13 ⟨rfl, hb13⟩))
              have hEND : Below wo.heap.size wo w13 := by go_split_ands; assumption
              go_wp2
              go_meet
              case rel => exact ⟨rfl, hEND⟩
            case rest =>
              obtain ⟨rfl, hb13⟩ := hcut
              have HPW13 := Lib.hid (HPW10.out.below hb13.out)
              have HB13 := Lib.hid (HB10.out.trans (hb13.out.mono (Nat.le_of_lt hN10)))
              clear HPW10 HB10 hb13 HC16 HC17 HC15 HMM HCV10 m0 m1
              have hk0 : (0 : Int) ≤ (k : Int) := by omega
              have hk1 : (k : Int) < (n : Int) := by omega
              go_wp2_with fail
              go_roundg (n - (k + 1))
              case measure => omega
              case rel => exact ⟨k + 1, by go_num, by omega, Nat.le_refl _, (show ∃ l o c, PlayAt may l ∧ PlayW wc N M may l o c from ⟨l', o5, c5, HPL.out, HPW13.out⟩), HB13.out⟩
    · obtain rfl : k = n := by omega
      have HPW := Lib.hid pw
      have HBL := Lib.hid hbl.out
      obtain ⟨fp, fs, fok, C13, C14⟩ := play_floor hpl hm1 hm2 pos
      have C13' := Lib.hid (C13 wr N pw.store)
      have HP14 := Lib.hid C14
      have hNr : N ≤ wr.heap.size := by have := hbl.out.size; have := HN.out; omega
      clear C13 C14 pw hpl L hbl PW0 HB0 HA HF
      go_wp2_with (first
        | (go_at_call 13; with_reducible refine C13'.out.mono ?_; rintro e w9 ⟨vo, vm, vc, rfl, hcv9, hb9⟩; have PW9 := HPW.out.below hb9; have m0 := PW9.cell0; have m1 := PW9.cell1; have C14' := Lib.hid (HP14.out w9 N ro rc PW9.ref); clear PW9)
        | (go_at_call 14; with_reducible refine C14'.out.mono ?_; rintro e w10 ⟨rfl, hb10⟩; have hcv := hcv9.out w10 hb10)
        | (go_at_call 10; with_reducible refine (lives_any _).mono ?_; rintro e w11 ⟨rfl, hb11⟩))
      go_ret
      have h1 := hb9.size
      have h2 := hb10.size
      refine ⟨rfl, ?_⟩
      rw [← HN.out]
      exact HBL.out.trans ((hb9.mono hNr).trans ((hb10.mono (by omega)).trans (hb11.mono (by omega))))

theorem store_plays_walk (most pos : Int) (so : Option Addr) (n c : Nat) (P : Nat → Int) (Q : Nat → ByteArray) (w : World) (ha : ActsIn w so n P Q) (hf : ActsFit n Q) :
    Calls Try.prog 3 #[.int .i64 most, .slice so n c, .int .i64 pos] w fun e w' => e = .returned (.bool true) ∧ Below w.heap.size w w' := by
  by_cases hn : n ≤ 300
  · exact plays_main most pos so n c P Q w ha hf hn
  · have hn1 : (300 : Int) < (n : Int) := by omega
    have hn2 : decide (300 < n) = true := decide_eq_true (by omega)
    clear ha hf
    obtain ⟨may, hmay⟩ : ∃ may, may = (max 1 (min most 64)).toNat := ⟨_, rfl⟩
    have HM := Lib.hid hmay
    clear hmay
    go_enter Try.func3, Try.ntmps3
    go_wp2_with (first
      | (go_at_call 8; with_reducible refine (new_may HM.out _).mono ?_; rintro e w1 ⟨rfl, hst1, hb1⟩)
      | (go_at_call 9; with_reducible refine (refNew_may HM.out _).mono ?_; rintro e w2 ⟨rfl, hb2⟩)
      | (go_at_call 10; with_reducible refine (lives_any _).mono ?_; rintro e w9 ⟨rfl, hb9⟩))
    go_ret
    have h1 := hb1.size
    have h2 := hb2.size
    exact ⟨rfl, hb1.trans ((hb2.mono h1).trans (((Below.refl _ _).alloc (by omega) _).trans (hb9.mono (by simp; omega))))⟩
end Go.Proofs.Ytiagpaoomijidaa
