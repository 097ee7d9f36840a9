/- The other side: right. -/
import Derived.Test.YtggjeecpadnihaaGreatDoorSyA
namespace Go.Proofs.YtggjeecpadnihaaGreatDoor
open Go Go.Proofs Go.Eng Go.RowKit Go.Sx Go.Deep
set_option linter.unusedVariables false
set_option linter.unusedSimpArgs false

theorem rk_n (kids : List Ex) (j : Nat) : decide (kids.length = j) = ((kids.length : Int) == (j : Int)) := by rw [Bool.eq_iff_iff]; simp; omega
set_option maxRecDepth 100000 in
set_option maxHeartbeats 1000000 in
/-- The loop over the kids: what stands behind it is K's matter. -/
theorem rright_any (W : World) : ∀ (m : Nat) (e : Ex) (cs : List Value), e.cnt = m → ExIn W e cs → ∀ w, Old W w → Calls Tryz.prog 21 #[.agg ⟨cs⟩] w fun e' w' => e' = .returned (.bool e.right) ∧ Below w.heap.size w w' := by
  intro m
  induction m using Nat.strongRecOn with
  | ind m ih =>
  intro e cs he hin w hw
  obtain ⟨k, s, n, kids, line⟩ := e
  simp only [ExIn] at hin
  obtain ⟨so, cap, rfl, ⟨_, _, hsb⟩, hl, hk⟩ := hin
  simp only [Ex.cnt] at he
  have HK := Lib.hid (fun (i : Nat) (e : Ex) (hi : kids[i]? = some e) => kids_at hk hi)
  have IH := Lib.hid ih
  have HW := Lib.hid hw
  have HE := Lib.hid he
  have NP := Lib.hid (fun w => rplain_any s w hsb)
  clear hsb
  have HC := Lib.hid (fun (i : Nat) (e : Ex) (hi : kids[i]? = some e) => cntL_get hi)
  clear ih hw hk he
  obtain ⟨W1, hW1⟩ : ∃ W1, W1 = w.alloc (.cells ⟨[.int .i64 k, .string s, .int .i64 n, .slice so kids.length cap, .int .i64 line]⟩ 25) := ⟨_, rfl⟩
  have hb1 : Below w.heap.size w W1 := by rw [hW1]; exact (RowKit.Below.refl _ _).alloc (Nat.le_refl _) _
  have hrow : W1.heap[w.heap.size]? = some (.cells #[.int .i64 k, .string s, .int .i64 n, .slice so kids.length cap, .int .i64 line] 25 (0, 0)) := by rw [hW1]; exact heap_alloc_new _ _
  have HB1 := Lib.hid hb1
  have HROW := Lib.hid hrow
  have HLT : Hid (w.heap.size < W1.heap.size) := Lib.hid (Array.getElem?_eq_some_iff.1 hrow).1
  obtain ⟨c0, c1, c2, c3, c4⟩ := row_cells hrow
  have HR : Hid ((Ex.mk k s n kids line).right = (rightL kids && rightK k s n kids.length)) := Lib.hid (by simp [Ex.right])
  clear hb1 hrow
  go_enter Tryz.func21, Tryz.ntmps21
  go_wp2_with fail
  rw [← hW1]
  clear hW1
  go_wp2_with fail
  clear c0 c1 c2 c3 c4
  go_loopg [4] kids.length (fun kx s4 wr => ∃ i : Nat, s4 = .int .i64 i ∧ i ≤ kids.length ∧ kids.length - i ≤ kx ∧ Aside (rightL (kids.take i) = true) ∧ Aside (Below W1.heap.size W1 wr))
  case atStart => exact ⟨0, rfl, by omega, by omega, rfl, RowKit.Below.refl _ _⟩
  case round =>
    obtain ⟨i, rfl, hi, hg, hf, hb⟩ := hrel
    have HF := Lib.hid hf.out
    have HB := Lib.hid hb.out
    clear hb hf
    obtain ⟨c0, c1, c2, c3, c4⟩ := row_cells ((HB.out.block _ HLT.out).trans HROW.out)
    by_cases hil : i < kids.length
    · have hx : kids[i]? = some kids[i] := List.getElem?_eq_getElem hil
      obtain ⟨g, o, so', cap', rfl, hgW, a0, a1, a2, a3, a4, ht⟩ := kid_open (HK.out i _ hx)
      rw [Nat.zero_add] at a0 a1 a2 a3 a4
      have hold : Old W wr := (HW.out.below HB1.out).below HB.out
      have d0 := hold.cell a0
      have d1 := hold.cell a1
      have d2 := hold.cell a2
      have d3 := hold.cell a3
      have d4 := hold.cell a4
      have hcn := HC.out i _ hx
      have HCALL : Hid (∀ w3, Old W w3 → Calls Tryz.prog 21 #[.agg #[.int .i64 (kids[i] : Ex).kind, .string (kids[i] : Ex).str, .int .i64 (kids[i] : Ex).num, .slice so' (kids[i] : Ex).kids.length cap', .int .i64 (kids[i] : Ex).line]] w3 fun e' w' => e' = .returned (.bool (kids[i] : Ex).right) ∧ Below w3.heap.size w3 w') :=
        Lib.hid (fun w3 h3 => IH.out _ (by have := HE.out; omega) _ _ rfl ht w3 h3)
      have HO := Lib.hid hold
      have HX := Lib.hid hx
      have hi1 : (i : Int) < (kids.length : Int) := by omega
      have hi0 : (0 : Int) ≤ (i : Int) := by omega
      generalize kids[i] = kd at *
      obtain ⟨k', s', n', kids', line'⟩ := kd
      simp only [Ex.kind, Ex.str, Ex.num, Ex.kids, Ex.line] at d0 d1 d2 d3 d4 HCALL
      clear a0 a1 a2 a3 a4 ht hx
      have HT := Lib.hid (rightL_take HX.out HF.out)
      have HFF : Hid ((Ex.mk k' s' n' kids' line').right = false → (Ex.mk k s n kids line).right = false) := Lib.hid fun h => by rw [HR.out, rightL_false HX.out h]; rfl
      generalize (Ex.mk k' s' n' kids' line').right = rk at *
      go_wp2_with fail
      clear d0 d1 d2 d3 d4 c0 c1 c2 c3 c4
      go_at_call 21
      refine (HCALL.out _ HO.out).mono ?_
      rintro e w2 ⟨rfl, hb2⟩
      have HB2 : Hid (Below W1.heap.size W1 w2) := Lib.hid (HB.out.trans (hb2.mono HB.out.size))
      clear hb2 HCALL
      simp only
      cases rk with
      | false =>
        go_wp2_with fail
        go_ret
        exact ⟨by rw [HFF.out trivial]; rfl, HB1.out.trans (HB2.out.mono HB1.out.size)⟩
      | true =>
        go_wp2_with fail
        go_roundg (kids.length - (i + 1))
        case measure => omega
        case rel => exact ⟨i + 1, by go_num, by omega, Nat.le_refl _, HT.out, HB2.out⟩
    · obtain rfl : i = kids.length := by omega
      have HRK : Hid ((Ex.mk k s n kids line).right = rightK k s n kids.length) := Lib.hid (by
        have h := HF.out
        rw [List.take_length] at h
        rw [HR.out, h]; rfl)
      have FIN : Hid (Below w.heap.size w wr) := Lib.hid (HB1.out.trans (HB.out.mono HB1.out.size))
      clear HF HC IH HW HK HR
      have HLT2 : Hid (w.heap.size < wr.heap.size) := Lib.hid (Nat.lt_of_lt_of_le HLT.out HB.out.size)
      have C2 := Lib.hid c2
      by_cases h1 : k = 1
      · subst h1
        have e : rightK 1 s n kids.length = (decide ((0 : Int) ≤ n) && s.toList.isEmpty && ((kids.length : Int) == 0)) := by
          have q : rightK 1 s n kids.length = (decide (0 ≤ n) && decide (s.size = 0) && decide (kids.length = 0)) := by simp [rightK]
          rw [q]; rw [size_empty, rk_n kids 0]; rfl
        rw [e] at HRK
        clear e
        generalize hg0 : decide ((0 : Int) ≤ n) = b0 at *
        generalize hg1 : s.toList.isEmpty = b1 at *
        generalize hg2 : ((kids.length : Int) == 0) = b2 at *
        cases b0 <;> cases b1 <;> cases b2 <;>
        (go_wp2
         go_ret
         exact ⟨by rw [HRK.out]; rfl, FIN.out⟩)
      by_cases h2 : k = 2
      · subst h2
        have e : rightK 2 s n kids.length = (((n == 0) || (n == 1)) && s.toList.isEmpty && ((kids.length : Int) == 0)) := by
          have q : rightK 2 s n kids.length = ((decide (n = 0) || decide (n = 1)) && decide (s.size = 0) && decide (kids.length = 0)) := by simp [rightK]
          rw [q]; rw [size_empty, rk_n kids 0, int_beq, int_beq]; rfl
        rw [e] at HRK
        clear e
        generalize hg0 : (n == 0) = b0 at *
        generalize hg1 : (n == 1) = b1 at *
        generalize hg2 : s.toList.isEmpty = b2 at *
        generalize hg3 : ((kids.length : Int) == 0) = b3 at *
        cases b0 <;> cases b1 <;> cases b2 <;> cases b3 <;>
        (go_wp2
         go_ret
         exact ⟨by rw [HRK.out]; rfl, FIN.out⟩)
      by_cases h3 : k = 3
      · subst h3
        have HN := Lib.hid (fun w => NP.out w)
        have e : rightK 3 s n kids.length = (plainB s && (n == 0) && ((kids.length : Int) == 0)) := by
          have q : rightK 3 s n kids.length = (plainB s && decide (n = 0) && decide (kids.length = 0)) := by simp [rightK]
          rw [q]; rw [rk_n kids 0, int_beq]; rfl
        rw [e] at HRK
        clear e
        generalize hg0 : plainB s = b0 at *
        generalize hg1 : (n == 0) = b1 at *
        generalize hg2 : ((kids.length : Int) == 0) = b2 at *
        cases b0 <;> cases b1 <;> cases b2 <;>
        (go_wp2_with (go_at_call 47; (with_reducible refine (HN.out _).mono ?_); rintro e w2 ⟨rfl, rfl⟩)
         go_ret
         exact ⟨by rw [HRK.out]; rfl, FIN.out⟩)
      by_cases h4 : k = 4
      · subst h4
        have HN := Lib.hid (fun w => rname_any s w)
        have e : rightK 4 s n kids.length = (nameB s && (n == 0) && ((kids.length : Int) == 0)) := by
          have q : rightK 4 s n kids.length = (nameB s && decide (n = 0) && decide (kids.length = 0)) := by simp [rightK]
          rw [q]; rw [rk_n kids 0, int_beq]; rfl
        rw [e] at HRK
        clear e
        generalize hg0 : nameB s = b0 at *
        generalize hg1 : (n == 0) = b1 at *
        generalize hg2 : ((kids.length : Int) == 0) = b2 at *
        cases b0 <;> cases b1 <;> cases b2 <;>
        (go_wp2_with (go_at_call 48; (with_reducible refine (HN.out _).mono ?_); rintro e w2 ⟨rfl, hb⟩; have q2 := (hb.cell (p := ⟨w.heap.size, 2, none⟩) HLT2.out).trans C2.out)
         go_ret
         exact ⟨by rw [HRK.out]; rfl, FIN.out.trans (RowKit.Below.mono hb FIN.out.size)⟩)
      by_cases h5 : k = 5
      · subst h5
        have HN := Lib.hid (fun w => rname_any s w)
        have e : rightK 5 s n kids.length = (nameB s && (n == 0)) := by
          have q : rightK 5 s n kids.length = (nameB s && decide (n = 0)) := by simp [rightK]
          rw [q]; rw [int_beq]
        rw [e] at HRK
        clear e
        generalize hg0 : nameB s = b0 at *
        generalize hg1 : (n == 0) = b1 at *
        cases b0 <;> cases b1 <;>
        (go_wp2_with (go_at_call 48; (with_reducible refine (HN.out _).mono ?_); rintro e w2 ⟨rfl, hb⟩; have q2 := (hb.cell (p := ⟨w.heap.size, 2, none⟩) HLT2.out).trans C2.out)
         go_ret
         exact ⟨by rw [HRK.out]; rfl, FIN.out.trans (RowKit.Below.mono hb FIN.out.size)⟩)
      by_cases h11 : k = 11
      · subst h11
        have HN := Lib.hid (fun w => rname_any s w)
        have e : rightK 11 s n kids.length = (nameB s && (n == 0)) := by
          have q : rightK 11 s n kids.length = (nameB s && decide (n = 0)) := by simp [rightK]
          rw [q]; rw [int_beq]
        rw [e] at HRK
        clear e
        generalize hg0 : nameB s = b0 at *
        generalize hg1 : (n == 0) = b1 at *
        cases b0 <;> cases b1 <;>
        (go_wp2_with (go_at_call 48; (with_reducible refine (HN.out _).mono ?_); rintro e w2 ⟨rfl, hb⟩; have q2 := (hb.cell (p := ⟨w.heap.size, 2, none⟩) HLT2.out).trans C2.out)
         go_ret
         exact ⟨by rw [HRK.out]; rfl, FIN.out.trans (RowKit.Below.mono hb FIN.out.size)⟩)
      by_cases h6 : k = 6
      · subst h6
        have e : rightK 6 s n kids.length = (((s.toList == [45]) || (s.toList == [33])) && (n == 0) && ((kids.length : Int) == 1)) := by
          have q : rightK 6 s n kids.length = (((s.toList == [45]) || (s.toList == [33])) && decide (n = 0) && decide (kids.length = 1)) := by simp [rightK]
          rw [q]; rw [rk_n kids 1, int_beq]; rfl
        rw [e] at HRK
        clear e
        generalize hg0 : (s.toList == [45]) = b0 at *
        generalize hg1 : (s.toList == [33]) = b1 at *
        generalize hg2 : (n == 0) = b2 at *
        generalize hg3 : ((kids.length : Int) == 1) = b3 at *
        cases b0 <;> cases b1 <;> cases b2 <;> cases b3 <;>
        (go_wp2
         go_ret
         exact ⟨by rw [HRK.out]; rfl, FIN.out⟩)
      by_cases h7 : k = 7
      · subst h7
        have HN := Lib.hid (fun w => rline_any s w)
        have e : rightK 7 s n kids.length = (decide ((0 : Int) ≤ lvl s) && (n == 0) && ((kids.length : Int) == 2)) := by
          have q : rightK 7 s n kids.length = (decide (0 ≤ lvl s) && decide (n = 0) && decide (kids.length = 2)) := by simp [rightK]
          rw [q]; rw [rk_n kids 2, int_beq]; rfl
        rw [e] at HRK
        clear e
        generalize hg0 : decide ((0 : Int) ≤ lvl s) = b0 at *
        generalize hg1 : (n == 0) = b1 at *
        generalize hg2 : ((kids.length : Int) == 2) = b2 at *
        cases b0 <;> cases b1 <;> cases b2 <;>
        (go_wp2_with (go_at_call 49; (with_reducible refine (HN.out _).mono ?_); rintro e w2 ⟨rfl, hb⟩; have q2 := (hb.cell (p := ⟨w.heap.size, 2, none⟩) HLT2.out).trans C2.out)
         go_ret
         exact ⟨by rw [HRK.out]; rfl, FIN.out.trans (RowKit.Below.mono hb FIN.out.size)⟩)
      by_cases h8 : k = 8
      · subst h8
        have e : rightK 8 s n kids.length = (s.toList.isEmpty && (n == 0) && ((kids.length : Int) == 2)) := by
          have q : rightK 8 s n kids.length = (decide (s.size = 0) && decide (n = 0) && decide (kids.length = 2)) := by simp [rightK]
          rw [q]; rw [size_empty, rk_n kids 2, int_beq]; rfl
        rw [e] at HRK
        clear e
        generalize hg0 : s.toList.isEmpty = b0 at *
        generalize hg1 : (n == 0) = b1 at *
        generalize hg2 : ((kids.length : Int) == 2) = b2 at *
        cases b0 <;> cases b1 <;> cases b2 <;>
        (go_wp2
         go_ret
         exact ⟨by rw [HRK.out]; rfl, FIN.out⟩)
      by_cases h9 : k = 9
      · subst h9
        have HN := Lib.hid (fun w => rname_any s w)
        have e : rightK 9 s n kids.length = (nameB s && (n == 0) && ((kids.length : Int) == 1)) := by
          have q : rightK 9 s n kids.length = (nameB s && decide (n = 0) && decide (kids.length = 1)) := by simp [rightK]
          rw [q]; rw [rk_n kids 1, int_beq]; rfl
        rw [e] at HRK
        clear e
        generalize hg0 : nameB s = b0 at *
        generalize hg1 : (n == 0) = b1 at *
        generalize hg2 : ((kids.length : Int) == 1) = b2 at *
        cases b0 <;> cases b1 <;> cases b2 <;>
        (go_wp2_with (go_at_call 48; (with_reducible refine (HN.out _).mono ?_); rintro e w2 ⟨rfl, hb⟩; have q2 := (hb.cell (p := ⟨w.heap.size, 2, none⟩) HLT2.out).trans C2.out)
         go_ret
         exact ⟨by rw [HRK.out]; rfl, FIN.out.trans (RowKit.Below.mono hb FIN.out.size)⟩)
      by_cases h10 : k = 10
      · subst h10
        have e : rightK 10 s n kids.length = (s.toList.isEmpty && (n == 0) && decide (0 < kids.length)) := by
          have q : rightK 10 s n kids.length = (decide (s.size = 0) && decide (n = 0) && decide (0 < kids.length)) := by simp [rightK]
          rw [q]; rw [size_empty, int_beq]
        rw [e] at HRK
        clear e
        generalize hg0 : s.toList.isEmpty = b0 at *
        generalize hg1 : (n == 0) = b1 at *
        cases b0 <;> cases b1 <;>
        (go_wp2
         go_ret
         exact ⟨by rw [HRK.out]; rfl, FIN.out⟩)
      have e : rightK k s n kids.length = false := by
        unfold rightK
        rw [if_neg h1, if_neg h2, if_neg h3, if_neg h4, if_neg (by omega), if_neg h6, if_neg h7, if_neg h8, if_neg h9, if_neg h10]
      rw [e] at HRK
      clear e
      have g1 : (k == 1) = false := beq_eq_false_iff_ne.2 h1
      have g2 : (k == 2) = false := beq_eq_false_iff_ne.2 h2
      have g3 : (k == 3) = false := beq_eq_false_iff_ne.2 h3
      have g4 : (k == 4) = false := beq_eq_false_iff_ne.2 h4
      have g5 : (k == 5) = false := beq_eq_false_iff_ne.2 h5
      have g11 : (k == 11) = false := beq_eq_false_iff_ne.2 h11
      have g6 : (k == 6) = false := beq_eq_false_iff_ne.2 h6
      have g7 : (k == 7) = false := beq_eq_false_iff_ne.2 h7
      have g8 : (k == 8) = false := beq_eq_false_iff_ne.2 h8
      have g9 : (k == 9) = false := beq_eq_false_iff_ne.2 h9
      have g10 : (k == 10) = false := beq_eq_false_iff_ne.2 h10
      clear h1 h2 h3 h4 h5 h11 h6 h7 h8 h9 h10
      generalize q1 : (k == 1) = p1 at *
      subst g1
      generalize q2 : (k == 2) = p2 at *
      subst g2
      generalize q3 : (k == 3) = p3 at *
      subst g3
      generalize q4 : (k == 4) = p4 at *
      subst g4
      generalize q5 : (k == 5) = p5 at *
      subst g5
      generalize q11 : (k == 11) = p11 at *
      subst g11
      generalize q6 : (k == 6) = p6 at *
      subst g6
      generalize q7 : (k == 7) = p7 at *
      subst g7
      generalize q8 : (k == 8) = p8 at *
      subst g8
      generalize q9 : (k == 9) = p9 at *
      subst g9
      generalize q10 : (k == 10) = p10 at *
      subst g10
      go_wp2
      go_ret
      exact ⟨by rw [HRK.out]; rfl, FIN.out⟩
end Go.Proofs.YtggjeecpadnihaaGreatDoor
