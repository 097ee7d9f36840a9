/- The other side: Right. -/
import Derived.Test.YtggjeecpadnihaaGreatDoorSzC
import Derived.Test.YtggjeecpadnihaaGreatDoorSzD
import Derived.Test.YtggjeecpadnihaaGreatDoorSyB
import Derived.Test.YtggjeecpadnihaaGreatDoorSzA
import Derived.Test.YtggjeecpadnihaaGreatDoorRows
import Derived.Test.YtggjeecpadnihaaGreatDoorSyntaxWritesRun
namespace Go.Proofs.YtggjeecpadnihaaGreatDoor
open Go Go.Proofs Go.Eng Go.RowKit Go.Sx Go.Deep
set_option linter.unusedVariables false
set_option linter.unusedSimpArgs false

theorem Pg.right_r {p : Pg} {i : Nat} {r : Rc} (h : p.recs[i]? = some r) (he : r.right = false) : p.right = false := by unfold Pg.right; rw [all_false h he, Bool.false_and]
theorem Pg.right_f {p : Pg} {i : Nat} {r : Fu} (h : p.funcs[i]? = some r) (he : r.right = false) : p.right = false := by unfold Pg.right; rw [all_false h he, Bool.and_false]
open Go.Sx (Pg)

set_option maxRecDepth 100000 in
set_option maxHeartbeats 8000000 in
theorem rRight_any {W : World} {p : Pg} {cs : List Value} (hin : PgIn W p cs) (hcn : ∀ (i : Nat) f, p.funcs[i]? = some f → cntS f.body ≤ 4096) (w : World) (hw : Old W w) :
    Calls Tryz.prog 28 #[.agg ⟨cs⟩] w fun e' w' => e' = .returned (.bool p.right) ∧ Below w.heap.size w w' := by
  obtain ⟨so1, p1, so2, p2, rfl, ⟨hlr, hlf⟩, hr, hf⟩ := hin
  obtain ⟨W1, hW1⟩ : ∃ W1, W1 = w.alloc (.cells #[.slice so1 p.recs.length p1, .slice so2 p.funcs.length p2] 36) := ⟨_, rfl⟩
  have hb1 : Below w.heap.size w W1 := by rw [hW1]; exact (RowKit.Below.refl _ _).alloc (Nat.le_refl _) _
  have hrow : W1.heap[w.heap.size]? = some (.cells #[.slice so1 p.recs.length p1, .slice so2 p.funcs.length p2] 36 (0, 0)) := by rw [hW1]; exact heap_alloc_new _ _
  have HB1 := Lib.hid hb1
  have HOLD : Hid (∀ w', Below W1.heap.size W1 w' → Old W w') := Lib.hid fun w' hb => (hw.below hb1).below hb
  have HCELL : Hid (∀ w', Below W1.heap.size W1 w' → w'.cell? ⟨w.heap.size, 0, none⟩ = some (.slice so1 p.recs.length p1) ∧ w'.cell? ⟨w.heap.size, 1, none⟩ = some (.slice so2 p.funcs.length p2)) :=
    Lib.hid fun w' hb => prog_cells ((hb.block _ (Array.getElem?_eq_some_iff.1 hrow).1).trans hrow)
  have HR := Lib.hid hr
  have HF := Lib.hid hf
  have HCN := Lib.hid hcn
  have FINX : Hid (∀ w', Below W1.heap.size W1 w' → Below w.heap.size w w') := Lib.hid fun w' h => hb1.trans (RowKit.Below.mono h hb1.size)
  have HPR : Hid (p.recs.all Rc.right = true → p.funcs.all Fu.right = true → p.right = true) := Lib.hid fun h1 h2 => by unfold Go.Sx.Pg.right; rw [h1, h2]; rfl
  have HXR := Lib.hid (fun (i : Nat) (r : Rc) (h : p.recs[i]? = some r) (he : r.right = false) => Pg.right_r h he)
  have HXF := Lib.hid (fun (i : Nat) (r : Fu) (h : p.funcs[i]? = some r) (he : r.right = false) => Pg.right_f h he)
  obtain ⟨c0, c1⟩ := HCELL.out W1 (RowKit.Below.refl _ _)
  clear hr hf hcn hw hb1 hrow
  obtain ⟨recs, funcs⟩ := p
  simp only at HR HF HCN HCELL HPR HXR HXF c0 c1 hlr hlf hW1
  generalize (Go.Sx.Pg.mk recs funcs).right = pr at *
  go_enter Tryz.func28, Tryz.ntmps28
  go_wp2_with fail
  rw [← hW1]
  clear hW1
  go_wp2_with fail
  clear c0 c1
  go_loopg [3] recs.length (fun kx s3 wr => ∃ i : Nat, s3 = .int .i64 i ∧ i ≤ recs.length ∧ recs.length - i ≤ kx ∧ Aside ((recs.take i).all Rc.right = true) ∧ Aside (Below W1.heap.size W1 wr))
  case atStart => exact ⟨0, rfl, by omega, by omega, rfl, RowKit.Below.refl _ _⟩
  case round =>
    obtain ⟨i, rfl, hi, hg, hA, hb⟩ := hrel
    have HA := Lib.hid hA.out
    have HB := Lib.hid hb.out
    clear hA hb
    obtain ⟨c0, c1⟩ := HCELL.out _ HB.out
    by_cases hil : i < recs.length
    · have hx : recs[i]? = some recs[i] := List.getElem?_eq_getElem hil
      obtain ⟨g, o, soF, cF, rfl, hgW, a0, a1, a2, ⟨hs1, hs2⟩, hpm⟩ := HR.out i _ hx
      have d0 := (HOLD.out _ HB.out).cell a0
      have d1 := (HOLD.out _ HB.out).cell a1
      have d2 := (HOLD.out _ HB.out).cell a2
      have HFALSE := Lib.hid (HXR.out i _ hx)
      have HRT : Hid ((recs.take (i + 1)).all Rc.right = (recs[i] : Rc).right) := Lib.hid (all_take hx HA.out)
      have hi1 : (i : Int) < (recs.length : Int) := by omega
      have hi0 : (0 : Int) ≤ (i : Int) := by omega
      generalize (recs[i] : Rc) = r at *
      obtain ⟨nm, fs, line⟩ := r
      simp only [Rc.right] at d0 d1 d2 hpm hs2 HFALSE HRT
      obtain ⟨W2, hW2⟩ : ∃ W2, W2 = wr.alloc (.cells #[.string nm, .slice soF fs.length cF, .int .i64 line] 58) := ⟨_, rfl⟩
      have hb2 : Below wr.heap.size wr W2 := by rw [hW2]; exact (RowKit.Below.refl _ _).alloc (Nat.le_refl _) _
      have hrow2 : W2.heap[wr.heap.size]? = some (.cells #[.string nm, .slice soF fs.length cF, .int .i64 line] 58 (0, 0)) := by rw [hW2]; exact heap_alloc_new _ _
      have HB2 := Lib.hid (HB.out.trans (RowKit.Below.mono hb2 HB.out.size))
      have HC2 : Hid (∀ w', Below W2.heap.size W2 w' → w'.cell? ⟨wr.heap.size, 0, none⟩ = some (.string nm) ∧ w'.cell? ⟨wr.heap.size, 1, none⟩ = some (.slice soF fs.length cF) ∧ w'.cell? ⟨wr.heap.size, 2, none⟩ = some (.int .i64 line)) := Lib.hid fun w' hb => rec_cells ((hb.block _ (Array.getElem?_eq_some_iff.1 hrow2).1).trans hrow2)
      have HN := Lib.hid (rname_any nm W2)
      have HPA := Lib.hid (fun w' (hb : Below W2.heap.size W2 w') => rrightP_any (cap := cF) hpm hs2 w' (HOLD.out _ (HB2.out.trans (RowKit.Below.mono hb HB2.out.size))))
      have FIN2 : Hid (∀ w', Below W2.heap.size W2 w' → Below W1.heap.size W1 w') := Lib.hid fun w' hb => HB2.out.trans (RowKit.Below.mono hb HB2.out.size)
      obtain ⟨e0, e1, e2⟩ := HC2.out W2 (RowKit.Below.refl _ _)
      have hdd : decide (0 < fs.length) = !((fs.length : Int) == 0) := by
        rw [← i_zero]
        by_cases h : fs.length = 0
        · simp [h]
        · rw [decide_eq_false h, decide_eq_true (by omega)]; rfl
      rw [hdd] at HFALSE HRT
      clear hdd a0 a1 a2 hx hb2 hrow2 hpm
      generalize nameB nm = bn at *
      generalize rightP fs = bp at *
      generalize hz : ((fs.length : Int) == 0) = bz at *
      go_wp2_with fail
      rw [← hW2]
      clear hW2 d0 d1 d2 c0 c1
      cases bn with
      | false =>
        go_wp2_with (go_at_call 48; (with_reducible refine HN.out.mono ?_); rintro e w3 ⟨rfl, hb3⟩)
        go_ret
        exact ⟨by rw [HFALSE.out (by simp)]; rfl, FINX.out _ (FIN2.out _ hb3)⟩
      | true =>
        go_wp2_with fail
        go_at_call 48
        refine HN.out.mono ?_
        rintro e w3 ⟨rfl, hb3⟩
        have HB3 := Lib.hid hb3
        clear e0 e1 e2 hb3
        obtain ⟨e0, e1, e2⟩ := HC2.out w3 HB3.out
        simp only
        cases bz with
        | true =>
          go_wp2
          go_ret
          exact ⟨by rw [HFALSE.out (by simp)]; rfl, FINX.out _ (FIN2.out _ HB3.out)⟩
        | false =>
          have hcall := HPA.out w3 HB3.out
          cases bp with
          | false =>
            go_wp2_with (go_at_call 58; (with_reducible refine hcall.mono ?_); rintro e w4 ⟨rfl, hb4⟩)
            go_ret
            exact ⟨by rw [HFALSE.out (by simp)]; rfl, FINX.out _ (FIN2.out _ (HB3.out.trans (RowKit.Below.mono hb4 HB3.out.size)))⟩
          | true =>
            go_wp2_with (go_at_call 58; (with_reducible refine hcall.mono ?_); rintro e w4 ⟨rfl, hb4⟩)
            have HB4 := Lib.hid (FIN2.out _ (HB3.out.trans (RowKit.Below.mono hb4 HB3.out.size)))
            go_roundg (recs.length - (i + 1))
            case measure => omega
            case rel => exact ⟨i + 1, by go_num, by omega, Nat.le_refl _, by rw [HRT.out]; rfl, HB4.out⟩
    · obtain rfl : i = recs.length := by omega
      have hA := HA.out
      rw [List.take_length] at hA
      have HRR := Lib.hid hA
      have HBR := Lib.hid HB.out
      clear hA HA
      go_wp2_with fail
      clear c0 c1
      go_loopg [5] funcs.length (fun kx s5 wr => ∃ i : Nat, s5 = .int .i64 i ∧ i ≤ funcs.length ∧ funcs.length - i ≤ kx ∧ Aside ((funcs.take i).all Fu.right = true) ∧ Aside (Below W1.heap.size W1 wr))
      case atStart => exact ⟨0, rfl, by omega, by omega, rfl, HBR.out⟩
      case round =>
        obtain ⟨i, rfl, hi, hg, hA, hb⟩ := hrel
        have HA := Lib.hid hA.out
        have HB := Lib.hid hb.out
        clear hA hb
        obtain ⟨c0, c1⟩ := HCELL.out _ HB.out
        by_cases hil : i < funcs.length
        · have hx : funcs[i]? = some funcs[i] := List.getElem?_eq_getElem hil
          obtain ⟨g, o, soF, cF, soB, cB, rfl, hgW, a0, a1, a2, a3, a4, ⟨hs1, hs2, hs3, hs4⟩, hpm, hsb⟩ := HF.out i _ hx
          have d0 := (HOLD.out _ HB.out).cell a0
          have d1 := (HOLD.out _ HB.out).cell a1
          have d2 := (HOLD.out _ HB.out).cell a2
          have d3 := (HOLD.out _ HB.out).cell a3
          have d4 := (HOLD.out _ HB.out).cell a4
          have hcn := HCN.out i _ hx
          have HFALSE := Lib.hid (HXF.out i _ hx)
          have HRT : Hid ((funcs.take (i + 1)).all Fu.right = (funcs[i] : Fu).right) := Lib.hid (all_take hx HA.out)
          have hi1 : (i : Int) < (funcs.length : Int) := by omega
          have hi0 : (0 : Int) ≤ (i : Int) := by omega
          generalize (funcs[i] : Fu) = f at *
          obtain ⟨nm, ps, res, bd, line⟩ := f
          simp only [Fu.right] at d0 d1 d2 d3 d4 hcn hpm hsb hs2 hs3 hs4 HFALSE HRT
          obtain ⟨W2, hW2⟩ : ∃ W2, W2 = wr.alloc (.cells #[.string nm, .slice soF ps.length cF, .string res, .slice soB bd.length cB, .int .i64 line] 61) := ⟨_, rfl⟩
          have hb2 : Below wr.heap.size wr W2 := by rw [hW2]; exact (RowKit.Below.refl _ _).alloc (Nat.le_refl _) _
          have hrow2 : W2.heap[wr.heap.size]? = some (.cells #[.string nm, .slice soF ps.length cF, .string res, .slice soB bd.length cB, .int .i64 line] 61 (0, 0)) := by rw [hW2]; exact heap_alloc_new _ _
          have HB2 := Lib.hid (HB.out.trans (RowKit.Below.mono hb2 HB.out.size))
          have HC2 : Hid (∀ w', Below W2.heap.size W2 w' → w'.cell? ⟨wr.heap.size, 0, none⟩ = some (.string nm) ∧ w'.cell? ⟨wr.heap.size, 1, none⟩ = some (.slice soF ps.length cF) ∧ w'.cell? ⟨wr.heap.size, 2, none⟩ = some (.string res) ∧ w'.cell? ⟨wr.heap.size, 3, none⟩ = some (.slice soB bd.length cB) ∧ w'.cell? ⟨wr.heap.size, 4, none⟩ = some (.int .i64 line)) := Lib.hid fun w' hb => fun_cells ((hb.block _ (Array.getElem?_eq_some_iff.1 hrow2).1).trans hrow2)
          have HOLD2 : Hid (∀ w', Below W2.heap.size W2 w' → Old W w') := Lib.hid fun w' hb => HOLD.out _ (HB2.out.trans (RowKit.Below.mono hb HB2.out.size))
          have HN := Lib.hid (rname_any nm W2)
          have HPA := Lib.hid (fun w' (hb : Below W2.heap.size W2 w') => rrightP_any (cap := cF) hpm hs2 w' (HOLD2.out _ hb))
          have HTY := Lib.hid (fun w' => rtype_any res w' hs3)
          have HSA := Lib.hid (fun w' (hb : Below W2.heap.size W2 w') => rrightAll_any W _ bd rfl soB cB w' hsb hs4 (HOLD2.out _ hb))
          have HDE := Lib.hid (fun w' (hb : Below W2.heap.size W2 w') => rdepths_any W _ bd rfl hcn soB cB w' hsb hs4 (HOLD2.out _ hb))
          have FIN2 : Hid (∀ w', Below W2.heap.size W2 w' → Below W1.heap.size W1 w') := Lib.hid fun w' hb => HB2.out.trans (RowKit.Below.mono hb HB2.out.size)
          obtain ⟨e0, e1, e2, e3, e4⟩ := HC2.out W2 (RowKit.Below.refl _ _)
          clear a0 a1 a2 a3 a4 hx hb2 hrow2 hpm hsb hcn
          generalize nameB nm = bn at *
          generalize rightP ps = bp at *
          generalize typB res = bt at *
          generalize rightS bd = bb at *
          have hdl : decide ((24 : Int) < (depthS bd : Int)) = !decide (depthS bd ≤ 24) := by rw [Bool.eq_iff_iff]; simp; omega
          generalize decide (depthS bd ≤ 24) = b24 at *
          generalize depthS bd = dp at *
          generalize hrz : decide (res.size = 0) = bz at *
          have hre : res.toList.isEmpty = bz := by rw [← size_empty]; exact hrz
          go_wp2_with fail
          rw [← hW2]
          clear hW2 d0 d1 d2 d3 d4 c0 c1
          have HBa : Hid (Below W2.heap.size W2 W2) := Lib.hid (RowKit.Below.refl _ _)
          have hcall := HN.out
          cases bn with
          | false =>
            go_wp2_with (go_at_call 48; (with_reducible refine hcall.mono ?_); rintro e wa ⟨rfl, hbwa⟩)
            go_ret
            exact ⟨by rw [HFALSE.out (by simp)]; rfl, FINX.out _ (FIN2.out _ (HBa.out.trans (RowKit.Below.mono hbwa HBa.out.size)))⟩
          | true =>
            have HCALL := Lib.hid hcall
            clear hcall
            go_wp2_with fail
            go_at_call 48
            refine HCALL.out.mono ?_
            rintro e wa ⟨rfl, hbwa⟩
            have HBb := Lib.hid (HBa.out.trans (RowKit.Below.mono hbwa HBa.out.size))
            clear e0 e1 e2 e3 e4 hbwa HCALL
            obtain ⟨e0, e1, e2, e3, e4⟩ := HC2.out wa HBb.out
            simp only
            have hcall := HPA.out wa HBb.out
            cases bp with
            | false =>
              go_wp2_with (go_at_call 58; (with_reducible refine hcall.mono ?_); rintro e wb ⟨rfl, hbwb⟩)
              go_ret
              exact ⟨by rw [HFALSE.out (by simp)]; rfl, FINX.out _ (FIN2.out _ (HBb.out.trans (RowKit.Below.mono hbwb HBb.out.size)))⟩
            | true =>
              have HCALL := Lib.hid hcall
              clear hcall
              go_wp2_with fail
              go_at_call 58
              refine HCALL.out.mono ?_
              rintro e wb ⟨rfl, hbwb⟩
              have HBc := Lib.hid (HBb.out.trans (RowKit.Below.mono hbwb HBb.out.size))
              clear e0 e1 e2 e3 e4 hbwb HCALL
              obtain ⟨e0, e1, e2, e3, e4⟩ := HC2.out wb HBc.out
              simp only
              cases bz with
              | true =>
                have hcall := HSA.out wb HBc.out
                cases bb with
                | false =>
                  go_wp2_with (go_at_call 60; (with_reducible refine hcall.mono ?_); rintro e wd ⟨rfl, hbwd⟩)
                  go_ret
                  exact ⟨by rw [HFALSE.out (by simp)]; rfl, FINX.out _ (FIN2.out _ (HBc.out.trans (RowKit.Below.mono hbwd HBc.out.size)))⟩
                | true =>
                  have HCALL := Lib.hid hcall
                  clear hcall
                  go_wp2_with fail
                  go_at_call 60
                  refine HCALL.out.mono ?_
                  rintro e wd ⟨rfl, hbwd⟩
                  have HBd := Lib.hid (HBc.out.trans (RowKit.Below.mono hbwd HBc.out.size))
                  clear e0 e1 e2 e3 e4 hbwd HCALL
                  obtain ⟨e0, e1, e2, e3, e4⟩ := HC2.out wd HBd.out
                  simp only
                  have HCALL := Lib.hid (HDE.out wd HBd.out)
                  go_wp2_with fail
                  go_at_call 61
                  refine HCALL.out.mono ?_
                  rintro e wz ⟨rfl, hbz⟩
                  have HBz := Lib.hid (FIN2.out _ (HBd.out.trans (RowKit.Below.mono hbz HBd.out.size)))
                  clear e0 e1 e2 e3 e4 hbz HCALL
                  simp only
                  cases b24 with
                  | false =>
                    go_wp2
                    go_ret
                    exact ⟨by rw [HFALSE.out (by simp)]; rfl, FINX.out _ HBz.out⟩
                  | true =>
                    go_wp2
                    go_roundg (funcs.length - (i + 1))
                    case measure => omega
                    case rel => exact ⟨i + 1, by go_num, by omega, Nat.le_refl _, by rw [HRT.out]; show _ = true; simp, HBz.out⟩
              | false =>
                have hcall := HTY.out wb
                cases bt with
                | false =>
                  go_wp2_with (go_at_call 59; (with_reducible refine hcall.mono ?_); rintro e wc ⟨rfl, hbwc⟩)
                  go_ret
                  exact ⟨by rw [HFALSE.out (by simp)]; rfl, FINX.out _ (FIN2.out _ (HBc.out.trans (RowKit.Below.mono hbwc HBc.out.size)))⟩
                | true =>
                  have HCALL := Lib.hid hcall
                  clear hcall
                  go_wp2_with fail
                  go_at_call 59
                  refine HCALL.out.mono ?_
                  rintro e wc ⟨rfl, hbwc⟩
                  have HBe := Lib.hid (HBc.out.trans (RowKit.Below.mono hbwc HBc.out.size))
                  clear e0 e1 e2 e3 e4 hbwc HCALL
                  obtain ⟨e0, e1, e2, e3, e4⟩ := HC2.out wc HBe.out
                  simp only
                  have hcall := HSA.out wc HBe.out
                  cases bb with
                  | false =>
                    go_wp2_with (go_at_call 60; (with_reducible refine hcall.mono ?_); rintro e wd ⟨rfl, hbwd⟩)
                    go_ret
                    exact ⟨by rw [HFALSE.out (by simp)]; rfl, FINX.out _ (FIN2.out _ (HBe.out.trans (RowKit.Below.mono hbwd HBe.out.size)))⟩
                  | true =>
                    have HCALL := Lib.hid hcall
                    clear hcall
                    go_wp2_with fail
                    go_at_call 60
                    refine HCALL.out.mono ?_
                    rintro e wd ⟨rfl, hbwd⟩
                    have HBd := Lib.hid (HBe.out.trans (RowKit.Below.mono hbwd HBe.out.size))
                    clear e0 e1 e2 e3 e4 hbwd HCALL
                    obtain ⟨e0, e1, e2, e3, e4⟩ := HC2.out wd HBd.out
                    simp only
                    have HCALL := Lib.hid (HDE.out wd HBd.out)
                    go_wp2_with fail
                    go_at_call 61
                    refine HCALL.out.mono ?_
                    rintro e wz ⟨rfl, hbz⟩
                    have HBz := Lib.hid (FIN2.out _ (HBd.out.trans (RowKit.Below.mono hbz HBd.out.size)))
                    clear e0 e1 e2 e3 e4 hbz HCALL
                    simp only
                    cases b24 with
                    | false =>
                      go_wp2
                      go_ret
                      exact ⟨by rw [HFALSE.out (by simp)]; rfl, FINX.out _ HBz.out⟩
                    | true =>
                      go_wp2
                      go_roundg (funcs.length - (i + 1))
                      case measure => omega
                      case rel => exact ⟨i + 1, by go_num, by omega, Nat.le_refl _, by rw [HRT.out]; show _ = true; simp, HBz.out⟩
        · obtain rfl : i = funcs.length := by omega
          have HPT : Hid (pr = true) := Lib.hid (HPR.out HRR.out (by have h := HA.out; rwa [List.take_length] at h))
          go_wp2
          go_ret
          exact ⟨by rw [HPT.out]; rfl, FINX.out _ HB.out⟩
end Go.Proofs.YtggjeecpadnihaaGreatDoor

namespace Go.Proofs.YtggjeecpadnihaaGreatDoor
open Go Go.Proofs Go.Eng Go.RowKit Go.Sx Go.Deep
set_option linter.unusedVariables false
set_option linter.unusedSimpArgs false

theorem toldV_dec (ok : Bool) (t : List UInt8) : toldV ok t = toldB ok t (decide ((4096 : Int) < (t.length : Int))) := rfl

set_option maxRecDepth 100000 in
set_option maxHeartbeats 8000000 in
theorem rPrint_any {W : World} {p : Go.Sx.Pg} {cs : List Value} (hin : PgIn W p cs) (hok : PgOk p) (w : World) (hw : Old W w) :
    Calls Tryz.prog 11 #[.agg ⟨cs⟩] w fun e' w' => e' = .returned (toldV p.right p.txt) ∧ Below w.heap.size w w' := by
  have HRIGHT0 := Lib.hid (fun w' (h : Old W w') => rRight_any hin hok.cnt w' h)
  obtain ⟨so1, p1, so2, p2, rfl, ⟨hlr, hlf⟩, hr, hf⟩ := hin
  obtain ⟨W1, hW1⟩ : ∃ W1, W1 = w.alloc (.cells #[.slice so1 p.recs.length p1, .slice so2 p.funcs.length p2] 36) := ⟨_, rfl⟩
  have hb1 : Below w.heap.size w W1 := by rw [hW1]; exact (RowKit.Below.refl _ _).alloc (Nat.le_refl _) _
  have hrow : W1.heap[w.heap.size]? = some (.cells #[.slice so1 p.recs.length p1, .slice so2 p.funcs.length p2] 36 (0, 0)) := by rw [hW1]; exact heap_alloc_new _ _
  have HOLD : Hid (∀ w', Below W1.heap.size W1 w' → Old W w') := Lib.hid fun w' hb => (hw.below hb1).below hb
  have HCELL : Hid (∀ w', Below W1.heap.size W1 w' → w'.cell? ⟨w.heap.size, 0, none⟩ = some (.slice so1 p.recs.length p1) ∧ w'.cell? ⟨w.heap.size, 1, none⟩ = some (.slice so2 p.funcs.length p2)) :=
    Lib.hid fun w' hb => prog_cells ((hb.block _ (Array.getElem?_eq_some_iff.1 hrow).1).trans hrow)
  have HR := Lib.hid hr
  have HF := Lib.hid hf
  have HOK := Lib.hid hok
  have FINX : Hid (∀ w', Below W1.heap.size W1 w' → Below w.heap.size w w') := Lib.hid fun w' h => hb1.trans (RowKit.Below.mono h hb1.size)
  have HB0 : Hid (Below W1.heap.size W1 W1) := Lib.hid (RowKit.Below.refl _ _)
  have HRIGHT := Lib.hid (HRIGHT0.out W1 (HOLD.out W1 HB0.out))
  obtain ⟨c0, c1⟩ := HCELL.out W1 HB0.out
  clear hr hf hok hw hb1 hrow HRIGHT0
  have HPR : Hid (p.right = true → p.recs.all Rc.right = true ∧ p.funcs.all Fu.right = true) := Lib.hid fun h => by unfold Go.Sx.Pg.right at h; rwa [Bool.and_eq_true] at h
  have HPT : Hid (p.txt = p.recs.flatMap Rc.txt ++ p.funcs.flatMap Fu.txt) := Lib.hid rfl
  obtain ⟨recs, funcs⟩ := p
  simp only at HR HF HCELL HPR HPT c0 c1 hlr hlf hW1
  rw [toldV_dec]
  generalize (Go.Sx.Pg.mk recs funcs).right = pr at *
  generalize (Go.Sx.Pg.mk recs funcs).txt = pt at *
  generalize hbig : decide ((4096 : Int) < (pt.length : Int)) = big
  cases pr with
  | false =>
    go_enter Tryz.func11, Tryz.ntmps11
    go_wp2_with fail
    rw [← hW1]
    clear hW1
    go_wp2_with (go_at_call 28; (with_reducible refine HRIGHT.out.mono ?_); rintro e w2 ⟨rfl, hb2⟩)
    go_ret2
    exact ⟨rfl, FINX.out _ hb2⟩
  | true =>
    obtain ⟨hrr, hff⟩ := HPR.out rfl
    have HLR : Hid (∀ i, ((recs.take i).flatMap Rc.txt).length ≤ 100000000) := Lib.hid fun i => by
      have h1 := rcs_len (l := recs.take i) (List.all_eq_true.2 fun r hm => List.all_eq_true.1 hrr r (List.mem_of_mem_take hm))
      have h2 : rcW (recs.take i) + rcW (recs.drop i) = rcW recs := by rw [← rcW_app, List.take_append_drop]
      have h3 := HOK.out.wt
      simp only at h3
      omega
    have HLF : Hid (∀ i, (recs.flatMap Rc.txt ++ (funcs.take i).flatMap Fu.txt).length ≤ 200000000) := Lib.hid fun i => by
      have h1 := fus_len HF.out (i := i) (List.all_eq_true.2 fun r hm => List.all_eq_true.1 hff r (List.mem_of_mem_take hm))
      have h2 : fuW (funcs.take i) + fuW (funcs.drop i) = fuW funcs := by rw [← fuW_app, List.take_append_drop]
      have h4 := HLR.out recs.length
      rw [List.take_length] at h4
      have h3 := HOK.out.wt
      simp only at h3
      rw [List.length_append]
      omega
    have HRI : Hid (∀ (i : Nat) r, recs[i]? = some r → r.right = true ∧ pmW r.fields ≤ 100000000) := Lib.hid fun i r hx => by
      have h1 := List.all_eq_true.1 hrr r (List.mem_of_getElem? hx)
      have h2 := rcW_take hx
      have h3 := HOK.out.wt
      simp only at h3
      exact ⟨h1, by omega⟩
    have HFI : Hid (∀ (i : Nat) f, funcs[i]? = some f → f.right = true ∧ pmW f.params ≤ 100000000 ∧ f.result.size ≤ 100000000 ∧ cntS f.body ≤ 4096) := Lib.hid fun i f hx => by
      have h1 := List.all_eq_true.1 hff f (List.mem_of_getElem? hx)
      have h2 := fuW_take hx
      have h3 := HOK.out.wt
      have h4 := HOK.out.cnt i f hx
      simp only at h3
      exact ⟨h1, by omega, by omega, h4⟩
    clear hrr hff
    go_enter Tryz.func11, Tryz.ntmps11
    go_wp2_with fail
    rw [← hW1]
    clear hW1
    go_wp2_with fail
    go_at_call 28
    refine HRIGHT.out.mono ?_
    rintro e w2 ⟨rfl, hb2⟩
    have HB2 := Lib.hid hb2
    clear c0 c1 hb2 HRIGHT
    simp only
    go_wp2_with fail
    go_loopg [4, 5] recs.length (fun kx s4 s5 wr => ∃ (i : Nat) (S : ByteArray), s4 = .string S ∧ s5 = .int .i64 i ∧ i ≤ recs.length ∧ recs.length - i ≤ kx ∧ Aside (S.data.toList = (recs.take i).flatMap Rc.txt) ∧ Aside (Below W1.heap.size W1 wr))
    case atStart => exact ⟨0, _, rfl, rfl, by omega, by omega, rfl, HB2.out⟩
    case round =>
      obtain ⟨i, S, rfl, rfl, hi, hg, hs, hb⟩ := hrel
      have HS := Lib.hid hs.out
      have HB := Lib.hid hb.out
      clear hs hb
      have hSs : S.size ≤ 100000000 := by have h := HLR.out i; rw [← HS.out, ba_len] at h; exact h
      obtain ⟨c0, c1⟩ := HCELL.out _ HB.out
      by_cases hil : i < recs.length
      · have hx : recs[i]? = some recs[i] := List.getElem?_eq_getElem hil
        obtain ⟨g, o, soF, cF, rfl, hgW, a0, a1, a2, ⟨hs1, hs2⟩, hpm⟩ := HR.out i _ hx
        have d0 := (HOLD.out _ HB.out).cell a0
        have d1 := (HOLD.out _ HB.out).cell a1
        obtain ⟨hri, hpw⟩ := HRI.out i _ hx
        have HMT : Hid ((recs.take (i + 1)).flatMap Rc.txt = (recs.take i).flatMap Rc.txt ++ (recs[i] : Rc).txt) := Lib.hid (flat_take hx)
        have hi1 : (i : Int) < (recs.length : Int) := by omega
        have hi0 : (0 : Int) ≤ (i : Int) := by omega
        generalize (recs[i] : Rc) = r at *
        obtain ⟨nm, fs, line⟩ := r
        simp only [Rc.right, Rc.txt, Bool.and_eq_true] at d0 d1 hpm hs2 hri hpw HMT
        have hnl : nm.size ≤ 20 := by have := name_le hri.1.1; rwa [ba_len] at this
        have hjl := pms_len hri.2
        have HCA := Lib.hid (fun w' (hb : Below wr.heap.size wr w') => rparams_any (cap := cF) hpm hs2 hri.2 hpw w' (HOLD.out _ (HB.out.trans (RowKit.Below.mono hb HB.out.size))))
        have u0 := Up.cell c0
        have v0 := Up.cell d0
        have v1 := Up.cell d1
        generalize joinL (fs.map Pm.txt) = tj at *
        obtain ⟨T, hT⟩ : ∃ T : ByteArray, T = ⟨tj.toArray⟩ := ⟨_, rfl⟩
        have hTs : T.size ≤ 100000000 := by rw [hT]; show tj.toArray.size ≤ _; rw [List.size_toArray]; omega
        have HTD : Hid (T.data.toList = tj) := Lib.hid (by rw [hT])
        rw [← hT] at HCA
        have FIN : Hid (((S ++ ⟨#[114, 101, 99, 111, 114, 100, 32]⟩ ++ nm ++ ⟨#[32, 123, 32]⟩ ++ T ++ ⟨#[32, 125, 10]⟩ : ByteArray).data.toList) = (recs.take (i + 1)).flatMap Rc.txt) := Lib.hid (by rw [HMT.out]; simp [ba_app, HS.out, HTD.out])
        clear HMT hpm hri hjl hT a0 a1 a2 hx
        go_wp2_with fail
        refine wp_region_up (W := wr) (by kernel_rfl) (by kernel_rfl) (RowKit.Below.refl _ _) ?_
        repeat (go_big_quiet_step (exact Up.call HCA.out _))
        refine wpQuiet_nil ?_
        rintro _ ⟨x, rfl⟩
        have HX := Lib.hid (HB.out.trans (RowKit.Below.mono x.h HB.out.size))
        go_wp2
        go_roundg (recs.length - (i + 1))
        case measure => omega
        case rel => exact ⟨i + 1, S ++ (⟨#[114, 101, 99, 111, 114, 100, 32]⟩ : ByteArray) ++ nm ++ (⟨#[32, 123, 32]⟩ : ByteArray) ++ T ++ (⟨#[32, 125, 10]⟩ : ByteArray), rfl, by go_num, by omega, Nat.le_refl _, FIN.out, HX.out⟩
      · obtain rfl : i = recs.length := by omega
        have HSR : Hid (S.data.toList = recs.flatMap Rc.txt) := Lib.hid (by have h := HS.out; rwa [List.take_length] at h)
        have HBR := Lib.hid HB.out
        go_wp2_with fail
        clear c0 c1 HS HB
        go_loopg [4, 6] funcs.length (fun kx s4 s6 wr => ∃ (i : Nat) (S : ByteArray), s4 = .string S ∧ s6 = .int .i64 i ∧ i ≤ funcs.length ∧ funcs.length - i ≤ kx ∧ Aside (S.data.toList = recs.flatMap Rc.txt ++ (funcs.take i).flatMap Fu.txt) ∧ Aside (Below W1.heap.size W1 wr))
        case atStart => exact ⟨0, _, rfl, rfl, by omega, by omega, (by show S.data.toList = _; rw [HSR.out]; simp), HBR.out⟩
        case round =>
          clear hSs
          obtain ⟨i, S, rfl, rfl, hi, hg, hs, hb⟩ := hrel
          have HS := Lib.hid hs.out
          have HB := Lib.hid hb.out
          clear hs hb
          have hSs : S.size ≤ 200000000 := by have h := HLF.out i; rw [← HS.out, ba_len] at h; exact h
          obtain ⟨c0, c1⟩ := HCELL.out _ HB.out
          by_cases hil : i < funcs.length
          · have hx : funcs[i]? = some funcs[i] := List.getElem?_eq_getElem hil
            obtain ⟨g, o, soF, cF, soB, cB, rfl, hgW, a0, a1, a2, a3, a4, ⟨hs1, hs2, hs3, hs4⟩, hpm, hsb⟩ := HF.out i _ hx
            have d0 := (HOLD.out _ HB.out).cell a0
            have d1 := (HOLD.out _ HB.out).cell a1
            have d2 := (HOLD.out _ HB.out).cell a2
            have d3 := (HOLD.out _ HB.out).cell a3
            have d4 := (HOLD.out _ HB.out).cell a4
            obtain ⟨hri, hpw, hrs, hcn⟩ := HFI.out i _ hx
            have HMT : Hid ((funcs.take (i + 1)).flatMap Fu.txt = (funcs.take i).flatMap Fu.txt ++ (funcs[i] : Fu).txt) := Lib.hid (flat_take hx)
            have hi1 : (i : Int) < (funcs.length : Int) := by omega
            have hi0 : (0 : Int) ≤ (i : Int) := by omega
            generalize (funcs[i] : Fu) = f at *
            obtain ⟨nm, ps, res, bd, line⟩ := f
            simp only [Fu.right, Fu.txt, Bool.and_eq_true] at d0 d1 d2 d3 d4 hpm hsb hs2 hs3 hs4 hri hpw hrs hcn HMT
            obtain ⟨⟨⟨⟨r1, r2⟩, _⟩, r4⟩, _⟩ := hri
            have hnl : nm.size ≤ 20 := by have := name_le r1; rwa [ba_len] at this
            have hjl := pms_len r2
            have hbl := txtS_len hsb r4
            obtain ⟨W2, hW2⟩ : ∃ W2, W2 = wr.alloc (.cells #[.string nm, .slice soF ps.length cF, .string res, .slice soB bd.length cB, .int .i64 line] 61) := ⟨_, rfl⟩
            have hb2 : Below wr.heap.size wr W2 := by rw [hW2]; exact (RowKit.Below.refl _ _).alloc (Nat.le_refl _) _
            have hrow2 : W2.heap[wr.heap.size]? = some (.cells #[.string nm, .slice soF ps.length cF, .string res, .slice soB bd.length cB, .int .i64 line] 61 (0, 0)) := by rw [hW2]; exact heap_alloc_new _ _
            have HB3 := Lib.hid (HB.out.trans (RowKit.Below.mono hb2 HB.out.size))
            have HC2 : Hid (∀ w', Below W2.heap.size W2 w' → w'.cell? ⟨wr.heap.size, 0, none⟩ = some (.string nm) ∧ w'.cell? ⟨wr.heap.size, 1, none⟩ = some (.slice soF ps.length cF) ∧ w'.cell? ⟨wr.heap.size, 2, none⟩ = some (.string res) ∧ w'.cell? ⟨wr.heap.size, 3, none⟩ = some (.slice soB bd.length cB) ∧ w'.cell? ⟨wr.heap.size, 4, none⟩ = some (.int .i64 line)) := Lib.hid fun w' hb => fun_cells ((hb.block _ (Array.getElem?_eq_some_iff.1 hrow2).1).trans hrow2)
            have HOLD2 : Hid (∀ w', Below W2.heap.size W2 w' → Old W w') := Lib.hid fun w' hb => HOLD.out _ (HB3.out.trans (RowKit.Below.mono hb HB3.out.size))
            have HCA := Lib.hid (fun w' (hb : Below W2.heap.size W2 w') => rparams_any (cap := cF) hpm hs2 r2 hpw w' (HOLD2.out _ hb))
            have HST := Lib.hid (fun w' (hb : Below W2.heap.size W2 w') => rstmts_any W _ bd rfl hcn r4 soB cB w' hsb hs4 (HOLD2.out _ hb))
            obtain ⟨e0, e1, e2, e3, e4⟩ := HC2.out W2 (RowKit.Below.refl _ _)
            have u0 := Up.cell e0
            have u1 := Up.cell e1
            generalize joinL (ps.map Pm.txt) = tj at *
            obtain ⟨T, hT⟩ : ∃ T : ByteArray, T = ⟨tj.toArray⟩ := ⟨_, rfl⟩
            have hTs : T.size ≤ 100000000 := by rw [hT]; show tj.toArray.size ≤ _; rw [List.size_toArray]; omega
            have HTD : Hid (T.data.toList = tj) := Lib.hid (by rw [hT])
            rw [← hT] at HCA
            generalize txtS bd = tb at *
            obtain ⟨Tb, hTb⟩ : ∃ T : ByteArray, T = ⟨tb.toArray⟩ := ⟨_, rfl⟩
            have hTbs : Tb.size ≤ 100000000 := by rw [hTb]; show tb.toArray.size ≤ _; rw [List.size_toArray]; omega
            have HTBD : Hid (Tb.data.toList = tb) := Lib.hid (by rw [hTb])
            rw [← hTb] at HST
            generalize hrz : decide (res.size = 0) = bz at *
            have hre : res.toList.isEmpty = bz := by rw [← size_empty]; exact hrz
            have HRES : Hid ((bz = true → resT res = []) ∧ (bz = false → resT res = [58, 32] ++ res.data.toList)) := Lib.hid ⟨fun h => by unfold resT; rw [if_pos (of_decide_eq_true (hrz.trans h))], fun h => by unfold resT; rw [if_neg (of_decide_eq_false (hrz.trans h))]⟩
            clear hpm hsb r1 r2 r4 hjl hbl hT hTb a0 a1 a2 a3 a4 hx hb2 hrow2 hcn hpw hrz
            go_wp2_with fail
            rw [← hW2]
            clear hW2 d0 d1 d2 d3 d4 c0 c1
            go_wp2_with fail
            refine wp_region_up (W := W2) (by kernel_rfl) (by kernel_rfl) (RowKit.Below.refl _ _) ?_
            repeat (go_big_quiet_step (exact Up.call HCA.out _))
            refine wpQuiet_nil ?_
            rintro _ ⟨x, rfl⟩
            have HX := Lib.hid x.h
            clear e0 e1 e2 e3 e4 u0 u1
            generalize x.w = wx at *
            obtain ⟨e0, e1, e2, e3, e4⟩ := HC2.out wx HX.out
            have HCST := Lib.hid (HST.out wx HX.out)
            cases bz with
            | true =>
              have FIN : Hid (((S ++ ⟨#[102, 110, 32]⟩ ++ nm ++ ⟨#[40]⟩ ++ T ++ ⟨#[41]⟩ ++ ⟨#[32, 123, 10]⟩ ++ Tb ++ ⟨#[125, 10]⟩ : ByteArray).data.toList) = recs.flatMap Rc.txt ++ (funcs.take (i + 1)).flatMap Fu.txt) := Lib.hid (by rw [HMT.out, HRES.out.1 rfl]; simp [ba_app, HS.out, HTD.out, HTBD.out])
              clear HMT
              go_wp2_with (go_at_call 30; (with_reducible refine HCST.out.mono ?_); rintro e w5 ⟨rfl, hb5⟩)
              have HY := Lib.hid (HB3.out.trans (RowKit.Below.mono (HX.out.trans (RowKit.Below.mono hb5 HX.out.size)) HB3.out.size))
              go_roundg (funcs.length - (i + 1))
              case measure => omega
              case rel => exact ⟨i + 1, S ++ (⟨#[102, 110, 32]⟩ : ByteArray) ++ nm ++ (⟨#[40]⟩ : ByteArray) ++ T ++ (⟨#[41]⟩ : ByteArray) ++ (⟨#[32, 123, 10]⟩ : ByteArray) ++ Tb ++ (⟨#[125, 10]⟩ : ByteArray), rfl, by go_num, by omega, Nat.le_refl _, FIN.out, HY.out⟩
            | false =>
              have FIN : Hid (((S ++ ⟨#[102, 110, 32]⟩ ++ nm ++ ⟨#[40]⟩ ++ T ++ ⟨#[41]⟩ ++ ⟨#[58, 32]⟩ ++ res ++ ⟨#[32, 123, 10]⟩ ++ Tb ++ ⟨#[125, 10]⟩ : ByteArray).data.toList) = recs.flatMap Rc.txt ++ (funcs.take (i + 1)).flatMap Fu.txt) := Lib.hid (by rw [HMT.out, HRES.out.2 rfl]; simp [ba_app, HS.out, HTD.out, HTBD.out])
              clear HMT
              go_wp2_with (go_at_call 30; (with_reducible refine HCST.out.mono ?_); rintro e w5 ⟨rfl, hb5⟩)
              have HY := Lib.hid (HB3.out.trans (RowKit.Below.mono (HX.out.trans (RowKit.Below.mono hb5 HX.out.size)) HB3.out.size))
              go_roundg (funcs.length - (i + 1))
              case measure => omega
              case rel => exact ⟨i + 1, S ++ (⟨#[102, 110, 32]⟩ : ByteArray) ++ nm ++ (⟨#[40]⟩ : ByteArray) ++ T ++ (⟨#[41]⟩ : ByteArray) ++ (⟨#[58, 32]⟩ : ByteArray) ++ res ++ (⟨#[32, 123, 10]⟩ : ByteArray) ++ Tb ++ (⟨#[125, 10]⟩ : ByteArray), rfl, by go_num, by omega, Nat.le_refl _, FIN.out, HY.out⟩
          · obtain rfl : i = funcs.length := by omega
            have HST : Hid (S = ⟨pt.toArray⟩) := Lib.hid (ba_ext (by have h := HS.out; rw [List.take_length] at h; rw [h, ← HPT.out]))
            have FB := Lib.hid (FINX.out _ HB.out)
            have hsz : S.size = pt.length := by rw [HST.out, arr_size]
            cases big with
            | true =>
              have hgt : (4096 : Int) < (S.size : Int) := by have := of_decide_eq_true hbig; omega
              clear hsz
              go_wp2
              go_ret2
              exact ⟨rfl, FB.out⟩
            | false =>
              have hgt : ¬ (4096 : Int) < (S.size : Int) := by have := of_decide_eq_false hbig; omega
              clear hsz
              go_wp2
              go_ret2
              exact ⟨by rw [HST.out]; rfl, FB.out⟩
end Go.Proofs.YtggjeecpadnihaaGreatDoor

namespace Go.Proofs.YtggjeecpadnihaaGreatDoor
open Go Go.Proofs Go.Eng Go.RowKit Go.Sx Go.Deep
set_option linter.unusedVariables false
set_option linter.unusedSimpArgs false

theorem But.old {W w w' : World} {cb : Nat} (h : But cb w w') (ho : Old W w) (hcb : W.heap.size ≤ cb) : Old W w' :=
  ⟨Nat.le_trans ho.size h.size, fun i hi => (h.block i (by have := ho.size; omega) (by omega)).trans (ho.block i hi)⟩
def StsPost (l : List Smt) (cb : Nat) (k : Int) (w w' : World) (x : Ending) : Prop := ∃ (b : Bool) (k' : Int), x = .returned (.bool b) ∧ Cnt w' cb k' ∧ 0 ≤ k' ∧ (b = true → k' ≤ 4096 ∧ k' = k + cntS l) ∧ But cb w w'
def SmallS (W : World) (l : List Smt) : Prop := ∀ (so : Option Addr) (cap : Nat) (w : World) (cb : Nat) (k deep : Int), StsIn W l so 0 → l.length ≤ 9223372036854775807 → Old W w → W.heap.size ≤ cb → Cnt w cb k → 0 ≤ k → k ≤ 4096 → 0 ≤ deep → deep ≤ 100 →
  Calls Tryz.prog 25 #[.pointer (some ⟨cb, 0, none⟩), .slice so l.length cap, .int .i64 deep] w fun x w' => StsPost l cb k w w' x

set_option maxRecDepth 100000 in
set_option maxHeartbeats 8000000 in
theorem small_stmts (W : World) : ∀ (m : Nat) (l : List Smt), cntS l = m → SmallS W l := by
  intro m
  induction m using Nat.strongRecOn with
  | ind m ih =>
  intro l he so cap w cb k deep hin hl hW hcb hc hk hk2 hd hd2
  have HK := Lib.hid (sts_at0 hin)
  have HSUB : Hid (∀ (i : Nat) (x : Smt), l[i]? = some x → SmallS W x.body ∧ SmallS W x.els) := Lib.hid fun i x hx => by
    have hcx := cntS_get hx
    obtain ⟨kk, s, es, body, els, line⟩ := x
    simp only [Smt.cnt] at hcx
    exact ⟨ih (cntS body) (by omega) body rfl, ih (cntS els) (by omega) els rfl⟩
  have HW := Lib.hid hW
  have HC := Lib.hid hc
  have hcbw := hc.lt
  have hsW := hW.size
  clear hin ih hW hc
  go_enter Tryz.func25, Tryz.ntmps25
  go_wp2_with fail
  go_loopg [7] l.length (fun kx s7 wr => ∃ (i : Nat) (k' : Int), s7 = .int .i64 i ∧ i ≤ l.length ∧ l.length - i ≤ kx ∧ 0 ≤ k' ∧ k' ≤ 4096 ∧ Aside (k' = k + cntS (l.take i)) ∧ Aside (Cnt wr cb k') ∧ Aside (But cb w wr))
  case atStart => exact ⟨0, k, rfl, by omega, by omega, hk, hk2, (by show k = k + ((cntS (List.take 0 l) : Nat) : Int); simp [cntS]), HC.out, But.refl _ _⟩
  case round =>
    obtain ⟨i, k', rfl, hi, hg, hk0', hk1', hkk, hc', hb'⟩ := hrel
    have HKK := Lib.hid hkk.out
    have HB := Lib.hid hb'.out
    have HCR := Lib.hid hc'.out
    have hszr := hb'.out.size
    clear hkk hc' hb'
    by_cases hil : i < l.length
    · have hx : l[i]? = some l[i] := List.getElem?_eq_getElem hil
      have hold := HB.out.old HW.out hcb
      obtain ⟨g, o, so1, p1, so2, p2, so3, p3, rfl, a0, a1, a2, a3, a4, a5, ht⟩ := st_open (HK.out i _ hx) hold
      obtain ⟨hsub1, hsub2⟩ := HSUB.out i _ hx
      have HT : Hid (∀ q : Int, q = k' + ((l[i] : Smt).cnt : Int) → q = k + cntS (l.take (i + 1))) := Lib.hid fun q hq => by
        have h1 := HKK.out
        rw [takeS hx, cntS_app]
        simp only [cntS]
        omega
      have hi1 : (i : Int) < (l.length : Int) := by omega
      have hi0 : (0 : Int) ≤ (i : Int) := by omega
      generalize l[i] = x at *
      obtain ⟨kd, s, es, body, els, line⟩ := x
      simp only [StIn] at ht
      obtain ⟨_, _, _, _, _, _, hcs, ⟨_, hl1, hl2, hl3⟩, hkk, hsb, hse⟩ := ht
      simp only [Smt.kind, Smt.str, Smt.es, Smt.body, Smt.els, Smt.line, List.cons.injEq, Value.slice.injEq, and_true, true_and] at a0 a1 a2 a3 a4 a5 hcs hsub1 hsub2
      obtain ⟨⟨rfl, rfl⟩, ⟨rfl, rfl⟩, rfl, rfl⟩ := hcs
      simp only [Smt.cnt] at HT
      have HKI := Lib.hid (kids_at0 hkk)
      obtain ⟨W2, hW2⟩ : ∃ W2, W2 = wr.alloc (.cells #[.int .i64 kd, .string s, .slice so1 es.length p1, .slice so2 body.length p2, .slice so3 els.length p3, .int .i64 line] 103) := ⟨_, rfl⟩
      have hb2 : Below wr.heap.size wr W2 := by rw [hW2]; exact (RowKit.Below.refl _ _).alloc (Nat.le_refl _) _
      have hrow2 : W2.heap[wr.heap.size]? = some (.cells #[.int .i64 kd, .string s, .slice so1 es.length p1, .slice so2 body.length p2, .slice so3 els.length p3, .int .i64 line] 103 (0, 0)) := by rw [hW2]; exact heap_alloc_new _ _
      have HLT2 : Hid (wr.heap.size < W2.heap.size) := Lib.hid (Array.getElem?_eq_some_iff.1 hrow2).1
      have HB2 := Lib.hid (HB.out.trans (But.of hb2))
      have hcbr : cb < wr.heap.size := HCR.out.lt
      have hc2 : Cnt W2 cb k' := by unfold Cnt; rw [hb2.block cb hcbr]; exact HCR.out
      have HCELL : Hid (∀ w', But cb W2 w' → w'.cell? ⟨wr.heap.size, 0, none⟩ = some (.int .i64 kd) ∧ w'.cell? ⟨wr.heap.size, 1, none⟩ = some (.string s) ∧ w'.cell? ⟨wr.heap.size, 2, none⟩ = some (.slice so1 es.length p1) ∧ w'.cell? ⟨wr.heap.size, 3, none⟩ = some (.slice so2 body.length p2) ∧ w'.cell? ⟨wr.heap.size, 4, none⟩ = some (.slice so3 els.length p3) ∧ w'.cell? ⟨wr.heap.size, 5, none⟩ = some (.int .i64 line)) :=
        Lib.hid fun w' hb => st_cells ((hb.block _ HLT2.out (by omega)).trans hrow2)
      have HOLD2 : Hid (∀ w', But cb W2 w' → Old W w') := Lib.hid fun w' hb => hb.old (HB2.out.old HW.out hcb) hcb
      have HM := Lib.hid (more_any cb k' deep W2 hc2 hk0' hk1')
      have HS1 := Lib.hid (fun (w' : World) (q : Int) (hb : But cb W2 w') (h1 : Cnt w' cb q) (h2 : 0 ≤ q) (h3 : q ≤ 4096) (hdd : deep ≤ 48) => hsub1 so2 p2 w' cb q (deep + 1) hsb hl2 (HOLD2.out w' hb) hcb h1 h2 h3 (by omega) (by omega))
      have HS2 := Lib.hid (fun (w' : World) (q : Int) (hb : But cb W2 w') (h1 : Cnt w' cb q) (h2 : 0 ≤ q) (h3 : q ≤ 4096) (hdd : deep ≤ 48) => hsub2 so3 p3 w' cb q (deep + 1) hse hl3 (HOLD2.out w' hb) hcb h1 h2 h3 (by omega) (by omega))
      obtain ⟨c0, c1, c2, c3, c4, c5⟩ := HCELL.out W2 (But.refl _ _)
      have hwd : IntKind.i64.wrap (deep + 1) = deep + 1 := IntWalk.i64_in _ (by omega)
      clear hx hold hsub1 hsub2 hsb hse hkk hb2 hrow2 hc2
      go_wp2_with fail
      rw [← hW2]
      clear hW2 a0 a1 a2 a3 a4 a5
      go_wp2_with fail
      go_at_call 24
      refine HM.out.mono ?_
      rintro e w3 ⟨rfl, r1, r2⟩
      have HC3 := Lib.hid r1
      have HB3 := Lib.hid r2
      clear c0 c1 c2 c3 c4 c5 r1 r2 HM
      obtain ⟨c0, c1, c2, c3, c4, c5⟩ := HCELL.out w3 HB3.out
      simp only
      by_cases hd48 : k' + 1 ≤ 4096 ∧ deep ≤ 48
      · have hdec : (decide (k' + 1 ≤ 4096) && decide (deep ≤ 48)) = true := by simp [hd48.1, hd48.2]
        rw [hdec]
        have HCALL := Lib.hid (HS1.out w3 (k' + 1) HB3.out HC3.out (by omega) hd48.1 hd48.2)
        go_wp2_with fail
        go_at_call 25
        refine HCALL.out.mono ?_
        rintro e w4 ⟨b1, q1, rfl, r1, r2, r3, r4⟩
        have HC4 := Lib.hid r1
        have HB4 := Lib.hid (HB3.out.trans r4)
        have HQ1 := Lib.hid r3
        clear c0 c1 c2 c3 c4 c5 r1 r3 r4 HCALL
        obtain ⟨c0, c1, c2, c3, c4, c5⟩ := HCELL.out w4 HB4.out
        simp only
        cases b1 with
        | false =>
          go_wp2
          go_ret
          exact ⟨false, q1, rfl, HC4.out, r2, (fun h => Bool.noConfusion h), HB2.out.trans HB4.out⟩
        | true =>
          obtain ⟨hq1, hq1e⟩ := HQ1.out rfl
          have HQ1E := Lib.hid hq1e
          have HCALL := Lib.hid (HS2.out w4 q1 HB4.out HC4.out r2 hq1 hd48.2)
          clear hq1e HQ1
          go_wp2_with fail
          go_at_call 25
          refine HCALL.out.mono ?_
          rintro e w5 ⟨b2, q2, rfl, t1, t2, t3, t4⟩
          have HC5 := Lib.hid t1
          have HB5 := Lib.hid (HB4.out.trans t4)
          have HQ2 := Lib.hid t3
          clear c0 c1 c2 c3 c4 c5 t1 t3 t4 HCALL
          obtain ⟨c0, c1, c2, c3, c4, c5⟩ := HCELL.out w5 HB5.out
          simp only
          cases b2 with
          | false =>
            go_wp2
            go_ret
            exact ⟨false, q2, rfl, HC5.out, t2, (fun h => Bool.noConfusion h), HB2.out.trans HB5.out⟩
          | true =>
            obtain ⟨hq2, hq2e⟩ := HQ2.out rfl
            have HQ2E := Lib.hid hq2e
            clear hq2e HQ2
            go_wp2_with fail
            clear c0 c1 c2 c3 c4 c5
            generalize hrb : wr.heap.size = rb at *
            go_loopg [9] es.length (fun kx s9 wr => ∃ (j : Nat) (q : Int), s9 = .int .i64 j ∧ j ≤ es.length ∧ es.length - j ≤ kx ∧ 0 ≤ q ∧ q ≤ 4096 ∧ Aside (q = q2 + cntL (es.take j)) ∧ Aside (Cnt wr cb q) ∧ Aside (But cb W2 wr))
            case atStart => exact ⟨0, q2, rfl, by omega, by omega, t2, hq2, (by show q2 = q2 + ((cntL (List.take 0 es) : Nat) : Int); simp [cntL]), HC5.out, HB5.out⟩
            case round =>
              obtain ⟨j, q, rfl, hj, hgj, hqj0, hqj1, hqq, hcj, hbj⟩ := hrel
              have HQQ := Lib.hid hqq.out
              have HCJ := Lib.hid hcj.out
              have HBJ := Lib.hid hbj.out
              clear hqq hcj hbj
              obtain ⟨c0, c1, c2, c3, c4, c5⟩ := HCELL.out _ HBJ.out
              by_cases hjl : j < es.length
              · have hxj : es[j]? = some es[j] := List.getElem?_eq_getElem hjl
                obtain ⟨g2, o2, so', cap', rfl, b0, b1, b2, b3, b4, htj⟩ := kid_cells (HKI.out j _ hxj) (HOLD2.out _ HBJ.out)
                have HCALL := Lib.hid (small_expr _ (es[j] : Ex) _ rfl htj wr cb q (deep + 1) (HOLD2.out _ HBJ.out) hcb HCJ.out hqj0 hqj1 (by omega) (by omega))
                have HTJ : Hid (∀ z : Int, z = q + ((es[j] : Ex).cnt : Int) → z = q2 + cntL (es.take (j + 1))) := Lib.hid fun z hz => by
                  have h1 := HQQ.out
                  have e1 : es.take (j + 1) = es.take j ++ [(es[j] : Ex)] := by rw [List.take_add_one, hxj]; rfl
                  rw [e1, cntL_app]
                  simp only [cntL]
                  omega
                have hj1 : (j : Int) < (es.length : Int) := by omega
                have hj0 : (0 : Int) ≤ (j : Int) := by omega
                generalize (es[j] : Ex) = x at *
                obtain ⟨k2, s2, n2, kids2, line2⟩ := x
                simp only [Ex.kind, Ex.str, Ex.num, Ex.kids, Ex.line] at b0 b1 b2 b3 b4 HCALL
                generalize (Ex.mk k2 s2 n2 kids2 line2) = ex at *
                clear htj hxj
                go_wp2_with fail
                go_at_call 12
                refine HCALL.out.mono ?_
                rintro e w6 ⟨b3', q3, rfl, v1, v2, v3, v4⟩
                have HC6 := Lib.hid v1
                have HB6 := Lib.hid (HBJ.out.trans v4)
                have HQ3 := Lib.hid v3
                clear c0 c1 c2 c3 c4 c5 b0 b1 b2 b3 b4 v1 v3 v4 HCALL
                simp only
                cases b3' with
                | false =>
                  go_wp2
                  go_ret
                  exact ⟨false, q3, rfl, HC6.out, v2, (fun h => Bool.noConfusion h), HB2.out.trans HB6.out⟩
                | true =>
                  obtain ⟨h4, h5⟩ := HQ3.out rfl
                  have HTJ2 := Lib.hid (HTJ.out _ h5)
                  clear HTJ h5 HQ3
                  go_wp2
                  go_roundg (es.length - (j + 1))
                  case measure => omega
                  case rel => exact ⟨j + 1, q3, by go_num, by omega, Nat.le_refl _, v2, h4, HTJ2.out, HC6.out, HB6.out⟩
              · obtain rfl : j = es.length := by omega
                have HQF : Hid (q = k + cntS (l.take (i + 1))) := Lib.hid (HT.out q (by
                  have h1 := HQQ.out
                  rw [List.take_length] at h1
                  have h2 := HQ1E.out
                  have h3 := HQ2E.out
                  omega))
                go_wp2
                go_roundg (l.length - (i + 1))
                case measure => omega
                case rel => exact ⟨i + 1, q, by go_num, by omega, Nat.le_refl _, hqj0, hqj1, HQF.out, HCJ.out, HB2.out.trans HBJ.out⟩
      · have hdec : (decide (k' + 1 ≤ 4096) && decide (deep ≤ 48)) = false := by
          cases hq : (decide (k' + 1 ≤ 4096) && decide (deep ≤ 48)) with
          | false => rfl
          | true => simp at hq; exact absurd hq hd48
        rw [hdec]
        go_wp2
        go_ret
        exact ⟨false, k' + 1, rfl, HC3.out, by omega, (fun h => Bool.noConfusion h), HB2.out.trans HB3.out⟩
    · obtain rfl : i = l.length := by omega
      have HKF : Hid (k' = k + (cntS l : Int)) := Lib.hid (by have h := HKK.out; rwa [List.take_length] at h)
      go_wp2
      go_ret
      exact ⟨true, k', rfl, HCR.out, hk0', (fun _ => ⟨hk1', HKF.out⟩), HB.out⟩
end Go.Proofs.YtggjeecpadnihaaGreatDoor

namespace Go.Proofs.YtggjeecpadnihaaGreatDoor
open Go Go.Proofs Go.Eng Go.RowKit Go.Sx Go.Deep
set_option linter.unusedVariables false
set_option linter.unusedSimpArgs false

def fldS (l : List Rc) : Nat := (l.map fun r => r.fields.length).sum
def funS (l : List Fu) : Nat := (l.map fun f => f.params.length + 1 + cntS f.body).sum
def parS (l : List Fu) : Nat := (l.map fun f => f.params.length).sum
theorem fldS_take {l : List Rc} {i : Nat} {r : Rc} (h : l[i]? = some r) : fldS (l.take (i + 1)) = fldS (l.take i) + r.fields.length := by rw [takeR h]; simp [fldS]
theorem funS_take {l : List Fu} {i : Nat} {r : Fu} (h : l[i]? = some r) : funS (l.take (i + 1)) = funS (l.take i) + (r.params.length + 1 + cntS r.body) := by rw [takeR h]; simp [funS]
theorem fldS_le (l : List Rc) (i : Nat) : fldS (l.take i) ≤ fldS l := by
  have e : fldS l = fldS (l.take i) + fldS (l.drop i) := by
    conv => lhs; rw [← List.take_append_drop i l]
    simp only [fldS, List.map_append, List.sum_append]
  omega
theorem parS_get {l : List Fu} {i : Nat} {f : Fu} (h : l[i]? = some f) : f.params.length ≤ parS l := by
  have e : parS l = parS (l.take i) + (f.params.length + parS (l.drop (i + 1))) := by
    have h2 : l = l.take i ++ f :: l.drop (i + 1) := by
      conv => lhs; rw [← List.take_append_drop i l]
      rw [List.drop_eq_getElem_cons (List.getElem?_eq_some_iff.1 h).1]
      congr 2
      exact (List.getElem?_eq_some_iff.1 h).2
    conv => lhs; rw [h2]
    simp only [parS, List.map_append, List.sum_append, List.map_cons, List.sum_cons]
  omega

theorem more_big (cb : Nat) (k deep : Int) (w : World) (h : Cnt w cb k) (hk : 0 ≤ k) (hk2 : k ≤ 1000000000) :
    Calls Tryz.prog 24 #[.pointer (some ⟨cb, 0, none⟩), .int .i64 deep] w fun e w' => e = .returned (.bool (decide (k + 1 ≤ 4096) && decide (deep ≤ 48))) ∧ Cnt w' cb (k + 1) ∧ But cb w w' := by
  have c1 := h.cell
  have f1 := h.frozen
  have hw : IntKind.i64.wrap (k + 1) = k + 1 := IntWalk.i64_in _ (by omega)
  have HS := Lib.hid (h.set (k + 1))
  clear h
  by_cases h1 : k + 1 ≤ 4096
  · have hd : decide (k + 1 ≤ 4096) = true := decide_eq_true h1
    rw [hd]
    go_enter Tryz.func24, Tryz.ntmps24
    go_wp2
    go_ret
    exact ⟨by rw [Bool.true_and]; rfl, HS.out.1, HS.out.2⟩
  · have hd : decide (k + 1 ≤ 4096) = false := decide_eq_false h1
    rw [hd]
    go_enter Tryz.func24, Tryz.ntmps24
    go_wp2
    go_ret
    exact ⟨rfl, HS.out.1, HS.out.2⟩

set_option maxRecDepth 100000 in
set_option maxHeartbeats 4000000 in
theorem smallP_any {W : World} {p : Go.Sx.Pg} {cs : List Value} (hin : PgIn W p cs) (hbig : p.recs.length + fldS p.recs + parS p.funcs ≤ 2000000) (w : World) (hw : Old W w) :
    Calls Tryz.prog 9 #[.agg ⟨cs⟩] w fun x w' => ∃ b, x = .returned (.bool b) ∧ Below w.heap.size w w' ∧ (b = true → p.recs.length + fldS p.recs + funS p.funcs ≤ 4096) := by
  obtain ⟨so1, p1, so2, p2, rfl, ⟨hlr, hlf⟩, hr, hf⟩ := hin
  obtain ⟨W1, hW1⟩ : ∃ W1, W1 = (w.alloc (.cells #[.slice so1 p.recs.length p1, .slice so2 p.funcs.length p2] 36)).alloc (.cells #[.int .i64 (p.recs.length : Int)] 42) := ⟨_, rfl⟩
  have hb1 : Below w.heap.size w W1 := by rw [hW1]; exact ((RowKit.Below.refl _ _).alloc (Nat.le_refl _) _).alloc (by simp) _
  have hc1 : Cnt W1 (w.heap.size + 1) (p.recs.length : Int) := by rw [hW1]; exact heap_alloc2_new w _ _
  have hrow : W1.heap[w.heap.size]? = some (.cells #[.slice so1 p.recs.length p1, .slice so2 p.funcs.length p2] 36 (0, 0)) := by
    rw [hW1]
    have h1 := heap_alloc_new w (.cells #[.slice so1 p.recs.length p1, .slice so2 p.funcs.length p2] 36)
    have h2 : Below (w.alloc (.cells #[.slice so1 p.recs.length p1, .slice so2 p.funcs.length p2] 36)).heap.size (w.alloc (.cells #[.slice so1 p.recs.length p1, .slice so2 p.funcs.length p2] 36)) ((w.alloc (.cells #[.slice so1 p.recs.length p1, .slice so2 p.funcs.length p2] 36)).alloc (.cells #[.int .i64 (p.recs.length : Int)] 42)) := (RowKit.Below.refl _ _).alloc (Nat.le_refl _) _
    exact (h2.block _ (Array.getElem?_eq_some_iff.1 h1).1).trans h1
  have hsz : W1.heap.size = w.heap.size + 1 + 1 := by rw [hW1, nblk_alloc, nblk_alloc]
  have HOLD : Hid (∀ w', But (w.heap.size + 1) W1 w' → Old W w') := Lib.hid fun w' hb => hb.old (hw.below hb1) (by have := hw.size; omega)
  have HCELL : Hid (∀ w', But (w.heap.size + 1) W1 w' → w'.cell? ⟨w.heap.size, 0, none⟩ = some (.slice so1 p.recs.length p1) ∧ w'.cell? ⟨w.heap.size, 1, none⟩ = some (.slice so2 p.funcs.length p2)) :=
    Lib.hid fun w' hb => prog_cells ((hb.block _ (by omega) (by omega)).trans hrow)
  have HR := Lib.hid hr
  have HF := Lib.hid hf
  have HBIG := Lib.hid hbig
  have HC1 := Lib.hid hc1
  have FINX : Hid (∀ w', But (w.heap.size + 1) W1 w' → Below w.heap.size w w') := Lib.hid fun w' h => hb1.trans (h.below (by omega) (by omega))
  have HCBW : Hid (W.heap.size ≤ w.heap.size + 1) := Lib.hid (by have := hw.size; omega)
  clear hr hf hbig hb1 hc1 hrow hw
  obtain ⟨recs, funcs⟩ := p
  simp only at HR HF HBIG HC1 HCELL hlr hlf hW1 ⊢
  go_enter Tryz.func9, Tryz.ntmps9
  go_wp2_with fail
  rw [← hW1]
  clear hW1
  go_loopg [4] recs.length (fun kx s4 wr => ∃ i : Nat, s4 = .int .i64 i ∧ i ≤ recs.length ∧ recs.length - i ≤ kx ∧ Aside (Cnt wr (w.heap.size + 1) ((recs.length + fldS (recs.take i) : Nat) : Int)) ∧ Aside (But (w.heap.size + 1) W1 wr))
  case atStart => exact ⟨0, rfl, by omega, by omega, (by show Cnt _ _ _; simpa [fldS] using HC1.out), But.refl _ _⟩
  case round =>
    obtain ⟨i, rfl, hi, hg, hc', hb'⟩ := hrel
    have HCR := Lib.hid hc'.out
    have HB := Lib.hid hb'.out
    clear hc' hb'
    obtain ⟨c0, c1⟩ := HCELL.out _ HB.out
    by_cases hil : i < recs.length
    · have hx : recs[i]? = some recs[i] := List.getElem?_eq_getElem hil
      obtain ⟨g, o, soF, cF, rfl, hgW, a0, a1, a2, ⟨hs1, hs2⟩, hpm⟩ := HR.out i _ hx
      have d1 := (HOLD.out _ HB.out).cell a1
      have hft := fldS_take hx
      have hfl := fldS_le recs (i + 1)
      have hi1 : (i : Int) < (recs.length : Int) := by omega
      have hi0 : (0 : Int) ≤ (i : Int) := by omega
      have q0 := HCR.out.cell
      have f0 := HCR.out.frozen
      have hbg := HBIG.out
      generalize (recs[i] : Rc) = r at *
      obtain ⟨nm, fs, line⟩ := r
      simp only at d1 hft hs2
      have HSET := Lib.hid (HCR.out.set ((recs.length + fldS (recs.take (i + 1)) : Nat) : Int))
      have hwrap : IntKind.i64.wrap (((recs.length + fldS (recs.take i) : Nat) : Int) + (fs.length : Int)) = ((recs.length + fldS (recs.take (i + 1)) : Nat) : Int) := by
        rw [IntWalk.i64_in _ (by omega)]; omega
      generalize hk1 : recs.length + fldS (recs.take i) = k1 at *
      generalize hk2 : recs.length + fldS (recs.take (i + 1)) = k2 at *
      clear hk1
      have HK2 := Lib.hid hk2
      clear hk2
      clear a0 a1 a2 hx hpm hft hfl
      go_wp2_with fail
      go_region
      go_wp2
      go_roundg (recs.length - (i + 1))
      case measure => omega
      case rel => exact ⟨i + 1, by go_num, by omega, Nat.le_refl _, (by show Cnt _ _ _; rw [HK2.out]; exact HSET.out.1), HB.out.trans HSET.out.2.drew⟩
    · obtain rfl : i = recs.length := by omega
      have HC2 : Hid (Cnt wr (w.heap.size + 1) ((recs.length + fldS recs : Nat) : Int)) := Lib.hid (by have h := HCR.out; rwa [List.take_length] at h)
      have HBR := Lib.hid HB.out
      clear HCR HB
      go_wp2_with fail
      clear c0 c1
      go_loopg [5] funcs.length (fun kx s5 wr => ∃ (i : Nat) (k : Nat), s5 = .int .i64 i ∧ i ≤ funcs.length ∧ funcs.length - i ≤ kx ∧ k ≤ 2000000 ∧ Aside (k = recs.length + fldS recs + funS (funcs.take i)) ∧ Aside (Cnt wr (w.heap.size + 1) (k : Int)) ∧ Aside (But (w.heap.size + 1) W1 wr))
      case atStart => exact ⟨0, recs.length + fldS recs, rfl, by omega, by omega, (by have := HBIG.out; omega), (by show _ = _ + funS (List.take 0 funcs); simp [funS]), HC2.out, HBR.out⟩
      case round =>
        obtain ⟨i, k, rfl, hi, hg, hkb, hke, hc', hb'⟩ := hrel
        have HKE := Lib.hid hke.out
        have HCR := Lib.hid hc'.out
        have HB := Lib.hid hb'.out
        clear hc' hb' hke
        obtain ⟨c0, c1⟩ := HCELL.out _ HB.out
        have q0 := HCR.out.cell
        have f0 := HCR.out.frozen
        by_cases hil : i < funcs.length
        · have hx : funcs[i]? = some funcs[i] := List.getElem?_eq_getElem hil
          obtain ⟨g, o, soF, cF, soB, cB, rfl, hgW, a0, a1, a2, a3, a4, ⟨hs1, hs2, hs3, hs4⟩, hpm, hsb⟩ := HF.out i _ hx
          have d1 := (HOLD.out _ HB.out).cell a1
          have hpg := parS_get hx
          have hft := funS_take hx
          have hi1 : (i : Int) < (funcs.length : Int) := by omega
          have hi0 : (0 : Int) ≤ (i : Int) := by omega
          have hbg := HBIG.out
          generalize (funcs[i] : Fu) = f at *
          obtain ⟨nm, ps, res, bd, line⟩ := f
          simp only at d1 a3 hs2 hs4 hpg hft hsb
          have HA3 := Lib.hid a3
          have HFT : Hid (∀ z : Int, z = ((k : Int) + (ps.length : Int) + 1) + (cntS bd : Int) → z = ((recs.length + fldS recs + funS (funcs.take (i + 1)) : Nat) : Int)) := Lib.hid fun z hz => by
            have := HKE.out
            omega
          have HSET := Lib.hid (HCR.out.set ((k : Int) + (ps.length : Int)))
          have hwrap : IntKind.i64.wrap ((k : Int) + (ps.length : Int)) = (k : Int) + (ps.length : Int) := IntWalk.i64_in _ (by omega)
          have HKB : Hid ((k : Int) + (ps.length : Int) ≤ 1000000000) := Lib.hid (by omega)
          have HSB := Lib.hid hsb
          clear a0 a1 a2 a3 a4 hx hpm hsb hft hpg
          go_wp2_with fail
          go_region
          generalize hws : (wr.setCell ⟨w.heap.size + 1, 0, none⟩ (.int .i64 ((k : Int) + (ps.length : Int)))).drew = ws
          have HCS : Hid (Cnt ws (w.heap.size + 1) ((k : Int) + (ps.length : Int))) := Lib.hid (by rw [← hws]; exact HSET.out.1)
          have HBS : Hid (But (w.heap.size + 1) W1 ws) := Lib.hid (by rw [← hws]; exact HB.out.trans HSET.out.2.drew)
          clear hws c0 c1 d1 q0 f0 HSET
          have HM := Lib.hid (more_big (w.heap.size + 1) ((k : Int) + (ps.length : Int)) 0 ws HCS.out (by omega) HKB.out)
          go_wp2_with fail
          go_at_call 24
          refine HM.out.mono ?_
          rintro e w3 ⟨rfl, r1, r2⟩
          have HC3 := Lib.hid r1
          have HB3 := Lib.hid (HBS.out.trans r2)
          clear r1 r2 HM
          obtain ⟨c0, c1⟩ := HCELL.out _ HB3.out
          have d3 := (HOLD.out _ HB3.out).cell HA3.out
          simp only
          by_cases h4 : (k : Int) + (ps.length : Int) + 1 ≤ 4096
          · have hdec : (decide ((k : Int) + (ps.length : Int) + 1 ≤ 4096) && decide ((0 : Int) ≤ 48)) = true := by rw [decide_eq_true h4]; rfl
            rw [hdec]
            have HCALL := Lib.hid (small_stmts W _ bd rfl soB cB w3 (w.heap.size + 1) ((k : Int) + (ps.length : Int) + 1) 0 HSB.out hs4 (HOLD.out _ HB3.out) HCBW.out HC3.out (by omega) h4 (by omega) (by omega))
            go_wp2_with fail
            go_at_call 25
            refine HCALL.out.mono ?_
            rintro e w4 ⟨b1, q1, rfl, t1, t2, t3, t4⟩
            have HC4 := Lib.hid t1
            have HB4 := Lib.hid (HB3.out.trans t4)
            have HQ := Lib.hid t3
            clear c0 c1 d3 t1 t3 t4 HCALL
            simp only
            cases b1 with
            | false =>
              go_wp2
              go_ret
              first | exact ⟨false, rfl, FINX.out _ HB4.out, fun h => Bool.noConfusion h⟩ | exact .inl ⟨rfl, FINX.out _ HB4.out⟩
            | true =>
              obtain ⟨hq, hqe⟩ := HQ.out rfl
              have HQE := Lib.hid (HFT.out _ hqe)
              clear hqe
              go_wp2
              go_roundg (funcs.length - (i + 1))
              case measure => omega
              case rel =>
                obtain ⟨qn, rfl⟩ : ∃ qn : Nat, q1 = (qn : Int) := ⟨q1.toNat, by omega⟩
                exact ⟨i + 1, qn, by go_num, by omega, Nat.le_refl _, by omega, (by have := HQE.out; show qn = _; omega), HC4.out, HB4.out⟩
          · have hdec : (decide ((k : Int) + (ps.length : Int) + 1 ≤ 4096) && decide ((0 : Int) ≤ 48)) = false := by rw [decide_eq_false h4]; rfl
            rw [hdec]
            go_wp2
            go_ret
            first | exact ⟨false, rfl, FINX.out _ HB3.out, fun h => Bool.noConfusion h⟩ | exact .inl ⟨rfl, FINX.out _ HB3.out⟩
        · obtain rfl : i = funcs.length := by omega
          have HKF : Hid (k = recs.length + fldS recs + funS funcs) := Lib.hid (by have h := HKE.out; rwa [List.take_length] at h)
          have FB := Lib.hid (FINX.out _ HB.out)
          by_cases h4 : (k : Int) ≤ 4096
          · go_wp2
            go_ret
            first | exact ⟨true, rfl, FB.out, fun _ => by have := HKF.out; omega⟩ | exact .inr ⟨rfl, FB.out, by have := HKF.out; omega⟩
          · go_wp2
            go_ret
            first | exact ⟨false, rfl, FB.out, fun h => Bool.noConfusion h⟩ | exact .inl ⟨rfl, FB.out⟩
end Go.Proofs.YtggjeecpadnihaaGreatDoor

namespace Go.Proofs.YtggjeecpadnihaaGreatDoor
open Go Go.Proofs Go.Eng Go.RowKit Go.Sx Go.Deep
set_option linter.unusedVariables false
set_option linter.unusedSimpArgs false

theorem bulk_pos {H : Type} (d : DataW H) : 1 ≤ Rows.uptoBulk d := by
  cases d with
  | lit l => cases l <;> simp [Rows.uptoBulk]
  | nil => simp [Rows.uptoBulk]
  | ptr d => simp [Rows.uptoBulk]
  | slice elems spare => simp [Rows.uptoBulk]
  | agg parts => simp [Rows.uptoBulk]
  | iface t d => simp [Rows.uptoBulk]
  | map entries => simp [Rows.uptoBulk]
  | held h => simp [Rows.uptoBulk]
/-- Places that are read one by one make a list; it weighs no more than they hold. -/
theorem arr_build {α H X : Type} (wgt : α → Nat) : ∀ (elems : List (DataW H × X)) (Q : Nat → α → Prop), (∀ (i : Nat) x, elems[i]? = some x → ∃ y, Q i y ∧ wgt y ≤ Rows.uptoBulk x.1) →
    ∃ l : List α, l.length = elems.length ∧ (∀ (i : Nat) y, l[i]? = some y → Q i y) ∧ (l.map wgt).sum ≤ Rows.uptoBulkAll (elems.map (·.1))
  | [], Q, _ => ⟨[], rfl, fun i y h => by simp at h, by simp [Rows.uptoBulkAll]⟩
  | x :: elems, Q, h => by
    obtain ⟨y, hy, hw⟩ := h 0 x rfl
    obtain ⟨l, h1, h2, h3⟩ := arr_build wgt elems (fun i => Q (i + 1)) (fun i x hx => h (i + 1) x (by simpa using hx))
    refine ⟨y :: l, by simp [h1], fun i z hz => ?_, ?_⟩
    · cases i with
      | zero => simp at hz; subst hz; exact hy
      | succ i => simp at hz; exact h2 i z hz
    · simp only [List.map_cons, List.sum_cons, Rows.uptoBulkAll]
      omega
theorem bulk_slice {H : Type} (a b : List (DataW H)) : Rows.uptoBulkAll a + 1 ≤ Rows.uptoBulk (.slice a b) := by simp only [Rows.uptoBulk]; omega
theorem bulk_str {H : Type} (s : ByteArray) : Rows.uptoBulk (DataW.lit (H := H) (.string s.data.toList)) = s.size + 1 := by
  have : s.data.toList.length = s.size := by rw [Array.length_toList]; rfl
  simp only [Rows.uptoBulk]; omega

section
variable {H : Type} {enc : TypeId × Value → H} {W : World} {base : Nat} {sp : Nat → Bool} {held : Bool}

/-- A cell's place in an array. -/
theorem spot_of {a : Addr} {k : Nat} {cs : List Value} (h : W.cells? base (a.add (0 * k)) k = some cs) (hk : 0 < k) : a.spot = none := by
  obtain ⟨_, hlen, hc⟩ := World.cells?_some h
  have h0 := hc 0 hk
  rw [List.getElem?_eq_getElem (by omega)] at h0
  simpa [Addr.add] using World.cell?_spot h0
theorem place_of {a : Addr} {i k : Nat} {cs : List Value} (hs : a.spot = none) (h : W.cells? base (a.add (i * k)) k = some cs) (hk : 0 < k) : a = ⟨a.block, a.off, none⟩ ∧ cs.length = k ∧ a.block < W.heap.size ∧ ∀ j, j < k → W.cell? ⟨a.block, a.off + i * k + j, none⟩ = cs[j]? := by
  obtain ⟨_, hlen, hc⟩ := World.cells?_some h
  obtain ⟨g, o, spot⟩ := a
  obtain rfl : spot = none := hs
  have hcc : ∀ j, j < k → W.cell? ⟨g, o + i * k + j, none⟩ = cs[j]? := fun j hj => by
    have := hc j hj
    rwa [Addr.add_lit, Addr.add_lit] at this
  refine ⟨rfl, hlen, ?_, hcc⟩
  have h0 := hcc 0 hk
  rw [List.getElem?_eq_getElem (by omega)] at h0
  have h9 := World.block_lt_of_cell? W _ h0
  exact h9

set_option maxRecDepth 100000 in
theorem exs_of_trod {n : Nat} {c : Value} {x : DataW H × List MemPlace} (h : DataW.trod enc Tryz.prog W base sp held n 23 [c] = some x) : ∃ so cap l, c = .slice so l.length cap ∧ l.length ≤ 9223372036854775807 ∧ KidsIn W l so 0 := by
  have hc : Tryz.prog.cellsOf 25 = 5 := by kernel_rfl
  rcases DataW.trod_slice Tryz.underlying23 h with ⟨e, _⟩ | ⟨a, len, cap, elems, rest, n', e1, e2, _, _, hlc, hcm, hel, hx, _⟩
  · exact ⟨none, 0, [], (List.cons.inj e).1, by simp, by simp only [KidsIn]⟩
  · obtain ⟨l, hl, hk⟩ := kids_build (W := W) (so := some a) len 0 (fun i _ h2 => by
      have hi : i < len := by omega
      have h := hx i hi
      rw [hc, List.getElem?_eq_getElem (by omega)] at h
      obtain ⟨cs', q1, q2⟩ := Option.bind_eq_some_iff.1 h
      obtain ⟨e, he⟩ := ex_of_trod _ _ _ q2
      have h00 := hx 0 (by omega)
      rw [hc, List.getElem?_eq_getElem (by omega)] at h00
      obtain ⟨cs0, q10, _⟩ := Option.bind_eq_some_iff.1 h00
      obtain ⟨ha, hlen, hg, hcc⟩ := place_of (spot_of q10 (by decide)) q1 (by decide)
      match cs', hlen with
      | [d0, d1, d2, d3, d4], _ =>
        exact ⟨e, a.block, a.off, d0, d1, d2, d3, d4, by rw [← ha], hg, hcc 0 (by omega), hcc 1 (by omega), hcc 2 (by omega), hcc 3 (by omega), hcc 4 (by omega), he⟩)
    exact ⟨some a, cap, l, by rw [hl]; exact (List.cons.inj e2).1, by rw [hl]; unfold maxLen at hcm; omega, hk⟩

set_option maxRecDepth 100000 in
theorem sts_of_trod_with {n : Nat} (ih : ∀ m, m < n → ∀ (cs : List Value) (x : DataW H × List MemPlace), DataW.trod enc Tryz.prog W base sp held m 103 cs = some x → ∃ y, StIn W y cs) {c : Value} {x : DataW H × List MemPlace}
    (h : DataW.trod enc Tryz.prog W base sp held n 59 [c] = some x) : ∃ so cap l, c = .slice so l.length cap ∧ l.length ≤ 9223372036854775807 ∧ StsIn W l so 0 := by
  have hc : Tryz.prog.cellsOf 103 = 6 := by kernel_rfl
  rcases DataW.trod_slice Tryz.underlying59 h with ⟨e, _⟩ | ⟨a, len, cap, elems, rest, n', e1, e2, _, _, hlc, hcm, hel, hx, _⟩
  · exact ⟨none, 0, [], (List.cons.inj e).1, by simp, by simp only [StsIn]⟩
  · obtain ⟨l, hl, hk⟩ := sts_build (W := W) (so := some a) len 0 (fun i _ h2 => by
      have hi : i < len := by omega
      have h := hx i hi
      rw [hc, List.getElem?_eq_getElem (by omega)] at h
      obtain ⟨cs', q1, q2⟩ := Option.bind_eq_some_iff.1 h
      obtain ⟨e, he⟩ := ih n' (by omega) _ _ q2
      have h00 := hx 0 (by omega)
      rw [hc, List.getElem?_eq_getElem (by omega)] at h00
      obtain ⟨cs0, q10, _⟩ := Option.bind_eq_some_iff.1 h00
      obtain ⟨ha, hlen, hg, hcc⟩ := place_of (spot_of q10 (by decide)) q1 (by decide)
      match cs', hlen with
      | [d0, d1, d2, d3, d4, d5], _ =>
        exact ⟨e, a.block, a.off, d0, d1, d2, d3, d4, d5, by rw [← ha], hg, hcc 0 (by omega), hcc 1 (by omega), hcc 2 (by omega), hcc 3 (by omega), hcc 4 (by omega), hcc 5 (by omega), he⟩)
    exact ⟨some a, cap, l, by rw [hl]; exact (List.cons.inj e2).1, by rw [hl]; unfold maxLen at hcm; omega, hk⟩

set_option maxRecDepth 100000 in
theorem st_of_trod : ∀ (n : Nat) (cs : List Value) (x : DataW H × List MemPlace), DataW.trod enc Tryz.prog W base sp held n 103 cs = some x → ∃ y, StIn W y cs := by
  intro n
  induction n using Nat.strongRecOn with
  | ind n ih =>
  intro cs x h
  obtain ⟨xs, m, rfl, _, hl, _, hf⟩ := DataW.trod_struct Tryz.underlying103 h
  have hc : Tryz.prog.cellsOf 103 = 6 := by kernel_rfl
  rw [hc] at hl
  match cs, hl with
  | [c0, c1, c2, c3, c4, c5], _ =>
    have hlen : xs.length = 6 := by assumption
    have h0 := hf 0 _ rfl
    have h1 := hf 1 _ rfl
    have h2 := hf 2 _ rfl
    have h3 := hf 3 _ rfl
    have h4 := hf 4 _ rfl
    have h5 := hf 5 _ rfl
    have h0 : DataW.trod enc Tryz.prog W base sp held _ 101 [c0] = xs[0]? := h0
    have h1 : DataW.trod enc Tryz.prog W base sp held _ 9 [c1] = xs[1]? := h1
    have h2 : DataW.trod enc Tryz.prog W base sp held _ 23 [c2] = xs[2]? := h2
    have h3 : DataW.trod enc Tryz.prog W base sp held _ 59 [c3] = xs[3]? := h3
    have h4 : DataW.trod enc Tryz.prog W base sp held _ 59 [c4] = xs[4]? := h4
    have h5 : DataW.trod enc Tryz.prog W base sp held _ 3 [c5] = xs[5]? := h5
    rw [List.getElem?_eq_getElem (by omega)] at h0 h1 h2 h3 h4 h5
    obtain ⟨z0, e0, _, _⟩ := DataW.trod_int Tryz.underlying101 h0
    obtain ⟨s1, e1, _, hs1⟩ := DataW.trod_string Tryz.underlying9 h1
    obtain ⟨z5, e5, _, _⟩ := DataW.trod_int Tryz.underlying3 h5
    obtain rfl := (List.cons.inj e0).1
    obtain rfl := (List.cons.inj e1).1
    obtain rfl := (List.cons.inj e5).1
    obtain ⟨so1, p1, es, rfl, hl1, hk1⟩ := exs_of_trod h2
    obtain ⟨so2, p2, bd, rfl, hl2, hk2⟩ := sts_of_trod_with (fun m hm => ih m (by omega)) h3
    obtain ⟨so3, p3, el, rfl, hl3, hk3⟩ := sts_of_trod_with (fun m hm => ih m (by omega)) h4
    exact ⟨.mk z0 s1 es bd el z5, by simp only [StIn]; exact ⟨so1, p1, so2, p2, so3, p3, rfl, ⟨by unfold maxLen at hs1; omega, hl1, hl2, hl3⟩, hk1, hk2, hk3⟩⟩
theorem sts_of_trod {n : Nat} {c : Value} {x : DataW H × List MemPlace} (h : DataW.trod enc Tryz.prog W base sp held n 59 [c] = some x) : ∃ so cap l, c = .slice so l.length cap ∧ l.length ≤ 9223372036854775807 ∧ StsIn W l so 0 :=
  sts_of_trod_with (fun m _ => st_of_trod m) h

def pmB (p : Pm) : Nat := p.typ.size + 3
set_option maxRecDepth 100000 in
theorem pm_of_trod {n : Nat} {cs : List Value} {x : DataW H × List MemPlace} (h : DataW.trod enc Tryz.prog W base sp held n 106 cs = some x) : ∃ p : Pm, cs = [.string p.name, .string p.typ] ∧ (p.name.size ≤ 9223372036854775807 ∧ p.typ.size ≤ 9223372036854775807) ∧ pmB p ≤ Rows.uptoBulk x.1 := by
  obtain ⟨xs, m, rfl, rfl, hl, hxl, hf⟩ := DataW.trod_struct Tryz.underlying106 h
  have hc : Tryz.prog.cellsOf 106 = 2 := by kernel_rfl
  rw [hc] at hl
  match cs, hl with
  | [c0, c1], _ =>
    have hlen : xs.length = 2 := hxl
    have h0 := hf 0 _ rfl
    have h1 := hf 1 _ rfl
    have h0 : DataW.trod enc Tryz.prog W base sp held _ 9 [c0] = xs[0]? := h0
    have h1 : DataW.trod enc Tryz.prog W base sp held _ 9 [c1] = xs[1]? := h1
    match xs, hlen with
    | [x0, x1], _ =>
      obtain ⟨s0, e0, q0, hs0⟩ := DataW.trod_string Tryz.underlying9 h0
      obtain ⟨s1, e1, q1, hs1⟩ := DataW.trod_string Tryz.underlying9 h1
      obtain rfl := (List.cons.inj e0).1
      obtain rfl := (List.cons.inj e1).1
      subst q0 q1
      refine ⟨⟨s0, s1⟩, rfl, by unfold maxLen at hs0 hs1; exact ⟨by show s0.size ≤ _; omega, by show s1.size ≤ _; omega⟩, ?_⟩
      have b0 := bulk_str (H := H) s0
      have b1 := bulk_str (H := H) s1
      simp only [List.map_cons, List.map_nil]
      show s1.size + 3 ≤ Rows.uptoBulk (.agg [_, _])
      unfold Rows.uptoBulk
      simp only [Rows.uptoBulkAll]
      omega
def pmsB (l : List Pm) : Nat := (l.map pmB).sum
set_option maxRecDepth 100000 in
theorem pms_of_trod {n : Nat} {c : Value} {x : DataW H × List MemPlace} (h : DataW.trod enc Tryz.prog W base sp held n 56 [c] = some x) : ∃ so cap l, c = .slice so l.length cap ∧ l.length ≤ 9223372036854775807 ∧ PmsIn W so l ∧ pmsB l ≤ Rows.uptoBulk x.1 := by
  have hc : Tryz.prog.cellsOf 106 = 2 := by kernel_rfl
  rcases DataW.trod_slice Tryz.underlying56 h with ⟨e, q⟩ | ⟨a, len, cap, elems, rest, n', e1, e2, rfl, _, hlc, hcm, hel, hx, _⟩
  · exact ⟨none, 0, [], (List.cons.inj e).1, by simp, fun i p hp => by simp at hp, by simp [pmsB]⟩
  · obtain ⟨l, hl, hQ, hB⟩ := arr_build (wgt := pmB) elems (fun i p => ∃ g o, (some a : Option Addr) = some ⟨g, o, none⟩ ∧ g < W.heap.size ∧ W.cell? ⟨g, o + i * 2, none⟩ = some (.string p.name) ∧ W.cell? ⟨g, o + i * 2 + 1, none⟩ = some (.string p.typ) ∧ (p.name.size ≤ 9223372036854775807 ∧ p.typ.size ≤ 9223372036854775807)) (fun i x hxi => by
      have hi : i < len := by have := (List.getElem?_eq_some_iff.1 hxi).1; omega
      have h := hx i hi
      rw [hc, hxi] at h
      obtain ⟨cs', q1, q2⟩ := Option.bind_eq_some_iff.1 h
      obtain ⟨p, hcs, hsz, hb⟩ := pm_of_trod q2
      have h00 := hx 0 (by omega)
      rw [hc, List.getElem?_eq_getElem (by omega)] at h00
      obtain ⟨cs0, q10, _⟩ := Option.bind_eq_some_iff.1 h00
      obtain ⟨ha, hlen, hg, hcc⟩ := place_of (spot_of q10 (by decide)) q1 (by decide)
      subst hcs
      exact ⟨p, ⟨a.block, a.off, by rw [← ha], hg, hcc 0 (by omega), hcc 1 (by omega), hsz⟩, hb⟩)
    refine ⟨some a, cap, l, by rw [hl, hel]; exact (List.cons.inj e2).1, by rw [hl, hel]; unfold maxLen at hcm; omega, hQ, ?_⟩
    have := bulk_slice (elems.map (·.1)) (rest.map (·.1))
    show (l.map pmB).sum ≤ Rows.uptoBulk (.slice (elems.map (·.1)) (rest.map (·.1)))
    omega
def rcB (r : Rc) : Nat := pmsB r.fields + 3
set_option maxRecDepth 100000 in
theorem rc_of_trod {n : Nat} {cs : List Value} {x : DataW H × List MemPlace} (h : DataW.trod enc Tryz.prog W base sp held n 58 cs = some x) : ∃ (r : Rc) (so1 : Option Addr) (c1 : Nat), cs = [.string r.name, .slice so1 r.fields.length c1, .int .i64 r.line] ∧ (r.name.size ≤ 9223372036854775807 ∧ r.fields.length ≤ 9223372036854775807) ∧ PmsIn W so1 r.fields ∧ rcB r ≤ Rows.uptoBulk x.1 := by
  obtain ⟨xs, m, rfl, rfl, hl, hxl, hf⟩ := DataW.trod_struct Tryz.underlying58 h
  have hc : Tryz.prog.cellsOf 58 = 3 := by kernel_rfl
  rw [hc] at hl
  match cs, hl with
  | [c0, c1, c2], _ =>
    have hlen : xs.length = 3 := hxl
    have h0 := hf 0 _ rfl
    have h1 := hf 1 _ rfl
    have h2 := hf 2 _ rfl
    have h0 : DataW.trod enc Tryz.prog W base sp held _ 9 [c0] = xs[0]? := h0
    have h1 : DataW.trod enc Tryz.prog W base sp held _ 56 [c1] = xs[1]? := h1
    have h2 : DataW.trod enc Tryz.prog W base sp held _ 3 [c2] = xs[2]? := h2
    match xs, hlen with
    | [x0, x1, x2], _ =>
      obtain ⟨s0, e0, q0, hs0⟩ := DataW.trod_string Tryz.underlying9 h0
      obtain ⟨so1, p1, l, rfl, hl1, hk1, hb1⟩ := pms_of_trod h1
      obtain ⟨z2, e2, q2, _⟩ := DataW.trod_int Tryz.underlying3 h2
      obtain rfl := (List.cons.inj e0).1
      obtain rfl := (List.cons.inj e2).1
      subst q0 q2
      refine ⟨⟨s0, l, z2⟩, so1, p1, rfl, ⟨by unfold maxLen at hs0; show s0.size ≤ _; omega, hl1⟩, hk1, ?_⟩
      have b0 := bulk_str (H := H) s0
      have b2 := bulk_pos (DataW.lit (H := H) (.int .i64 z2))
      simp only [List.map_cons, List.map_nil]
      show pmsB l + 3 ≤ Rows.uptoBulk (.agg [_, _, _])
      unfold Rows.uptoBulk
      simp only [Rows.uptoBulkAll]
      omega
def rcsB (l : List Rc) : Nat := (l.map rcB).sum
set_option maxRecDepth 100000 in
theorem rcs_of_trod {n : Nat} {c : Value} {x : DataW H × List MemPlace} (h : DataW.trod enc Tryz.prog W base sp held n 33 [c] = some x) : ∃ so cap l, c = .slice so l.length cap ∧ l.length ≤ 9223372036854775807 ∧ RcsIn W so l ∧ rcsB l ≤ Rows.uptoBulk x.1 := by
  have hc : Tryz.prog.cellsOf 58 = 3 := by kernel_rfl
  rcases DataW.trod_slice Tryz.underlying33 h with ⟨e, q⟩ | ⟨a, len, cap, elems, rest, n', e1, e2, rfl, _, hlc, hcm, hel, hx, _⟩
  · exact ⟨none, 0, [], (List.cons.inj e).1, by simp, fun i p hp => by simp at hp, by simp [rcsB]⟩
  · obtain ⟨l, hl, hQ, hB⟩ := arr_build (wgt := rcB) elems (fun i r => ∃ g o so1 c1, (some a : Option Addr) = some ⟨g, o, none⟩ ∧ g < W.heap.size ∧ W.cell? ⟨g, o + i * 3, none⟩ = some (.string r.name) ∧ W.cell? ⟨g, o + i * 3 + 1, none⟩ = some (.slice so1 r.fields.length c1) ∧
  W.cell? ⟨g, o + i * 3 + 2, none⟩ = some (.int .i64 r.line) ∧ (r.name.size ≤ 9223372036854775807 ∧ r.fields.length ≤ 9223372036854775807) ∧ PmsIn W so1 r.fields) (fun i x hxi => by
      have hi : i < len := by have := (List.getElem?_eq_some_iff.1 hxi).1; omega
      have h := hx i hi
      rw [hc, hxi] at h
      obtain ⟨cs', q1, q2⟩ := Option.bind_eq_some_iff.1 h
      obtain ⟨r, so1, c1, hcs, hsz, hpm, hb⟩ := rc_of_trod q2
      have h00 := hx 0 (by omega)
      rw [hc, List.getElem?_eq_getElem (by omega)] at h00
      obtain ⟨cs0, q10, _⟩ := Option.bind_eq_some_iff.1 h00
      obtain ⟨ha, hlen, hg, hcc⟩ := place_of (spot_of q10 (by decide)) q1 (by decide)
      subst hcs
      exact ⟨r, ⟨a.block, a.off, so1, c1, by rw [← ha], hg, hcc 0 (by omega), hcc 1 (by omega), hcc 2 (by omega), hsz, hpm⟩, hb⟩)
    refine ⟨some a, cap, l, by rw [hl, hel]; exact (List.cons.inj e2).1, by rw [hl, hel]; unfold maxLen at hcm; omega, hQ, ?_⟩
    have := bulk_slice (elems.map (·.1)) (rest.map (·.1))
    show (l.map rcB).sum ≤ Rows.uptoBulk (.slice (elems.map (·.1)) (rest.map (·.1)))
    omega
def fuB (f : Fu) : Nat := pmsB f.params + f.result.size + 3
set_option maxRecDepth 100000 in
theorem fu_of_trod {n : Nat} {cs : List Value} {x : DataW H × List MemPlace} (h : DataW.trod enc Tryz.prog W base sp held n 61 cs = some x) : ∃ (f : Fu) (so1 : Option Addr) (c1 : Nat) (so3 : Option Addr) (c3 : Nat), cs = [.string f.name, .slice so1 f.params.length c1, .string f.result, .slice so3 f.body.length c3, .int .i64 f.line] ∧
    (f.name.size ≤ 9223372036854775807 ∧ f.params.length ≤ 9223372036854775807 ∧ f.result.size ≤ 9223372036854775807 ∧ f.body.length ≤ 9223372036854775807) ∧ PmsIn W so1 f.params ∧ StsIn W f.body so3 0 ∧ fuB f ≤ Rows.uptoBulk x.1 := by
  obtain ⟨xs, m, rfl, rfl, hl, hxl, hf⟩ := DataW.trod_struct Tryz.underlying61 h
  have hc : Tryz.prog.cellsOf 61 = 5 := by kernel_rfl
  rw [hc] at hl
  match cs, hl with
  | [c0, c1, c2, c3, c4], _ =>
    have hlen : xs.length = 5 := hxl
    have h0 := hf 0 _ rfl
    have h1 := hf 1 _ rfl
    have h2 := hf 2 _ rfl
    have h3 := hf 3 _ rfl
    have h4 := hf 4 _ rfl
    have h0 : DataW.trod enc Tryz.prog W base sp held _ 9 [c0] = xs[0]? := h0
    have h1 : DataW.trod enc Tryz.prog W base sp held _ 56 [c1] = xs[1]? := h1
    have h2 : DataW.trod enc Tryz.prog W base sp held _ 9 [c2] = xs[2]? := h2
    have h3 : DataW.trod enc Tryz.prog W base sp held _ 59 [c3] = xs[3]? := h3
    have h4 : DataW.trod enc Tryz.prog W base sp held _ 3 [c4] = xs[4]? := h4
    match xs, hlen with
    | [x0, x1, x2, x3, x4], _ =>
      obtain ⟨s0, e0, q0, hs0⟩ := DataW.trod_string Tryz.underlying9 h0
      obtain ⟨so1, p1, l, rfl, hl1, hk1, hb1⟩ := pms_of_trod h1
      obtain ⟨s2, e2, q2, hs2⟩ := DataW.trod_string Tryz.underlying9 h2
      obtain ⟨so3, p3, bd, rfl, hl3, hk3⟩ := sts_of_trod h3
      obtain ⟨z4, e4, q4, _⟩ := DataW.trod_int Tryz.underlying3 h4
      obtain rfl := (List.cons.inj e0).1
      obtain rfl := (List.cons.inj e2).1
      obtain rfl := (List.cons.inj e4).1
      subst q0 q2 q4
      refine ⟨⟨s0, l, s2, bd, z4⟩, so1, p1, so3, p3, rfl, ⟨by unfold maxLen at hs0; show s0.size ≤ _; omega, hl1, by unfold maxLen at hs2; show s2.size ≤ _; omega, hl3⟩, hk1, hk3, ?_⟩
      have b0 := bulk_str (H := H) s0
      have b2 := bulk_str (H := H) s2
      have b3 := bulk_pos x3.1
      have b4 := bulk_pos (DataW.lit (H := H) (.int .i64 z4))
      simp only [List.map_cons, List.map_nil]
      show pmsB l + s2.size + 3 ≤ Rows.uptoBulk (.agg [_, _, _, _, _])
      unfold Rows.uptoBulk
      simp only [Rows.uptoBulkAll]
      omega
def fusB (l : List Fu) : Nat := (l.map fuB).sum
set_option maxRecDepth 100000 in
theorem fus_of_trod {n : Nat} {c : Value} {x : DataW H × List MemPlace} (h : DataW.trod enc Tryz.prog W base sp held n 34 [c] = some x) : ∃ so cap l, c = .slice so l.length cap ∧ l.length ≤ 9223372036854775807 ∧ FusIn W so l ∧ fusB l ≤ Rows.uptoBulk x.1 := by
  have hc : Tryz.prog.cellsOf 61 = 5 := by kernel_rfl
  rcases DataW.trod_slice Tryz.underlying34 h with ⟨e, q⟩ | ⟨a, len, cap, elems, rest, n', e1, e2, rfl, _, hlc, hcm, hel, hx, _⟩
  · exact ⟨none, 0, [], (List.cons.inj e).1, by simp, fun i p hp => by simp at hp, by simp [fusB]⟩
  · obtain ⟨l, hl, hQ, hB⟩ := arr_build (wgt := fuB) elems (fun i f => ∃ g o so1 c1 so3 c3, (some a : Option Addr) = some ⟨g, o, none⟩ ∧ g < W.heap.size ∧ W.cell? ⟨g, o + i * 5, none⟩ = some (.string f.name) ∧ W.cell? ⟨g, o + i * 5 + 1, none⟩ = some (.slice so1 f.params.length c1) ∧
  W.cell? ⟨g, o + i * 5 + 2, none⟩ = some (.string f.result) ∧ W.cell? ⟨g, o + i * 5 + 3, none⟩ = some (.slice so3 f.body.length c3) ∧ W.cell? ⟨g, o + i * 5 + 4, none⟩ = some (.int .i64 f.line) ∧
  (f.name.size ≤ 9223372036854775807 ∧ f.params.length ≤ 9223372036854775807 ∧ f.result.size ≤ 9223372036854775807 ∧ f.body.length ≤ 9223372036854775807) ∧ PmsIn W so1 f.params ∧ StsIn W f.body so3 0) (fun i x hxi => by
      have hi : i < len := by have := (List.getElem?_eq_some_iff.1 hxi).1; omega
      have h := hx i hi
      rw [hc, hxi] at h
      obtain ⟨cs', q1, q2⟩ := Option.bind_eq_some_iff.1 h
      obtain ⟨f, so1, c1, so3, c3, hcs, hsz, hpm, hst, hb⟩ := fu_of_trod q2
      have h00 := hx 0 (by omega)
      rw [hc, List.getElem?_eq_getElem (by omega)] at h00
      obtain ⟨cs0, q10, _⟩ := Option.bind_eq_some_iff.1 h00
      obtain ⟨ha, hlen, hg, hcc⟩ := place_of (spot_of q10 (by decide)) q1 (by decide)
      subst hcs
      exact ⟨f, ⟨a.block, a.off, so1, c1, so3, c3, by rw [← ha], hg, hcc 0 (by omega), hcc 1 (by omega), hcc 2 (by omega), hcc 3 (by omega), hcc 4 (by omega), hsz, hpm, hst⟩, hb⟩)
    refine ⟨some a, cap, l, by rw [hl, hel]; exact (List.cons.inj e2).1, by rw [hl, hel]; unfold maxLen at hcm; omega, hQ, ?_⟩
    have := bulk_slice (elems.map (·.1)) (rest.map (·.1))
    show (l.map fuB).sum ≤ Rows.uptoBulk (.slice (elems.map (·.1)) (rest.map (·.1)))
    omega
set_option maxRecDepth 100000 in
/-- A program that came in. -/
theorem pg_of_trod {n : Nat} {cs : List Value} {x : DataW H × List MemPlace} (h : DataW.trod enc Tryz.prog W base sp held n 36 cs = some x) : ∃ p, PgIn W p cs ∧ rcsB p.recs + fusB p.funcs ≤ Rows.uptoBulk x.1 := by
  obtain ⟨xs, m, rfl, rfl, hl, hxl, hf⟩ := DataW.trod_struct Tryz.underlying36 h
  have hc : Tryz.prog.cellsOf 36 = 2 := by kernel_rfl
  rw [hc] at hl
  match cs, hl with
  | [c0, c1], _ =>
    have hlen : xs.length = 2 := hxl
    have h0 := hf 0 _ rfl
    have h1 := hf 1 _ rfl
    have h0 : DataW.trod enc Tryz.prog W base sp held _ 33 [c0] = xs[0]? := h0
    have h1 : DataW.trod enc Tryz.prog W base sp held _ 34 [c1] = xs[1]? := h1
    match xs, hlen with
    | [x0, x1], _ =>
      obtain ⟨so1, p1, l1, rfl, hl1, hk1, hb1⟩ := rcs_of_trod h0
      obtain ⟨so2, p2, l2, rfl, hl2, hk2, hb2⟩ := fus_of_trod h1
      refine ⟨⟨l1, l2⟩, ⟨so1, p1, so2, p2, rfl, ⟨hl1, hl2⟩, hk1, hk2⟩, ?_⟩
      simp only [List.map_cons, List.map_nil]
      show rcsB l1 + fusB l2 ≤ Rows.uptoBulk (.agg [_, _])
      unfold Rows.uptoBulk
      simp only [Rows.uptoBulkAll]
      omega
end
/-! ### What that bounds -/
theorem pmW_le (l : List Pm) : pmW l + 3 * l.length = pmsB l + 100 * l.length := by
  induction l with
  | nil => rfl
  | cons p l ih => simp only [pmW, pmsB, pmB, List.map_cons, List.sum_cons, List.length_cons] at ih ⊢; omega
theorem rcW_le (l : List Rc) : rcW l + l.length + fldS l ≤ rcsB l + 100 * l.length + 100 * fldS l := by
  induction l with
  | nil => simp [rcW, rcsB, fldS]
  | cons r l ih =>
    have := pmW_le r.fields
    simp only [rcW, rcsB, rcB, fldS, List.map_cons, List.sum_cons, List.length_cons] at ih ⊢; omega
theorem fuW_le (l : List Fu) : fuW l ≤ fusB l + 1000 * funS l := by
  induction l with
  | nil => simp [fuW, fusB, funS]
  | cons r l ih =>
    have := pmW_le r.params
    simp only [fuW, fusB, fuB, funS, List.map_cons, List.sum_cons] at ih ⊢; omega
theorem sum_le (l : List Rc) : l.length + fldS l ≤ rcsB l := by
  induction l with
  | nil => simp [rcsB, fldS]
  | cons r l ih =>
    have h : r.fields.length ≤ pmsB r.fields := by
      generalize r.fields = q
      induction q with
      | nil => simp
      | cons p q ih => simp only [pmsB, pmB, List.map_cons, List.sum_cons, List.length_cons] at ih ⊢; omega
    simp only [rcsB, rcB, fldS, List.map_cons, List.sum_cons, List.length_cons] at ih ⊢; omega
theorem par_le (l : List Fu) : parS l ≤ fusB l := by
  induction l with
  | nil => simp [fusB, parS]
  | cons r l ih =>
    have h : r.params.length ≤ pmsB r.params := by
      generalize r.params = q
      induction q with
      | nil => simp
      | cons p q ih => simp only [pmsB, pmB, List.map_cons, List.sum_cons, List.length_cons] at ih ⊢; omega
    simp only [fusB, fuB, parS, List.map_cons, List.sum_cons] at ih ⊢; omega
theorem funS_get {l : List Fu} {i : Nat} {f : Fu} (h : l[i]? = some f) : cntS f.body ≤ funS l := by
  have h1 := funS_take h
  have e : funS l = funS (l.take (i + 1)) + funS (l.drop (i + 1)) := by
    conv => lhs; rw [← List.take_append_drop (i + 1) l]
    simp only [funS, List.map_append, List.sum_append]
  omega
theorem pgOk_of {p : Go.Sx.Pg} (hb : rcsB p.recs + fusB p.funcs ≤ 1048576) (hc : p.recs.length + fldS p.recs + funS p.funcs ≤ 4096) : PgOk p :=
  ⟨fun i f hf => by have := funS_get hf; omega, by have h1 := rcW_le p.recs; have h2 := fuW_le p.funcs; omega⟩
end Go.Proofs.YtggjeecpadnihaaGreatDoor

namespace Go.Proofs.YtggjeecpadnihaaGreatDoor
open Go Go.Proofs Go.Eng Go.RowKit Go.Sx Go.Deep
set_option linter.unusedVariables false
set_option linter.unusedSimpArgs false

set_option maxRecDepth 100000 in
set_option maxHeartbeats 1000000 in
theorem prints_walk {a0 : List Value} (W : World) (hg : Globs hv W gl) (hng : 9 ≤ W.heap.size)
    {H : Type} {enc : TypeId × Value → H} {base : Nat} {sp : Nat → Bool} {held : Bool} {n : Nat} {x : DataW H × List MemPlace} (ht : DataW.trod enc Tryz.prog W base sp held n 36 a0 = some x) (hbk : Rows.uptoBulk x.1 ≤ 1048576) :
    Calls Tryz.prog 4 #[.agg ⟨a0⟩] W fun e w' => e = .returned (.bool true) ∧ Below W.heap.size W w' := by
  obtain ⟨p, hin, hbulk⟩ := pg_of_trod ht
  have hb0 := sum_le p.recs
  have hb1 := par_le p.funcs
  have CS := Lib.hid (fun w (hw : Old W w) => smallP_any hin (by omega) w hw)
  have CP := Lib.hid (fun w (hw : Old W w) (hc : p.recs.length + fldS p.recs + funS p.funcs ≤ 4096) => printP_any hg hng p a0 hin (pgOk_of (by omega) hc) w hw)
  have CR := Lib.hid (fun w (hw : Old W w) (hc : p.recs.length + fldS p.recs + funS p.funcs ≤ 4096) => rPrint_any hin (pgOk_of (by omega) hc) w hw)
  have CL : Hid (∀ w, Below W.heap.size W w → Calls Tryz.prog 6 #[] w fun e w' => e = .returned (.bool true) ∧ Below w.heap.size w w') := Lib.hid fun w hw => lives_calls w (by have := hw.size; omega) (hg.below hw)
  obtain ⟨ts, tn, htt⟩ := told_tuple p.right p.txt
  rw [htt] at CP CR
  obtain ⟨so1, p1, so2, p2, rfl, _⟩ := hin
  generalize p.recs.length + fldS p.recs + funS p.funcs = cn at *
  clear ht htt hg hng hbulk hb0 hb1 hbk
  obtain ⟨W1, hW1⟩ : ∃ W1, W1 = W.alloc (.cells #[.slice so1 p.recs.length p1, .slice so2 p.funcs.length p2] 36) := ⟨_, rfl⟩
  have hal : Below W.heap.size W W1 := by rw [hW1]; exact (RowKit.Below.refl _ _).alloc (Nat.le_refl _) _
  have hrow : W1.heap[W.heap.size]? = some (.cells #[.slice so1 p.recs.length p1, .slice so2 p.funcs.length p2] 36 (0, 0)) := by rw [hW1]; exact heap_alloc_new _ _
  have HCELL : Hid (∀ w', Below W1.heap.size W1 w' → w'.cell? ⟨W.heap.size, 0, none⟩ = some (.slice so1 p.recs.length p1) ∧ w'.cell? ⟨W.heap.size, 1, none⟩ = some (.slice so2 p.funcs.length p2)) :=
    Lib.hid fun w' hb => prog_cells ((hb.block _ (Array.getElem?_eq_some_iff.1 hrow).1).trans hrow)
  have HAL := Lib.hid hal
  have HB0 : Hid (Below W1.heap.size W1 W1) := Lib.hid (RowKit.Below.refl _ _)
  have HOLD : Hid (∀ w', Below W1.heap.size W1 w' → Old W w' ∧ Below W.heap.size W w') := Lib.hid fun w' hb => ⟨(Old.of hal).below hb, hal.trans (RowKit.Below.mono hb hal.size)⟩
  obtain ⟨c0, c1⟩ := HCELL.out W1 HB0.out
  clear hal hrow
  go_enter Tryz.func4, Tryz.ntmps4
  go_wp2_with fail
  rw [← hW1]
  clear hW1
  go_wp2_with fail
  go_at_call 9
  refine (CS.out _ (HOLD.out _ HB0.out).1).mono ?_
  rintro e w2 ⟨b, rfl, hb2, hcn⟩
  obtain ⟨d0, d1⟩ := HCELL.out w2 hb2
  have HB2 := Lib.hid hb2
  have HCN := Lib.hid hcn
  clear c0 c1 hb2 hcn CS
  simp only
  cases b with
  | false =>
    go_wp2_with fail
    go_at_call 6
    refine (CL.out _ (HOLD.out _ HB2.out).2).mono ?_
    rintro e w3 ⟨rfl, hb3⟩
    have FIN := Lib.hid ((HOLD.out _ HB2.out).2.trans (RowKit.Below.mono hb3 (HOLD.out _ HB2.out).2.size))
    clear hb3
    simp only
    go_wp2_with fail
    go_ret
    exact ⟨rfl, FIN.out⟩
  | true =>
    have hcn := HCN.out rfl
    have CP2 := Lib.hid (CP.out w2 (HOLD.out _ HB2.out).1 hcn)
    clear CP HCN
    go_wp2_with fail
    go_at_call 10
    refine CP2.out.mono ?_
    rintro e w3 ⟨rfl, hb3⟩
    have HB3 := Lib.hid (HB2.out.trans (RowKit.Below.mono hb3 HB2.out.size))
    obtain ⟨c0, c1⟩ := HCELL.out w3 HB3.out
    have CR2 := Lib.hid (CR.out w3 (HOLD.out _ HB3.out).1 hcn)
    clear d0 d1 hb3 CP2 CR hcn HB2
    simp only
    go_wp2_with fail
    go_at_call 11
    refine CR2.out.mono ?_
    rintro e w4 ⟨rfl, hb4⟩
    have HB4 := Lib.hid (HB3.out.trans (RowKit.Below.mono hb4 HB3.out.size))
    clear c0 c1 hb4 CR2 HB3
    simp only
    go_wp2_with fail
    go_at_call 6
    refine (CL.out _ (HOLD.out _ HB4.out).2).mono ?_
    rintro e w5 ⟨rfl, hb5⟩
    have FIN := Lib.hid ((HOLD.out _ HB4.out).2.trans (RowKit.Below.mono hb5 (HOLD.out _ HB4.out).2.size))
    clear hb5
    simp only
    go_wp2_with fail
    go_ret
    exact ⟨rfl, FIN.out⟩
end Go.Proofs.YtggjeecpadnihaaGreatDoor
