/- Small: the count of an expression's parts. -/
import Derived.Test.YtggjeecpadnihaaGreatDoorSyB
import Derived.Deep.LoopGhost
import Derived.Test.YtggjeecpadnihaaGreatDoorSy9
import Derived.Test.YtggjeecpadnihaaGreatDoorSyA
import Derived.Test.YtggjeecpadnihaaGreatDoorSxB
import Derived.Test.YtggjeecpadnihaaGreatDoorSyntaxWritesRun
namespace Go.Proofs.YtggjeecpadnihaaGreatDoor
open Go Go.Proofs Go.Eng Go.RowKit Go.Sx Go.Deep
set_option linter.unusedVariables false
set_option linter.unusedSimpArgs false

/-- All but one block is as it was. -/
structure But (cb : Nat) (w w' : World) : Prop where
  os : w'.os = w.os
  tape : w'.tape = w.tape
  output : w'.output = w.output
  size : w.heap.size ≤ w'.heap.size
  block : ∀ k, k < w.heap.size → k ≠ cb → w'.heap[k]? = w.heap[k]?
theorem But.refl (cb : Nat) (w : World) : But cb w w := ⟨rfl, rfl, rfl, Nat.le_refl _, fun _ _ _ => rfl⟩
theorem But.trans {cb : Nat} {a b c : World} (h : But cb a b) (k : But cb b c) : But cb a c :=
  ⟨k.os.trans h.os, k.tape.trans h.tape, k.output.trans h.output, Nat.le_trans h.size k.size, fun i hi hn => (k.block i (Nat.lt_of_lt_of_le hi h.size) hn).trans (h.block i hi hn)⟩
theorem But.of {cb : Nat} {w w' : World} (h : Below w.heap.size w w') : But cb w w' := ⟨h.os, h.tape, h.output, h.size, fun k hk _ => h.block k hk⟩
theorem But.below {cb B : Nat} {w w' : World} (h : But cb w w') (hB : B ≤ cb) (hw : B ≤ w.heap.size) : Below B w w' := ⟨h.os, h.tape, h.output, h.size, fun k hk => h.block k (by omega) (by omega)⟩
theorem But.cell {cb : Nat} {w w' : World} (h : But cb w w') {p : Addr} (hp : p.block < w.heap.size) (hne : p.block ≠ cb) : w'.cell? p = w.cell? p := World.cell?_of_block (h.block p.block hp hne)
theorem But.drewN {cb n : Nat} {a w : World} (h : But cb a w) : But cb a (w.drewN n) := ⟨h.os, h.tape, h.output, h.size, h.block⟩
theorem But.drew {cb : Nat} {a w : World} (h : But cb a w) : But cb a w.drew := ⟨h.os, h.tape, h.output, h.size, h.block⟩

theorem setCell_row {w : World} {b o : Nat} {c : Array Value} {t : TypeId} {fr : Nat × Nat} {v : Value} (h : w.heap[b]? = some (.cells c t fr)) :
    (w.setCell ⟨b, o, none⟩ v).heap[b]? = some (.cells (c.setIfInBounds o v) t fr) := by
  have hlt : b < w.heap.size := (Array.getElem?_eq_some_iff.1 h).1
  have he : w.heap[b] = .cells c t fr := by have := Array.getElem?_eq_some_iff.1 h; exact this.2
  show (w.heap.modify b _)[b]? = _
  rw [Array.getElem?_eq_getElem (by simpa using hlt), Array.getElem_modify, if_pos rfl, he]
  rfl

/-- The count. -/
def Cnt (w : World) (cb : Nat) (k : Int) : Prop := w.heap[cb]? = some (.cells #[.int .i64 k] 42 (0, 0))
theorem Cnt.cell {w : World} {cb : Nat} {k : Int} (h : Cnt w cb k) : w.cell? ⟨cb, 0, none⟩ = some (.int .i64 k) := by unfold Cnt at h; simp [World.cell?, h]
theorem Cnt.frozen {w : World} {cb : Nat} {k : Int} (h : Cnt w cb k) : w.frozen? ⟨cb, 0, none⟩ = false := by unfold Cnt at h; simp [World.frozen?, h]
theorem Cnt.lt {w : World} {cb : Nat} {k : Int} (h : Cnt w cb k) : cb < w.heap.size := (Array.getElem?_eq_some_iff.1 h).1
theorem Cnt.set {w : World} {cb : Nat} {k : Int} (h : Cnt w cb k) (n : Int) : Cnt (w.setCell ⟨cb, 0, none⟩ (.int .i64 n)) cb n ∧ But cb w (w.setCell ⟨cb, 0, none⟩ (.int .i64 n)) := by
  have hb : Below 0 w (w.setCell ⟨cb, 0, none⟩ (.int .i64 n)) := (RowKit.Below.refl 0 w).setCell (Nat.zero_le _) _
  exact ⟨setCell_row h, hb.os, hb.tape, hb.output, hb.size, fun k hk hn => RowKit.Below.heap_setCell _ _ _ _ hn⟩

theorem more_any (cb : Nat) (k deep : Int) (w : World) (h : Cnt w cb k) (hk : 0 ≤ k) (hk2 : k ≤ 4096) :
    Calls Tryz.prog 24 #[.pointer (some ⟨cb, 0, none⟩), .int .i64 deep] w fun e w' => e = .returned (.bool (decide (k + 1 ≤ 4096) && decide (deep ≤ 48))) ∧ Cnt w' cb (k + 1) ∧ But cb w w' := by
  have c1 := h.cell
  have f1 := h.frozen
  have hw : IntKind.i64.wrap (k + 1) = k + 1 := IntWalk.i64_in _ (by omega)
  have HS := Lib.hid (h.set (k + 1))
  clear h
  by_cases h1 : k + 1 ≤ 4096
  · have hd : decide (k + 1 ≤ 4096) = true := decide_eq_true h1
    rw [hd]
    go_enter Tryz.func24, Tryz.ntmps24
    go_wp2
    go_ret
    exact ⟨by rw [Bool.true_and]; rfl, HS.out.1, HS.out.2⟩
  · have hd : decide (k + 1 ≤ 4096) = false := decide_eq_false h1
    rw [hd]
    go_enter Tryz.func24, Tryz.ntmps24
    go_wp2
    go_ret
    exact ⟨rfl, HS.out.1, HS.out.2⟩

/-- What the count of an expression's parts comes to. -/
def SmallPost (e : Ex) (cb : Nat) (k : Int) (w w' : World) (x : Ending) : Prop := ∃ (b : Bool) (k' : Int), x = .returned (.bool b) ∧ Cnt w' cb k' ∧ 0 ≤ k' ∧ (b = true → k' ≤ 4096 ∧ k' = k + e.cnt) ∧ But cb w w'

set_option maxRecDepth 100000 in
set_option maxHeartbeats 1000000 in
theorem small_expr {W : World} : ∀ (m : Nat) (e : Ex) (cs : List Value), e.cnt = m → ExIn W e cs →
    ∀ (w : World) (cb : Nat) (k deep : Int), Old W w → W.heap.size ≤ cb → Cnt w cb k → 0 ≤ k → k ≤ 4096 → 0 ≤ deep → deep ≤ 100 →
      Calls Tryz.prog 12 #[.pointer (some ⟨cb, 0, none⟩), .agg ⟨cs⟩, .int .i64 deep] w fun x w' => SmallPost e cb k w w' x := by
  intro m
  induction m using Nat.strongRecOn with
  | ind m ih =>
  intro e cs he hin w cb k deep hW hcb hc hk hk2 hd hd2
  obtain ⟨kd, s, n, kids, line⟩ := e
  simp only [ExIn] at hin
  obtain ⟨so, cap, rfl, _, hlm', hkids⟩ := hin
  simp only [Ex.cnt] at he
  have IH := Lib.hid ih
  have HE := Lib.hid he
  have HK := Lib.hid (fun (i : Nat) (e : Ex) (hi : kids[i]? = some e) => kids_at hkids hi)
  have HCN := Lib.hid (fun (i : Nat) (e : Ex) (hi : kids[i]? = some e) => cntL_get hi)
  have HW := Lib.hid hW
  clear ih hkids hW he
  have HCE : Hid (((Ex.mk kd s n kids line).cnt : Int) = cntL kids + 1) := Lib.hid (by simp [Ex.cnt])
  obtain ⟨W1, hW1⟩ : ∃ W1, W1 = w.alloc (.cells #[.int .i64 kd, .string s, .int .i64 n, .slice so kids.length cap, .int .i64 line] 25) := ⟨_, rfl⟩
  have hb1 : Below w.heap.size w W1 := by rw [hW1]; exact (RowKit.Below.refl _ _).alloc (Nat.le_refl _) _
  have hrow : W1.heap[w.heap.size]? = some (.cells #[.int .i64 kd, .string s, .int .i64 n, .slice so kids.length cap, .int .i64 line] 25 (0, 0)) := by rw [hW1]; exact heap_alloc_new _ _
  have hcb1 : cb < w.heap.size := hc.lt
  have hc1 : Cnt W1 cb k := by unfold Cnt; rw [hb1.block cb hcb1]; exact hc
  have HM := Lib.hid (more_any cb k deep W1 hc1 hk hk2)
  have HB1 := Lib.hid hb1
  have HROW := Lib.hid hrow
  have hs1 : w.heap.size < W1.heap.size := (Array.getElem?_eq_some_iff.1 hrow).1
  have hsW := HW.out.size
  go_enter Tryz.func12, Tryz.ntmps12
  go_wp2_with fail
  rw [← hW1]
  clear hW1 hc hc1 hb1 hrow
  by_cases hd48 : k + 1 ≤ 4096 ∧ deep ≤ 48
  · have hdec : (decide (k + 1 ≤ 4096) && decide (deep ≤ 48)) = true := by simp [hd48.1, hd48.2]
    rw [hdec] at HM
    go_at_call 24
    refine HM.out.mono ?_
    rintro e w2 ⟨rfl, C2, B2⟩
    have HC2 := Lib.hid C2
    have HB2 := Lib.hid B2
    clear C2 B2 HM
    simp only
    go_wp2_with fail
    go_loopg [7] kids.length (fun kx s7 wr => ∃ (i : Nat) (k' : Int), s7 = .int .i64 i ∧ i ≤ kids.length ∧ kids.length - i ≤ kx ∧ 0 ≤ k' ∧ k' ≤ 4096 ∧ Aside (k' = k + 1 + cntL (kids.take i)) ∧ Aside (Cnt wr cb k') ∧ Aside (But cb W1 wr))
    case atStart => exact ⟨0, k + 1, rfl, by omega, by omega, by omega, hd48.1, (by show k + 1 = k + 1 + ((cntL (List.take 0 kids) : Nat) : Int); simp [cntL]), HC2.out, HB2.out⟩
    case round =>
      obtain ⟨i, k', rfl, hi, hg, hk0', hk1', hkk, hc', hb'⟩ := hrel
      have x3 : wr.cell? ⟨w.heap.size, 3, none⟩ = some (.slice so kids.length cap) := (hb'.out.cell (p := ⟨w.heap.size, 3, none⟩) hs1 (by show w.heap.size ≠ cb; omega)).trans (by simp [World.cell?, HROW.out])
      have HKK := Lib.hid hkk.out
      clear hkk
      by_cases hil : i < kids.length
      · have hx : kids[i]? = some kids[i] := List.getElem?_eq_getElem hil
        obtain ⟨g, o, so', cap', rfl, hgW, a0, a1, a2, a3, a4, ht⟩ := kid_open (HK.out i _ hx)
        rw [Nat.zero_add] at a0 a1 a2 a3 a4
        have hgw : g < w.heap.size := by omega
        have mv : ∀ j v, W.cell? ⟨g, j, none⟩ = some v → wr.cell? ⟨g, j, none⟩ = some v := fun j v hv => by
          rw [hb'.out.cell (p := ⟨g, j, none⟩) (by show g < _; omega) (by show g ≠ cb; omega), HB1.out.cell (p := ⟨g, j, none⟩) hgw, ← hv]
          exact World.cell?_of_block (HW.out.block g hgW)
        have d0 := mv _ _ a0
        have d1 := mv _ _ a1
        have d2 := mv _ _ a2
        have d3 := mv _ _ a3
        have d4 := mv _ _ a4
        have hWr : Old W wr := ⟨by have := HB1.out.size; have := hb'.out.size; omega, fun i hi => by
          rw [hb'.out.block i (by omega) (by omega), HB1.out.block i (by omega)]; exact HW.out.block i hi⟩
        have hcn := HCN.out i _ hx
        have HCALL := Lib.hid (IH.out (kids[i] : Ex).cnt (by have := HE.out; omega) kids[i] _ rfl ht wr cb k' (deep + 1) hWr hcb hc'.out hk0' hk1' (by omega) (by omega))
        have HT : Hid (∀ k2 : Int, k2 = k' + (kids[i] : Ex).cnt → k2 = k + 1 + cntL (kids.take (i + 1))) := Lib.hid fun k2 h2 => by
          have e1 : kids.take (i + 1) = kids.take i ++ [(kids[i] : Ex)] := by rw [List.take_add_one, hx]; rfl
          rw [e1, cntL_app]
          have := HKK.out
          simp only [cntL]
          omega
        have hi0 : (0 : Int) ≤ (i : Int) := by omega
        have hi1 : (i : Int) < (kids.length : Int) := by omega
        have hwd : IntKind.i64.wrap (deep + 1) = deep + 1 := IntWalk.i64_in _ (by omega)
        have HB' := Lib.hid hb'.out
        clear mv hWr a0 a1 a2 a3 a4 ht hc' hb' hx hcn
        generalize (kids[i] : Ex) = x at *
        obtain ⟨kx', sx', nx', kidsx', linex'⟩ := x
        simp only [Ex.kind, Ex.str, Ex.num, Ex.kids, Ex.line] at d0 d1 d2 d3 d4 HCALL
        go_wp2_with fail
        go_at_call 12
        refine HCALL.out.mono ?_
        rintro e w5 ⟨b, k2, rfl, r2, r3, r4, r5⟩
        have HR2 := Lib.hid r2
        have HB5 := Lib.hid (HB'.out.trans r5)
        have HR4 := Lib.hid r4
        clear HCALL r2 r4 r5 d0 d1 d2 d3 d4 x3
        simp only
        cases b with
        | true =>
          obtain ⟨h4, h5⟩ := HR4.out rfl
          have HT2 := Lib.hid (HT.out _ h5)
          clear HT h5 HR4
          go_wp2_with fail
          go_roundg (kids.length - (i + 1))
          case measure => omega
          case rel => exact ⟨i + 1, k2, by go_num, by omega, Nat.le_refl _, r3, h4, HT2.out, HR2.out, HB5.out⟩
        | false =>
          go_wp2_with fail
          go_ret
          exact ⟨false, k2, rfl, HR2.out, r3, (fun h => Bool.noConfusion h), (But.of HB1.out).trans HB5.out⟩
      · obtain rfl : i = kids.length := by omega
        have HC' := Lib.hid hc'.out
        have HB' := Lib.hid hb'.out
        have HKF : Hid (k' = k + ((Ex.mk kd s n kids line).cnt : Int)) := Lib.hid (by
          have h := HKK.out
          rw [List.take_length] at h
          rw [HCE.out]; omega)
        clear hc' hb' HKK
        go_wp2_with fail
        go_ret
        exact ⟨true, k', rfl, HC'.out, hk0', (fun _ => ⟨hk1', HKF.out⟩), (But.of HB1.out).trans HB'.out⟩
  · have hdec : (decide (k + 1 ≤ 4096) && decide (deep ≤ 48)) = false := by
      cases hq : (decide (k + 1 ≤ 4096) && decide (deep ≤ 48)) with
      | false => rfl
      | true => simp at hq; exact absurd hq hd48
    rw [hdec] at HM
    go_at_call 24
    refine HM.out.mono ?_
    rintro e w2 ⟨rfl, C2, B2⟩
    have HC2 := Lib.hid C2
    have HB2 := Lib.hid B2
    clear C2 B2 HM
    simp only
    go_wp2_with fail
    go_ret
    exact ⟨false, k + 1, rfl, HC2.out, by omega, (fun h => Bool.noConfusion h), (But.of HB1.out).trans HB2.out⟩

set_option maxRecDepth 100000 in
/-- Small, at any expression that came in: if it says so, there are at most so many parts. -/
theorem small_any {W : World} (e : Ex) (cs : List Value) (hin : ExIn W e cs) (w : World) (hw : Old W w) :
    Calls Tryz.prog 5 #[.agg ⟨cs⟩] w fun x w' => ∃ b, x = .returned (.bool b) ∧ Below w.heap.size w w' ∧ (b = true → e.cnt ≤ 4096) := by
  have hin' := hin
  obtain ⟨kd, s, n, kids, line⟩ := e
  simp only [ExIn] at hin'
  obtain ⟨so, cap, rfl, _⟩ := hin'
  obtain ⟨W1, hW1⟩ : ∃ W1, W1 = (w.alloc (.cells #[.int .i64 kd, .string s, .int .i64 n, .slice so kids.length cap, .int .i64 line] 25)).alloc (.cells #[.int .i64 0] 42) := ⟨_, rfl⟩
  have hb1 : Below w.heap.size w W1 := by rw [hW1]; exact ((RowKit.Below.refl _ _).alloc (Nat.le_refl _) _).alloc (by simp) _
  have hc1 : Cnt W1 (w.heap.size + 1) 0 := by rw [hW1]; exact heap_alloc2_new w _ _
  have HB1 := Lib.hid hb1
  have HC := Lib.hid (small_expr _ (Ex.mk kd s n kids line) _ rfl hin W1 (w.heap.size + 1) 0 0 (hw.below hb1) (by have := hw.size; omega) hc1 (by omega) (by omega) (by omega) (by omega))
  clear hb1 hc1 hin
  generalize (Ex.mk kd s n kids line) = ex at *
  go_enter Tryz.func5, Tryz.ntmps5
  go_wp2_with fail
  rw [← hW1]
  clear hW1
  go_at_call 12
  refine HC.out.mono ?_
  rintro e w5 ⟨b, k2, rfl, r2, r3, r4, r5⟩
  simp only
  go_wp2_with fail
  go_ret
  exact ⟨b, rfl, HB1.out.trans (r5.below (by omega) HB1.out.size), fun h => by have := r4 h; omega⟩
end Go.Proofs.YtggjeecpadnihaaGreatDoor

namespace Go.Proofs.YtggjeecpadnihaaGreatDoor
open Go Go.Proofs Go.Eng Go.RowKit Go.Sx Go.Deep
set_option linter.unusedVariables false
set_option linter.unusedSimpArgs false

set_option maxRecDepth 100000 in
set_option maxHeartbeats 1000000 in
theorem rprint_any {W : World} (e : Ex) (cs : List Value) (hin : ExIn W e cs) (hcnt : e.cnt ≤ 4096) (w : World) (ho : Old W w) :
    Calls Tryz.prog 8 #[.agg ⟨cs⟩] w fun e' w' => e' = .returned (toldV (decide ((e.depth : Int) ≤ 24) && e.right) e.txt) ∧ Below w.heap.size w w' := by
  have HTXT : Hid (e.right = true → e.txt.length ≤ 5000000) := Lib.hid fun h => by
    have := txt_len _ e _ rfl hin h; omega
  obtain ⟨k, s, n, kids, line⟩ := e
  have hin' := hin
  simp only [ExIn] at hin'
  obtain ⟨so, cap, rfl, _⟩ := hin'
  obtain ⟨W1, hW1⟩ : ∃ W1, W1 = w.alloc (.cells #[.int .i64 k, .string s, .int .i64 n, .slice so kids.length cap, .int .i64 line] 25) := ⟨_, rfl⟩
  have hal : Below w.heap.size w W1 := by rw [hW1]; exact (RowKit.Below.refl _ _).alloc (Nat.le_refl _) _
  have hrow : W1.heap[w.heap.size]? = some (.cells #[.int .i64 k, .string s, .int .i64 n, .slice so kids.length cap, .int .i64 line] 25 (0, 0)) := by rw [hW1]; exact heap_alloc_new _ _
  have hold := ho.below hal
  have HCELL : Hid (∀ w', Below W1.heap.size W1 w' → w'.cell? ⟨w.heap.size, 0, none⟩ = some (.int .i64 k) ∧ w'.cell? ⟨w.heap.size, 1, none⟩ = some (.string s) ∧ w'.cell? ⟨w.heap.size, 2, none⟩ = some (.int .i64 n) ∧ w'.cell? ⟨w.heap.size, 3, none⟩ = some (.slice so kids.length cap) ∧ w'.cell? ⟨w.heap.size, 4, none⟩ = some (.int .i64 line)) :=
    Lib.hid fun w' hb => row_cells ((hb.block _ (Array.getElem?_eq_some_iff.1 hrow).1).trans hrow)
  have HRT := Lib.hid (fun w' (hb : Below W1.heap.size W1 w') => rright_any W _ (Ex.mk k s n kids line) _ rfl hin w' (hold.below hb))
  have HDP := Lib.hid (fun w' (hb : Below W1.heap.size W1 w') => rdepth_any W _ (Ex.mk k s n kids line) _ rfl hcnt hin w' (hold.below hb))
  have HTX : Hid ((Ex.mk k s n kids line).right = true → ∀ w', Below W1.heap.size W1 w' → _) := Lib.hid (fun hr w' (hb : Below W1.heap.size W1 w') => rtext_any W _ (Ex.mk k s n kids line) rfl hcnt hr _ w' hin (hold.below hb))
  have HAL := Lib.hid hal
  have HB0 : Hid (Below W1.heap.size W1 W1) := Lib.hid (RowKit.Below.refl _ _)
  obtain ⟨c0, c1, c2, c3, c4⟩ := HCELL.out W1 HB0.out
  clear hin hcnt ho hal hrow hold
  generalize (Ex.mk k s n kids line).right = okr at *
  generalize (Ex.mk k s n kids line).txt = t at *
  generalize (Ex.mk k s n kids line).depth = dp at *
  have hdd : decide ((24 : Int) < (dp : Int)) = !decide ((dp : Int) ≤ 24) := by rw [Bool.eq_iff_iff]; simp
  generalize hbd : decide ((dp : Int) ≤ 24) = bd at *
  cases okr with
  | false =>
    have e : toldV (bd && false) t = .tuple #[.string ⟨#[]⟩, .int .i64 2] := by rw [Bool.and_false]; rfl
    rw [e]
    clear e HTX HTXT HDP
    go_enter Tryz.func8, Tryz.ntmps8
    go_wp2_with fail
    rw [← hW1]
    clear hW1
    go_wp2_with (go_at_call 21; (with_reducible refine (HRT.out _ HB0.out).mono ?_); rintro e w2 ⟨rfl, hb2⟩)
    go_ret2
    exact ⟨rfl, HAL.out.trans (RowKit.Below.mono hb2 HAL.out.size)⟩
  | true =>
    go_enter Tryz.func8, Tryz.ntmps8
    go_wp2_with fail
    rw [← hW1]
    clear hW1
    go_wp2_with fail
    go_at_call 21
    refine (HRT.out _ HB0.out).mono ?_
    rintro e w2 ⟨rfl, hb2⟩
    obtain ⟨d0, d1, d2, d3, d4⟩ := HCELL.out w2 hb2
    have HB2 := Lib.hid hb2
    clear c0 c1 c2 c3 c4 hb2 HRT
    simp only
    go_wp2_with fail
    go_at_call 22
    refine (HDP.out _ HB2.out).mono ?_
    rintro e w3 ⟨rfl, hb3⟩
    have HB3 := Lib.hid (HB2.out.trans (RowKit.Below.mono hb3 HB2.out.size))
    obtain ⟨c0, c1, c2, c3, c4⟩ := HCELL.out w3 HB3.out
    clear d0 d1 d2 d3 d4 hb3 HDP HB2
    simp only
    cases bd with
    | false =>
      go_wp2
      go_ret2
      exact ⟨rfl, HAL.out.trans (RowKit.Below.mono HB3.out HAL.out.size)⟩
    | true =>
      have hlt := HTXT.out trivial
      have HTX2 := Lib.hid (HTX.out trivial w3 HB3.out)
      have FIN : Hid (toldV (true && true) t = toldB true t (decide ((4096 : Int) < (t.length : Int)))) := Lib.hid rfl
      clear HTX HTXT
      generalize hbig : decide ((4096 : Int) < (t.length : Int)) = big at *
      have hsz : (⟨t.toArray⟩ : ByteArray).size = t.length := arr_size t
      go_wp2_with fail
      go_at_call 23
      refine HTX2.out.mono ?_
      rintro e w4 ⟨rfl, hb4⟩
      simp only
      have FB := Lib.hid (HAL.out.trans (RowKit.Below.mono (HB3.out.trans (RowKit.Below.mono hb4 HB3.out.size)) HAL.out.size))
      clear hb4
      cases big with
      | true =>
        go_wp2
        go_ret2
        exact ⟨by rw [FIN.out]; rfl, FB.out⟩
      | false =>
        go_wp2
        go_ret2
        exact ⟨by rw [FIN.out]; rfl, FB.out⟩
end Go.Proofs.YtggjeecpadnihaaGreatDoor

namespace Go.Proofs.YtggjeecpadnihaaGreatDoor
open Go Go.Proofs Go.Eng Go.RowKit Go.Sx Go.Deep
set_option linter.unusedVariables false
set_option linter.unusedSimpArgs false

set_option maxRecDepth 100000 in
set_option maxHeartbeats 1000000 in
theorem writes_walk {a0 : List Value} (W : World) (hg : Globs hv W gl) (hng : 9 ≤ W.heap.size)
    {H : Type} {enc : TypeId × Value → H} {base : Nat} {sp : Nat → Bool} {held : Bool} {n : Nat} {x : DataW H × List MemPlace} (ht : DataW.trod enc Tryz.prog W base sp held n 25 a0 = some x) :
    Calls Tryz.prog 3 #[.agg ⟨a0⟩] W fun e w' => e = .returned (.bool true) ∧ Below W.heap.size W w' := by
  obtain ⟨ex, hin⟩ := ex_of_trod n a0 x ht
  have CS := Lib.hid (fun w (hw : Old W w) => small_any ex a0 hin w hw)
  have CP := Lib.hid (fun w (hw : Old W w) (hc : ex.cnt ≤ 4096) => printExpr_any hg hng ex a0 hin hc w hw)
  have CR := Lib.hid (fun w (hw : Old W w) (hc : ex.cnt ≤ 4096) => rprint_any ex a0 hin hc w hw)
  have CL : Hid (∀ w, Below W.heap.size W w → Calls Tryz.prog 6 #[] w fun e w' => e = .returned (.bool true) ∧ Below w.heap.size w w') := Lib.hid fun w hw => lives_calls w (by have := hw.size; omega) (hg.below hw)
  obtain ⟨ts, tn, htt⟩ := told_tuple (decide ((ex.depth : Int) ≤ 24) && ex.right) ex.txt
  rw [htt] at CP CR
  obtain ⟨k, s, n, kids, line⟩ := ex
  simp only [ExIn] at hin
  obtain ⟨so, cap, rfl, _⟩ := hin
  generalize (Ex.mk k s n kids line).cnt = cn at *
  clear ht htt hg hng
  obtain ⟨W1, hW1⟩ : ∃ W1, W1 = W.alloc (.cells #[.int .i64 k, .string s, .int .i64 n, .slice so kids.length cap, .int .i64 line] 25) := ⟨_, rfl⟩
  have hal : Below W.heap.size W W1 := by rw [hW1]; exact (RowKit.Below.refl _ _).alloc (Nat.le_refl _) _
  have hrow : W1.heap[W.heap.size]? = some (.cells #[.int .i64 k, .string s, .int .i64 n, .slice so kids.length cap, .int .i64 line] 25 (0, 0)) := by rw [hW1]; exact heap_alloc_new _ _
  have HCELL : Hid (∀ w', Below W1.heap.size W1 w' → w'.cell? ⟨W.heap.size, 0, none⟩ = some (.int .i64 k) ∧ w'.cell? ⟨W.heap.size, 1, none⟩ = some (.string s) ∧ w'.cell? ⟨W.heap.size, 2, none⟩ = some (.int .i64 n) ∧ w'.cell? ⟨W.heap.size, 3, none⟩ = some (.slice so kids.length cap) ∧ w'.cell? ⟨W.heap.size, 4, none⟩ = some (.int .i64 line)) :=
    Lib.hid fun w' hb => row_cells ((hb.block _ (Array.getElem?_eq_some_iff.1 hrow).1).trans hrow)
  have HAL := Lib.hid hal
  have HB0 : Hid (Below W1.heap.size W1 W1) := Lib.hid (RowKit.Below.refl _ _)
  have HOLD : Hid (∀ w', Below W1.heap.size W1 w' → Old W w' ∧ Below W.heap.size W w') := Lib.hid fun w' hb => ⟨(Old.of hal).below hb, hal.trans (RowKit.Below.mono hb hal.size)⟩
  obtain ⟨c0, c1, c2, c3, c4⟩ := HCELL.out W1 HB0.out
  clear hal hrow
  go_enter Tryz.func3, Tryz.ntmps3
  go_wp2_with fail
  rw [← hW1]
  clear hW1
  go_wp2_with fail
  go_at_call 5
  refine (CS.out _ (HOLD.out _ HB0.out).1).mono ?_
  rintro e w2 ⟨b, rfl, hb2, hcn⟩
  obtain ⟨d0, d1, d2, d3, d4⟩ := HCELL.out w2 hb2
  have HB2 := Lib.hid hb2
  have HCN := Lib.hid hcn
  clear c0 c1 c2 c3 c4 hb2 hcn CS
  simp only
  cases b with
  | false =>
    go_wp2_with fail
    go_at_call 6
    refine (CL.out _ (HOLD.out _ HB2.out).2).mono ?_
    rintro e w3 ⟨rfl, hb3⟩
    have FIN := Lib.hid ((HOLD.out _ HB2.out).2.trans (RowKit.Below.mono hb3 (HOLD.out _ HB2.out).2.size))
    clear hb3
    simp only
    go_wp2_with fail
    go_ret
    exact ⟨rfl, FIN.out⟩
  | true =>
    have hcn := HCN.out rfl
    have CP2 := Lib.hid (CP.out w2 (HOLD.out _ HB2.out).1 hcn)
    clear CP HCN
    go_wp2_with fail
    go_at_call 7
    refine CP2.out.mono ?_
    rintro e w3 ⟨rfl, hb3⟩
    have HB3 := Lib.hid (HB2.out.trans (RowKit.Below.mono hb3 HB2.out.size))
    obtain ⟨c0, c1, c2, c3, c4⟩ := HCELL.out w3 HB3.out
    have CR2 := Lib.hid (CR.out w3 (HOLD.out _ HB3.out).1 hcn)
    clear d0 d1 d2 d3 d4 hb3 CP2 CR hcn HB2
    simp only
    go_wp2_with fail
    go_at_call 8
    refine CR2.out.mono ?_
    rintro e w4 ⟨rfl, hb4⟩
    have HB4 := Lib.hid (HB3.out.trans (RowKit.Below.mono hb4 HB3.out.size))
    clear c0 c1 c2 c3 c4 hb4 CR2 HB3
    simp only
    go_wp2_with fail
    go_at_call 6
    refine (CL.out _ (HOLD.out _ HB4.out).2).mono ?_
    rintro e w5 ⟨rfl, hb5⟩
    have FIN := Lib.hid ((HOLD.out _ HB4.out).2.trans (RowKit.Below.mono hb5 (HOLD.out _ HB4.out).2.size))
    clear hb5
    simp only
    go_wp2_with fail
    go_ret
    exact ⟨rfl, FIN.out⟩
end Go.Proofs.YtggjeecpadnihaaGreatDoor
