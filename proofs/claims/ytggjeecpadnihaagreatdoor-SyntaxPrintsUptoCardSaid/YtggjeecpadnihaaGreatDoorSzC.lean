/- The writer: program; the records. -/
import Derived.Test.YtggjeecpadnihaaGreatDoorSzB
import Derived.Test.YtggjeecpadnihaaGreatDoorSzA
namespace Go.Proofs.YtggjeecpadnihaaGreatDoor
open Go Go.Proofs Go.Eng Go.RowKit Go.Sx Go.Deep
set_option linter.unusedVariables false
set_option linter.unusedSimpArgs false

/-- How long the texts may be. -/
def rcW (l : List Rc) : Nat := (l.map fun r => pmW r.fields + 100).sum
def fuW (l : List Fu) : Nat := (l.map fun f => pmW f.params + f.result.size + 1000 * cntS f.body + 200).sum
theorem rcW_app (a b : List Rc) : rcW (a ++ b) = rcW a + rcW b := by simp [rcW]
theorem fuW_app (a b : List Fu) : fuW (a ++ b) = fuW a + fuW b := by simp [fuW]
theorem takeR {α : Type} {l : List α} {i : Nat} {r : α} (h : l[i]? = some r) : l.take (i + 1) = l.take i ++ [r] := by rw [List.take_add_one, h]; rfl
theorem rcW_take {l : List Rc} {i : Nat} {r : Rc} (h : l[i]? = some r) : rcW (l.take i) + (pmW r.fields + 100) ≤ rcW l := by
  have e2 : rcW l = rcW (l.take (i + 1)) + rcW (l.drop (i + 1)) := by rw [← rcW_app, List.take_append_drop]
  rw [takeR h, rcW_app] at e2
  simp only [rcW, List.map_cons, List.map_nil, List.sum_cons, List.sum_nil] at e2 ⊢
  omega
theorem fuW_take {l : List Fu} {i : Nat} {r : Fu} (h : l[i]? = some r) : fuW (l.take i) + (pmW r.params + r.result.size + 1000 * cntS r.body + 200) ≤ fuW l := by
  have e2 : fuW l = fuW (l.take (i + 1)) + fuW (l.drop (i + 1)) := by rw [← fuW_app, List.take_append_drop]
  rw [takeR h, fuW_app] at e2
  simp only [fuW, List.map_cons, List.map_nil, List.sum_cons, List.sum_nil] at e2 ⊢
  omega
theorem rc_len {r : Rc} (h : r.right = true) : r.txt.length ≤ pmW r.fields + 100 := by
  unfold Rc.right at h
  simp only [Bool.and_eq_true] at h
  have h1 := name_le h.1.1
  have h2 := pms_len h.2
  simp only [Rc.txt, List.length_append, List.length_cons, List.length_nil]
  omega
theorem res_len (s : ByteArray) : (resT s).length ≤ s.size + 2 := by
  unfold resT
  have : s.data.toList.length = s.size := by rw [Array.length_toList]; rfl
  split
  · simp
  · simp only [List.length_append, List.length_cons, List.length_nil]; omega
theorem rcs_len {l : List Rc} (h : l.all Rc.right = true) : (l.flatMap Rc.txt).length ≤ rcW l := by
  induction l with
  | nil => simp [rcW]
  | cons r l ih =>
    rw [List.all_cons, Bool.and_eq_true] at h
    have h1 := rc_len h.1
    have h2 := ih h.2
    simp only [List.flatMap_cons, List.length_append, rcW, List.map_cons, List.sum_cons] at h2 ⊢
    omega
theorem all_take {α : Type} {f : α → Bool} {l : List α} {i : Nat} {p : α} (h : l[i]? = some p) (hr : (l.take i).all f = true) : (l.take (i + 1)).all f = f p := by
  rw [takeR h, List.all_append, hr]; simp
theorem all_false {α : Type} {f : α → Bool} {l : List α} {i : Nat} {p : α} (h : l[i]? = some p) (he : f p = false) : l.all f = false := by
  rw [List.all_eq_false]
  exact ⟨p, List.mem_of_getElem? h, by rw [he]; exact Bool.false_ne_true⟩
theorem flat_take {α : Type} {f : α → List UInt8} {l : List α} {i : Nat} {p : α} (h : l[i]? = some p) : (l.take (i + 1)).flatMap f = (l.take i).flatMap f ++ f p := by
  rw [takeR h, List.flatMap_append]; simp

theorem fu_len {W : World} {f : Fu} {so : Option Addr} (hb : StsIn W f.body so 0) (h : f.right = true) : f.txt.length ≤ pmW f.params + f.result.size + 1000 * cntS f.body + 200 := by
  unfold Fu.right at h
  simp only [Bool.and_eq_true] at h
  have h1 := name_le h.1.1.1.1
  have h2 := pms_len h.1.1.1.2
  have h3 := txtS_len hb h.1.2
  have h4 := res_len f.result
  simp only [Fu.txt, List.length_append, List.length_cons, List.length_nil]
  omega
theorem fus_len {W : World} {so : Option Addr} {funcs : List Fu} (hf : FusIn W so funcs) {i : Nat} (h : (funcs.take i).all Fu.right = true) : ((funcs.take i).flatMap Fu.txt).length ≤ fuW (funcs.take i) := by
  have key : ∀ f ∈ funcs.take i, f.txt.length ≤ pmW f.params + f.result.size + 1000 * cntS f.body + 200 := fun f hfm => by
    obtain ⟨j, hj⟩ := List.mem_iff_getElem?.1 (List.mem_of_mem_take hfm)
    obtain ⟨g, o, so1, c1, so3, c3, _, _, _, _, _, _, _, _, _, hsb⟩ := hf j f hj
    exact fu_len hsb (List.all_eq_true.1 h f hfm)
  generalize funcs.take i = l at *
  clear h hf
  induction l with
  | nil => simp [fuW]
  | cons r l ih =>
    have h1 := key r (by simp)
    have h2 := ih (fun f hf => key f (by simp [hf]))
    simp only [List.flatMap_cons, List.length_append, fuW, List.map_cons, List.sum_cons] at h2 ⊢
    omega
end Go.Proofs.YtggjeecpadnihaaGreatDoor

namespace Go.Proofs.YtggjeecpadnihaaGreatDoor
open Go Go.Proofs Go.Eng Go.RowKit Go.Sx Go.Deep
set_option linter.unusedVariables false
set_option linter.unusedSimpArgs false

theorem rec_cells {w : World} {a : Nat} {s : ByteArray} {so : Option Addr} {m c : Nat} {line : Int} (h : w.heap[a]? = some (.cells #[.string s, .slice so m c, .int .i64 line] 58 (0, 0))) :
    w.cell? ⟨a, 0, none⟩ = some (.string s) ∧ w.cell? ⟨a, 1, none⟩ = some (.slice so m c) ∧ w.cell? ⟨a, 2, none⟩ = some (.int .i64 line) :=
  ⟨(Lib.cell_of_heap h 0).trans rfl, (Lib.cell_of_heap h 1).trans rfl, (Lib.cell_of_heap h 2).trans rfl⟩
theorem fun_cells {w : World} {a : Nat} {s r : ByteArray} {so so3 : Option Addr} {m c m3 c3 : Nat} {line : Int} (h : w.heap[a]? = some (.cells #[.string s, .slice so m c, .string r, .slice so3 m3 c3, .int .i64 line] 61 (0, 0))) :
    w.cell? ⟨a, 0, none⟩ = some (.string s) ∧ w.cell? ⟨a, 1, none⟩ = some (.slice so m c) ∧ w.cell? ⟨a, 2, none⟩ = some (.string r) ∧ w.cell? ⟨a, 3, none⟩ = some (.slice so3 m3 c3) ∧ w.cell? ⟨a, 4, none⟩ = some (.int .i64 line) :=
  ⟨(Lib.cell_of_heap h 0).trans rfl, (Lib.cell_of_heap h 1).trans rfl, (Lib.cell_of_heap h 2).trans rfl, (Lib.cell_of_heap h 3).trans rfl, (Lib.cell_of_heap h 4).trans rfl⟩
theorem prog_cells {w : World} {a : Nat} {so1 so2 : Option Addr} {m1 c1 m2 c2 : Nat} (h : w.heap[a]? = some (.cells #[.slice so1 m1 c1, .slice so2 m2 c2] 36 (0, 0))) :
    w.cell? ⟨a, 0, none⟩ = some (.slice so1 m1 c1) ∧ w.cell? ⟨a, 1, none⟩ = some (.slice so2 m2 c2) :=
  ⟨(Lib.cell_of_heap h 0).trans rfl, (Lib.cell_of_heap h 1).trans rfl⟩

set_option maxRecDepth 100000 in
set_option maxHeartbeats 8000000 in
theorem program_any {W : World} {recs : List Rc} {funcs : List Fu} {so1 so2 : Option Addr} {p1 p2 B b : Nat} {l : List UInt8} {w : World} (hr : RcsIn W so1 recs) (hf : FusIn W so2 funcs) (hlr : recs.length ≤ 9223372036854775807) (hlf : funcs.length ≤ 9223372036854775807)
    (hcn : ∀ (i : Nat) f, funcs[i]? = some f → cntS f.body ≤ 4096) (hc : Ctx W B w) (buf : BufAt 83 [] B b l w) (hl : l.length + rcW recs + fuW funcs + 3000 ≤ 100000000) :
    Calls Tryz.prog 27 #[.pointer (some ⟨b, 0, none⟩), .agg #[.slice so1 recs.length p1, .slice so2 funcs.length p2]] w (WPost B b l (recs.flatMap Rc.txt ++ funcs.flatMap Fu.txt) (recs.all Rc.right && funcs.all Fu.right) w) := by
  have hmf : ∀ (fn : Fn) (first cap : Array Value) (w : World), (Instr.makeFunc fn first cap).run Tryz.prog w = .ok (.func fn first cap) w := fun _ _ _ _ => rfl
  obtain ⟨W1, hW1⟩ : ∃ W1, W1 = w.alloc (.cells #[.slice so1 recs.length p1, .slice so2 funcs.length p2] 36) := ⟨_, rfl⟩
  have hal : Below w.heap.size w W1 := by rw [hW1]; exact (RowKit.Below.refl _ _).alloc (Nat.le_refl _) _
  have hrow : W1.heap[w.heap.size]? = some (.cells #[.slice so1 recs.length p1, .slice so2 funcs.length p2] 36 (0, 0)) := by rw [hW1]; exact heap_alloc_new _ _
  obtain ⟨c0, c1⟩ := prog_cells hrow
  have A0 := Lib.hid (WAt.start (hc.low hal) (buf.below hal))
  have HAL := Lib.hid hal
  have HROW := Lib.hid hrow
  have HBw := Lib.hid hc.Bw
  have HNE : Hid (w.heap.size ≠ b) := Lib.hid (by have := buf.lt; omega)
  have HL := Lib.hid hl
  have HR := Lib.hid hr
  have HF := Lib.hid hf
  have HCN := Lib.hid hcn
  clear hr hf hc buf hl hal hrow hcn
  go_enter Tryz.func27, Tryz.ntmps27
  go_wp2_with fail
  rw [← hW1]
  clear hW1
  go_wp2_with fail
  clear c0 c1
  go_loopg [11] recs.length (fun kx s11 wr => ∃ i : Nat, s11 = .int .i64 i ∧ i ≤ recs.length ∧ recs.length - i ≤ kx ∧ Aside ((recs.take i).all Rc.right = true ∧ WAt W B b l W1 ((recs.take i).flatMap Rc.txt) wr))
  case atStart => exact ⟨0, rfl, by omega, by omega, rfl, A0.out⟩
  case round =>
    obtain ⟨i, rfl, hi, hg, hA⟩ := hrel
    have HA := Lib.hid hA.out
    clear hA
    have hln := rcs_len HA.out.1
    by_cases hil : i < recs.length
    · have hx : recs[i]? = some recs[i] := List.getElem?_eq_getElem hil
      obtain ⟨g, o, soF, cF, rfl, hgW, a0, a1, a2, ⟨hs1, hs2⟩, hpm⟩ := HR.out i _ hx
      have d0 := HA.out.2.ctx.old.cell a0
      have d1 := HA.out.2.ctx.old.cell a1
      have d2 := HA.out.2.ctx.old.cell a2
      have hct := rcW_take hx
      have HFALSE0 : Hid ((recs[i] : Rc).right = false → (recs.all Rc.right && funcs.all Fu.right) = false) := Lib.hid (fun he => by rw [all_false hx he, Bool.false_and])
      have HRT : Hid ((recs.take (i + 1)).all Rc.right = (recs[i] : Rc).right) := Lib.hid (all_take hx HA.out.1)
      have HMT : Hid ((recs.take (i + 1)).flatMap Rc.txt = (recs.take i).flatMap Rc.txt ++ (recs[i] : Rc).txt) := Lib.hid (flat_take hx)
      have hi1 : (i : Int) < (recs.length : Int) := by omega
      have hi0 : (0 : Int) ≤ (i : Int) := by omega
      generalize (recs[i] : Rc) = r at *
      obtain ⟨nm, fs, line⟩ := r
      simp only [Rc.right, Rc.txt] at d0 d1 d2 hct hpm hs1 hs2 HFALSE0 HRT HMT
      have HPM := Lib.hid hpm
      have HNL := Lib.hid (@name_le nm)
      have HJL := Lib.hid (@pms_len fs)
      obtain ⟨W2, hW2⟩ : ∃ W2, W2 = wr.alloc (.cells #[.string nm, .slice soF fs.length cF, .int .i64 line] 58) := ⟨_, rfl⟩
      have hal2 : Below wr.heap.size wr W2 := by rw [hW2]; exact (RowKit.Below.refl _ _).alloc (Nat.le_refl _) _
      have hrow2 : W2.heap[wr.heap.size]? = some (.cells #[.string nm, .slice soF fs.length cF, .int .i64 line] 58 (0, 0)) := by rw [hW2]; exact heap_alloc_new _ _
      have A2 := Lib.hid (HA.out.2.alloc hal2)
      have C0 := Lib.hid A2.out.anew
      have HROW2 := Lib.hid hrow2
      have HNE2 : Hid (wr.heap.size ≠ b) := Lib.hid (by have := HA.out.2.buf.lt; omega)
      have HLR : Hid ((l ++ (recs.take i).flatMap Rc.txt).length + pmW fs + 2500 ≤ 100000000) := Lib.hid (by have := HL.out; rw [List.length_append]; omega)
      have hdd : decide (0 < fs.length) = decide ((0 : Int) < (fs.length : Int)) := by rw [Bool.eq_iff_iff]; simp
      have HEACH := Lib.hid (fun (l : List UInt8) (w : World) (h1 : Ctx W B w) (h2 : BufAt 83 [] B b l w) (h3 : l.length + pmW fs + 2000 ≤ 100000000) => eachP_any (cap := cF) HPM.out hs2 B b l w h1 h2 h3)
      clear a0 a1 a2 hx hal2 hrow2 hpm hct
      generalize hnm : nameB nm = bn at *
      generalize hrp : rightP fs = bp at *
      have hd0 : decide ((0 : Int) < (fs.length : Int)) = decide (0 < fs.length) := hdd.symm
      obtain ⟨bd, hbd⟩ : ∃ bd, bd = decide (0 < fs.length) := ⟨_, rfl⟩
      rw [← hbd] at HFALSE0 HRT
      have hlt : (0 : Int) < (fs.length : Int) ∨ ¬ (0 : Int) < (fs.length : Int) := Decidable.em _
      cases bd with
      | false =>
        have hnd := hbd.symm
        clear hlt hdd hd0 hbd HEACH
        go_wp2_with fail
        rw [← hW2]
        go_wp2_with (go_at_call 18; (with_reducible refine (need_no _).mono ?_); rintro e w' ⟨rfl, rfl⟩)
        exact ⟨rfl, fall (HFALSE0.out (by simp)) (by first | exact A2.out.bel | (rw [← hW2]; exact A2.out.bel)) HAL.out HBw.out⟩
      | true =>
        have hnd := hbd.symm
        clear hlt hdd hd0
        have HBD := Lib.hid hbd
        clear hbd
        go_wp2_with fail
        rw [← hW2]
        clear hW2
        go_wp2_with (go_at_call 18; (with_reducible refine (need_yes _).mono ?_); rintro e w' ⟨rfl, rfl⟩)
        have HPUT := Lib.hid (C0.out.put ⟨#[114, 101, 99, 111, 114, 100, 32]⟩ (by have := HLR.out; simp only [List.length_append, List.length_cons, List.length_nil, List.nil_append] at *; show _ + 7 ≤ _; omega))
        go_at_call 43
        refine HPUT.out.mono ?_
        rintro e w2 ⟨rfl, hA⟩
        have C1 := Lib.hid hA
        clear hA HPUT
        obtain ⟨c0, c1, c2⟩ := rec_cells (C1.out.cell HROW2.out HNE2.out (by decide))
        have hcall := C1.out.name nm (by have := HLR.out; simp only [List.length_append, List.length_cons, List.length_nil, List.nil_append] at *; omega)
        rw [hnm] at hcall
        have HCALL := Lib.hid hcall
        clear hcall d0 d1 d2
        simp only
        go_wp2_with fail
        go_at_call 44
        refine HCALL.out.mono ?_
        intro e w3 hp
        clear HCALL c0 c1 c2
        cases bn with
        | false =>
          obtain ⟨rfl, p⟩ := hp
          exact ⟨rfl, fall (HFALSE0.out (by simp)) (A2.out.bel.trans p) HAL.out HBw.out⟩
        | true =>
          obtain ⟨rfl, hA⟩ := hp
          have C2 := Lib.hid hA
          have hnl20 := HNL.out rfl
          clear hA
          have HPUT := Lib.hid (C2.out.put ⟨#[32, 123, 32]⟩ (by have := HLR.out; simp only [List.length_append, List.length_cons, List.length_nil, List.nil_append] at *; show _ + 3 ≤ _; omega))
          simp only
          go_wp2_with fail
          go_at_call 43
          refine HPUT.out.mono ?_
          rintro e w4 ⟨rfl, hA⟩
          have C3 := Lib.hid hA
          clear hA HPUT
          obtain ⟨c0, c1, c2⟩ := rec_cells (C3.out.cell HROW2.out HNE2.out (by decide))
          have HCALL := Lib.hid (C3.out.next (HEACH.out _ _ C3.out.ctx C3.out.buf (by have := HLR.out; simp only [List.length_append, List.length_cons, List.length_nil, List.nil_append] at *; omega)))
          simp only
          go_wp2_with fail
          go_at_call 54
          refine HCALL.out.mono ?_
          intro e w5 hp
          clear HCALL c0 c1 c2 HEACH
          cases bp with
          | false =>
            obtain ⟨rfl, p⟩ := hp
            exact ⟨rfl, fall (HFALSE0.out (by simp)) (A2.out.bel.trans p) HAL.out HBw.out⟩
          | true =>
            obtain ⟨rfl, hA⟩ := hp
            have C4 := Lib.hid hA
            have hjl := HJL.out rfl
            clear hA
            have HPUT := Lib.hid (C4.out.put ⟨#[32, 125, 10]⟩ (by have := HLR.out; simp only [List.length_append, List.length_cons, List.length_nil, List.nil_append] at *; show _ + 3 ≤ _; omega))
            simp only
            go_wp2_with fail
            go_at_call 43
            refine HPUT.out.mono ?_
            rintro e w6 ⟨rfl, hA⟩
            have C5 := Lib.hid hA
            clear hA HPUT
            have FIN : Hid (WAt W B b l W1 ((recs.take (i + 1)).flatMap Rc.txt) w6) := Lib.hid (by
              have h := A2.out.trans C5.out
              rw [HMT.out]
              simpa using h)
            simp only
            go_wp2_with fail
            go_roundg (recs.length - (i + 1))
            case measure => omega
            case rel => exact ⟨i + 1, by go_num, by omega, Nat.le_refl _, by rw [HRT.out]; rfl, FIN.out⟩
    · obtain rfl : i = recs.length := by omega
      have hA := HA.out
      rw [List.take_length] at hA hln
      have A1 := Lib.hid hA.2
      have HRR := Lib.hid hA.1
      clear hA HA
      obtain ⟨c0, c1⟩ := prog_cells (A1.out.cell HROW.out HNE.out (by decide))
      go_wp2_with fail
      clear c0 c1
      go_loopg [43] funcs.length (fun kx s43 wr => ∃ i : Nat, s43 = .int .i64 i ∧ i ≤ funcs.length ∧ funcs.length - i ≤ kx ∧ Aside ((funcs.take i).all Fu.right = true ∧ WAt W B b l W1 (recs.flatMap Rc.txt ++ (funcs.take i).flatMap Fu.txt) wr))
      case atStart => exact ⟨0, rfl, by omega, by omega, rfl, by simpa using A1.out⟩
      case round =>
        obtain ⟨i, rfl, hi, hg, hA⟩ := hrel
        have HA := Lib.hid hA.out
        clear hA
        have hlf := fus_len HF.out HA.out.1
        by_cases hil : i < funcs.length
        · have hx : funcs[i]? = some funcs[i] := List.getElem?_eq_getElem hil
          obtain ⟨g, o, soF, cF, soB, cB, rfl, hgW, a0, a1, a2, a3, a4, ⟨hs1, hs2, hs3, hs4⟩, hpm, hsb⟩ := HF.out i _ hx
          have d0 := HA.out.2.ctx.old.cell a0
          have d1 := HA.out.2.ctx.old.cell a1
          have d2 := HA.out.2.ctx.old.cell a2
          have d3 := HA.out.2.ctx.old.cell a3
          have d4 := HA.out.2.ctx.old.cell a4
          have hct := fuW_take hx
          have hcn := HCN.out i _ hx
          have HFALSE0 : Hid ((funcs[i] : Fu).right = false → (recs.all Rc.right && funcs.all Fu.right) = false) := Lib.hid (fun he => by rw [all_false hx he, Bool.and_false])
          have HRT : Hid ((funcs.take (i + 1)).all Fu.right = (funcs[i] : Fu).right) := Lib.hid (all_take hx HA.out.1)
          have HMT : Hid ((funcs.take (i + 1)).flatMap Fu.txt = (funcs.take i).flatMap Fu.txt ++ (funcs[i] : Fu).txt) := Lib.hid (flat_take hx)
          have hi1 : (i : Int) < (funcs.length : Int) := by omega
          have hi0 : (0 : Int) ≤ (i : Int) := by omega
          generalize (funcs[i] : Fu) = f at *
          obtain ⟨nm, ps, res, bd, line⟩ := f
          simp only [Fu.right, Fu.txt] at d0 d1 d2 d3 d4 hct hcn hpm hsb hs1 hs2 hs3 hs4 HFALSE0 HRT HMT
          have HPM := Lib.hid hpm
          have HSB := Lib.hid hsb
          have HNL := Lib.hid (@name_le nm)
          have HJL := Lib.hid (@pms_len ps)
          have HRES : Hid (res.data.toList.length = res.size) := Lib.hid (by rw [Array.length_toList]; rfl)
          obtain ⟨W2, hW2⟩ : ∃ W2, W2 = wr.alloc (.cells #[.string nm, .slice soF ps.length cF, .string res, .slice soB bd.length cB, .int .i64 line] 61) := ⟨_, rfl⟩
          have hal2 : Below wr.heap.size wr W2 := by rw [hW2]; exact (RowKit.Below.refl _ _).alloc (Nat.le_refl _) _
          have hrow2 : W2.heap[wr.heap.size]? = some (.cells #[.string nm, .slice soF ps.length cF, .string res, .slice soB bd.length cB, .int .i64 line] 61 (0, 0)) := by rw [hW2]; exact heap_alloc_new _ _
          have A2 := Lib.hid (HA.out.2.alloc hal2)
          have HROW2 := Lib.hid hrow2
          have HNE2 : Hid (wr.heap.size ≠ b) := Lib.hid (by have := HA.out.2.buf.lt; omega)
          have HLR : Hid ((l ++ (recs.flatMap Rc.txt ++ (funcs.take i).flatMap Fu.txt)).length + pmW ps + res.size + 1000 * cntS bd + 2500 ≤ 100000000) := Lib.hid (by have := HL.out; rw [List.length_append, List.length_append]; omega)
          have HEACH := Lib.hid (fun (l : List UInt8) (w : World) (h1 : Ctx W B w) (h2 : BufAt 83 [] B b l w) (h3 : l.length + pmW ps + 2000 ≤ 100000000) => eachP_any (cap := cF) HPM.out hs2 B b l w h1 h2 h3)
          have HBLK := Lib.hid (fun (l : List UInt8) (w : World) (h1 : Ctx W B w) (h2 : BufAt 83 [] B b l w) (h3 : l.length + 1000 * cntS bd + 100 ≤ 100000000) => block_any (cap := cB) HSB.out (fun _ x _ => stmt_any W x) hs4 ⟨#[10]⟩ (by decide) B b l w h1 h2 h3)
          have HDEP := Lib.hid (pdepths_any W _ bd rfl hcn soB cB W2 hsb hs4 A2.out.ctx.old)
          clear a0 a1 a2 a3 a4 hx hal2 hrow2 hpm hsb hct hcn
          generalize hnm : nameB nm = bn at *
          generalize rightP ps = bp at *
          generalize hty : typB res = bt at *
          generalize rightS bd = bb at *
          have hdl : decide ((depthS bd : Int) ≤ 24) = decide (depthS bd ≤ 24) := by rw [Bool.eq_iff_iff]; simp; omega
          generalize decide (depthS bd ≤ 24) = b24 at *
          generalize depthS bd = dp at *
          generalize hrz : decide (res.size = 0) = bz at *
          have hre : res.toList.isEmpty = bz := by rw [← size_empty]; exact hrz
          obtain ⟨c0, c1, c2, c3, c4⟩ := fun_cells HROW2.out
          go_wp2_with fail
          rw [← hW2]
          clear hW2 d0 d1 d2 d3 d4
          go_wp2_with fail
          go_at_call 37
          refine HDEP.out.mono ?_
          rintro e w0 ⟨rfl, hb0⟩
          have A3 := Lib.hid (A2.out.alloc hb0)
          have HROW3 := Lib.hid ((hb0.block _ (Array.getElem?_eq_some_iff.1 HROW2.out).1).trans HROW2.out)
          have C0 := Lib.hid A3.out.anew
          clear hb0 HDEP c0 c1 c2 c3 c4
          simp only
          cases b24 with
          | false =>
            go_wp2_with (go_at_call 18; (with_reducible refine (need_no _).mono ?_); rintro e w' ⟨rfl, rfl⟩)
            exact ⟨rfl, fall (HFALSE0.out (by simp)) A3.out.bel HAL.out HBw.out⟩
          | true =>
            go_wp2_with (go_at_call 18; (with_reducible refine (need_yes _).mono ?_); rintro e w' ⟨rfl, rfl⟩)
            have HPUT := Lib.hid (C0.out.put ⟨#[102, 110, 32]⟩ (by have := HLR.out; simp only [List.length_append, List.length_cons, List.length_nil, List.nil_append] at *; show _ + 3 ≤ _; omega))
            go_at_call 43
            refine HPUT.out.mono ?_
            rintro e w1 ⟨rfl, hA⟩
            have C1 := Lib.hid hA
            clear hA HPUT
            obtain ⟨c0, c1, c2, c3, c4⟩ := fun_cells (C1.out.cell HROW3.out HNE2.out (by decide))
            have hcall := C1.out.name nm (by have := HLR.out; simp only [List.length_append, List.length_cons, List.length_nil, List.nil_append] at *; omega)
            rw [hnm] at hcall
            have HCALL := Lib.hid hcall
            clear hcall
            simp only
            go_wp2_with fail
            go_at_call 44
            refine HCALL.out.mono ?_
            intro e w2 hp
            clear HCALL c0 c1 c2 c3 c4
            cases bn with
            | false =>
              obtain ⟨rfl, p⟩ := hp
              exact ⟨rfl, fall (HFALSE0.out (by simp)) (A3.out.bel.trans p) HAL.out HBw.out⟩
            | true =>
              obtain ⟨rfl, hA⟩ := hp
              have C2 := Lib.hid hA
              clear hA
              have hnl20 := HNL.out rfl
              have HPUT := Lib.hid (C2.out.put ⟨#[40]⟩ (by have := HLR.out; simp only [List.length_append, List.length_cons, List.length_nil, List.nil_append] at *; show _ + 1 ≤ _; omega))
              simp only
              go_wp2_with fail
              go_at_call 43
              refine HPUT.out.mono ?_
              rintro e w3 ⟨rfl, hA⟩
              have C3 := Lib.hid hA
              clear hA HPUT
              obtain ⟨c0, c1, c2, c3, c4⟩ := fun_cells (C3.out.cell HROW3.out HNE2.out (by decide))
              have HCALL := Lib.hid (C3.out.next (HEACH.out _ _ C3.out.ctx C3.out.buf (by have := HLR.out; simp only [List.length_append, List.length_cons, List.length_nil, List.nil_append] at *; omega)))
              simp only
              go_wp2_with fail
              go_at_call 54
              refine HCALL.out.mono ?_
              intro e w4 hp
              clear HCALL c0 c1 c2 c3 c4 HEACH
              cases bp with
              | false =>
                obtain ⟨rfl, p⟩ := hp
                exact ⟨rfl, fall (HFALSE0.out (by simp)) (A3.out.bel.trans p) HAL.out HBw.out⟩
              | true =>
                obtain ⟨rfl, hA⟩ := hp
                have C4 := Lib.hid hA
                clear hA
                have hjl := HJL.out rfl
                have HPUT := Lib.hid (C4.out.put ⟨#[41]⟩ (by have := HLR.out; simp only [List.length_append, List.length_cons, List.length_nil, List.nil_append] at *; show _ + 1 ≤ _; omega))
                simp only
                go_wp2_with fail
                go_at_call 43
                refine HPUT.out.mono ?_
                rintro e w5 ⟨rfl, hA⟩
                have C5 := Lib.hid hA
                clear hA HPUT
                obtain ⟨c0, c1, c2, c3, c4⟩ := fun_cells (C5.out.cell HROW3.out HNE2.out (by decide))
                have HRL := Lib.hid (res_len res)
                cases bz with
                | true =>
                  have HRT2 : Hid (resT res = []) := Lib.hid (by unfold resT; rw [if_pos (of_decide_eq_true hrz)])
                  have HPUT := Lib.hid (C5.out.put ⟨#[32]⟩ (by have := HLR.out; simp only [List.length_append, List.length_cons, List.length_nil, List.nil_append] at *; show _ + 1 ≤ _; omega))
                  simp only
                  go_wp2_with fail
                  go_at_call 43
                  refine HPUT.out.mono ?_
                  rintro e w8 ⟨rfl, hA⟩
                  have C7 := Lib.hid hA
                  clear hA HPUT
                  obtain ⟨c0, c1, c2, c3, c4⟩ := fun_cells (C7.out.cell HROW3.out HNE2.out (by decide))
                  have HCALL := Lib.hid (C7.out.next (HBLK.out _ _ C7.out.ctx C7.out.buf (by have := HLR.out; simp only [List.length_append, List.length_cons, List.length_nil, List.nil_append] at *; omega)))
                  simp only
                  go_wp2_with fail
                  go_at_call 57
                  refine HCALL.out.mono ?_
                  intro e w9 hp
                  clear HCALL c0 c1 c2 c3 c4 HBLK
                  cases bb with
                  | false =>
                    obtain ⟨rfl, p⟩ := hp
                    exact ⟨rfl, fall (HFALSE0.out (by simp)) (A3.out.bel.trans p) HAL.out HBw.out⟩
                  | true =>
                    obtain ⟨rfl, hA⟩ := hp
                    have C8 := Lib.hid hA
                    clear hA
                    have FIN : Hid (WAt W B b l W1 (recs.flatMap Rc.txt ++ (funcs.take (i + 1)).flatMap Fu.txt) w9) := Lib.hid (by
                      have h := A3.out.trans C8.out
                      rw [HMT.out, HRT2.out]
                      simpa using h)
                    simp only
                    go_wp2_with fail
                    go_roundg (funcs.length - (i + 1))
                    case measure => omega
                    case rel => exact ⟨i + 1, by go_num, by omega, Nat.le_refl _, by rw [HRT.out]; simp, FIN.out⟩
                | false =>
                  have HRT2 : Hid (resT res = [58, 32] ++ res.data.toList) := Lib.hid (by unfold resT; rw [if_neg (of_decide_eq_false hrz)])
                  have HPUT := Lib.hid (C5.out.put ⟨#[58, 32]⟩ (by have := HLR.out; simp only [List.length_append, List.length_cons, List.length_nil, List.nil_append] at *; show _ + 2 ≤ _; omega))
                  simp only
                  go_wp2_with fail
                  go_at_call 43
                  refine HPUT.out.mono ?_
                  rintro e w6 ⟨rfl, hA⟩
                  have C6 := Lib.hid hA
                  clear hA HPUT
                  obtain ⟨c0, c1, c2, c3, c4⟩ := fun_cells (C6.out.cell HROW3.out HNE2.out (by decide))
                  have hcall := C6.out.typ res (by have := HLR.out; simp only [List.length_append, List.length_cons, List.length_nil, List.nil_append] at *; omega)
                  rw [hty] at hcall
                  have HCALL := Lib.hid hcall
                  clear hcall
                  simp only
                  go_wp2_with fail
                  go_at_call 56
                  refine HCALL.out.mono ?_
                  intro e w7 hp
                  clear HCALL c0 c1 c2 c3 c4
                  cases bt with
                  | false =>
                    obtain ⟨rfl, p⟩ := hp
                    exact ⟨rfl, fall (HFALSE0.out (by simp)) (A3.out.bel.trans p) HAL.out HBw.out⟩
                  | true =>
                    obtain ⟨rfl, hA⟩ := hp
                    have C6b := Lib.hid hA
                    clear hA
                    have hrs := HRES.out
                    have HPUT := Lib.hid (C6b.out.put ⟨#[32]⟩ (by have := HLR.out; simp only [List.length_append, List.length_cons, List.length_nil, List.nil_append] at *; show _ + 1 ≤ _; omega))
                    simp only
                    go_wp2_with fail
                    go_at_call 43
                    refine HPUT.out.mono ?_
                    rintro e w8 ⟨rfl, hA⟩
                    have C7 := Lib.hid hA
                    clear hA HPUT
                    obtain ⟨c0, c1, c2, c3, c4⟩ := fun_cells (C7.out.cell HROW3.out HNE2.out (by decide))
                    have HCALL := Lib.hid (C7.out.next (HBLK.out _ _ C7.out.ctx C7.out.buf (by have := HLR.out; simp only [List.length_append, List.length_cons, List.length_nil, List.nil_append] at *; omega)))
                    simp only
                    go_wp2_with fail
                    go_at_call 57
                    refine HCALL.out.mono ?_
                    intro e w9 hp
                    clear HCALL c0 c1 c2 c3 c4 HBLK
                    cases bb with
                    | false =>
                      obtain ⟨rfl, p⟩ := hp
                      exact ⟨rfl, fall (HFALSE0.out (by simp)) (A3.out.bel.trans p) HAL.out HBw.out⟩
                    | true =>
                      obtain ⟨rfl, hA⟩ := hp
                      have C8 := Lib.hid hA
                      clear hA
                      have FIN : Hid (WAt W B b l W1 (recs.flatMap Rc.txt ++ (funcs.take (i + 1)).flatMap Fu.txt) w9) := Lib.hid (by
                        have h := A3.out.trans C8.out
                        rw [HMT.out, HRT2.out]
                        simpa using h)
                      simp only
                      go_wp2_with fail
                      go_roundg (funcs.length - (i + 1))
                      case measure => omega
                      case rel => exact ⟨i + 1, by go_num, by omega, Nat.le_refl _, by rw [HRT.out]; simp, FIN.out⟩
        · obtain rfl : i = funcs.length := by omega
          have HFIN : Hid (WPost B b l (recs.flatMap Rc.txt ++ funcs.flatMap Fu.txt) (recs.all Rc.right && funcs.all Fu.right) w (.returned (.tuple #[])) wr) := Lib.hid (by
            have h := HA.out
            rw [List.take_length] at h
            rw [HRR.out, h.1]
            exact h.2.fin HAL.out HBw.out)
          clear HA
          go_wp2_with fail
          go_end0
          exact HFIN.out
end Go.Proofs.YtggjeecpadnihaaGreatDoor

namespace Go.Proofs.YtggjeecpadnihaaGreatDoor
open Go Go.Proofs Go.Eng Go.RowKit Go.Sx Go.Deep
set_option linter.unusedVariables false
set_option linter.unusedSimpArgs false

set_option maxRecDepth 100000 in
theorem toldP_any (t : List UInt8) (ok : Bool) (c : Nat) (w : World)
    (H : ∀ w1 : World, Below w.heap.size w w1 → w1.heap.size = w.heap.size + 1 + 1 + 1 → BufAt 83 [] (w.heap.size + 1 + 1) (w.heap.size + 1 + 1) [] w1 → Calls Tryz.prog 26 #[.pointer (some ⟨w.heap.size + 1 + 1, 0, none⟩), .pointer (some ⟨c, 0, none⟩)] w1 (WPost (w.heap.size + 1 + 1) (w.heap.size + 1 + 1) [] t ok w1)) :
    Calls Tryz.prog 16 #[.func (.func 26) #[] #[.pointer (some ⟨c, 0, none⟩)]] w fun e w' => e = .returned (toldV ok t) ∧ Below w.heap.size w w' := by
  obtain ⟨W3, hW3⟩ : ∃ W3, W3 = ((w.alloc (.cells #[.string ⟨#[]⟩] 9)).alloc (.cells #[.int .i64 0] 28)).alloc (.cells #[.pointer none, .slice none 0 0] 83) := ⟨_, rfl⟩
  obtain ⟨hsz, hal, hc2, hbuf⟩ := three w hW3
  have HC := Lib.hid (H W3 hal hsz hbuf)
  have HAL := Lib.hid hal
  have HSZ := Lib.hid hsz
  have HC2 := Lib.hid hc2
  clear H hsz hal hc2 hbuf
  unfold toldV
  generalize hg : decide ((4096 : Int) < (t.length : Int)) = bg
  have hmf : ∀ (fn : Fn) (first cap : Array Value) (w : World), (Instr.makeFunc fn first cap).run Tryz.prog w = .ok (.func fn first cap) w := fun _ _ _ _ => rfl
  go_enter_defers Tryz.func16, Tryz.ntmps16
  go_wp2_with fail
  rw [← hW3]
  clear hW3
  refine HC.out.mono ?_
  clear HC
  intro e w2 hp
  cases ok with
  | false =>
    obtain ⟨rfl, hb⟩ := hp
    have hC2 := HC2.out.low hb
    have FIN : Hid (Below w.heap.size w w2) := Lib.hid (HAL.out.trans (RowKit.Below.mono hb (by omega)))
    show Leaves _ _ _ _ _ _ _
    refine leaves_cons (f := 38) (args := #[.pointer (some ⟨w.heap.size, 0, none⟩), .pointer (some ⟨w.heap.size + 1, 0, none⟩)]) (by simp) (by simp [go_sem]) ?_
    refine (caught_unfit _ _ _ w2 hC2.h0 hC2.h1).mono ?_
    rintro e u' w'' ⟨rfl, rfl, r0, r1, hb2⟩
    simp [Leaves, settle, results, Tryz.results16, go_sem, r0, r1]
    exact ⟨rfl, FIN.out.trans hb2⟩
  | true =>
    obtain ⟨rfl, hbuf, hb, _⟩ := hp
    rw [List.nil_append] at hbuf
    have HC3 := Lib.hid (HC2.out.low hb)
    have HW2 : Hid (Below w.heap.size w w2) := Lib.hid (HAL.out.trans (RowKit.Below.mono hb (by omega)))
    have HBW : Hid (w.heap.size + 1 + 1 ≤ w2.heap.size) := Lib.hid (by have := hb.size; have := HSZ.out; omega)
    have HLEN := Lib.hid (bldLen_any _ _ _ _ _ w2 hbuf)
    have HSTR := Lib.hid (bldString_any _ _ _ _ _ w2 hbuf HBW.out)
    clear hbuf hb
    simp only
    obtain ⟨c0, c1, z0, z1⟩ := HC3.out.c
    go_wp2_with fail
    go_at_call 39
    refine HLEN.out.mono ?_
    rintro e w' ⟨rfl, rfl⟩
    cases bg with
    | true =>
      go_wp2_with fail
      obtain ⟨f0, f1, f2⟩ := HC3.out.put ⟨#[]⟩ 5
      have F := HW2.out.trans f2
      show Leaves _ _ _ _ _ _ _
      refine leaves_cons (f := 38) (args := #[.pointer (some ⟨w.heap.size, 0, none⟩), .pointer (some ⟨w.heap.size + 1, 0, none⟩)]) (by simp) (by simp [go_sem]) ?_
      refine (caught_idle _ _ _).mono ?_
      rintro e u' w'' ⟨rfl, rfl, rfl⟩
      clear HC3 HW2 HBW HLEN HSTR c0 c1 z0 z1 HAL HSZ HC2
      simp [Leaves, settle, results, Tryz.results16, go_sem, f0, f1]
      exact ⟨rfl, F⟩
    | false =>
      go_wp2_with fail
      go_at_call 40
      refine HSTR.out.mono ?_
      rintro e w3 ⟨rfl, hb3⟩
      have HC4 := Lib.hid (HC3.out.low hb3)
      have HW3 : Hid (Below w.heap.size w w3) := Lib.hid (HW2.out.trans (RowKit.Below.mono hb3 (by omega)))
      clear c0 c1 z0 z1 hb3 HC3 HW2
      obtain ⟨c0, c1, z0, z1⟩ := HC4.out.c
      simp only
      go_wp2_with fail
      obtain ⟨f0, f1, f2⟩ := HC4.out.put ⟨t.toArray⟩ 0
      have F := HW3.out.trans f2
      show Leaves _ _ _ _ _ _ _
      refine leaves_cons (f := 38) (args := #[.pointer (some ⟨w.heap.size, 0, none⟩), .pointer (some ⟨w.heap.size + 1, 0, none⟩)]) (by simp) (by simp [go_sem]) ?_
      refine (caught_idle _ _ _).mono ?_
      rintro e u' w'' ⟨rfl, rfl, rfl⟩
      clear HC4 HW3 HBW HLEN HSTR c0 c1 z0 z1 HAL HSZ HC2
      simp [Leaves, settle, results, Tryz.results16, go_sem, f0, f1]
      exact ⟨rfl, F⟩

/-- How much a program may hold. -/
structure PgOk (p : Pg) : Prop where
  cnt : ∀ (i : Nat) f, p.funcs[i]? = some f → cntS f.body ≤ 4096
  wt : rcW p.recs + fuW p.funcs + 3000 ≤ 100000000

set_option maxRecDepth 100000 in
theorem print1P_any {W : World} {p : Pg} {cs : List Value} {B b c : Nat} {w : World} (hin : PgIn W p cs) (hok : PgOk p) (hc : Ctx W B w) (hb : BufAt 83 [] B b [] w) (hrow : w.heap[c]? = some (.cells ⟨cs⟩ 36 (0, 0))) :
    Calls Tryz.prog 26 #[.pointer (some ⟨b, 0, none⟩), .pointer (some ⟨c, 0, none⟩)] w (WPost B b [] p.txt p.right w) := by
  obtain ⟨so1, p1, so2, p2, rfl, ⟨h1, h2⟩, hr, hf⟩ := hin
  have HC := Lib.hid (program_any (p1 := p1) (p2 := p2) hr hf h1 h2 hok.cnt hc hb (by have := hok.wt; simp; omega))
  obtain ⟨c0, c1⟩ := prog_cells hrow
  have e1 : (p.recs.all Rc.right && p.funcs.all Fu.right) = p.right := rfl
  have e2 : (p.recs.flatMap Rc.txt ++ p.funcs.flatMap Fu.txt) = p.txt := rfl
  rw [e1, e2] at HC
  clear e1 e2 hr hf hok hc hb hrow
  generalize p.right = ok at *
  generalize p.txt = t at *
  go_enter Tryz.func26, Tryz.ntmps26
  go_wp2_with fail
  go_at_call 27
  refine HC.out.mono ?_
  intro e w2 hp
  clear HC c0 c1
  cases ok with
  | false =>
    obtain ⟨rfl, q⟩ := hp
    exact ⟨rfl, rfl, q⟩
  | true =>
    obtain ⟨rfl, q⟩ := hp
    have FIN : Hid (WPost B b [] t true w (.returned (.tuple #[])) w2) := Lib.hid ⟨rfl, q⟩
    clear q
    simp only
    go_wp2
    go_end0
    exact FIN.out

set_option maxRecDepth 100000 in
/-- Print of a program that came in. -/
theorem printP_any {W : World} (hg : Globs hv W gl) (ng : 9 ≤ W.heap.size) (p : Pg) (cs : List Value) (hin : PgIn W p cs) (hok : PgOk p) (w : World) (ho : Old W w) :
    Calls Tryz.prog 10 #[.agg ⟨cs⟩] w fun e' w' => e' = .returned (toldV p.right p.txt) ∧ Below w.heap.size w w' := by
  obtain ⟨W1, hW1⟩ : ∃ W1, W1 = w.alloc (.cells ⟨cs⟩ 36) := ⟨_, rfl⟩
  have hal : Below w.heap.size w W1 := by rw [hW1]; exact (RowKit.Below.refl _ _).alloc (Nat.le_refl _) _
  have hsz : W1.heap.size = w.heap.size + 1 := by rw [hW1]; exact nblk_alloc _ _
  have hrow : W1.heap[w.heap.size]? = some (.cells ⟨cs⟩ 36 (0, 0)) := by rw [hW1]; exact heap_alloc_new _ _
  have hto := toldP_any p.txt p.right w.heap.size W1 (fun w1 hb1 hs1 hbuf => by
    have hold : Old W w1 := (ho.belowB ho.size hal).belowB (by have := ho.size; omega) hb1
    refine print1P_any hin hok ⟨hg, ng, by have := ho.size; omega, hold, by omega⟩ hbuf ((hb1.block _ (by omega)).trans hrow))
  obtain ⟨s, n, hs⟩ := told_tuple p.right p.txt
  rw [hs] at hto ⊢
  have HT := Lib.hid hto
  have HAL := Lib.hid hal
  obtain ⟨so1, p1, so2, p2, rfl, _⟩ := hin
  clear hto hs hal hsz hrow ho hg ng hok
  have hmf : ∀ (fn : Fn) (first cap : Array Value) (w : World), (Instr.makeFunc fn first cap).run Tryz.prog w = .ok (.func fn first cap) w := fun _ _ _ _ => rfl
  go_enter Tryz.func10, Tryz.ntmps10
  go_wp2_with fail
  rw [← hW1]
  clear hW1
  go_wp2_with fail
  go_at_call 16
  refine HT.out.mono ?_
  rintro e w2 ⟨rfl, hb2⟩
  have FIN := Lib.hid (HAL.out.trans (RowKit.Below.mono hb2 HAL.out.size))
  clear HT HAL hb2
  simp only
  go_wp2
  go_ret2
  exact ⟨rfl, FIN.out⟩
end Go.Proofs.YtggjeecpadnihaaGreatDoor
