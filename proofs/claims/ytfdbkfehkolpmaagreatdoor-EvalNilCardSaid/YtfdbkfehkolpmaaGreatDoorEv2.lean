/- Small: its recursion. -/
import Derived.Test.YtfdbkfehkolpmaaGreatDoorEv1
import Derived.Laws.Rows
namespace Go.Proofs.YtfdbkfehkolpmaaGreatDoor
open Go.RowKit Go.Proofs Go.Deep
set_option linter.unusedVariables false
set_option linter.unusedSimpArgs false

/-- The kids, place by place. -/
theorem kids_cells {H : Type} {enc : TypeId × Value → H} {W : World} {base : Nat} {sp : Nat → Bool} {held : Bool} {n : Nat} {c3 : Value} (h : (c3 = .slice none 0 0) ∨ ∃ (a : Addr) (len cap : Nat), c3 = .slice (some a) len cap ∧ len ≤ maxLen ∧
      ∀ i, i < len → ∃ cs' m x', m < n ∧ W.cells? base (a.add (i * 5)) 5 = some cs' ∧ DataW.trod enc Tryz.prog W base sp held m 25 cs' = some x') :
    ∃ so len cap, c3 = .slice so len cap ∧ len ≤ maxLen ∧ ∀ i, i < len → ∃ g o e0 e1 e2 e3 e4 m x', so = some ⟨g, o, none⟩ ∧ m < n ∧ g < W.heap.size ∧ W.cell? ⟨g, o + i * 5, none⟩ = some e0 ∧ W.cell? ⟨g, o + i * 5 + 1, none⟩ = some e1 ∧ W.cell? ⟨g, o + i * 5 + 2, none⟩ = some e2 ∧ W.cell? ⟨g, o + i * 5 + 3, none⟩ = some e3 ∧ W.cell? ⟨g, o + i * 5 + 4, none⟩ = some e4 ∧
      DataW.trod enc Tryz.prog W base sp held m 25 [e0, e1, e2, e3, e4] = some x' := by
  rcases h with rfl | ⟨a, len, cap, rfl, hl, hx⟩
  · exact ⟨none, 0, 0, rfl, Nat.zero_le _, fun i hi => absurd hi (Nat.not_lt_zero _)⟩
  · refine ⟨some a, len, cap, rfl, hl, fun i hi => ?_⟩
    obtain ⟨g, o, spot⟩ := a
    have hs : spot = none := by
      obtain ⟨cs0, _, _, _, h0, _⟩ := hx 0 (by omega)
      obtain ⟨_, hlen, hc⟩ := World.cells?_some h0
      have := hc 0 (by omega)
      rw [List.getElem?_eq_getElem (by omega)] at this
      simpa [Addr.add] using World.cell?_spot this
    subst hs
    obtain ⟨cs', m, x', hm, h1, h2⟩ := hx i hi
    obtain ⟨_, hlen, hc⟩ := World.cells?_some h1
    match cs', hlen with
    | [e0, e1, e2, e3, e4], _ =>
      have a0 := hc 0 (by omega)
      have a1 := hc 1 (by omega)
      have a2 := hc 2 (by omega)
      have a3 := hc 3 (by omega)
      have a4 := hc 4 (by omega)
      simp only [Addr.add_lit] at a0 a1 a2 a3 a4
      exact ⟨g, o, e0, e1, e2, e3, e4, m, x', rfl, hm, World.block_lt_of_cell? W _ a0, a0, a1, a2, a3, a4, h2⟩

/-- What the count of an expression's parts comes to. -/
def ExprPost (cb : Nat) (w w' : World) (e : Ending) : Prop := ∃ (b : Bool) (k : Int), e = .returned (.bool b) ∧ Cnt w' cb k ∧ 0 ≤ k ∧ (b = true → k ≤ 4096) ∧ But cb w w'

set_option maxRecDepth 100000 in
set_option maxHeartbeats 0 in
theorem expr_any {H : Type} {enc : TypeId × Value → H} {W : World} {base : Nat} {sp : Nat → Bool} {held : Bool} : ∀ (n : Nat) (cs : List Value) (x : DataW H × List MemPlace), DataW.trod enc Tryz.prog W base sp held n 25 cs = some x →
    ∀ (w : World) (cb : Nat) (k deep : Int), (∀ i, i < W.heap.size → w.heap[i]? = W.heap[i]?) → W.heap.size ≤ cb → Cnt w cb k → 0 ≤ k → k ≤ 4096 → 0 ≤ deep → deep ≤ 100 →
      Calls Tryz.prog 10 #[.pointer (some ⟨cb, 0, none⟩), .agg ⟨cs⟩, .int .i64 deep] w fun e w' => ExprPost cb w w' e := by
  intro n
  induction n using Nat.strongRecOn with
  | ind n ih =>
  intro cs x h w cb k deep hW hcb hc hk hk2 hd hd2
  obtain ⟨c0, c1, c2, c3, c4, rfl, hkids⟩ := expr_open h
  obtain ⟨so, len, cap, rfl, hlm, hkid⟩ := kids_cells hkids
  have hlm' : len ≤ 9223372036854775807 := hlm
  have IH := Lib.hid ih
  have HK := Lib.hid hkid
  have HW := Lib.hid hW
  clear ih hkids hkid hW h
  obtain ⟨W1, hW1⟩ : ∃ W1, W1 = w.alloc (.cells ⟨[c0, c1, c2, .slice so len cap, c4]⟩ 25) := ⟨_, rfl⟩
  have hb1 : Below w.heap.size w W1 := by rw [hW1]; exact (Below.refl _ _).alloc (Nat.le_refl _) _
  have hrow : W1.heap[w.heap.size]? = some (.cells ⟨[c0, c1, c2, .slice so len cap, c4]⟩ 25 (0, 0)) := by rw [hW1]; show (w.heap.push _)[w.heap.size]? = _; simp
  have hcb1 : cb < w.heap.size := hc.lt
  have hc1 : Cnt W1 cb k := by unfold Cnt; rw [hb1.block cb hcb1]; exact hc
  have HM := Lib.hid (more_any cb k deep W1 hc1 hk hk2)
  have HB1 := Lib.hid hb1
  have HROW := Lib.hid hrow
  have hs1 : w.heap.size < W1.heap.size := (Array.getElem?_eq_some_iff.1 hrow).1
  go_enter Tryz.func10, Tryz.ntmps10
  go_wp2_with fail
  rw [← hW1]
  clear hW1 hc hc1 hb1 hrow
  by_cases hd48 : k + 1 ≤ 4096 ∧ deep ≤ 48
  · have hdec : (decide (k + 1 ≤ 4096) && decide (deep ≤ 48)) = true := by simp [hd48.1, hd48.2]
    rw [hdec] at HM
    go_at_call 20
    refine HM.out.mono ?_
    rintro e w2 ⟨rfl, C2, B2⟩
    have HC2 := Lib.hid C2
    have HB2 := Lib.hid B2
    clear C2 B2 HM
    simp only
    go_wp2_with fail
    go_loopg [7] len (fun kx s7 wr => ∃ (i : Nat) (k' : Int), s7 = .int .i64 i ∧ i ≤ len ∧ len - i ≤ kx ∧ 0 ≤ k' ∧ k' ≤ 4096 ∧ Aside (Cnt wr cb k') ∧ Aside (But cb W1 wr))
    case atStart => exact ⟨0, k + 1, rfl, by omega, by omega, by omega, hd48.1, HC2.out, HB2.out⟩
    case round =>
      obtain ⟨i, k', rfl, hi, hg, hk0', hk1', hc', hb'⟩ := hrel
      have x3 : wr.cell? ⟨w.heap.size, 3, none⟩ = some (.slice so len cap) := (hb'.out.cell (p := ⟨w.heap.size, 3, none⟩) hs1 (by show w.heap.size ≠ cb; omega)).trans (by simp [World.cell?, HROW.out])
      by_cases hil : i < len
      · obtain ⟨g, o, e0, e1, e2, e3, e4, m, x', hso, hm, hgW, a0, a1, a2, a3, a4, ht⟩ := HK.out i hil
        subst hso
        have hgw : g < w.heap.size := by omega
        have mv : ∀ j v, W.cell? ⟨g, j, none⟩ = some v → wr.cell? ⟨g, j, none⟩ = some v := fun j v hv => by
          rw [hb'.out.cell (p := ⟨g, j, none⟩) (by show g < _; omega) (by show g ≠ cb; omega), HB1.out.cell (p := ⟨g, j, none⟩) hgw, ← hv]
          exact World.cell?_of_block (HW.out g hgW)
        have d0 := mv _ _ a0
        have d1 := mv _ _ a1
        have d2 := mv _ _ a2
        have d3 := mv _ _ a3
        have d4 := mv _ _ a4
        have hWr : ∀ i, i < W.heap.size → wr.heap[i]? = W.heap[i]? := fun i hi => by
          rw [hb'.out.block i (by omega) (by omega), HB1.out.block i (by omega)]; exact HW.out i hi
        have HCALL : Hid (∀ w3, (w3 = wr ∨ w3 = wr.drew) → Calls Tryz.prog 10 #[.pointer (some ⟨cb, 0, none⟩), .agg #[e0, e1, e2, e3, e4], .int .i64 (deep + 1)] w3 fun e w' => ExprPost cb wr w' e) := Lib.hid fun w3 h3 => by
          have e : w3.heap = wr.heap := by rcases h3 with rfl | rfl <;> rfl
          refine (IH.out m hm _ _ ht w3 cb k' (deep + 1) (by rw [e]; exact hWr) hcb (by unfold Cnt; rw [e]; exact hc'.out) hk0' hk1' (by omega) (by omega)).mono ?_
          rintro e' w' ⟨b, k2, r1, r2, r3, r4, r5⟩
          refine ⟨b, k2, r1, r2, r3, r4, ?_⟩
          rcases h3 with rfl | rfl
          · exact r5
          · exact ⟨r5.os, r5.tape, r5.output, r5.size, r5.block⟩
        have hi0 : (0 : Int) ≤ (i : Int) := by omega
        have hi1 : (i : Int) < (len : Int) := by omega
        have hwd : IntKind.i64.wrap (deep + 1) = deep + 1 := IntWalk.i64_in _ (by omega)
        have HB' := Lib.hid hb'.out
        clear mv hWr a0 a1 a2 a3 a4 ht hc' hb'
        go_wp2_with fail
        go_at_call 10
        refine (HCALL.out _ (.inl rfl)).mono ?_
        rintro e w5 ⟨b, k2, rfl, r2, r3, r4, r5⟩
        have HR2 := Lib.hid r2
        have HB5 := Lib.hid (HB'.out.trans r5)
        clear HCALL r2 r5 d0 d1 d2 d3 d4 x3
        simp only
        cases b with
        | true =>
          have h4 := r4 rfl
          go_wp2_with fail
          go_roundg (len - (i + 1))
          case measure => omega
          case rel => exact ⟨i + 1, k2, by go_num, by omega, Nat.le_refl _, r3, h4, HR2.out, HB5.out⟩
        | false =>
          go_wp2_with fail
          go_ret
          exact ⟨false, k2, rfl, HR2.out, r3, (fun h => Bool.noConfusion h), (But.of HB1.out).trans HB5.out⟩
      · obtain rfl : i = len := by omega
        have HC' := Lib.hid hc'.out
        have HB' := Lib.hid hb'.out
        clear hc' hb'
        go_wp2_with fail
        go_ret
        exact ⟨true, k', rfl, HC'.out, hk0', fun _ => hk1', (But.of HB1.out).trans HB'.out⟩
  · have hdec : (decide (k + 1 ≤ 4096) && decide (deep ≤ 48)) = false := by
      cases hq : (decide (k + 1 ≤ 4096) && decide (deep ≤ 48)) with
      | false => rfl
      | true => simp at hq; exact absurd hq hd48
    rw [hdec] at HM
    go_at_call 20
    refine HM.out.mono ?_
    rintro e w2 ⟨rfl, C2, B2⟩
    have HC2 := Lib.hid C2
    have HB2 := Lib.hid B2
    clear C2 B2 HM
    simp only
    go_wp2_with fail
    go_ret
    exact ⟨false, k + 1, rfl, HC2.out, by omega, (fun h => Bool.noConfusion h), (But.of HB1.out).trans HB2.out⟩

set_option maxRecDepth 100000 in
/-- Small, at any expression that came in. -/
theorem small_any {H : Type} {enc : TypeId × Value → H} {W : World} {base : Nat} {sp : Nat → Bool} {held : Bool} {n : Nat} {cs : List Value} {x : DataW H × List MemPlace} (h : DataW.trod enc Tryz.prog W base sp held n 25 cs = some x) (w : World) (hw : Below W.heap.size W w) :
    Calls Tryz.prog 4 #[.agg ⟨cs⟩] w fun e w' => ∃ b, e = .returned (.bool b) ∧ Below w.heap.size w w' := by
  obtain ⟨c0, c1, c2, c3, c4, rfl, _⟩ := expr_open h
  obtain ⟨W1, hW1⟩ : ∃ W1, W1 = (w.alloc (.cells ⟨[c0, c1, c2, c3, c4]⟩ 25)).alloc (.cells #[.int .i64 0] 42) := ⟨_, rfl⟩
  have hb1 : Below w.heap.size w W1 := by rw [hW1]; exact ((Below.refl _ _).alloc (Nat.le_refl _) _).alloc (by simp) _
  have hc1 : Cnt W1 (w.heap.size + 1) 0 := by rw [hW1]; exact heap_alloc2_new w _ _
  have HB1 := Lib.hid hb1
  have HC : Hid (Calls Tryz.prog 10 #[.pointer (some ⟨w.heap.size + 1, 0, none⟩), .agg ⟨[c0, c1, c2, c3, c4]⟩, .int .i64 0] W1 fun e w' => ExprPost (w.heap.size + 1) W1 w' e) := Lib.hid (expr_any n _ x h W1 (w.heap.size + 1) 0 0 (fun i hi => by rw [hb1.block i (by have := hw.size; omega)]; exact hw.block i hi) (by have := hw.size; omega) hc1 (by omega) (by omega) (by omega) (by omega))
  clear hb1 hc1 h
  go_enter Tryz.func4, Tryz.ntmps4
  go_wp2_with fail
  rw [← hW1]
  clear hW1
  go_at_call 10
  refine HC.out.mono ?_
  rintro e w5 ⟨b, k2, rfl, r2, r3, r4, r5⟩
  simp only
  go_wp2_with fail
  go_ret
  exact ⟨b, rfl, HB1.out.trans (r5.below (by omega) HB1.out.size)⟩
end Go.Proofs.YtfdbkfehkolpmaaGreatDoor
