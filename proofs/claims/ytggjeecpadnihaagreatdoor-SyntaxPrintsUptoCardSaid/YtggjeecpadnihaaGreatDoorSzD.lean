/- The other side: params. -/
import Derived.Test.YtggjeecpadnihaaGreatDoorSzA
import Derived.Test.YtggjeecpadnihaaGreatDoorSyB
import Derived.Test.YtggjeecpadnihaaGreatDoorSy9
import Derived.Test.YtggjeecpadnihaaGreatDoorSzB
namespace Go.Proofs.YtggjeecpadnihaaGreatDoor
open Go Go.Proofs Go.Eng Go.RowKit Go.Sx Go.Deep
set_option linter.unusedVariables false
set_option linter.unusedSimpArgs false

set_option maxRecDepth 100000 in
set_option maxHeartbeats 1000000 in
theorem rrightP_any {W : World} {ps : List Pm} {so : Option Addr} {cap : Nat} (hk : PmsIn W so ps) (hkl : ps.length ≤ 9223372036854775807) (w : World) (ho : Old W w) :
    Calls Tryz.prog 58 #[.slice so ps.length cap] w fun e w' => e = .returned (.bool (rightP ps)) ∧ Below w.heap.size w w' := by
  have HK := Lib.hid hk
  have HO := Lib.hid ho
  clear hk ho
  go_enter Tryz.func58, Tryz.ntmps58
  go_wp2_with fail
  go_loopg [3] ps.length (fun kx s3 wr => ∃ i : Nat, s3 = .int .i64 i ∧ i ≤ ps.length ∧ ps.length - i ≤ kx ∧ Aside (rightP (ps.take i) = true) ∧ Aside (Below w.heap.size w wr))
  case atStart => exact ⟨0, rfl, by omega, by omega, rfl, RowKit.Below.refl _ _⟩
  case round =>
    obtain ⟨i, rfl, hi, hg, hA, hb⟩ := hrel
    have HA := Lib.hid hA.out
    have HB := Lib.hid hb.out
    clear hA hb
    by_cases hil : i < ps.length
    · have hx : ps[i]? = some ps[i] := List.getElem?_eq_getElem hil
      obtain ⟨g, o, rfl, hgW, a0, a1, hs1, hs2⟩ := HK.out i _ hx
      have d0 := (HO.out.below HB.out).cell a0
      have d1 := (HO.out.below HB.out).cell a1
      have HFALSE : Hid ((ps[i] : Pm).right = false → rightP ps = false) := Lib.hid (fun he => rightP_false hx he)
      have HRT : Hid (rightP (ps.take (i + 1)) = (ps[i] : Pm).right) := Lib.hid (rightP_take hx HA.out)
      have hi1 : (i : Int) < (ps.length : Int) := by omega
      have hi0 : (0 : Int) ≤ (i : Int) := by omega
      generalize ps[i] = p at *
      obtain ⟨nm, ty⟩ := p
      simp only [Pm.right] at d0 d1 hs2 HFALSE HRT
      have HN := Lib.hid (fun w => rname_any nm w)
      have HT := Lib.hid (fun w => rtype_any ty w hs2)
      have HD1 : Hid (∀ w', Below wr.heap.size wr w' → w'.cell? ⟨g, o + i * 2 + 1, none⟩ = some (.string ty)) := Lib.hid fun w' h => (h.cell (World.block_lt_of_cell? _ _ d1)).trans d1
      clear a0 a1 hx hs1 hs2 d1
      generalize nameB nm = bn at *
      generalize typB ty = bt at *
      cases bn with
      | false =>
        go_wp2_with (go_at_call 48; (with_reducible refine (HN.out _).mono ?_); rintro e w2 ⟨rfl, hb2⟩)
        go_ret
        exact ⟨by rw [HFALSE.out rfl]; rfl, HB.out.trans (RowKit.Below.mono hb2 HB.out.size)⟩
      | true =>
        go_wp2_with fail
        go_at_call 48
        refine (HN.out _).mono ?_
        rintro e w2 ⟨rfl, hb2⟩
        have d1 := HD1.out w2 hb2
        have HB2 := Lib.hid (HB.out.trans (RowKit.Below.mono hb2 HB.out.size))
        clear hb2 d0
        simp only
        cases bt with
        | false =>
          go_wp2_with (go_at_call 59; (with_reducible refine (HT.out _).mono ?_); rintro e w3 ⟨rfl, hb3⟩)
          go_ret
          exact ⟨by rw [HFALSE.out rfl]; rfl, HB2.out.trans (RowKit.Below.mono hb3 HB2.out.size)⟩
        | true =>
          go_wp2_with (go_at_call 59; (with_reducible refine (HT.out _).mono ?_); rintro e w3 ⟨rfl, hb3⟩)
          have HB3 := Lib.hid (HB2.out.trans (RowKit.Below.mono hb3 HB2.out.size))
          go_roundg (ps.length - (i + 1))
          case measure => omega
          case rel => exact ⟨i + 1, by go_num, by omega, Nat.le_refl _, HRT.out, HB3.out⟩
    · obtain rfl : i = ps.length := by omega
      have HR : Hid (rightP ps = true) := Lib.hid (by have h := HA.out; rwa [List.take_length] at h)
      go_wp2
      go_ret
      exact ⟨by rw [HR.out]; rfl, HB.out⟩

set_option maxRecDepth 100000 in
set_option maxHeartbeats 1000000 in
theorem rparams_any {W : World} {ps : List Pm} {so : Option Addr} {cap : Nat} (hk : PmsIn W so ps) (hkl : ps.length ≤ 9223372036854775807) (hr : rightP ps = true) (hw : pmW ps ≤ 100000000) (w : World) (ho : Old W w) :
    Calls Tryz.prog 29 #[.slice so ps.length cap] w fun e w' => e = .returned (.string ⟨(joinL (ps.map Pm.txt)).toArray⟩) ∧ Below w.heap.size w w' := by
  have HK := Lib.hid hk
  have HO := Lib.hid ho
  have HLEN : Hid (∀ i, (joinL ((ps.take i).map Pm.txt)).length ≤ 100000000) := Lib.hid fun i => by
    have h1 : rightP (ps.take i) = true := by
      unfold rightP at hr ⊢
      exact List.all_eq_true.2 fun p hp => List.all_eq_true.1 hr p (List.mem_of_mem_take hp)
    have h2 := pms_len h1
    have h3 : pmW (ps.take i) + pmW (ps.drop i) = pmW ps := by rw [← pmW_app, List.take_append_drop]
    omega
  have HPT : Hid (∀ (i : Nat) p, ps[i]? = some p → p.name.size ≤ 20 ∧ p.typ.size ≤ 100000000) := Lib.hid fun i p hp => by
    have h1 : p.right = true := List.all_eq_true.1 hr p (List.mem_of_getElem? hp)
    unfold Pm.right at h1
    rw [Bool.and_eq_true] at h1
    have h2 := name_le h1.1
    rw [ba_len] at h2
    have h3 := pmW_take hp
    omega
  clear hk ho hr hw
  go_enter Tryz.func29, Tryz.ntmps29
  go_wp2_with fail
  go_loopg [3, 4] ps.length (fun kx s3 s4 wr => ∃ (i : Nat) (S : ByteArray), s3 = .string S ∧ s4 = .int .i64 i ∧ i ≤ ps.length ∧ ps.length - i ≤ kx ∧ Aside (S.data.toList = joinL ((ps.take i).map Pm.txt)) ∧ Aside (Below w.heap.size w wr))
  case atStart => exact ⟨0, _, rfl, rfl, by omega, by omega, rfl, RowKit.Below.refl _ _⟩
  case round =>
    obtain ⟨i, S, rfl, rfl, hi, hg, hs, hb⟩ := hrel
    have HS := Lib.hid hs.out
    have HB := Lib.hid hb.out
    clear hs hb
    have hSs : S.size ≤ 100000000 := by have h := HLEN.out i; rw [← HS.out, ba_len] at h; exact h
    by_cases hil : i < ps.length
    · have hx : ps[i]? = some ps[i] := List.getElem?_eq_getElem hil
      obtain ⟨g, o, rfl, hgW, a0, a1, _, _⟩ := HK.out i _ hx
      have d0 := (HO.out.below HB.out).cell a0
      have d1 := (HO.out.below HB.out).cell a1
      have u0 := Up.cell d0
      have u1 := Up.cell d1
      obtain ⟨hn1, hn2⟩ := HPT.out i _ hx
      have HJ : Hid (∀ (t : List UInt8), (ps[i] : Pm).txt = t → (i = 0 → joinL ((ps.take (i + 1)).map Pm.txt) = t) ∧ (i ≠ 0 → joinL ((ps.take (i + 1)).map Pm.txt) = joinL ((ps.take i).map Pm.txt) ++ ([44, 32] ++ t))) := Lib.hid fun t hte => by
        have e1 : (ps.take (i + 1)).map Pm.txt = (ps.take i).map Pm.txt ++ [t] := by rw [pmap_take hx, hte]
        rw [e1]
        constructor
        · rintro rfl; simp [joinL]
        · intro hne
          exact joinL_snoc t _ (by
            intro h
            have := congrArg List.length h
            simp only [List.length_map, List.length_take, List.length_nil] at this; omega)
      have hi1 : (i : Int) < (ps.length : Int) := by omega
      have hi0 : (0 : Int) ≤ (i : Int) := by omega
      generalize ps[i] = p at *
      obtain ⟨nm, ty⟩ := p
      simp only [Pm.txt] at d0 d1 u0 u1 hn1 hn2 HJ
      have HJ' := Lib.hid (HJ.out _ rfl)
      clear a0 a1 hx HJ
      by_cases h0 : i = 0
      · have hgt : ¬ (0 : Int) < (i : Int) := by omega
        have HS0 : Hid (S.data.toList = []) := Lib.hid (by rw [HS.out, h0]; simp [joinL])
        have FIN : Hid (((S ++ nm ++ ⟨#[58, 32]⟩ ++ ty : ByteArray).data.toList) = joinL ((ps.take (i + 1)).map Pm.txt)) := Lib.hid (by rw [HJ'.out.1 h0]; simp [ba_app, HS0.out])
        clear HJ' HS0 h0
        go_wp2_with fail
        refine wp_region_up (W := wr) (by kernel_rfl) (by kernel_rfl) (RowKit.Below.refl _ _) ?_
        repeat (go_big_quiet_step (fail))
        refine wpQuiet_nil ?_
        rintro _ ⟨x, rfl⟩
        have HX := Lib.hid (HB.out.trans (RowKit.Below.mono x.h HB.out.size))
        go_wp2
        go_roundg (ps.length - (i + 1))
        case measure => omega
        case rel => exact ⟨i + 1, S ++ nm ++ (⟨#[58, 32]⟩ : ByteArray) ++ ty, rfl, by go_num, by omega, Nat.le_refl _, FIN.out, HX.out⟩
      · have hgt : (0 : Int) < (i : Int) := by omega
        have FIN : Hid (((S ++ ⟨#[44, 32]⟩ ++ nm ++ ⟨#[58, 32]⟩ ++ ty : ByteArray).data.toList) = joinL ((ps.take (i + 1)).map Pm.txt)) := Lib.hid (by rw [HJ'.out.2 h0]; simp [ba_app, HS.out])
        clear HJ' h0
        go_wp2_with fail
        refine wp_region_up (W := wr) (by kernel_rfl) (by kernel_rfl) (RowKit.Below.refl _ _) ?_
        repeat (go_big_quiet_step (fail))
        refine wpQuiet_nil ?_
        rintro _ ⟨x, rfl⟩
        have HX := Lib.hid (HB.out.trans (RowKit.Below.mono x.h HB.out.size))
        go_wp2
        go_roundg (ps.length - (i + 1))
        case measure => omega
        case rel => exact ⟨i + 1, S ++ (⟨#[44, 32]⟩ : ByteArray) ++ nm ++ (⟨#[58, 32]⟩ : ByteArray) ++ ty, rfl, by go_num, by omega, Nat.le_refl _, FIN.out, HX.out⟩
    · obtain rfl : i = ps.length := by omega
      have FIN : Hid (S = ⟨(joinL (ps.map Pm.txt)).toArray⟩) := Lib.hid (ba_ext (by rw [HS.out, List.take_length]))
      go_wp2
      go_ret
      exact ⟨by rw [FIN.out]; rfl, HB.out⟩
end Go.Proofs.YtggjeecpadnihaaGreatDoor

namespace Go.Proofs.YtggjeecpadnihaaGreatDoor
open Go Go.Proofs Go.Eng Go.RowKit Go.Sx Go.Deep
set_option linter.unusedVariables false
set_option linter.unusedSimpArgs false

def RRight (W : World) (l : List Smt) : Prop := ∀ (so : Option Addr) (cap : Nat) (w : World), StsIn W l so 0 → l.length ≤ 9223372036854775807 → Old W w →
  Calls Tryz.prog 60 #[.slice so l.length cap] w fun e' w' => e' = .returned (.bool (rightS l)) ∧ Below w.heap.size w w'
theorem i_zero (m : Nat) : decide (m = 0) = ((m : Int) == 0) := by rw [Bool.eq_iff_iff]; simp
theorem i_one (m : Nat) : decide (m = 1) = ((m : Int) == 1) := by rw [Bool.eq_iff_iff]; simp; omega
theorem i_two (m : Nat) : decide (m = 2) = ((m : Int) == 2) := by rw [Bool.eq_iff_iff]; simp; omega
theorem i_le1 (m : Nat) : decide (m ≤ 1) = decide ((m : Int) ≤ 1) := by rw [Bool.eq_iff_iff]; simp; omega

set_option maxRecDepth 100000 in
set_option maxHeartbeats 8000000 in
theorem rrightStmt_any {W : World} (x : Smt) (Hb : RRight W x.body) (He : RRight W x.els) (cs : List Value) (w : World) (hin : StIn W x cs) (hw : Old W w) :
    Calls Tryz.prog 85 #[.agg ⟨cs⟩] w fun e' w' => e' = .returned (.bool x.right) ∧ Below w.heap.size w w' := by
  obtain ⟨k, s, es, body, els, line⟩ := x
  simp only [StIn] at hin
  obtain ⟨so1, p1, so2, p2, so3, p3, rfl, ⟨_, hl1, hl2, hl3⟩, hk, hsb, hse⟩ := hin
  have HK := Lib.hid (kids_at0 hk)
  obtain ⟨W1, hW1⟩ : ∃ W1, W1 = w.alloc (.cells #[.int .i64 k, .string s, .slice so1 es.length p1, .slice so2 body.length p2, .slice so3 els.length p3, .int .i64 line] 103) := ⟨_, rfl⟩
  have hb1 : Below w.heap.size w W1 := by rw [hW1]; exact (RowKit.Below.refl _ _).alloc (Nat.le_refl _) _
  have hrow : W1.heap[w.heap.size]? = some (.cells #[.int .i64 k, .string s, .slice so1 es.length p1, .slice so2 body.length p2, .slice so3 els.length p3, .int .i64 line] 103 (0, 0)) := by rw [hW1]; exact heap_alloc_new _ _
  have HB1 := Lib.hid hb1
  have HROW := Lib.hid hrow
  have HOLD : Hid (∀ w', Below W1.heap.size W1 w' → Old W w') := Lib.hid fun w' hb => (hw.below hb1).below hb
  have HCB := Lib.hid (fun w' (hb : Below W1.heap.size W1 w') => Hb so2 p2 w' hsb hl2 (HOLD.out w' hb))
  have HCE := Lib.hid (fun w' (hb : Below W1.heap.size W1 w') => He so3 p3 w' hse hl3 (HOLD.out w' hb))
  simp only [Smt.body, Smt.els] at HCB HCE
  have HLT : Hid (w.heap.size < W1.heap.size) := Lib.hid (Array.getElem?_eq_some_iff.1 hrow).1
  have HCELL : Hid (∀ w', Below W1.heap.size W1 w' → w'.cell? ⟨w.heap.size, 0, none⟩ = some (.int .i64 k) ∧ w'.cell? ⟨w.heap.size, 1, none⟩ = some (.string s) ∧ w'.cell? ⟨w.heap.size, 2, none⟩ = some (.slice so1 es.length p1) ∧ w'.cell? ⟨w.heap.size, 3, none⟩ = some (.slice so2 body.length p2) ∧ w'.cell? ⟨w.heap.size, 4, none⟩ = some (.slice so3 els.length p3) ∧ w'.cell? ⟨w.heap.size, 5, none⟩ = some (.int .i64 line)) :=
    Lib.hid fun w' hb => st_cells ((hb.block _ HLT.out).trans HROW.out)
  have HRR : Hid ((Smt.mk k s es body els line).right = (rightL es && (rightS body && rightS els) && rightSK k s es body.length els.length)) := Lib.hid (by simp [Smt.right])
  clear hk hsb hse hw Hb He hb1 hrow
  go_enter Tryz.func85, Tryz.ntmps85
  go_wp2_with fail
  rw [← hW1]
  clear hW1
  go_wp2_with fail
  go_loopg [3] es.length (fun kx s3 wr => ∃ i : Nat, s3 = .int .i64 i ∧ i ≤ es.length ∧ es.length - i ≤ kx ∧ Aside (rightL (es.take i) = true) ∧ Aside (Below W1.heap.size W1 wr))
  case atStart => exact ⟨0, rfl, by omega, by omega, rfl, RowKit.Below.refl _ _⟩
  case round =>
    obtain ⟨i, rfl, hi, hg, hf, hb⟩ := hrel
    have HF := Lib.hid hf.out
    have HB := Lib.hid hb.out
    clear hb hf
    obtain ⟨c0, c1, c2, c3, c4, c5⟩ := HCELL.out _ HB.out
    by_cases hil : i < es.length
    · have hx : es[i]? = some es[i] := List.getElem?_eq_getElem hil
      obtain ⟨g, o, so', cap', rfl, a0, a1, a2, a3, a4, ht⟩ := kid_cells (HK.out i _ hx) (HOLD.out _ HB.out)
      have HCALL := Lib.hid (rright_any W _ es[i] _ rfl ht wr (HOLD.out _ HB.out))
      have HT := Lib.hid (rightL_take hx HF.out)
      have HFF : Hid ((es[i] : Ex).right = false → (Smt.mk k s es body els line).right = false) := Lib.hid fun h => by rw [HRR.out, rightL_false hx h]; rfl
      have hi1 : (i : Int) < (es.length : Int) := by omega
      have hi0 : (0 : Int) ≤ (i : Int) := by omega
      generalize es[i] = kd at *
      obtain ⟨k', s', n', kids', line'⟩ := kd
      simp only [Ex.kind, Ex.str, Ex.num, Ex.kids, Ex.line] at a0 a1 a2 a3 a4 HCALL
      generalize (Ex.mk k' s' n' kids' line').right = rk at *
      clear ht hx c0 c1 c3 c4 c5
      cases rk with
      | false =>
        go_wp2_with (go_at_call 21; (with_reducible refine HCALL.out.mono ?_); rintro e w2 ⟨rfl, hb2⟩)
        go_ret
        exact ⟨by rw [HFF.out (by first | trivial | rfl)]; rfl, HB1.out.trans (RowKit.Below.mono (HB.out.trans (RowKit.Below.mono hb2 HB.out.size)) HB1.out.size)⟩
      | true =>
        go_wp2_with (go_at_call 21; (with_reducible refine HCALL.out.mono ?_); rintro e w2 ⟨rfl, hb2⟩)
        have HB2 : Hid (Below W1.heap.size W1 w2) := Lib.hid (HB.out.trans (RowKit.Below.mono hb2 HB.out.size))
        go_roundg (es.length - (i + 1))
        case measure => omega
        case rel => exact ⟨i + 1, by go_num, by omega, Nat.le_refl _, HT.out, HB2.out⟩
    · obtain rfl : i = es.length := by omega
      have HRK : Hid ((Smt.mk k s es body els line).right = ((rightS body && rightS els) && rightSK k s es body.length els.length)) := Lib.hid (by
        have h := HF.out
        rw [List.take_length] at h
        rw [HRR.out, h, Bool.true_and])
      clear HRR HF
      generalize rightS body = ob at *
      generalize rightS els = oe at *
      have hcallb := HCB.out wr HB.out
      cases ob with
      | false =>
        go_wp2_with (go_at_call 60; (with_reducible refine hcallb.mono ?_); rintro e w2 ⟨rfl, hb2⟩)
        go_ret
        exact ⟨by rw [HRK.out]; rfl, HB1.out.trans (RowKit.Below.mono (HB.out.trans (RowKit.Below.mono hb2 HB.out.size)) HB1.out.size)⟩
      | true =>
      have HCALLB := Lib.hid hcallb
      clear hcallb
      go_wp2_with fail
      go_at_call 60
      refine HCALLB.out.mono ?_
      rintro e w2 ⟨rfl, hb2⟩
      have HB2 : Hid (Below W1.heap.size W1 w2) := Lib.hid (HB.out.trans (RowKit.Below.mono hb2 HB.out.size))
      clear hb2 c0 c1 c2 c3 c4 c5 HCALLB
      obtain ⟨c0, c1, c2, c3, c4, c5⟩ := HCELL.out _ HB2.out
      have hcalle := HCE.out w2 HB2.out
      simp only
      cases oe with
      | false =>
        go_wp2_with (go_at_call 60; (with_reducible refine hcalle.mono ?_); rintro e w3 ⟨rfl, hb3⟩)
        go_ret
        exact ⟨by rw [HRK.out]; rfl, HB1.out.trans (RowKit.Below.mono (HB2.out.trans (RowKit.Below.mono hb3 HB2.out.size)) HB1.out.size)⟩
      | true =>
      have HCALLE := Lib.hid hcalle
      clear hcalle
      go_wp2_with fail
      go_at_call 60
      refine HCALLE.out.mono ?_
      rintro e w3 ⟨rfl, hb3⟩
      have HB3 : Hid (Below W1.heap.size W1 w3) := Lib.hid (HB2.out.trans (RowKit.Below.mono hb3 HB2.out.size))
      clear hb3 c0 c1 c2 c3 c4 c5 HCALLE
      obtain ⟨c0, c1, c2, c3, c4, c5⟩ := HCELL.out _ HB3.out
      have u2 := Up.cell c2
      have u3 := Up.cell c3
      have u4 := Up.cell c4
      have HRK2 : Hid ((Smt.mk k s es body els line).right = rightSK k s es body.length els.length) := Lib.hid (by rw [HRK.out]; rfl)
      clear HRK HCB HCE HB HB2
      have HB2 := Lib.hid (i_zero body.length)
      have HB3' := Lib.hid (i_zero els.length)
      have HE1 := Lib.hid (i_one es.length)
      have HE2 := Lib.hid (i_two es.length)
      have HL1 := Lib.hid (i_le1 es.length)
      simp only
      generalize hq2 : ((body.length : Int) == 0) = b2 at *
      generalize hq3 : ((els.length : Int) == 0) = b3 at *
      have HS0 := Lib.hid (size_empty s)
      cases b2 <;> cases b3
      all_goals
        go_wp2_with fail
        refine wp_region_up (W := w3) (by kernel_rfl) (by kernel_rfl) (RowKit.Below.refl _ _) ?_
        repeat (go_big_quiet_step (fail))
        refine wpQuiet_nil ?_
        rintro _ ⟨x, rfl⟩
        have HB4 : Hid (Below W1.heap.size W1 x.w) := Lib.hid (HB3.out.trans (RowKit.Below.mono x.h HB3.out.size))
        have FIN : Hid (∀ w', Below x.w.heap.size x.w w' → Below w.heap.size w w') := Lib.hid fun w' h => HB1.out.trans (RowKit.Below.mono (HB4.out.trans (RowKit.Below.mono h HB4.out.size)) HB1.out.size)
        have FIN0 : Hid (Below w.heap.size w x.w) := Lib.hid (FIN.out _ (RowKit.Below.refl _ _))
        have HOLD4 : Hid (Old W x.w) := Lib.hid (HOLD.out _ HB4.out)
        obtain ⟨d0, d1, d2, d3, d4, d5⟩ := HCELL.out _ HB4.out
        generalize x.w = wx at *
        clear c0 c1 c2 c3 c4 c5 u2 u3 u4
        by_cases h1 : k = 1
        · subst h1
          have HRX := HRK2.out
          unfold rightSK at HRX
          rw [if_pos rfl, HB2.out, HB3'.out, HE1.out] at HRX
          have HRY := Lib.hid HRX
          clear HRX HRK2
          generalize hgnb : nameB s = nb at *
          generalize hge1 : ((es.length : Int) == 1) = e1 at *
          cases nb <;> cases e1 <;>
          (go_wp2_with (go_at_call 48; (with_reducible refine (hgnb ▸ rname_any s _).mono ?_); rintro e w4 ⟨rfl, hb4⟩)
           go_ret
           exact ⟨by rw [HRY.out]; rfl, FIN.out _ hb4⟩)
        have HBARE : Hid (True) := Lib.hid trivial
        by_cases h2 : k = 2
        · subst h2
          have HRX := HRK2.out
          unfold rightSK at HRX
          rw [if_neg (by omega), if_pos rfl, HB2.out, HB3'.out, HE2.out, HS0.out] at HRX
          have HRY := Lib.hid HRX
          clear HRX HRK2
          by_cases hall : (s.toList.isEmpty && ((es.length : Int) == 2)) = true
          · have h2e : es.length = 2 := by
              simp only [Bool.and_eq_true, beq_iff_eq] at hall
              omega
            obtain ⟨xx, yy, rfl⟩ := two_kids h2e
            obtain ⟨g, o, so', cap', rfl, a0, a1, a2, a3, a4, _⟩ := kid_cells (HK.out 0 xx rfl) HOLD4.out
            simp only [Nat.zero_mul, Nat.add_zero] at a0
            have hpl : placeB [xx, yy] = isPlace xx.kind := rfl
            have HRZ := Lib.hid HRY.out
            rw [hpl] at HRZ
            unfold isPlace at HRZ
            clear HRY hpl a1 a2 a3 a4 h2e HE1 HE2 HL1
            generalize hgs : s.toList.isEmpty = s0 at *
            generalize xx.kind = kk at *
            generalize hz4 : (kk == 4) = z4 at *
            generalize hz8 : (kk == 8) = z8 at *
            generalize hz9 : (kk == 9) = z9 at *
            cases s0 <;> cases z4 <;> cases z8 <;> cases z9 <;>
            (go_wp2
             go_ret
             exact ⟨by rw [HRZ.out]; rfl, FIN0.out⟩)
          · have hf := Bool.eq_false_iff.2 hall
            have HRZ : Hid ((Smt.mk 2 s es body els line).right = false) := Lib.hid (by rw [HRY.out]; revert hf; generalize s.toList.isEmpty = q1; generalize ((es.length : Int) == 2) = q2; generalize placeB es = q3; cases q1 <;> cases q2 <;> cases q3 <;> simp)
            clear HRY hall
            generalize hgs : s.toList.isEmpty = s0 at *
            generalize hge : ((es.length : Int) == 2) = e2 at *
            cases s0 <;> cases e2 <;>
            (first
              | (exfalso; revert hf; decide)
              | (go_wp2
                 go_ret
                 exact ⟨by rw [HRZ.out]; rfl, FIN0.out⟩))
        by_cases h3 : k = 3
        · subst h3
          have HRX := HRK2.out
          unfold rightSK at HRX
          rw [if_neg (by omega), if_neg (by omega), if_pos (by omega), HB3'.out, HE1.out, HS0.out] at HRX
          have HRY := Lib.hid HRX
          clear HRX HRK2
          generalize hgs0 : s.toList.isEmpty = s0 at *
          generalize hge1 : ((es.length : Int) == 1) = e1 at *
          cases s0 <;> cases e1 <;>
          (go_wp2
           go_ret
           exact ⟨by rw [HRY.out]; rfl, FIN0.out⟩)
        by_cases h5 : k = 5
        · subst h5
          have HRX := HRK2.out
          unfold rightSK at HRX
          rw [if_neg (by omega), if_neg (by omega), if_pos (by omega), HB3'.out, HE1.out, HS0.out] at HRX
          have HRY := Lib.hid HRX
          clear HRX HRK2
          generalize hgs0 : s.toList.isEmpty = s0 at *
          generalize hge1 : ((es.length : Int) == 1) = e1 at *
          cases s0 <;> cases e1 <;>
          (go_wp2
           go_ret
           exact ⟨by rw [HRY.out]; rfl, FIN0.out⟩)
        by_cases h4 : k = 4
        · subst h4
          have HRX := HRK2.out
          unfold rightSK at HRX
          rw [if_neg (by omega), if_neg (by omega), if_neg (by omega), if_pos rfl, HE1.out, HS0.out] at HRX
          have HRY := Lib.hid HRX
          clear HRX HRK2
          generalize hgs0 : s.toList.isEmpty = s0 at *
          generalize hge1 : ((es.length : Int) == 1) = e1 at *
          cases s0 <;> cases e1 <;>
          (go_wp2
           go_ret
           exact ⟨by rw [HRY.out]; rfl, FIN0.out⟩)
        by_cases h6 : k = 6
        · subst h6
          have HRX := HRK2.out
          unfold rightSK at HRX
          rw [if_neg (by omega), if_neg (by omega), if_neg (by omega), if_neg (by omega), if_pos rfl, HB2.out, HB3'.out, HL1.out, HS0.out] at HRX
          have HRY := Lib.hid HRX
          clear HRX HRK2
          generalize hgs0 : s.toList.isEmpty = s0 at *
          generalize hgl1 : decide ((es.length : Int) ≤ 1) = l1 at *
          cases s0 <;> cases l1 <;>
          (go_wp2
           go_ret
           exact ⟨by rw [HRY.out]; rfl, FIN0.out⟩)
        by_cases h7 : k = 7
        · subst h7
          have HRX := HRK2.out
          unfold rightSK at HRX
          rw [if_neg (by omega), if_neg (by omega), if_neg (by omega), if_neg (by omega), if_neg (by omega), if_pos rfl, HB2.out, HB3'.out, HE1.out, HS0.out] at HRX
          have HRY := Lib.hid HRX
          clear HRX HRK2
          generalize hgs0 : s.toList.isEmpty = s0 at *
          generalize hge1 : ((es.length : Int) == 1) = e1 at *
          cases s0 <;> cases e1 <;>
          (go_wp2
           go_ret
           exact ⟨by rw [HRY.out]; rfl, FIN0.out⟩)
        have HRX := HRK2.out
        unfold rightSK at HRX
        rw [if_neg h1, if_neg h2, if_neg (by omega), if_neg h4, if_neg h6, if_neg h7] at HRX
        have HRY := Lib.hid HRX
        clear HRX HRK2
        have g1 : (k == 1) = false := beq_eq_false_iff_ne.2 h1
        have g2 : (k == 2) = false := beq_eq_false_iff_ne.2 h2
        have g3 : (k == 3) = false := beq_eq_false_iff_ne.2 h3
        have g4 : (k == 4) = false := beq_eq_false_iff_ne.2 h4
        have g5 : (k == 5) = false := beq_eq_false_iff_ne.2 h5
        have g6 : (k == 6) = false := beq_eq_false_iff_ne.2 h6
        have g7 : (k == 7) = false := beq_eq_false_iff_ne.2 h7
        clear h1 h2 h3 h4 h5 h6 h7
        generalize q1 : (k == 1) = z1 at *
        subst g1
        generalize q2 : (k == 2) = z2 at *
        subst g2
        generalize q3 : (k == 3) = z3 at *
        subst g3
        generalize q4 : (k == 4) = z4 at *
        subst g4
        generalize q5 : (k == 5) = z5 at *
        subst g5
        generalize q6 : (k == 6) = z6 at *
        subst g6
        generalize q7 : (k == 7) = z7 at *
        subst g7
        go_wp2
        go_ret
        exact ⟨by rw [HRY.out]; rfl, FIN0.out⟩

set_option maxRecDepth 100000 in
set_option maxHeartbeats 1000000 in
theorem rrightAll_any (W : World) : ∀ (m : Nat) (l : List Smt), cntS l = m → RRight W l := by
  intro m
  induction m using Nat.strongRecOn with
  | ind m ih =>
  intro l he so cap w hin hl hw
  have HK := Lib.hid (sts_at0 hin)
  have HDO : Hid (∀ (i : Nat) (x : Smt), l[i]? = some x → ∀ cs w, StIn W x cs → Old W w → Calls Tryz.prog 85 #[.agg ⟨cs⟩] w fun e' w' => e' = .returned (.bool x.right) ∧ Below w.heap.size w w') := Lib.hid fun i x hx cs w h1 h2 => by
    have hc := cntS_get hx
    refine rrightStmt_any x ?_ ?_ cs w h1 h2
    · obtain ⟨k, s, es, body, els, line⟩ := x
      simp only [Smt.cnt] at hc
      exact ih (cntS body) (by omega) body rfl
    · obtain ⟨k, s, es, body, els, line⟩ := x
      simp only [Smt.cnt] at hc
      exact ih (cntS els) (by omega) els rfl
  have HW := Lib.hid hw
  clear hin ih hw
  go_enter Tryz.func60, Tryz.ntmps60
  go_wp2_with fail
  go_loopg [3] l.length (fun kx s3 wr => ∃ i : Nat, s3 = .int .i64 i ∧ i ≤ l.length ∧ l.length - i ≤ kx ∧ Aside (rightS (l.take i) = true) ∧ Aside (Below w.heap.size w wr))
  case atStart => exact ⟨0, rfl, by omega, by omega, rfl, RowKit.Below.refl _ _⟩
  case round =>
    obtain ⟨i, rfl, hi, hg, hf, hb⟩ := hrel
    have HF := Lib.hid hf.out
    have HB := Lib.hid hb.out
    clear hb hf
    by_cases hil : i < l.length
    · have hx : l[i]? = some l[i] := List.getElem?_eq_getElem hil
      obtain ⟨g, o, so1, p1, so2, p2, so3, p3, rfl, a0, a1, a2, a3, a4, a5, ht⟩ := st_open (HK.out i _ hx) (HW.out.below HB.out)
      have HCALL := Lib.hid (HDO.out i _ hx _ wr ht (HW.out.below HB.out))
      have HT := Lib.hid (rightS_take hx HF.out)
      have HFF := Lib.hid (fun h => rightS_false hx h)
      have hi1 : (i : Int) < (l.length : Int) := by omega
      have hi0 : (0 : Int) ≤ (i : Int) := by omega
      generalize l[i] = x at *
      obtain ⟨k', s', es', body', els', line'⟩ := x
      simp only [Smt.kind, Smt.str, Smt.es, Smt.body, Smt.els, Smt.line] at a0 a1 a2 a3 a4 a5 HCALL
      generalize (Smt.mk k' s' es' body' els' line').right = rk at *
      clear ht hx
      cases rk with
      | false =>
        go_wp2_with (go_at_call 85; (with_reducible refine HCALL.out.mono ?_); rintro e w2 ⟨rfl, hb2⟩)
        go_ret
        exact ⟨by rw [HFF.out (by first | trivial | rfl)]; rfl, HB.out.trans (RowKit.Below.mono hb2 HB.out.size)⟩
      | true =>
        go_wp2_with (go_at_call 85; (with_reducible refine HCALL.out.mono ?_); rintro e w2 ⟨rfl, hb2⟩)
        have HB2 : Hid (Below w.heap.size w w2) := Lib.hid (HB.out.trans (RowKit.Below.mono hb2 HB.out.size))
        go_roundg (l.length - (i + 1))
        case measure => omega
        case rel => exact ⟨i + 1, by go_num, by omega, Nat.le_refl _, HT.out, HB2.out⟩
    · obtain rfl : i = l.length := by omega
      have HR : Hid (rightS l = true) := Lib.hid (by have h := HF.out; rwa [List.take_length] at h)
      go_wp2
      go_ret
      exact ⟨by rw [HR.out]; rfl, HB.out⟩
end Go.Proofs.YtggjeecpadnihaaGreatDoor

namespace Go.Proofs.YtggjeecpadnihaaGreatDoor
open Go Go.Proofs Go.Eng Go.RowKit Go.Sx Go.Deep
set_option linter.unusedVariables false
set_option linter.unusedSimpArgs false

/-- A text, as the other side makes it. -/
def RTxts (W : World) (l : List Smt) : Prop := ∀ (so : Option Addr) (cap : Nat) (w : World), StsIn W l so 0 → l.length ≤ 9223372036854775807 → Old W w →
  Calls Tryz.prog 30 #[.slice so l.length cap] w fun e' w' => e' = .returned (.string ⟨(txtS l).toArray⟩) ∧ Below w.heap.size w w'
theorem rightK_shape {k : Int} {s : ByteArray} {es : List Ex} {b e : Nat} (h : rightSK k s es b e = true) :
    (k = 1 ∧ es.length = 1 ∧ s.size ≤ 255) ∨ (k = 2 ∧ es.length = 2) ∨ (k = 3 ∧ es.length = 1) ∨ (k = 4 ∧ es.length = 1) ∨ (k = 5 ∧ es.length = 1) ∨ (k = 6 ∧ es.length ≤ 1) ∨ (k = 7 ∧ es.length = 1) := by
  unfold rightSK at h
  by_cases h1 : k = 1
  · rw [if_pos h1] at h
    simp only [Bool.and_eq_true, decide_eq_true_eq] at h
    have := name_le h.1.1
    rw [ba_len] at this
    exact .inl ⟨h1, h.1.2, by omega⟩
  rw [if_neg h1] at h
  by_cases h2 : k = 2
  · rw [if_pos h2] at h
    simp only [Bool.and_eq_true, decide_eq_true_eq] at h
    exact .inr (.inl ⟨h2, h.1.1.2⟩)
  rw [if_neg h2] at h
  by_cases h3 : k = 3 ∨ k = 5
  · rw [if_pos h3] at h
    simp only [Bool.and_eq_true, decide_eq_true_eq] at h
    rcases h3 with h3 | h3
    · exact .inr (.inr (.inl ⟨h3, h.1.2⟩))
    · exact .inr (.inr (.inr (.inr (.inl ⟨h3, h.1.2⟩))))
  rw [if_neg h3] at h
  by_cases h4 : k = 4
  · rw [if_pos h4] at h
    simp only [Bool.and_eq_true, decide_eq_true_eq] at h
    exact .inr (.inr (.inr (.inl ⟨h4, h.2⟩)))
  rw [if_neg h4] at h
  by_cases h6 : k = 6
  · rw [if_pos h6] at h
    simp only [Bool.and_eq_true, decide_eq_true_eq] at h
    exact .inr (.inr (.inr (.inr (.inr (.inl ⟨h6, h.1.2⟩)))))
  rw [if_neg h6] at h
  by_cases h7 : k = 7
  · rw [if_pos h7] at h
    simp only [Bool.and_eq_true, decide_eq_true_eq] at h
    exact .inr (.inr (.inr (.inr (.inr (.inr ⟨h7, h.1.2⟩)))))
  rw [if_neg h7] at h
  cases h

set_option maxRecDepth 100000 in
set_option maxHeartbeats 8000000 in
theorem rstmts_any (W : World) : ∀ (m : Nat) (l : List Smt), cntS l = m → m ≤ 4096 → rightS l = true → RTxts W l := by
  intro m
  induction m using Nat.strongRecOn with
  | ind m ih =>
  intro l he hm hr so cap w hin hl hw
  have HK := Lib.hid (sts_at0 hin)
  have HLEN : Hid (∀ i, (txtS (l.take i)).length ≤ 5000000) := Lib.hid fun i => by
    have h1 := txtS_len_take hin (i := i) (rightS_iff.2 fun x hx => rightS_iff.1 hr x (List.mem_of_mem_take hx))
    have h2 : cntS (l.take i) + cntS (l.drop i) = cntS l := by rw [← cntS_app, List.take_append_drop]
    omega
  -- a statement's parts
  have HPART : Hid (∀ (i : Nat) (x : Smt), l[i]? = some x → (∀ (j : Nat) e, x.es[j]? = some e → RText W e ∧ e.txt.length ≤ 5000000) ∧ RTxts W x.body ∧ RTxts W x.els ∧ (txtS x.body).length ≤ 5000000 ∧ (txtS x.els).length ≤ 5000000 ∧ rightSK x.kind x.str x.es x.body.length x.els.length = true) := Lib.hid fun i x hx => by
    have hc := cntS_get hx
    have hxr := rightS_iff.1 hr x (List.mem_of_getElem? hx)
    obtain ⟨g, o, c0, c1, c2, c3, c4, c5, _, _, _, _, _, _, _, _, hxi⟩ := HK.out i x hx
    obtain ⟨k, s, es, body, els, line⟩ := x
    simp only [Smt.cnt] at hc
    simp only [Smt.right, Bool.and_eq_true] at hxr
    simp only [StIn] at hxi
    obtain ⟨so1, p1, so2, p2, so3, p3, _, _, hk, hb, hel⟩ := hxi
    obtain ⟨⟨r1, r2, r3⟩, r4⟩ := hxr
    have lb := txtS_len hb r2
    have le := txtS_len hel r3
    refine ⟨fun j e hj => ?_, ih (cntS body) (by omega) body rfl (by omega) r2, ih (cntS els) (by omega) els rfl (by omega) r3, by show (txtS body).length ≤ _; omega, by show (txtS els).length ≤ _; omega, r4⟩
    have hj' : es[j]? = some e := hj
    have h1 := cntL_get hj'
    have h2 := rightL_iff.1 r1 e (List.mem_of_getElem? hj')
    obtain ⟨g, o, c0, c1, c2, c3, c4, _, _, _, _, _, _, _, h5⟩ := kids_at0 hk j e hj'
    have h3 := txt_len _ e _ rfl h5 h2
    exact ⟨rtext_any W _ e rfl (by omega) h2, by omega⟩
  have HW := Lib.hid hw
  clear hin ih hw hr
  go_enter Tryz.func30, Tryz.ntmps30
  go_wp2_with fail
  go_loopg [3, 4] l.length (fun kx s3 s4 wr => ∃ (i : Nat) (S : ByteArray), s3 = .string S ∧ s4 = .int .i64 i ∧ i ≤ l.length ∧ l.length - i ≤ kx ∧ Aside (S.data.toList = txtS (l.take i)) ∧ Aside (Below w.heap.size w wr))
  case atStart => exact ⟨0, _, rfl, rfl, by omega, by omega, rfl, RowKit.Below.refl _ _⟩
  case round =>
    obtain ⟨i, S, rfl, rfl, hi, hg, hs, hb⟩ := hrel
    have HS := Lib.hid hs.out
    have HB := Lib.hid hb.out
    clear hs hb
    have hSs : S.size ≤ 5000000 := by have h := HLEN.out i; rw [← HS.out, ba_len] at h; exact h
    by_cases hil : i < l.length
    · have hx : l[i]? = some l[i] := List.getElem?_eq_getElem hil
      obtain ⟨g, o, so1, p1, so2, p2, so3, p3, rfl, a0, a1, a2, a3, a4, a5, ht⟩ := st_open (HK.out i _ hx) (HW.out.below HB.out)
      obtain ⟨hp1, hp2, hp3, hp4, hp5, hp6⟩ := HPART.out i _ hx
      have HMT : Hid (∀ t, (l[i] : Smt).txt = t → txtS (l.take (i + 1)) = txtS (l.take i) ++ t) := Lib.hid fun t h => by rw [txtS_take hx, h]
      have hi1 : (i : Int) < (l.length : Int) := by omega
      have hi0 : (0 : Int) ≤ (i : Int) := by omega
      generalize l[i] = x at *
      obtain ⟨k, s, es, body, els, line⟩ := x
      simp only [StIn] at ht
      obtain ⟨_, _, _, _, _, _, hcs, ⟨_, hl1, hl2, hl3⟩, hkk, hsb, hse⟩ := ht
      simp only [Smt.kind, Smt.str, Smt.es, Smt.body, Smt.els, Smt.line, List.cons.injEq, Value.slice.injEq, and_true, true_and] at a0 a1 a2 a3 a4 a5 hcs hp1 hp2 hp3 hp4 hp5 hp6
      obtain ⟨⟨rfl, rfl⟩, ⟨rfl, rfl⟩, rfl, rfl⟩ := hcs
      have HMT2 := Lib.hid (HMT.out _ rfl)
      simp only [Smt.txt] at HMT2
      obtain ⟨W2, hW2⟩ : ∃ W2, W2 = wr.alloc (.cells #[.int .i64 k, .string s, .slice so1 es.length p1, .slice so2 body.length p2, .slice so3 els.length p3, .int .i64 line] 103) := ⟨_, rfl⟩
      have hb2 : Below wr.heap.size wr W2 := by rw [hW2]; exact (RowKit.Below.refl _ _).alloc (Nat.le_refl _) _
      have hrow2 : W2.heap[wr.heap.size]? = some (.cells #[.int .i64 k, .string s, .slice so1 es.length p1, .slice so2 body.length p2, .slice so3 els.length p3, .int .i64 line] 103 (0, 0)) := by rw [hW2]; exact heap_alloc_new _ _
      have HB2 := Lib.hid (HB.out.trans (RowKit.Below.mono hb2 HB.out.size))
      have HROW2 := Lib.hid hrow2
      have hold2 : Old W W2 := HW.out.below HB2.out
      have HOLD : Hid (∀ w', Below W2.heap.size W2 w' → Old W w') := Lib.hid fun w' hb => hold2.below hb
      have HCB := Lib.hid (fun w' (hb : Below W2.heap.size W2 w') => hp2 so2 p2 w' hsb hl2 (HOLD.out w' hb))
      have HCE := Lib.hid (fun w' (hb : Below W2.heap.size W2 w') => hp3 so3 p3 w' hse hl3 (HOLD.out w' hb))
      generalize htb : txtS body = tb at *
      generalize hte : txtS els = te at *
      obtain ⟨Tb, hTb⟩ : ∃ T : ByteArray, T = ⟨tb.toArray⟩ := ⟨_, rfl⟩
      have hTbs : Tb.size ≤ 5000000 := by rw [hTb]; show tb.toArray.size ≤ _; simpa using hp4
      have HTB : Hid (Tb.data.toList = tb) := Lib.hid (by rw [hTb])
      rw [← hTb] at HCB
      obtain ⟨Te, hTe⟩ : ∃ T : ByteArray, T = ⟨te.toArray⟩ := ⟨_, rfl⟩
      have hTes : Te.size ≤ 5000000 := by rw [hTe]; show te.toArray.size ≤ _; simpa using hp5
      have HTE : Hid (Te.data.toList = te) := Lib.hid (by rw [hTe])
      rw [← hTe] at HCE
      obtain ⟨c0, c1, c2, c3, c4, c5⟩ := st_cells hrow2
      have u1 := Up.cell c1
      have u2 := Up.cell c2
      have u3 := Up.cell c3
      have u4 := Up.cell c4
      have HSHAPE := Lib.hid (rightK_shape hp6)
      have HKK := Lib.hid (kids_at0 hkk)
      have HP1 := Lib.hid hp1
      clear hp1 hp2 hp3 hp4 hp5 hp6 hTb hTe htb hte hsb hse hkk hb2 hrow2 hx HMT
      rcases HSHAPE.out with ⟨rfl, hes, hsz⟩ | ⟨rfl, hes⟩ | ⟨rfl, hes⟩ | ⟨rfl, hes⟩ | ⟨rfl, hes⟩ | ⟨rfl, hes⟩ | ⟨rfl, hes⟩
      · obtain ⟨xa, rfl⟩ := one_kid hes
        obtain ⟨ga, oa, soa, capa, rfl, a0, a1, a2, a3, a4, hta⟩ := kid_cells (HKK.out 0 xa rfl) hold2
        simp only [Nat.zero_mul, Nat.add_zero] at a0 a1 a2 a3 a4
        obtain ⟨hqa, hza⟩ := HP1.out 0 xa rfl
        have HCa := Lib.hid (fun w' (hb : Below W2.heap.size W2 w') => hqa _ w' hta (HOLD.out w' hb))
        have ua0 := Up.cell a0
        have ua1 := Up.cell a1
        have ua2 := Up.cell a2
        have ua3 := Up.cell a3
        have ua4 := Up.cell a4
        generalize hxa : xa.txt = ta at *
        obtain ⟨Ta, hTa⟩ : ∃ T : ByteArray, T = ⟨ta.toArray⟩ := ⟨_, rfl⟩
        have hTsa : Ta.size ≤ 5000000 := by rw [hTa]; show ta.toArray.size ≤ _; simpa using hza
        have HTa : Hid (Ta.data.toList = ta) := Lib.hid (by rw [hTa])
        rw [← hTa] at HCa
        have HXa := Lib.hid hxa
        clear hTa hxa hta hqa hza
        have FIN : Hid ((S ++ (⟨#[108, 101, 116, 32]⟩ : ByteArray) ++ s ++ (⟨#[32, 61, 32]⟩ : ByteArray) ++ Ta ++ (⟨#[59, 10]⟩ : ByteArray) : ByteArray).data.toList = txtS (l.take (i + 1))) := Lib.hid (by
          rw [HMT2.out]
          simp [txtSK, exT, ba_app, HS.out, HTB.out, HTE.out, HTa.out, HXa.out])
        clear HMT2 HP1 HKK
        simp only [List.length_cons, List.length_nil, Nat.zero_add, Nat.reduceAdd] at hW2
        go_wp2_with fail
        rw [← hW2]
        clear hW2 a0 a1 a2 a3 a4 a5
        go_wp2_with fail
        refine wp_region_up (W := W2) (by kernel_rfl) (by kernel_rfl) (RowKit.Below.refl _ _) ?_
        repeat (go_big_quiet_step (exact Up.call HCa.out _))
        refine wpQuiet_nil ?_
        rintro _ ⟨x, rfl⟩
        have HX := Lib.hid (HB2.out.trans (RowKit.Below.mono x.h HB2.out.size))
        go_wp2
        go_roundg (l.length - (i + 1))
        case measure => omega
        case rel => exact ⟨i + 1, S ++ (⟨#[108, 101, 116, 32]⟩ : ByteArray) ++ s ++ (⟨#[32, 61, 32]⟩ : ByteArray) ++ Ta ++ (⟨#[59, 10]⟩ : ByteArray), rfl, by go_num, by omega, Nat.le_refl _, FIN.out, HX.out⟩
      · obtain ⟨xa, xb, rfl⟩ := two_kids hes
        obtain ⟨ga, oa, soa, capa, rfl, a0, a1, a2, a3, a4, hta⟩ := kid_cells (HKK.out 0 xa rfl) hold2
        simp only [Nat.zero_mul, Nat.add_zero] at a0 a1 a2 a3 a4
        obtain ⟨hqa, hza⟩ := HP1.out 0 xa rfl
        have HCa := Lib.hid (fun w' (hb : Below W2.heap.size W2 w') => hqa _ w' hta (HOLD.out w' hb))
        have ua0 := Up.cell a0
        have ua1 := Up.cell a1
        have ua2 := Up.cell a2
        have ua3 := Up.cell a3
        have ua4 := Up.cell a4
        generalize hxa : xa.txt = ta at *
        obtain ⟨Ta, hTa⟩ : ∃ T : ByteArray, T = ⟨ta.toArray⟩ := ⟨_, rfl⟩
        have hTsa : Ta.size ≤ 5000000 := by rw [hTa]; show ta.toArray.size ≤ _; simpa using hza
        have HTa : Hid (Ta.data.toList = ta) := Lib.hid (by rw [hTa])
        rw [← hTa] at HCa
        have HXa := Lib.hid hxa
        clear hTa hxa hta hqa hza
        obtain ⟨gb, ob, sob, capb, eqb, b0, b1, b2, b3, b4, htb⟩ := kid_cells (HKK.out 1 xb rfl) hold2
        cases eqb
        simp only [Nat.one_mul] at b0 b1 b2 b3 b4
        obtain ⟨hqb, hzb⟩ := HP1.out 1 xb rfl
        have HCb := Lib.hid (fun w' (hb : Below W2.heap.size W2 w') => hqb _ w' htb (HOLD.out w' hb))
        have ub0 := Up.cell b0
        have ub1 := Up.cell b1
        have ub2 := Up.cell b2
        have ub3 := Up.cell b3
        have ub4 := Up.cell b4
        generalize hxb : xb.txt = tb0 at *
        obtain ⟨Tb0, hTb⟩ : ∃ T : ByteArray, T = ⟨tb0.toArray⟩ := ⟨_, rfl⟩
        have hTsb : Tb0.size ≤ 5000000 := by rw [hTb]; show tb0.toArray.size ≤ _; simpa using hzb
        have HTb : Hid (Tb0.data.toList = tb0) := Lib.hid (by rw [hTb])
        rw [← hTb] at HCb
        have HXb := Lib.hid hxb
        clear hTb hxb htb hqb hzb
        have FIN : Hid ((S ++ Ta ++ (⟨#[32, 61, 32]⟩ : ByteArray) ++ Tb0 ++ (⟨#[59, 10]⟩ : ByteArray) : ByteArray).data.toList = txtS (l.take (i + 1))) := Lib.hid (by
          rw [HMT2.out]
          simp [txtSK, exT, ba_app, HS.out, HTB.out, HTE.out, HTa.out, HXa.out, HTb.out, HXb.out])
        clear HMT2 HP1 HKK
        simp only [List.length_cons, List.length_nil, Nat.zero_add, Nat.reduceAdd] at hW2
        go_wp2_with fail
        rw [← hW2]
        clear hW2 a0 a1 a2 a3 a4 a5
        go_wp2_with fail
        refine wp_region_up (W := W2) (by kernel_rfl) (by kernel_rfl) (RowKit.Below.refl _ _) ?_
        repeat (go_big_quiet_step (first | (with_reducible exact Up.call HCa.out _) | (with_reducible exact Up.call HCb.out _)))
        refine wpQuiet_nil ?_
        rintro _ ⟨x, rfl⟩
        have HX := Lib.hid (HB2.out.trans (RowKit.Below.mono x.h HB2.out.size))
        go_wp2
        go_roundg (l.length - (i + 1))
        case measure => omega
        case rel => exact ⟨i + 1, S ++ Ta ++ (⟨#[32, 61, 32]⟩ : ByteArray) ++ Tb0 ++ (⟨#[59, 10]⟩ : ByteArray), rfl, by go_num, by omega, Nat.le_refl _, FIN.out, HX.out⟩
      · obtain ⟨xa, rfl⟩ := one_kid hes
        obtain ⟨ga, oa, soa, capa, rfl, a0, a1, a2, a3, a4, hta⟩ := kid_cells (HKK.out 0 xa rfl) hold2
        simp only [Nat.zero_mul, Nat.add_zero] at a0 a1 a2 a3 a4
        obtain ⟨hqa, hza⟩ := HP1.out 0 xa rfl
        have HCa := Lib.hid (fun w' (hb : Below W2.heap.size W2 w') => hqa _ w' hta (HOLD.out w' hb))
        have ua0 := Up.cell a0
        have ua1 := Up.cell a1
        have ua2 := Up.cell a2
        have ua3 := Up.cell a3
        have ua4 := Up.cell a4
        generalize hxa : xa.txt = ta at *
        obtain ⟨Ta, hTa⟩ : ∃ T : ByteArray, T = ⟨ta.toArray⟩ := ⟨_, rfl⟩
        have hTsa : Ta.size ≤ 5000000 := by rw [hTa]; show ta.toArray.size ≤ _; simpa using hza
        have HTa : Hid (Ta.data.toList = ta) := Lib.hid (by rw [hTa])
        rw [← hTa] at HCa
        have HXa := Lib.hid hxa
        clear hTa hxa hta hqa hza
        have FIN : Hid ((S ++ (⟨#[105, 102, 32]⟩ : ByteArray) ++ Ta ++ (⟨#[32, 123, 10]⟩ : ByteArray) ++ Tb ++ (⟨#[125, 10]⟩ : ByteArray) : ByteArray).data.toList = txtS (l.take (i + 1))) := Lib.hid (by
          rw [HMT2.out]
          simp [txtSK, exT, ba_app, HS.out, HTB.out, HTE.out, HTa.out, HXa.out])
        clear HMT2 HP1 HKK
        simp only [List.length_cons, List.length_nil, Nat.zero_add, Nat.reduceAdd] at hW2
        go_wp2_with fail
        rw [← hW2]
        clear hW2 a0 a1 a2 a3 a4 a5
        go_wp2_with fail
        refine wp_region_up (W := W2) (by kernel_rfl) (by kernel_rfl) (RowKit.Below.refl _ _) ?_
        repeat (go_big_quiet_step (first | (with_reducible exact Up.call HCa.out _) | (with_reducible exact Up.call HCB.out _)))
        refine wpQuiet_nil ?_
        rintro _ ⟨x, rfl⟩
        have HX := Lib.hid (HB2.out.trans (RowKit.Below.mono x.h HB2.out.size))
        go_wp2
        go_roundg (l.length - (i + 1))
        case measure => omega
        case rel => exact ⟨i + 1, S ++ (⟨#[105, 102, 32]⟩ : ByteArray) ++ Ta ++ (⟨#[32, 123, 10]⟩ : ByteArray) ++ Tb ++ (⟨#[125, 10]⟩ : ByteArray), rfl, by go_num, by omega, Nat.le_refl _, FIN.out, HX.out⟩
      · obtain ⟨xa, rfl⟩ := one_kid hes
        obtain ⟨ga, oa, soa, capa, rfl, a0, a1, a2, a3, a4, hta⟩ := kid_cells (HKK.out 0 xa rfl) hold2
        simp only [Nat.zero_mul, Nat.add_zero] at a0 a1 a2 a3 a4
        obtain ⟨hqa, hza⟩ := HP1.out 0 xa rfl
        have HCa := Lib.hid (fun w' (hb : Below W2.heap.size W2 w') => hqa _ w' hta (HOLD.out w' hb))
        have ua0 := Up.cell a0
        have ua1 := Up.cell a1
        have ua2 := Up.cell a2
        have ua3 := Up.cell a3
        have ua4 := Up.cell a4
        generalize hxa : xa.txt = ta at *
        obtain ⟨Ta, hTa⟩ : ∃ T : ByteArray, T = ⟨ta.toArray⟩ := ⟨_, rfl⟩
        have hTsa : Ta.size ≤ 5000000 := by rw [hTa]; show ta.toArray.size ≤ _; simpa using hza
        have HTa : Hid (Ta.data.toList = ta) := Lib.hid (by rw [hTa])
        rw [← hTa] at HCa
        have HXa := Lib.hid hxa
        clear hTa hxa hta hqa hza
        have FIN : Hid ((S ++ (⟨#[105, 102, 32]⟩ : ByteArray) ++ Ta ++ (⟨#[32, 123, 10]⟩ : ByteArray) ++ Tb ++ (⟨#[125, 32, 101, 108, 115, 101, 32, 123, 10]⟩ : ByteArray) ++ Te ++ (⟨#[125, 10]⟩ : ByteArray) : ByteArray).data.toList = txtS (l.take (i + 1))) := Lib.hid (by
          rw [HMT2.out]
          simp [txtSK, exT, ba_app, HS.out, HTB.out, HTE.out, HTa.out, HXa.out])
        clear HMT2 HP1 HKK
        simp only [List.length_cons, List.length_nil, Nat.zero_add, Nat.reduceAdd] at hW2
        go_wp2_with fail
        rw [← hW2]
        clear hW2 a0 a1 a2 a3 a4 a5
        go_wp2_with fail
        refine wp_region_up (W := W2) (by kernel_rfl) (by kernel_rfl) (RowKit.Below.refl _ _) ?_
        repeat (go_big_quiet_step (first | (with_reducible exact Up.call HCa.out _) | (with_reducible exact Up.call HCB.out _) | (with_reducible exact Up.call HCE.out _)))
        refine wpQuiet_nil ?_
        rintro _ ⟨x, rfl⟩
        have HX := Lib.hid (HB2.out.trans (RowKit.Below.mono x.h HB2.out.size))
        go_wp2
        go_roundg (l.length - (i + 1))
        case measure => omega
        case rel => exact ⟨i + 1, S ++ (⟨#[105, 102, 32]⟩ : ByteArray) ++ Ta ++ (⟨#[32, 123, 10]⟩ : ByteArray) ++ Tb ++ (⟨#[125, 32, 101, 108, 115, 101, 32, 123, 10]⟩ : ByteArray) ++ Te ++ (⟨#[125, 10]⟩ : ByteArray), rfl, by go_num, by omega, Nat.le_refl _, FIN.out, HX.out⟩
      · obtain ⟨xa, rfl⟩ := one_kid hes
        obtain ⟨ga, oa, soa, capa, rfl, a0, a1, a2, a3, a4, hta⟩ := kid_cells (HKK.out 0 xa rfl) hold2
        simp only [Nat.zero_mul, Nat.add_zero] at a0 a1 a2 a3 a4
        obtain ⟨hqa, hza⟩ := HP1.out 0 xa rfl
        have HCa := Lib.hid (fun w' (hb : Below W2.heap.size W2 w') => hqa _ w' hta (HOLD.out w' hb))
        have ua0 := Up.cell a0
        have ua1 := Up.cell a1
        have ua2 := Up.cell a2
        have ua3 := Up.cell a3
        have ua4 := Up.cell a4
        generalize hxa : xa.txt = ta at *
        obtain ⟨Ta, hTa⟩ : ∃ T : ByteArray, T = ⟨ta.toArray⟩ := ⟨_, rfl⟩
        have hTsa : Ta.size ≤ 5000000 := by rw [hTa]; show ta.toArray.size ≤ _; simpa using hza
        have HTa : Hid (Ta.data.toList = ta) := Lib.hid (by rw [hTa])
        rw [← hTa] at HCa
        have HXa := Lib.hid hxa
        clear hTa hxa hta hqa hza
        have FIN : Hid ((S ++ (⟨#[119, 104, 105, 108, 101, 32]⟩ : ByteArray) ++ Ta ++ (⟨#[32, 123, 10]⟩ : ByteArray) ++ Tb ++ (⟨#[125, 10]⟩ : ByteArray) : ByteArray).data.toList = txtS (l.take (i + 1))) := Lib.hid (by
          rw [HMT2.out]
          simp [txtSK, exT, ba_app, HS.out, HTB.out, HTE.out, HTa.out, HXa.out])
        clear HMT2 HP1 HKK
        simp only [List.length_cons, List.length_nil, Nat.zero_add, Nat.reduceAdd] at hW2
        go_wp2_with fail
        rw [← hW2]
        clear hW2 a0 a1 a2 a3 a4 a5
        go_wp2_with fail
        refine wp_region_up (W := W2) (by kernel_rfl) (by kernel_rfl) (RowKit.Below.refl _ _) ?_
        repeat (go_big_quiet_step (first | (with_reducible exact Up.call HCa.out _) | (with_reducible exact Up.call HCB.out _)))
        refine wpQuiet_nil ?_
        rintro _ ⟨x, rfl⟩
        have HX := Lib.hid (HB2.out.trans (RowKit.Below.mono x.h HB2.out.size))
        go_wp2
        go_roundg (l.length - (i + 1))
        case measure => omega
        case rel => exact ⟨i + 1, S ++ (⟨#[119, 104, 105, 108, 101, 32]⟩ : ByteArray) ++ Ta ++ (⟨#[32, 123, 10]⟩ : ByteArray) ++ Tb ++ (⟨#[125, 10]⟩ : ByteArray), rfl, by go_num, by omega, Nat.le_refl _, FIN.out, HX.out⟩
      · rcases Nat.eq_zero_or_pos es.length with h0 | h0
        · obtain rfl : es = [] := List.eq_nil_of_length_eq_zero h0
          have FIN : Hid ((S ++ (⟨#[114, 101, 116, 117, 114, 110, 59, 10]⟩ : ByteArray) : ByteArray).data.toList = txtS (l.take (i + 1))) := Lib.hid (by
            rw [HMT2.out]
            simp [txtSK, exT, ba_app, HS.out, HTB.out, HTE.out])
          clear HMT2 HP1 HKK
          simp only [List.length_cons, List.length_nil, Nat.zero_add, Nat.reduceAdd] at hW2
          subst hW2
          go_wp2_with fail
          have HX := Lib.hid HB2.out
          go_roundg (l.length - (i + 1))
          case measure => omega
          case rel => exact ⟨i + 1, S ++ (⟨#[114, 101, 116, 117, 114, 110, 59, 10]⟩ : ByteArray), rfl, by go_num, by omega, Nat.le_refl _, FIN.out, HX.out⟩
        · obtain ⟨xa, rfl⟩ := one_kid (show es.length = 1 by omega)
          obtain ⟨ga, oa, soa, capa, rfl, a0, a1, a2, a3, a4, hta⟩ := kid_cells (HKK.out 0 xa rfl) hold2
          simp only [Nat.zero_mul, Nat.add_zero] at a0 a1 a2 a3 a4
          obtain ⟨hqa, hza⟩ := HP1.out 0 xa rfl
          have HCa := Lib.hid (fun w' (hb : Below W2.heap.size W2 w') => hqa _ w' hta (HOLD.out w' hb))
          have ua0 := Up.cell a0
          have ua1 := Up.cell a1
          have ua2 := Up.cell a2
          have ua3 := Up.cell a3
          have ua4 := Up.cell a4
          generalize hxa : xa.txt = ta at *
          obtain ⟨Ta, hTa⟩ : ∃ T : ByteArray, T = ⟨ta.toArray⟩ := ⟨_, rfl⟩
          have hTsa : Ta.size ≤ 5000000 := by rw [hTa]; show ta.toArray.size ≤ _; simpa using hza
          have HTa : Hid (Ta.data.toList = ta) := Lib.hid (by rw [hTa])
          rw [← hTa] at HCa
          have HXa := Lib.hid hxa
          clear hTa hxa hta hqa hza
          have FIN : Hid ((S ++ (⟨#[114, 101, 116, 117, 114, 110, 32]⟩ : ByteArray) ++ Ta ++ (⟨#[59, 10]⟩ : ByteArray) : ByteArray).data.toList = txtS (l.take (i + 1))) := Lib.hid (by
            rw [HMT2.out]
            simp [txtSK, exT, ba_app, HS.out, HTB.out, HTE.out, HTa.out, HXa.out])
          clear HMT2 HP1 HKK
          simp only [List.length_cons, List.length_nil, Nat.zero_add, Nat.reduceAdd] at hW2
          subst hW2
          go_wp2_with (go_at_call 23; (with_reducible refine (HCa.out _ (RowKit.Below.refl _ _)).mono ?_); rintro e w5 ⟨rfl, hb5⟩)
          have HX := Lib.hid (HB2.out.trans (RowKit.Below.mono hb5 HB2.out.size))
          go_roundg (l.length - (i + 1))
          case measure => omega
          case rel => exact ⟨i + 1, S ++ (⟨#[114, 101, 116, 117, 114, 110, 32]⟩ : ByteArray) ++ Ta ++ (⟨#[59, 10]⟩ : ByteArray), rfl, by go_num, by omega, Nat.le_refl _, FIN.out, HX.out⟩
      · obtain ⟨xa, rfl⟩ := one_kid hes
        obtain ⟨ga, oa, soa, capa, rfl, a0, a1, a2, a3, a4, hta⟩ := kid_cells (HKK.out 0 xa rfl) hold2
        simp only [Nat.zero_mul, Nat.add_zero] at a0 a1 a2 a3 a4
        obtain ⟨hqa, hza⟩ := HP1.out 0 xa rfl
        have HCa := Lib.hid (fun w' (hb : Below W2.heap.size W2 w') => hqa _ w' hta (HOLD.out w' hb))
        have ua0 := Up.cell a0
        have ua1 := Up.cell a1
        have ua2 := Up.cell a2
        have ua3 := Up.cell a3
        have ua4 := Up.cell a4
        generalize hxa : xa.txt = ta at *
        obtain ⟨Ta, hTa⟩ : ∃ T : ByteArray, T = ⟨ta.toArray⟩ := ⟨_, rfl⟩
        have hTsa : Ta.size ≤ 5000000 := by rw [hTa]; show ta.toArray.size ≤ _; simpa using hza
        have HTa : Hid (Ta.data.toList = ta) := Lib.hid (by rw [hTa])
        rw [← hTa] at HCa
        have HXa := Lib.hid hxa
        clear hTa hxa hta hqa hza
        have FIN : Hid ((S ++ Ta ++ (⟨#[59, 10]⟩ : ByteArray) : ByteArray).data.toList = txtS (l.take (i + 1))) := Lib.hid (by
          rw [HMT2.out]
          simp [txtSK, exT, ba_app, HS.out, HTB.out, HTE.out, HTa.out, HXa.out])
        clear HMT2 HP1 HKK
        simp only [List.length_cons, List.length_nil, Nat.zero_add, Nat.reduceAdd] at hW2
        subst hW2
        go_wp2_with (go_at_call 23; (with_reducible refine (HCa.out _ (RowKit.Below.refl _ _)).mono ?_); rintro e w5 ⟨rfl, hb5⟩)
        have HX := Lib.hid (HB2.out.trans (RowKit.Below.mono hb5 HB2.out.size))
        go_roundg (l.length - (i + 1))
        case measure => omega
        case rel => exact ⟨i + 1, S ++ Ta ++ (⟨#[59, 10]⟩ : ByteArray), rfl, by go_num, by omega, Nat.le_refl _, FIN.out, HX.out⟩
    · obtain rfl : i = l.length := by omega
      have FIN : Hid (S = ⟨(txtS l).toArray⟩) := Lib.hid (ba_ext (by rw [HS.out, List.take_length]))
      go_wp2
      go_ret
      exact ⟨by rw [FIN.out]; rfl, HB.out⟩
end Go.Proofs.YtggjeecpadnihaaGreatDoor
