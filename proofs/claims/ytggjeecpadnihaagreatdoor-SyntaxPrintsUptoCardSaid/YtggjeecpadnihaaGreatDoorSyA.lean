/- The other side: Depth. -/
import Derived.Test.YtggjeecpadnihaaGreatDoorSxB
import Derived.IntWalk
import Derived.Lib.ItoaNum
import Derived.Deep.QuietTactic
import Derived.Deep.RegionLaw
import Derived.Deep.RegionLawGrows
import Derived.BigQuiet
import Derived.Laws.IdiomStrings
namespace Go.Proofs.YtggjeecpadnihaaGreatDoor
open Go Go.Proofs Go.Eng Go.RowKit Go.Sx Go.Deep
set_option linter.unusedVariables false
set_option linter.unusedSimpArgs false

set_option maxHeartbeats 1000000 in
theorem rdepth_any (W : World) : ∀ (m : Nat) (e : Ex) (cs : List Value), e.cnt = m → m ≤ 4096 → ExIn W e cs → ∀ w, Old W w → Calls Tryz.prog 22 #[.agg ⟨cs⟩] w fun e' w' => e' = .returned (.int .i64 e.depth) ∧ Below w.heap.size w w' := by
  intro m
  induction m using Nat.strongRecOn with
  | ind m ih =>
  intro e cs he hm hin w hw
  obtain ⟨k, s, n, kids, line⟩ := e
  simp only [ExIn] at hin
  obtain ⟨so, cap, rfl, _, hl, hk⟩ := hin
  simp only [Ex.cnt] at he
  have HK := Lib.hid (fun (i : Nat) (e : Ex) (hi : kids[i]? = some e) => kids_at hk hi)
  have IH := Lib.hid ih
  have HW := Lib.hid hw
  have HE := Lib.hid he
  have HC := Lib.hid (fun (i : Nat) (e : Ex) (hi : kids[i]? = some e) => cntL_get hi)
  clear ih hw hk he
  obtain ⟨W1, hW1⟩ : ∃ W1, W1 = w.alloc (.cells ⟨[.int .i64 k, .string s, .int .i64 n, .slice so kids.length cap, .int .i64 line]⟩ 25) := ⟨_, rfl⟩
  have hb1 : Below w.heap.size w W1 := by rw [hW1]; exact (RowKit.Below.refl _ _).alloc (Nat.le_refl _) _
  have hrow : W1.heap[w.heap.size]? = some (.cells ⟨[.int .i64 k, .string s, .int .i64 n, .slice so kids.length cap, .int .i64 line]⟩ 25 (0, 0)) := by rw [hW1]; exact heap_alloc_new _ _
  have HB1 := Lib.hid hb1
  have c3 : W1.cell? ⟨w.heap.size, 3, none⟩ = some (.slice so kids.length cap) := (Lib.cell_of_heap hrow 3).trans rfl
  have HC3 := Lib.hid c3
  have HLT : Hid (w.heap.size < W1.heap.size) := Lib.hid (Array.getElem?_eq_some_iff.1 hrow).1
  clear hb1 hrow
  go_enter Tryz.func22, Tryz.ntmps22
  go_wp2_with fail
  rw [← hW1]
  clear hW1
  go_wp2_with fail
  go_loopg [3, 4] kids.length (fun kx s3 s9 wr => ∃ i : Nat, s3 = .int .i64 (depthL (kids.take i)) ∧ s9 = .int .i64 i ∧ i ≤ kids.length ∧ kids.length - i ≤ kx ∧ Aside (Below W1.heap.size W1 wr))
  case atStart => exact ⟨0, rfl, rfl, by omega, by omega, RowKit.Below.refl _ _⟩
  case round =>
    obtain ⟨i, rfl, rfl, hi, hg, hb⟩ := hrel
    have HB := Lib.hid hb.out
    clear hb
    have e3 : wr.cell? ⟨w.heap.size, 3, none⟩ = some (.slice so kids.length cap) := (HB.out.cell HLT.out).trans HC3.out
    by_cases hil : i < kids.length
    · have hx : kids[i]? = some kids[i] := List.getElem?_eq_getElem hil
      obtain ⟨g, o, so', cap', rfl, hgW, a0, a1, a2, a3, a4, ht⟩ := kid_open (HK.out i _ hx)
      rw [Nat.zero_add] at a0 a1 a2 a3 a4
      have hold : Old W wr := (HW.out.below HB1.out).below HB.out
      have d0 := hold.cell a0
      have d1 := hold.cell a1
      have d2 := hold.cell a2
      have d3 := hold.cell a3
      have d4 := hold.cell a4
      have hcn := HC.out i _ hx
      have HCALL : Hid (∀ w3, Old W w3 → Calls Tryz.prog 22 #[.agg #[.int .i64 (kids[i] : Ex).kind, .string (kids[i] : Ex).str, .int .i64 (kids[i] : Ex).num, .slice so' (kids[i] : Ex).kids.length cap', .int .i64 (kids[i] : Ex).line]] w3 fun e' w' => e' = .returned (.int .i64 (kids[i] : Ex).depth) ∧ Below w3.heap.size w3 w') :=
        Lib.hid (fun w3 h3 => IH.out _ (by have := HE.out; omega) _ _ rfl (by have := HE.out; omega) ht w3 h3)
      have HO := Lib.hid hold
      have HX := Lib.hid hx
      have hi1 : (i : Int) < (kids.length : Int) := by omega
      have hi0 : (0 : Int) ≤ (i : Int) := by omega
      have hcd := depth_cnt kids[i]
      have hcd2 : depthL (kids.take i) ≤ 4096 := by
        refine depthL_le fun x hx => ?_
        obtain ⟨j, hj⟩ := List.mem_iff_getElem?.1 (List.mem_of_mem_take hx)
        have h1 := HC.out j _ hj
        have h2 := depth_cnt x
        have := HE.out
        omega
      generalize kids[i] = kd at *
      obtain ⟨k', s', n', kids', line'⟩ := kd
      simp only [Ex.kind, Ex.str, Ex.num, Ex.kids, Ex.line] at d0 d1 d2 d3 d4 HCALL
      clear a0 a1 a2 a3 a4 ht hx
      go_wp2_with fail
      clear d0 d1 d2 d3 d4 e3
      go_at_call 22
      refine (HCALL.out _ HO.out).mono ?_
      rintro e w2 ⟨rfl, hb2⟩
      have HB2 : Hid (Below W1.heap.size W1 w2) := Lib.hid (HB.out.trans (hb2.mono HB.out.size))
      have HT := Lib.hid (depthL_take HX.out)
      clear hb2 HCALL
      simp only
      go_wp2_with fail
      all_goals
        go_roundg (kids.length - (i + 1))
        case measure => omega
        case rel => exact ⟨i + 1, by rw [HT.out]; simp only [Value.int.injEq, true_and]; omega, by go_num, by omega, Nat.le_refl _, HB2.out⟩
    · obtain rfl : i = kids.length := by omega
      have HCD : Hid (depthL kids ≤ 4095) := Lib.hid (depthL_le fun x hx => by
        obtain ⟨j, hj⟩ := List.mem_iff_getElem?.1 hx
        have h1 := HC.out j _ hj
        have h2 := depth_cnt x
        have := HE.out
        omega)
      have hcd := HCD.out
      rw [List.take_length]
      go_wp2_with fail
      go_ret
      exact ⟨by simp only [Ex.depth]; go_num, HB1.out.trans (HB.out.mono HB1.out.size)⟩
end Go.Proofs.YtggjeecpadnihaaGreatDoor

namespace Go.Proofs.YtggjeecpadnihaaGreatDoor
open Go Go.Proofs Go.Eng Go.RowKit Go.Sx Go.Deep
set_option linter.unusedVariables false
set_option linter.unusedSimpArgs false

theorem rdigit_any (c : UInt8) (w : World) : Calls Tryz.prog 81 #[.int .u8 c.toNat] w fun e w' => e = .returned (.bool (digB c)) ∧ w = w' := by
  unfold digB
  generalize c.toNat = n
  have e1 : decide (48 ≤ n) = decide ((48 : Int) ≤ (n : Int)) := by rw [Bool.eq_iff_iff]; simp; omega
  have e2 : decide (n ≤ 57) = decide ((n : Int) ≤ 57) := by rw [Bool.eq_iff_iff]; simp; omega
  rw [e1, e2]
  clear e1 e2
  generalize h1 : decide ((48 : Int) ≤ (n : Int)) = b1
  generalize h2 : decide ((n : Int) ≤ 57) = b2
  cases b1 <;> cases b2 <;>
  (go_enter Tryz.func81, Tryz.ntmps81
   go_wp2
   go_ret
   exact ⟨rfl, rfl⟩)
theorem rletter_any (c : UInt8) (w : World) : Calls Tryz.prog 79 #[.int .u8 c.toNat] w fun e w' => e = .returned (.bool (letB c)) ∧ w = w' := by
  unfold letB
  generalize c.toNat = n
  have e1 : decide (97 ≤ n) = decide ((97 : Int) ≤ (n : Int)) := by rw [Bool.eq_iff_iff]; simp; omega
  have e2 : decide (n ≤ 122) = decide ((n : Int) ≤ 122) := by rw [Bool.eq_iff_iff]; simp; omega
  have e3 : decide (65 ≤ n) = decide ((65 : Int) ≤ (n : Int)) := by rw [Bool.eq_iff_iff]; simp; omega
  have e4 : decide (n ≤ 90) = decide ((n : Int) ≤ 90) := by rw [Bool.eq_iff_iff]; simp; omega
  have e5 : decide (n = 95) = ((n : Int) == 95) := by rw [Bool.eq_iff_iff]; simp; omega
  rw [e1, e2, e3, e4, e5]
  clear e1 e2 e3 e4 e5
  generalize h1 : decide ((97 : Int) ≤ (n : Int)) = b1
  generalize h2 : decide ((n : Int) ≤ 122) = b2
  generalize h3 : decide ((65 : Int) ≤ (n : Int)) = b3
  generalize h4 : decide ((n : Int) ≤ 90) = b4
  generalize h5 : ((n : Int) == 95) = b5
  cases b1 <;> cases b2 <;> cases b3 <;> cases b4 <;> cases b5 <;>
  (go_enter Tryz.func79, Tryz.ntmps79
   go_wp2
   go_ret
   exact ⟨rfl, rfl⟩)

set_option maxRecDepth 100000 in
theorem rwords_any (w : World) : Calls Tryz.prog 108 #[] w fun e w' => e = .returned (.slice (some ⟨w.heap.size, 0, none⟩) 10 10) ∧ w' = w.alloc (.cells (words.map Value.string).toArray 9) := by
  go_enter Tryz.func108, Tryz.ntmps108
  go_wp2
  go_ret
  exact ⟨rfl, rfl⟩

set_option maxRecDepth 100000 in
theorem rin_any (s : ByteArray) (g : Nat) (w : World) (hg : w.heap[g]? = some (.cells (words.map Value.string).toArray 9 (0, 0))) : Calls Tryz.prog 107 #[.slice (some ⟨g, 0, none⟩) 10 10, .string s] w fun e w' => e = .returned (.bool (wordB s)) ∧ w = w' := by
  have HW : Hid (∀ (i : Nat) (x : ByteArray), words[i]? = some x → w.cell? ⟨g, i, none⟩ = some (.string x)) := Lib.hid fun i x hx => by
    refine (Lib.cell_of_heap hg i).trans ?_
    rw [List.getElem?_toArray, List.getElem?_map, hx]; rfl
  clear hg
  go_enter Tryz.func107, Tryz.ntmps107
  go_wp2_with fail
  go_loopg [5] 10 (fun kx s4 wr => ∃ i : Nat, s4 = .int .i64 i ∧ i ≤ 10 ∧ 10 - i ≤ kx ∧ Aside ((words.take i).all (fun x => !(x.toList == s.toList)) = true) ∧ wr = w)
  case atStart => exact ⟨0, rfl, by omega, by omega, rfl, rfl⟩
  case round =>
    obtain ⟨i, rfl, hi, hk, hf, rfl⟩ := hrel
    have HF := Lib.hid hf.out
    clear hf
    by_cases hil : i < 10
    · have hx : words[i]? = some words[i] := List.getElem?_eq_getElem hil
      have hc := HW.out i _ hx
      have HX := Lib.hid hx
      clear hx
      have hi0 : (0 : Int) ≤ (i : Int) := by omega
      have hi1 : (i : Int) < 10 := by omega
      cases hb : (words[i].toList == s.toList) with
      | true =>
        have FIN : Hid (wordB s = true) := Lib.hid (List.any_eq_true.2 ⟨_, List.mem_of_getElem? HX.out, hb⟩)
        generalize words[i] = wi at *
        go_wp2
        go_ret
        exact ⟨by rw [FIN.out]; rfl, rfl⟩
      | false =>
        have FIN : Hid ((words.take (i + 1)).all (fun x => !(x.toList == s.toList)) = true) := Lib.hid (by
          rw [List.take_add_one, HX.out, List.all_append, HF.out]; simp [hb])
        generalize words[i] = wi at *
        go_wp2
        go_roundg (10 - (i + 1))
        case measure => omega
        case rel => exact ⟨i + 1, by go_num, by omega, Nat.le_refl _, FIN.out, rfl⟩
    · obtain rfl : i = 10 := by omega
      have FIN : Hid (wordB s = false) := Lib.hid (by
        have h : words.all (fun x => !(x.toList == s.toList)) = true := HF.out
        unfold wordB
        rw [List.any_eq_false]
        intro x hx
        have := List.all_eq_true.1 h x hx
        simpa using this)
      clear HF
      go_wp2
      go_ret
      exact ⟨by rw [FIN.out]; rfl, rfl⟩

set_option maxRecDepth 100000 in
theorem rword_any (s : ByteArray) (w : World) : Calls Tryz.prog 80 #[.string s] w fun e w' => e = .returned (.bool (wordB s)) ∧ Below w.heap.size w w' := by
  have HI := Lib.hid (rin_any s w.heap.size (w.alloc (.cells (words.map Value.string).toArray 9)) (heap_alloc_new _ _))
  have HAL : Hid (Below w.heap.size w (w.alloc (.cells (words.map Value.string).toArray 9))) := Lib.hid ((RowKit.Below.refl _ _).alloc (Nat.le_refl _) _)
  generalize wordB s = b at *
  obtain ⟨W1, hW1⟩ : ∃ W1, W1 = w.alloc (.cells (words.map Value.string).toArray 9) := ⟨_, rfl⟩
  rw [← hW1] at HI HAL
  go_enter Tryz.func80, Tryz.ntmps80
  go_wp2_with fail
  go_at_call 108
  refine (rwords_any w).mono ?_
  rintro e w' ⟨rfl, rfl⟩
  rw [← hW1]
  clear hW1
  simp only
  go_wp2_with (go_at_call 107; (with_reducible refine HI.out.mono ?_); rintro e w' ⟨rfl, rfl⟩)
  go_ret
  exact ⟨rfl, HAL.out⟩
end Go.Proofs.YtggjeecpadnihaaGreatDoor

namespace Go.Proofs.YtggjeecpadnihaaGreatDoor
open Go Go.Proofs Go.Eng Go.RowKit Go.Sx Go.Deep
set_option linter.unusedVariables false
set_option linter.unusedSimpArgs false

theorem get_list {s : ByteArray} {i : Nat} (h : i < s.size) : s.data.toList[i]? = some s[i] := by
  rw [Array.getElem?_toList]; exact Array.getElem?_eq_getElem h
theorem plainC_eq (c : UInt8) : plainC c = !(((c.toNat : Int) != 10) && (decide ((c.toNat : Int) < 32) || decide ((126 : Int) < (c.toNat : Int)))) := by
  unfold plainC
  have e0 : decide (c.toNat = 10) = !((c.toNat : Int) != 10) := by rw [Bool.eq_iff_iff]; simp; omega
  have e1 : decide (32 ≤ c.toNat) = !decide ((c.toNat : Int) < 32) := by rw [Bool.eq_iff_iff]; simp; omega
  have e2 : decide (c.toNat ≤ 126) = !decide ((126 : Int) < (c.toNat : Int)) := by rw [Bool.eq_iff_iff]; simp; omega
  rw [e0, e1, e2]
  cases ((c.toNat : Int) != 10) <;> cases decide ((c.toNat : Int) < 32) <;> cases decide ((126 : Int) < (c.toNat : Int)) <;> rfl

set_option maxRecDepth 100000 in
theorem rplain_any (s : ByteArray) (w : World) (hs : s.size ≤ 9223372036854775807) : Calls Tryz.prog 47 #[.string s] w fun e w' => e = .returned (.bool (plainB s)) ∧ w = w' := by
  have hlen : s.data.toList.length = s.size := by rw [Array.length_toList]; rfl
  have HL := Lib.hid hlen
  clear hlen
  go_enter Tryz.func47, Tryz.ntmps47
  go_wp2_with fail
  go_loopg [3] s.size (fun kx s4 wr => ∃ i : Nat, s4 = .int .i64 i ∧ i ≤ s.size ∧ s.size - i ≤ kx ∧ Aside ((s.data.toList.take i).all plainC = true) ∧ wr = w)
  case atStart => exact ⟨0, rfl, by omega, by omega, rfl, rfl⟩
  case round =>
    obtain ⟨i, rfl, hi, hk, hf, rfl⟩ := hrel
    have HF := Lib.hid hf.out
    clear hf
    by_cases hil : i < s.size
    · have HX := Lib.hid (get_list hil)
      have hi0 : (0 : Int) ≤ (i : Int) := by omega
      have hi1 : (i : Int) < (s.size : Int) := by omega
      have HP := Lib.hid (plainC_eq s[i])
      have HA : Hid ((s.data.toList.take (i + 1)).all plainC = plainC s[i]) := Lib.hid (by rw [List.take_add_one, HX.out, List.all_append, HF.out]; simp)
      have HB : Hid (plainC s[i] = false → plainB s = false) := Lib.hid fun h => by
        unfold plainB
        have : s.data.toList.all plainC = false := by
          rw [List.all_eq_false]
          exact ⟨s[i], List.mem_of_getElem? HX.out, by simp [h]⟩
        rw [this, Bool.and_false]
      generalize plainC s[i] = pc at *
      generalize hb0 : (((s[i] : UInt8).toNat : Int) != 10) = b0 at *
      generalize hb1 : decide (((s[i] : UInt8).toNat : Int) < 32) = b1 at *
      generalize hb2 : decide ((126 : Int) < ((s[i] : UInt8).toNat : Int)) = b2 at *
      cases b0 <;> cases b1 <;> cases b2 <;>
      (go_wp2
       first
        | (go_ret
           exact ⟨by rw [HB.out HP.out]; rfl, rfl⟩)
        | (go_roundg (s.size - (i + 1))
           case measure => omega
           case rel => exact ⟨i + 1, by go_num, by omega, Nat.le_refl _, HA.out.trans HP.out, rfl⟩))
    · obtain rfl : i = s.size := by omega
      have FIN : Hid (plainB s = decide ((s.size : Int) ≤ 255)) := Lib.hid (by
        have h := HF.out
        rw [← HL.out, List.take_length] at h
        unfold plainB
        rw [h, Bool.and_true, Bool.eq_iff_iff]; simp; omega)
      generalize hd : decide ((s.size : Int) ≤ 255) = bd at *
      clear HF
      go_wp2
      go_ret
      exact ⟨by rw [FIN.out]; rfl, rfl⟩
end Go.Proofs.YtggjeecpadnihaaGreatDoor

namespace Go.Proofs.YtggjeecpadnihaaGreatDoor
open Go Go.Proofs Go.Eng Go.RowKit Go.Sx Go.Deep
set_option linter.unusedVariables false
set_option linter.unusedSimpArgs false

theorem let_dig {c : UInt8} (h : letB c = true) : digB c = false := by
  unfold letB at h
  unfold digB
  simp only [Bool.or_eq_true, Bool.and_eq_true, decide_eq_true_eq] at h
  rw [Bool.and_eq_false_iff]
  simp only [decide_eq_false_iff_not]
  omega
theorem name_short {s : ByteArray} (h : decide ((s.size : Int) < 1) = true) : nameB s = false := by
  have h := of_decide_eq_true h
  have : s.toList.isEmpty = true := by
    rw [ByteArray.toList_eq, List.isEmpty_iff]
    exact List.eq_nil_of_length_eq_zero (by rw [Array.length_toList]; show s.size = 0; omega)
  unfold nameB
  rw [this]; rfl
theorem name_long {s : ByteArray} (h : decide ((20 : Int) < (s.size : Int)) = true) : nameB s = false := by
  have h := of_decide_eq_true h
  have : decide ((s.size : Int) ≤ 20) = false := by simp; omega
  unfold nameB
  rw [this]; simp
theorem name_mid {s : ByteArray} (h1 : decide ((s.size : Int) < 1) = false) (h2 : decide ((20 : Int) < (s.size : Int)) = false) (h0 : 0 < s.size) : nameB s = (letB s[0] && (!wordB s && s.data.toList.all ldB)) := by
  have h1 := of_decide_eq_false h1
  have h2 := of_decide_eq_false h2
  have e1 : s.toList.isEmpty = false := by
    rw [ByteArray.toList_eq, List.isEmpty_eq_false_iff]
    intro h
    have := congrArg List.length h
    rw [Array.length_toList] at this
    have : s.size = 0 := this
    omega
  have e2 : decide ((s.size : Int) ≤ 20) = true := by simp; omega
  have hx := get_list h0
  obtain ⟨l, hl⟩ : ∃ l, s.data.toList = s[0] :: l := by
    match hq : s.data.toList, hx with
    | c :: l, hx => simp at hx; subst hx; exact ⟨l, rfl⟩
  unfold nameB
  rw [e1, e2, hl]
  generalize s[0] = c
  simp only [firstDig, List.all_cons, ldB]
  cases hc : letB c with
  | true => rw [let_dig hc]; simp
  | false => cases digB c <;> simp

set_option maxRecDepth 100000 in
theorem rname_any (s : ByteArray) (w : World) : Calls Tryz.prog 48 #[.string s] w fun e w' => e = .returned (.bool (nameB s)) ∧ Below w.heap.size w w' := by
  have HREF : Hid (Below w.heap.size w w) := Lib.hid (RowKit.Below.refl _ _)
  have hlen : s.data.toList.length = s.size := by rw [Array.length_toList]; rfl
  have HL := Lib.hid hlen
  clear hlen
  have HWD := Lib.hid (rword_any s w)
  cases h1 : decide ((s.size : Int) < 1) with
  | true =>
    rw [name_short h1]
    go_enter Tryz.func48, Tryz.ntmps48
    go_wp2
    go_ret
    exact ⟨rfl, HREF.out⟩
  | false =>
  cases h2 : decide ((20 : Int) < (s.size : Int)) with
  | true =>
    rw [name_long h2]
    go_enter Tryz.func48, Tryz.ntmps48
    go_wp2
    go_ret
    exact ⟨rfl, HREF.out⟩
  | false =>
  have h0 : 0 < s.size := by have := of_decide_eq_false h1; omega
  rw [name_mid h1 h2 h0]
  have h20 : s.size ≤ 20 := by have := of_decide_eq_false h2; omega
  have hi0 : (0 : Int) < (s.size : Int) := by omega
  have HLT := Lib.hid (fun w => rletter_any s[0] w)
  have HC0 := Lib.hid (get_list h0)
  cases h3 : letB s[0] with
  | false =>
    rw [h3] at HLT
    go_enter Tryz.func48, Tryz.ntmps48
    go_wp2_with (go_at_call 79; (with_reducible refine (HLT.out _).mono ?_); rintro e w' ⟨rfl, rfl⟩)
    go_ret
    exact ⟨rfl, HREF.out⟩
  | true =>
  rw [h3] at HLT
  have H3 := Lib.hid h3
  clear h3
  cases h4 : wordB s with
  | true =>
    rw [h4] at HWD
    clear h4
    go_enter Tryz.func48, Tryz.ntmps48
    go_wp2_with (first
      | (go_at_call 79; (with_reducible refine (HLT.out _).mono ?_); rintro e w' ⟨rfl, rfl⟩)
      | (go_at_call 80; (with_reducible refine HWD.out.mono ?_); rintro e w' ⟨rfl, hb⟩))
    go_ret
    exact ⟨rfl, hb⟩
  | false =>
    rw [h4] at HWD
    clear h4
    go_enter Tryz.func48, Tryz.ntmps48
    go_wp2_with (first
      | (go_at_call 79; (with_reducible refine (HLT.out _).mono ?_); rintro e w' ⟨rfl, rfl⟩)
      | (go_at_call 80; (with_reducible refine HWD.out.mono ?_); rintro e w1 ⟨rfl, hb⟩))
    have HB := Lib.hid hb
    clear hb HWD HREF
    go_loopg [3] s.size (fun kx s4 wr => ∃ i : Nat, s4 = .int .i64 i ∧ 1 ≤ i ∧ i ≤ s.size ∧ s.size - i ≤ kx ∧ Aside ((s.data.toList.take i).all ldB = true) ∧ wr = w1)
    case atStart => exact ⟨1, rfl, by omega, by omega, by omega, (by show (s.data.toList.take 1).all ldB = true; rw [List.take_add_one, HC0.out]; simp [ldB, H3.out]), rfl⟩
    case round =>
      obtain ⟨i, rfl, h1i, hi, hk, hf, rfl⟩ := hrel
      have HF := Lib.hid hf.out
      clear hf
      by_cases hil : i < s.size
      · have HX := Lib.hid (get_list hil)
        have hj0 : (0 : Int) ≤ (i : Int) := by omega
        have hj1 : (i : Int) < (s.size : Int) := by omega
        have H1 := Lib.hid (fun w => rletter_any s[i] w)
        have H2 := Lib.hid (fun w => rdigit_any s[i] w)
        have HA : Hid ((s.data.toList.take (i + 1)).all ldB = (letB s[i] || digB s[i])) := Lib.hid (by rw [List.take_add_one, HX.out, List.all_append, HF.out]; simp [ldB])
        have HB2 : Hid ((letB s[i] || digB s[i]) = false → s.data.toList.all ldB = false) := Lib.hid fun h => by
          rw [List.all_eq_false]
          exact ⟨s[i], List.mem_of_getElem? HX.out, by unfold ldB; rw [h]; simp⟩
        generalize letB s[i] = b1 at *
        generalize digB s[i] = b2 at *
        cases b1 <;> cases b2 <;>
        (go_wp2_with (first
          | (go_at_call 79; (with_reducible refine (H1.out _).mono ?_); rintro e w' ⟨rfl, rfl⟩)
          | (go_at_call 81; (with_reducible refine (H2.out _).mono ?_); rintro e w' ⟨rfl, rfl⟩))
         first
          | (go_ret
             exact ⟨by rw [HB2.out rfl]; rfl, HB.out⟩)
          | (go_roundg (s.size - (i + 1))
             case measure => omega
             case rel => exact ⟨i + 1, by go_num, by omega, by omega, Nat.le_refl _, HA.out, rfl⟩))
      · obtain rfl : i = s.size := by omega
        have FIN : Hid (s.data.toList.all ldB = true) := Lib.hid (by
          have h := HF.out
          rwa [← HL.out, List.take_length] at h)
        clear HF
        go_wp2
        go_ret
        exact ⟨by rw [FIN.out]; rfl, HB.out⟩
end Go.Proofs.YtggjeecpadnihaaGreatDoor

namespace Go.Proofs.YtggjeecpadnihaaGreatDoor
open Go.RowKit Go.Proofs Go.Deep Go.Sx
set_option linter.unusedVariables false
set_option linter.unusedSimpArgs false

theorem new_cell (W : World) (v : Value) (t : TypeId) : (W.alloc (.cells #[v] t)).cell? ⟨W.heap.size, 0, none⟩ = some v := by
  unfold World.cell? World.alloc
  simp only [Array.getElem?_push_size]
  rfl
/-- 'string([]byte{c})'. -/
theorem conv_at {w : World} {b : Nat} (n : Nat) (h : n < 10) (hc : w.cell? ⟨b, 0, none⟩ = some (.int .u8 (48 + (n : Int)))) : (convert 79 9 (.slice (some ⟨b, 0, none⟩) 1 1)).run Tryz.prog w = .ok (.string ⟨#[UInt8.ofNat (48 + n)]⟩) w := by
  have h := run_convert_bytes_back (P := Tryz.prog) w 79 9 5 ⟨b, 0, none⟩ 1 [UInt8.ofNat (48 + n)] Tryz.underlying79 Tryz.underlying5 Tryz.underlying9 (fun j hj => by
    have : j = 0 := by simp at hj; omega
    subst this
    have e : ((UInt8.ofNat (48 + n)).toNat : Int) = 48 + (n : Int) := by
      rw [UInt8.toNat_ofNat']; omega
    show w.cell? ⟨b, 0, none⟩ = some (.int .u8 ((UInt8.ofNat (48 + n)).toNat : Int))
    rw [e]; exact hc)
  exact h
theorem conv_one (n : Nat) (h : n < 10) (w : World) (t : TypeId) : (convert 79 9 (.slice (some ⟨w.heap.size, 0, none⟩) 1 1)).run Tryz.prog (w.alloc (.cells #[.int .u8 (48 + (n : Int))] t)) = .ok (.string ⟨#[UInt8.ofNat (48 + n)]⟩) (w.alloc (.cells #[.int .u8 (48 + (n : Int))] t)) :=
  conv_at n h (new_cell _ _ _)
theorem conv_drew (n : Nat) (h : n < 10) (w : World) (t : TypeId) : (convert 79 9 (.slice (some ⟨w.heap.size, 0, none⟩) 1 1)).run Tryz.prog (w.alloc (.cells #[.int .u8 (48 + (n : Int))] t)).drew = .ok (.string ⟨#[UInt8.ofNat (48 + n)]⟩) (w.alloc (.cells #[.int .u8 (48 + (n : Int))] t)).drew :=
  conv_at n h (new_cell w _ t)
theorem conv_below (n : Nat) (h : n < 10) {w w' : World} {t : TypeId} (hb : Below (w.alloc (.cells #[.int .u8 (48 + (n : Int))] t)).drew.heap.size (w.alloc (.cells #[.int .u8 (48 + (n : Int))] t)).drew w') : (convert 79 9 (.slice (some ⟨w.heap.size, 0, none⟩) 1 1)).run Tryz.prog w' = .ok (.string ⟨#[UInt8.ofNat (48 + n)]⟩) w' :=
  conv_at n h (by
    have e := hb.cell (p := ⟨w.heap.size, 0, none⟩) (by show w.heap.size < (w.heap.push _).size; rw [Array.size_push]; omega)
    rw [e]; exact new_cell _ _ _)

theorem str_push (l : List UInt8) (c : UInt8) : (⟨l.toArray⟩ : ByteArray) ++ ⟨#[c]⟩ = ⟨(l ++ [c]).toArray⟩ := by
  apply ByteArray.ext
  rw [ByteArray.data_append]
  simp
theorem str_cons (l : List UInt8) (c : UInt8) : (⟨#[c]⟩ : ByteArray) ++ ⟨l.toArray⟩ = ⟨(c :: l).toArray⟩ := by
  apply ByteArray.ext
  rw [ByteArray.data_append]
  simp
theorem below_drew {w w5 : World} (hb : Below w.drew.heap.size w.drew w5) : Below w.heap.size w w5 := ⟨hb.os, hb.tape, hb.output, hb.size, hb.block⟩
theorem below_new {w w5 : World} {o : Obj} (hb : Below (w.alloc o).drew.heap.size (w.alloc o).drew w5) : Below w.heap.size w w5 := by
  have hs : (w.alloc o).heap.size = w.heap.size + 1 := Array.size_push ..
  have h2 : (w.alloc o).heap.size ≤ w5.heap.size := hb.size
  refine ⟨hb.os, hb.tape, hb.output, by omega, fun k hk => ?_⟩
  have h3 := hb.block k (by show k < (w.alloc o).heap.size; omega)
  rw [h3]
  show (w.heap.push o)[k]? = _
  rw [Array.getElem?_push_lt hk, Array.getElem?_eq_getElem hk]
theorem dig_len (n : Nat) : (Lib.decDigits n).length ≤ n + 1 := by
  induction n using Nat.strongRecOn with
  | ind n ih =>
  rw [Lib.decDigits]
  by_cases h : n < 10
  · rw [dif_pos h]; simp
  · rw [dif_neg h]
    have := ih (n / 10) (by omega)
    simp only [List.length_append, List.length_cons, List.length_nil]
    omega

set_option maxRecDepth 100000 in
set_option maxHeartbeats 1000000 in
theorem rdigits_any (n : Nat) (hn : n ≤ 9223372036854775807) : ∀ (w : World), Calls Tryz.prog 50 #[.int .i64 n] w fun e w' => e = .returned (.string ⟨(Lib.decDigits n).toArray⟩) ∧ Below w.heap.size w w' := by
  induction n using Nat.strongRecOn with
  | ind n ih =>
  intro w
  by_cases h : n < 10
  · have hi : (n : Int) < 10 := by omega
    have hc := conv_one n h w 5
    rw [Lib.decDigits_one h]
    generalize UInt8.ofNat (48 + n) = ch at *
    clear ih
    have HN := Lib.hid hn
    clear hn
    go_enter Tryz.func50, Tryz.ntmps50
    go_wp2
    go_ret
    refine ⟨rfl, ?_⟩
    exact (RowKit.Below.refl _ _).alloc (Nat.le_refl _) _
  · have hi : ¬ (n : Int) < 10 := by omega
    have I := Lib.hid (ih (n / 10) (by omega) (by omega))
    have hq : Int.tdiv (n : Int) 10 = ((n / 10 : Nat) : Int) := by rw [Int.tdiv_eq_ediv_of_nonneg (by omega)]; omega
    have hr : Int.tmod (n : Int) 10 = ((n % 10 : Nat) : Int) := by rw [Int.tmod_eq_emod_of_nonneg (by omega)]; omega
    have ed : Lib.decDigits n = Lib.decDigits (n / 10) ++ [UInt8.ofNat (48 + n % 10)] := by rw [Lib.decDigits, dif_neg h]
    rw [ed]
    have hw : IntKind.i64.wrap ((n / 10 : Nat) : Int) = ((n / 10 : Nat) : Int) := IntWalk.i64_in _ (by omega)
    generalize hd : n % 10 = d at *
    generalize he : n / 10 = m at *
    have hlen : ¬ 9223372036854775807 < (Lib.decDigits m).length + 1 := by have := dig_len m; omega
    have hd10 : d < 10 := by omega
    have hc := conv_one d hd10
    have hcd := conv_drew d hd10
    have hcb := fun (w w' : World) (t : TypeId) (hb : Below (w.alloc (.cells #[.int .u8 (48 + (d : Int))] t)).drew.heap.size (w.alloc (.cells #[.int .u8 (48 + (d : Int))] t)).drew w') => conv_below d hd10 hb
    have HB := Lib.hid hcb
    clear hcb
    have hw2 : IntKind.i64.wrap (48 + (d : Int)) = 48 + (d : Int) := IntWalk.i64_in _ (by omega)
    have hw3 : IntKind.u8.wrap (48 + (d : Int)) = 48 + (d : Int) := by show (48 + (d : Int)) % 256 = _; omega
    generalize UInt8.ofNat (48 + d) = ch at *
    clear ih
    have HN := Lib.hid hn
    clear hn
    go_enter Tryz.func50, Tryz.ntmps50
    go_wp2
    go_region_law (first | (go_simp; go_at_call 50; refine (I.out _).mono ?_; rintro e w5 ⟨rfl, hb5⟩; try have hcv5 := HB.out _ _ _ hb5))
    all_goals
      go_simp
      go_wp2
      go_ret
      refine ⟨?_, ?_⟩
      · exact congrArg (fun x => Ending.returned (Value.string x)) (str_push _ _)
      · first
          | exact (below_drew hb5).alloc (below_drew hb5).size _
          | exact below_new hb5

end Go.Proofs.YtggjeecpadnihaaGreatDoor

namespace Go.Proofs.YtggjeecpadnihaaGreatDoor
open Go Go.Proofs Go.Eng Go.RowKit Go.Sx Go.Deep
set_option linter.unusedVariables false
set_option linter.unusedSimpArgs false

def rows : List (List ByteArray) := [[⟨#[124, 124]⟩], [⟨#[38, 38]⟩], [⟨#[61, 61]⟩, ⟨#[33, 61]⟩], [⟨#[60]⟩, ⟨#[60, 61]⟩, ⟨#[62]⟩, ⟨#[62, 61]⟩], [⟨#[43]⟩, ⟨#[45]⟩], [⟨#[42]⟩, ⟨#[47]⟩, ⟨#[37]⟩]]
def noneIn (s : ByteArray) (r : List ByteArray) : Bool := r.all fun x => !(x.toList == s.toList)
theorem lvl_none {s : ByteArray} (h : rows.all (noneIn s) = true) : lvl s = -1 := by
  simp only [rows, noneIn, List.all_cons, List.all_nil, Bool.and_eq_true, Bool.not_eq_true', ByteArray.toList_eq, beq_eq_false_iff_ne, ne_eq] at h
  obtain ⟨⟨a1, _⟩, ⟨a2, _⟩, ⟨a3, a4, _⟩, ⟨a5, a6, a7, a8, _⟩, ⟨a9, a10, _⟩, ⟨a11, a12, a13, _⟩, _⟩ := h
  unfold lvl
  simp only [ByteArray.toList_eq, beq_iff_eq]
  rw [if_neg (fun e => a1 e.symm), if_neg (fun e => a2 e.symm), if_neg (fun e => a3 e.symm), if_neg (fun e => a4 e.symm), if_neg (fun e => a5 e.symm), if_neg (fun e => a6 e.symm), if_neg (fun e => a7 e.symm), if_neg (fun e => a8 e.symm), if_neg (fun e => a9 e.symm), if_neg (fun e => a10 e.symm), if_neg (fun e => a11 e.symm), if_neg (fun e => a12 e.symm), if_neg (fun e => a13 e.symm)]
theorem lvl_lit {i j : Nat} {r : List ByteArray} {x : ByteArray} (hi : rows[i]? = some r) (hj : r[j]? = some x) : lvl x = (i : Int) := by
  have hr : i < 6 := (List.getElem?_eq_some_iff.1 hi).1
  unfold lvl
  simp only [ByteArray.toList_eq]
  match i, hr with
  | 0, _ | 1, _ | 2, _ | 3, _ | 4, _ | 5, _ =>
    simp only [rows, List.getElem?_cons_zero, List.getElem?_cons_succ, Option.some.injEq] at hi
    subst hi
    match j with
    | 0 | 1 | 2 | 3 | j + 4 => simp at hj <;> (subst hj; rfl)
theorem lvl_at {s : ByteArray} {i j : Nat} {r : List ByteArray} {x : ByteArray} (hi : rows[i]? = some r) (hj : r[j]? = some x) (h : (x.toList == s.toList) = true) : lvl s = (i : Int) := by
  have h := eq_of_beq h
  have e : lvl s = lvl x := by unfold lvl; rw [h]
  rw [e]; exact lvl_lit hi hj

/-- The rows lie there. -/
def RowsAt (t : Nat) (w : World) : Prop := ∀ (i : Nat) r, rows[i]? = some r → ∃ g, w.cell? ⟨t, i, none⟩ = some (.slice (some ⟨g, 0, none⟩) r.length r.length) ∧ ∀ (j : Nat) x, r[j]? = some x → w.cell? ⟨g, j, none⟩ = some (.string x)
theorem row_len {i : Nat} {r : List ByteArray} (h : rows[i]? = some r) : r.length ≤ 4 := by
  have : ∀ r ∈ rows, r.length ≤ 4 := by decide
  exact this _ (List.mem_of_getElem? h)

theorem rows_laid {w W1 : World} (h : W1 = (((((((w.alloc (.cells #[.string ⟨#[124, 124]⟩] 9)).alloc (.cells #[.string ⟨#[38, 38]⟩] 9)).alloc (.cells #[.string ⟨#[61, 61]⟩, .string ⟨#[33, 61]⟩] 9)).alloc (.cells #[.string ⟨#[60]⟩, .string ⟨#[60, 61]⟩, .string ⟨#[62]⟩, .string ⟨#[62, 61]⟩] 9)).alloc (.cells #[.string ⟨#[43]⟩, .string ⟨#[45]⟩] 9)).alloc (.cells #[.string ⟨#[42]⟩, .string ⟨#[47]⟩, .string ⟨#[37]⟩] 9)).alloc
      (.cells #[.slice (some ⟨w.heap.size, 0, none⟩) 1 1, .slice (some ⟨w.heap.size + 1, 0, none⟩) 1 1, .slice (some ⟨w.heap.size + 1 + 1, 0, none⟩) 2 2, .slice (some ⟨w.heap.size + 1 + 1 + 1, 0, none⟩) 4 4, .slice (some ⟨w.heap.size + 1 + 1 + 1 + 1, 0, none⟩) 2 2, .slice (some ⟨w.heap.size + 1 + 1 + 1 + 1 + 1, 0, none⟩) 3 3] 129))) :
    RowsAt (w.heap.size + 1 + 1 + 1 + 1 + 1 + 1) W1 ∧ Below w.heap.size w W1 := by
  have step : ∀ (u v : World) (o : Obj) (n : Nat), v = u.alloc o → u.heap.size = n → v.heap[n]? = some o ∧ v.heap.size = n + 1 ∧ Below n u v := by
    rintro u v o n rfl rfl
    exact ⟨heap_alloc_new _ _, nblk_alloc _ _, (RowKit.Below.refl _ _).alloc (Nat.le_refl _) _⟩
  obtain ⟨u1, e1⟩ : ∃ u, u = w.alloc (.cells #[.string ⟨#[124, 124]⟩] 9) := ⟨_, rfl⟩
  rw [← e1] at h
  obtain ⟨u2, e2⟩ : ∃ u, u = u1.alloc (.cells #[.string ⟨#[38, 38]⟩] 9) := ⟨_, rfl⟩
  rw [← e2] at h
  obtain ⟨u3, e3⟩ : ∃ u, u = u2.alloc (.cells #[.string ⟨#[61, 61]⟩, .string ⟨#[33, 61]⟩] 9) := ⟨_, rfl⟩
  rw [← e3] at h
  obtain ⟨u4, e4⟩ : ∃ u, u = u3.alloc (.cells #[.string ⟨#[60]⟩, .string ⟨#[60, 61]⟩, .string ⟨#[62]⟩, .string ⟨#[62, 61]⟩] 9) := ⟨_, rfl⟩
  rw [← e4] at h
  obtain ⟨u5, e5⟩ : ∃ u, u = u4.alloc (.cells #[.string ⟨#[43]⟩, .string ⟨#[45]⟩] 9) := ⟨_, rfl⟩
  rw [← e5] at h
  obtain ⟨u6, e6⟩ : ∃ u, u = u5.alloc (.cells #[.string ⟨#[42]⟩, .string ⟨#[47]⟩, .string ⟨#[37]⟩] 9) := ⟨_, rfl⟩
  rw [← e6] at h
  obtain ⟨r1, s1, b1⟩ := step _ _ _ _ e1 rfl
  obtain ⟨r2, s2, b2⟩ := step _ _ _ _ e2 s1
  obtain ⟨r3, s3, b3⟩ := step _ _ _ _ e3 s2
  obtain ⟨r4, s4, b4⟩ := step _ _ _ _ e4 s3
  obtain ⟨r5, s5, b5⟩ := step _ _ _ _ e5 s4
  obtain ⟨r6, s6, b6⟩ := step _ _ _ _ e6 s5
  obtain ⟨r7, s7, b7⟩ := step _ _ _ _ h s6
  have c6 := (b7.block _ (by omega)).trans r6
  have c5 := (b7.block _ (by omega)).trans ((b6.block _ (by omega)).trans r5)
  have c4 := (b7.block _ (by omega)).trans ((b6.block _ (by omega)).trans ((b5.block _ (by omega)).trans r4))
  have c3 := (b7.block _ (by omega)).trans ((b6.block _ (by omega)).trans ((b5.block _ (by omega)).trans ((b4.block _ (by omega)).trans r3)))
  have c2 := (b7.block _ (by omega)).trans ((b6.block _ (by omega)).trans ((b5.block _ (by omega)).trans ((b4.block _ (by omega)).trans ((b3.block _ (by omega)).trans r2))))
  have c1 := (b7.block _ (by omega)).trans ((b6.block _ (by omega)).trans ((b5.block _ (by omega)).trans ((b4.block _ (by omega)).trans ((b3.block _ (by omega)).trans ((b2.block _ (by omega)).trans r1)))))
  constructor
  · intro i r hi
    have hr : i < 6 := (List.getElem?_eq_some_iff.1 hi).1
    match i, hr with
    | 0, _ | 1, _ | 2, _ | 3, _ | 4, _ | 5, _ =>
      simp only [rows, List.getElem?_cons_zero, List.getElem?_cons_succ, Option.some.injEq] at hi
      subst hi
      refine ⟨_, (Lib.cell_of_heap r7 _).trans rfl, fun j x hj => ?_⟩
      match j with
      | 0 | 1 | 2 | 3 | j + 4 =>
        simp at hj <;> (subst hj; first
          | exact (Lib.cell_of_heap c1 _).trans rfl | exact (Lib.cell_of_heap c2 _).trans rfl | exact (Lib.cell_of_heap c3 _).trans rfl
          | exact (Lib.cell_of_heap c4 _).trans rfl | exact (Lib.cell_of_heap c5 _).trans rfl | exact (Lib.cell_of_heap c6 _).trans rfl)
  · exact b1.trans ((RowKit.Below.mono b2 (by omega)).trans ((RowKit.Below.mono b3 (by omega)).trans ((RowKit.Below.mono b4 (by omega)).trans ((RowKit.Below.mono b5 (by omega)).trans ((RowKit.Below.mono b6 (by omega)).trans (RowKit.Below.mono b7 (by omega)))))))
end Go.Proofs.YtggjeecpadnihaaGreatDoor

namespace Go.Proofs.YtggjeecpadnihaaGreatDoor
open Go Go.Proofs Go.Eng Go.RowKit Go.Sx Go.Deep
set_option linter.unusedVariables false
set_option linter.unusedSimpArgs false

set_option maxRecDepth 100000 in
theorem rline_any (s : ByteArray) (w : World) : Calls Tryz.prog 49 #[.string s] w fun e w' => e = .returned (.int .i64 (lvl s)) ∧ Below w.heap.size w w' := by
  obtain ⟨W1, hW1⟩ : ∃ W1, W1 = (((((((w.alloc (.cells #[.string ⟨#[124, 124]⟩] 9)).alloc (.cells #[.string ⟨#[38, 38]⟩] 9)).alloc (.cells #[.string ⟨#[61, 61]⟩, .string ⟨#[33, 61]⟩] 9)).alloc (.cells #[.string ⟨#[60]⟩, .string ⟨#[60, 61]⟩, .string ⟨#[62]⟩, .string ⟨#[62, 61]⟩] 9)).alloc (.cells #[.string ⟨#[43]⟩, .string ⟨#[45]⟩] 9)).alloc (.cells #[.string ⟨#[42]⟩, .string ⟨#[47]⟩, .string ⟨#[37]⟩] 9)).alloc
      (.cells #[.slice (some ⟨w.heap.size, 0, none⟩) 1 1, .slice (some ⟨w.heap.size + 1, 0, none⟩) 1 1, .slice (some ⟨w.heap.size + 1 + 1, 0, none⟩) 2 2, .slice (some ⟨w.heap.size + 1 + 1 + 1, 0, none⟩) 4 4, .slice (some ⟨w.heap.size + 1 + 1 + 1 + 1, 0, none⟩) 2 2, .slice (some ⟨w.heap.size + 1 + 1 + 1 + 1 + 1, 0, none⟩) 3 3] 129)) := ⟨_, rfl⟩
  obtain ⟨hrows, hbel⟩ := rows_laid hW1
  have HB := Lib.hid hbel
  have HR := Lib.hid hrows
  clear hrows hbel
  go_enter Tryz.func49, Tryz.ntmps49
  go_wp2_with fail
  rw [← hW1]
  clear hW1
  generalize ht : w.heap.size + 1 + 1 + 1 + 1 + 1 + 1 = t at *
  clear ht
  go_loopg [4, 5] 6 (fun kx s4 s5 wr => ∃ i : Nat, s4 = .int .i64 i ∧ i ≤ 6 ∧ 6 - i ≤ kx ∧ Aside ((rows.take i).all (noneIn s) = true) ∧ wr = W1)
  case atStart => exact ⟨0, rfl, by omega, by omega, rfl, rfl⟩
  case round =>
    obtain ⟨i, rfl, hi, hk, hf, rfl⟩ := hrel
    have HF := Lib.hid hf.out
    clear hf
    by_cases hil : i < 6
    · obtain ⟨r, hr⟩ : ∃ r, rows[i]? = some r := ⟨_, List.getElem?_eq_getElem hil⟩
      have HX := Lib.hid hr
      have hl4 := row_len hr
      obtain ⟨g, hrow, hcell⟩ := HR.out i r hr
      have HC := Lib.hid hcell
      have hi0 : (0 : Int) ≤ (i : Int) := by omega
      have hi1 : (i : Int) < 6 := by omega
      clear hr hcell
      go_wp2_with fail
      go_loopg [5] r.length (fun kx s5 wr' => ∃ j : Nat, s5 = .int .i64 j ∧ j ≤ r.length ∧ r.length - j ≤ kx ∧ Aside (noneIn s (r.take j) = true) ∧ wr' = wr)
      case atStart => exact ⟨0, rfl, by omega, by omega, rfl, rfl⟩
      case round =>
        obtain ⟨j, rfl, hj, hkj, hfj, rfl⟩ := hrel
        have HFJ := Lib.hid hfj.out
        clear hfj
        by_cases hjl : j < r.length
        · have hx : r[j]? = some r[j] := List.getElem?_eq_getElem hjl
          have hc := HC.out j _ hx
          have HXJ := Lib.hid hx
          clear hx
          have hj0 : (0 : Int) ≤ (j : Int) := by omega
          have hj1 : (j : Int) < (r.length : Int) := by omega
          cases hb : (r[j].toList == s.toList) with
          | true =>
            have FIN : Hid (lvl s = (i : Int)) := Lib.hid (lvl_at HX.out HXJ.out hb)
            generalize r[j] = x at *
            go_wp2
            go_ret
            exact ⟨by rw [FIN.out]; rfl, HB.out⟩
          | false =>
            have FIN : Hid (noneIn s (r.take (j + 1)) = true) := Lib.hid (by
              have h := HFJ.out
              unfold noneIn at h ⊢
              rw [List.take_add_one, HXJ.out, List.all_append, h]; simp [hb])
            generalize r[j] = x at *
            go_wp2
            go_roundg (r.length - (j + 1))
            case measure => omega
            case rel => exact ⟨j + 1, by go_num, by omega, Nat.le_refl _, FIN.out, rfl⟩
        · obtain rfl : j = r.length := by omega
          have FIN : Hid ((rows.take (i + 1)).all (noneIn s) = true) := Lib.hid (by
            have h := HFJ.out
            rw [List.take_length] at h
            rw [List.take_add_one, HX.out, List.all_append, HF.out]
            simp [h])
          go_wp2
          go_roundg (6 - (i + 1))
          case measure => omega
          case rel => exact ⟨i + 1, by go_num, by omega, Nat.le_refl _, FIN.out, rfl⟩
    · obtain rfl : i = 6 := by omega
      have FIN : Hid (lvl s = -1) := Lib.hid (lvl_none (by
        have h := HF.out
        rwa [show rows.take 6 = rows from rfl] at h))
      go_wp2
      go_ret
      exact ⟨by rw [FIN.out]; rfl, HB.out⟩
end Go.Proofs.YtggjeecpadnihaaGreatDoor

namespace Go.Proofs.YtggjeecpadnihaaGreatDoor
open Go Go.Proofs Go.Eng Go.RowKit Go.Sx Go.Deep
set_option linter.unusedVariables false
set_option linter.unusedSimpArgs false

set_option maxRecDepth 100000 in
theorem rlevel_any (k n : Int) (s : ByteArray) (so : Option Addr) (m cap : Nat) (line : Int) (w : World) : Calls Tryz.prog 82 #[.agg #[.int .i64 k, .string s, .int .i64 n, .slice so m cap, .int .i64 line]] w fun e w' => e = .returned (.int .i64 (bindK k s)) ∧ Below w.heap.size w w' := by
  obtain ⟨W1, hW1⟩ : ∃ W1, W1 = w.alloc (.cells #[.int .i64 k, .string s, .int .i64 n, .slice so m cap, .int .i64 line] 25) := ⟨_, rfl⟩
  have hal : Below w.heap.size w W1 := by rw [hW1]; exact (RowKit.Below.refl _ _).alloc (Nat.le_refl _) _
  have hrow : W1.heap[w.heap.size]? = some (.cells #[.int .i64 k, .string s, .int .i64 n, .slice so m cap, .int .i64 line] 25 (0, 0)) := by rw [hW1]; exact heap_alloc_new _ _
  obtain ⟨c0, c1, c2, c3, c4⟩ := row_cells hrow
  have HAL := Lib.hid hal
  have HLN := Lib.hid (rline_any s W1)
  have e : bindK k s = if (k == 6) = true then 6 else if (k == 7) = true then lvl s else 7 := by simp [bindK]
  rw [e]
  clear e hal hrow
  generalize g6 : (k == 6) = b6 at *
  generalize g7 : (k == 7) = b7 at *
  generalize lvl s = lv at *
  cases b6 with
  | true =>
    go_enter Tryz.func82, Tryz.ntmps82
    go_wp2_with fail
    rw [← hW1]
    clear hW1
    go_wp2_with fail
    go_ret
    exact ⟨rfl, HAL.out⟩
  | false =>
  cases b7 with
  | true =>
    go_enter Tryz.func82, Tryz.ntmps82
    go_wp2_with fail
    rw [← hW1]
    clear hW1
    go_wp2_with (go_at_call 49; (with_reducible refine HLN.out.mono ?_); rintro e w2 ⟨rfl, hb⟩)
    go_ret
    exact ⟨rfl, HAL.out.trans (RowKit.Below.mono hb HAL.out.size)⟩
  | false =>
    go_enter Tryz.func82, Tryz.ntmps82
    go_wp2_with fail
    rw [← hW1]
    clear hW1
    go_wp2_with fail
    go_ret
    exact ⟨rfl, HAL.out⟩
end Go.Proofs.YtggjeecpadnihaaGreatDoor
