/- What may be told, and its text, kind by kind. -/
import Derived.Test.YtggjeecpadnihaaGreatDoorSxA
import Derived.Lib.ItoaNum
import Derived.Recover
import Derived.Deep.Heap
namespace Go.Proofs.YtggjeecpadnihaaGreatDoor
open Go Go.Proofs Go.Eng Go.RowKit Go.Sx
set_option linter.unusedVariables false
set_option linter.unusedSimpArgs false

theorem rightL_nil : rightL [] = true := rfl
theorem size_empty (s : ByteArray) : decide (s.size = 0) = s.toList.isEmpty := by
  rw [ByteArray.toList_eq, Bool.eq_iff_iff, decide_eq_true_eq, List.isEmpty_iff]
  constructor
  · intro h; exact List.eq_nil_of_length_eq_zero (by rw [Array.length_toList]; exact h)
  · intro h; have := congrArg List.length h; rw [Array.length_toList] at this; exact this
theorem len_zero (kids : List Ex) : (((kids.length : Nat) : Int) == 0) = decide (kids.length = 0) := by rw [Bool.eq_iff_iff]; simp
theorem int_beq (a b : Int) : (a == b) = decide (a = b) := by rw [Bool.eq_iff_iff]; simp
theorem len_eq (kids : List Ex) (n : Nat) : (((kids.length : Nat) : Int) == (n : Int)) = decide (kids.length = n) := by rw [Bool.eq_iff_iff]; simp; omega

theorem right_zero {k : Int} {s : ByteArray} {n line : Int} {kids : List Ex} (h : kids.length = 0) : (Ex.mk k s n kids line).right = rightK k s n 0 := by
  obtain rfl := List.eq_nil_of_length_eq_zero h
  simp [Ex.right, rightL]
theorem right_bare {k : Int} {s : ByteArray} {n line : Int} {kids : List Ex} (h : rightK k s n kids.length = false) : (Ex.mk k s n kids line).right = false := by
  simp [Ex.right, h]

theorem right_1 (s : ByteArray) (n line : Int) (kids : List Ex) : (Ex.mk 1 s n kids line).right = (bareB 1 n kids.length 0 && (s.toList.isEmpty && decide (0 ≤ n))) := by
  have e : bareB 1 n kids.length 0 = decide (kids.length = 0) := by unfold bareB; rw [len_zero]; simp
  rw [e]
  by_cases h : kids.length = 0
  · rw [right_zero h, decide_eq_true h]; simp only [rightK, if_true, size_empty]; simp [Bool.and_comm]
  · rw [right_bare (by simp only [rightK, if_true]; simp [h])]; simp [h]
theorem right_2 (s : ByteArray) (n line : Int) (kids : List Ex) : (Ex.mk 2 s n kids line).right = (bareB 2 n kids.length 0 && (s.toList.isEmpty && ((n == 0) || (n == 1)))) := by
  have e : bareB 2 n kids.length 0 = decide (kids.length = 0) := by unfold bareB; rw [len_zero]; simp
  have e2 : ∀ m, rightK 2 s n m = ((decide (n = 0) || decide (n = 1)) && s.toList.isEmpty && decide (m = 0)) := fun m => by unfold rightK; rw [if_neg (by decide), if_pos rfl, size_empty]
  rw [e, int_beq, int_beq]
  by_cases h : kids.length = 0
  · rw [right_zero h, decide_eq_true h, e2]; simp [Bool.and_comm]
  · rw [right_bare (by rw [e2]; simp [h])]; simp [h]
theorem right_3 (s : ByteArray) (n line : Int) (kids : List Ex) : (Ex.mk 3 s n kids line).right = (bareB 3 n kids.length 0 && plainB s) := by
  have e : bareB 3 n kids.length 0 = (decide (kids.length = 0) && decide (n = 0)) := by unfold bareB; rw [len_zero, int_beq]; simp
  have e2 : ∀ m, rightK 3 s n m = (plainB s && decide (n = 0) && decide (m = 0)) := fun m => by unfold rightK; rw [if_neg (by decide), if_neg (by decide), if_pos rfl]
  rw [e]
  by_cases h : kids.length = 0
  · rw [right_zero h, decide_eq_true h, e2]; simp [Bool.and_comm]
  · rw [right_bare (by rw [e2]; simp [h])]; simp [h]
theorem right_4 (s : ByteArray) (n line : Int) (kids : List Ex) : (Ex.mk 4 s n kids line).right = (bareB 4 n kids.length 0 && nameB s) := by
  have e : bareB 4 n kids.length 0 = (decide (kids.length = 0) && decide (n = 0)) := by unfold bareB; rw [len_zero, int_beq]; simp
  have e2 : ∀ m, rightK 4 s n m = (nameB s && decide (n = 0) && decide (m = 0)) := fun m => by unfold rightK; rw [if_neg (by decide), if_neg (by decide), if_neg (by decide), if_pos rfl]
  rw [e]
  by_cases h : kids.length = 0
  · rw [right_zero h, decide_eq_true h, e2]; simp [Bool.and_comm]
  · rw [right_bare (by rw [e2]; simp [h])]; simp [h]
theorem right_5 (s : ByteArray) (n line : Int) (kids : List Ex) : (Ex.mk 5 s n kids line).right = (nameB s && ((n == 0) && rightL kids)) := by
  have e2 : ∀ m, rightK 5 s n m = (nameB s && decide (n = 0)) := fun m => by unfold rightK; rw [if_neg (by decide), if_neg (by decide), if_neg (by decide), if_neg (by decide), if_pos (.inl rfl)]
  simp only [Ex.right, e2, int_beq]
  cases rightL kids <;> cases nameB s <;> cases decide (n = 0) <;> rfl
theorem right_11 (s : ByteArray) (n line : Int) (kids : List Ex) : (Ex.mk 11 s n kids line).right = (nameB s && ((n == 0) && rightL kids)) := by
  have e2 : ∀ m, rightK 11 s n m = (nameB s && decide (n = 0)) := fun m => by unfold rightK; rw [if_neg (by decide), if_neg (by decide), if_neg (by decide), if_neg (by decide), if_pos (.inr rfl)]
  simp only [Ex.right, e2, int_beq]
  cases rightL kids <;> cases nameB s <;> cases decide (n = 0) <;> rfl
theorem right_10 (s : ByteArray) (n line : Int) (kids : List Ex) : (Ex.mk 10 s n kids line).right = ((s.toList.isEmpty && decide (0 < kids.length)) && ((n == 0) && rightL kids)) := by
  have e2 : ∀ m, rightK 10 s n m = (s.toList.isEmpty && decide (n = 0) && decide (0 < m)) := fun m => by
    unfold rightK
    rw [if_neg (by decide), if_neg (by decide), if_neg (by decide), if_neg (by decide), if_neg (by decide), if_neg (by decide), if_neg (by decide), if_neg (by decide), if_neg (by decide), if_pos rfl, size_empty]
  simp only [Ex.right, e2, int_beq]
  cases rightL kids <;> cases s.toList.isEmpty <;> cases decide (n = 0) <;> cases decide (0 < kids.length) <;> rfl
theorem right_6 (s : ByteArray) (n line : Int) (kids : List Ex) : (Ex.mk 6 s n kids line).right = (bareB 6 n kids.length 1 && (((s.toList == [45]) || (s.toList == [33])) && rightL kids)) := by
  have e : bareB 6 n kids.length 1 = (decide (kids.length = 1) && decide (n = 0)) := by unfold bareB; rw [show (1 : Int) = ((1 : Nat) : Int) from rfl, len_eq, int_beq]; simp
  have e2 : ∀ m, rightK 6 s n m = (((s.toList == [45]) || (s.toList == [33])) && decide (n = 0) && decide (m = 1)) := fun m => by
    unfold rightK
    rw [if_neg (by decide), if_neg (by decide), if_neg (by decide), if_neg (by decide), if_neg (by decide), if_pos rfl]
  rw [e]
  simp only [Ex.right, e2]
  cases rightL kids <;> cases (s.toList == [45]) || (s.toList == [33]) <;> cases decide (n = 0) <;> cases decide (kids.length = 1) <;> rfl
theorem right_7 (s : ByteArray) (n line : Int) (kids : List Ex) : (Ex.mk 7 s n kids line).right = (bareB 7 n kids.length 2 && (decide (0 ≤ lvl s) && rightL kids)) := by
  have e : bareB 7 n kids.length 2 = (decide (kids.length = 2) && decide (n = 0)) := by unfold bareB; rw [show (2 : Int) = ((2 : Nat) : Int) from rfl, len_eq, int_beq]; simp
  have e2 : ∀ m, rightK 7 s n m = (decide (0 ≤ lvl s) && decide (n = 0) && decide (m = 2)) := fun m => by
    unfold rightK
    rw [if_neg (by decide), if_neg (by decide), if_neg (by decide), if_neg (by decide), if_neg (by decide), if_neg (by decide), if_pos rfl]
  rw [e]
  simp only [Ex.right, e2]
  cases rightL kids <;> cases decide (0 ≤ lvl s) <;> cases decide (n = 0) <;> cases decide (kids.length = 2) <;> rfl
theorem right_8 (s : ByteArray) (n line : Int) (kids : List Ex) : (Ex.mk 8 s n kids line).right = (bareB 8 n kids.length 2 && (s.toList.isEmpty && rightL kids)) := by
  have e : bareB 8 n kids.length 2 = (decide (kids.length = 2) && decide (n = 0)) := by unfold bareB; rw [show (2 : Int) = ((2 : Nat) : Int) from rfl, len_eq, int_beq]; simp
  have e2 : ∀ m, rightK 8 s n m = (s.toList.isEmpty && decide (n = 0) && decide (m = 2)) := fun m => by
    unfold rightK
    rw [if_neg (by decide), if_neg (by decide), if_neg (by decide), if_neg (by decide), if_neg (by decide), if_neg (by decide), if_neg (by decide), if_pos rfl, size_empty]
  rw [e]
  simp only [Ex.right, e2]
  cases rightL kids <;> cases s.toList.isEmpty <;> cases decide (n = 0) <;> cases decide (kids.length = 2) <;> rfl
theorem right_9 (s : ByteArray) (n line : Int) (kids : List Ex) : (Ex.mk 9 s n kids line).right = (bareB 9 n kids.length 1 && (rightL kids && nameB s)) := by
  have e : bareB 9 n kids.length 1 = (decide (kids.length = 1) && decide (n = 0)) := by unfold bareB; rw [show (1 : Int) = ((1 : Nat) : Int) from rfl, len_eq, int_beq]; simp
  have e2 : ∀ m, rightK 9 s n m = (nameB s && decide (n = 0) && decide (m = 1)) := fun m => by
    unfold rightK
    rw [if_neg (by decide), if_neg (by decide), if_neg (by decide), if_neg (by decide), if_neg (by decide), if_neg (by decide), if_neg (by decide), if_neg (by decide), if_pos rfl]
  rw [e]
  simp only [Ex.right, e2]
  cases rightL kids <;> cases nameB s <;> cases decide (n = 0) <;> cases decide (kids.length = 1) <;> rfl
theorem right_other {k : Int} (s : ByteArray) (n line : Int) (kids : List Ex) (h : k < 1 ∨ 11 < k) : (Ex.mk k s n kids line).right = false := by
  refine right_bare ?_
  unfold rightK
  rw [if_neg (by omega), if_neg (by omega), if_neg (by omega), if_neg (by omega), if_neg (by omega), if_neg (by omega), if_neg (by omega), if_neg (by omega), if_neg (by omega), if_neg (by omega)]

/-! ### How long a text may be -/
theorem joinL_len (l : List (List UInt8)) : (joinL l).length ≤ (l.map List.length).sum + 2 * l.length := by
  induction l with
  | nil => simp [joinL]
  | cons t l ih =>
    cases l with
    | nil => simp [joinL]
    | cons u l => simp only [joinL, List.length_append, List.map_cons, List.sum_cons, List.length_cons] at ih ⊢; simp only [List.length_nil] ; omega
end Go.Proofs.YtggjeecpadnihaaGreatDoor

namespace Go.Proofs.YtggjeecpadnihaaGreatDoor
open Go Go.Proofs Go.Eng Go.RowKit Go.Sx
set_option linter.unusedVariables false
set_option linter.unusedSimpArgs false

theorem nDigits_le : ∀ (k u : Nat), 1 ≤ k → u < 10 ^ k → Lib.nDigits u ≤ k
  | 0, u, h, _ => by omega
  | k + 1, u, _, h => by
    by_cases h1 : u < 10
    · rw [Lib.nDigits_small h1]; omega
    · rw [Lib.nDigits_big h1]
      have hk : 1 ≤ k := by
        rcases Nat.eq_zero_or_pos k with h0 | h0
        · subst h0; simp at h; omega
        · exact h0
      have := nDigits_le k (u / 10) hk (by rw [Nat.pow_succ] at h; omega)
      omega
theorem itoa_le (n : Int) (h0 : -9223372036854775808 ≤ n) (h1 : n ≤ 9223372036854775807) : (Lib.itoa n).length ≤ 20 := by
  unfold Lib.itoa
  split
  · rw [List.length_cons, Lib.decDigits_length]
    have := nDigits_le 19 n.natAbs (by omega) (by omega)
    omega
  · rw [Lib.decDigits_length]
    have := nDigits_le 19 n.toNat (by omega) (by omega)
    omega
theorem name_le {s : ByteArray} (h : nameB s = true) : s.data.toList.length ≤ 20 := by
  unfold nameB at h
  simp only [Bool.and_eq_true, decide_eq_true_eq] at h
  rw [Array.length_toList]
  have : s.data.size = s.size := rfl
  omega
theorem quot_le {s : ByteArray} (h : plainB s = true) : (quotL s).length ≤ 512 := by
  unfold plainB at h
  rw [Bool.and_eq_true] at h
  have h1 : s.size ≤ 255 := by simpa using h.1
  have h2 := escL_len s.data.toList
  have h3 := specN_le s.data.toList
  have h4 : s.data.toList.length = s.size := by rw [Array.length_toList]; rfl
  unfold quotL
  rw [List.length_cons, List.length_append]
  simp only [List.length_cons, List.length_nil]
  omega
theorem lvl_le {s : ByteArray} (h : 0 ≤ lvl s) : s.data.toList.length ≤ 2 := by
  rw [← ByteArray.toList_eq]
  unfold lvl at h
  have key : ∀ l : List UInt8, l.length ≤ 2 → (s.toList == l) = true → s.toList.length ≤ 2 := fun l hl he => by rw [eq_of_beq he]; exact hl
  by_cases q0 : (s.toList == [124, 124]) = true
  · exact key _ (by decide) q0
  rw [if_neg q0] at h
  by_cases q1 : (s.toList == [38, 38]) = true
  · exact key _ (by decide) q1
  rw [if_neg q1] at h
  by_cases q2 : (s.toList == [61, 61]) = true
  · exact key _ (by decide) q2
  rw [if_neg q2] at h
  by_cases q3 : (s.toList == [33, 61]) = true
  · exact key _ (by decide) q3
  rw [if_neg q3] at h
  by_cases q4 : (s.toList == [60]) = true
  · exact key _ (by decide) q4
  rw [if_neg q4] at h
  by_cases q5 : (s.toList == [60, 61]) = true
  · exact key _ (by decide) q5
  rw [if_neg q5] at h
  by_cases q6 : (s.toList == [62]) = true
  · exact key _ (by decide) q6
  rw [if_neg q6] at h
  by_cases q7 : (s.toList == [62, 61]) = true
  · exact key _ (by decide) q7
  rw [if_neg q7] at h
  by_cases q8 : (s.toList == [43]) = true
  · exact key _ (by decide) q8
  rw [if_neg q8] at h
  by_cases q9 : (s.toList == [45]) = true
  · exact key _ (by decide) q9
  rw [if_neg q9] at h
  by_cases q10 : (s.toList == [42]) = true
  · exact key _ (by decide) q10
  rw [if_neg q10] at h
  by_cases q11 : (s.toList == [47]) = true
  · exact key _ (by decide) q11
  rw [if_neg q11] at h
  by_cases q12 : (s.toList == [37]) = true
  · exact key _ (by decide) q12
  rw [if_neg q12] at h
  omega
theorem kidsum {l : List Ex} (h : ∀ e ∈ l, e.txt.length + 10 ≤ 1000 * e.cnt) : ((l.map Ex.txt).map List.length).sum + 10 * l.length ≤ 1000 * cntL l := by
  induction l with
  | nil => simp [cntL]
  | cons e l ih =>
    have h1 := h e (by simp)
    have h2 := ih (fun x hx => h x (by simp [hx]))
    simp only [List.map_cons, List.sum_cons, List.length_cons, cntL]
    omega
theorem win_le (b : Int) (t : List UInt8) (k : Int) : (win b t k).length ≤ t.length + 2 := by
  unfold win
  split
  · simp
  · omega
theorem kidT_le {l : List Ex} (i : Nat) (k : Int) (h : ∀ e ∈ l, e.txt.length + 10 ≤ 1000 * e.cnt) {e : Ex} (he : l[i]? = some e) : (kidT (txts l) i k).length + 8 ≤ 1000 * e.cnt := by
  unfold kidT
  rw [txts_get he]
  have h1 := h e (List.mem_of_getElem? he)
  have h2 := win_le e.bind e.txt k
  simp only
  omega
theorem kidT_none {l : List Ex} (i : Nat) (k : Int) (he : l[i]? = none) : (kidT (txts l) i k).length = 0 := by
  unfold kidT
  have : (txts l)[i]? = none := by rw [List.getElem?_eq_none_iff] at he ⊢; rw [txts_len]; exact he
  rw [this]; rfl
theorem cntL_two {l : List Ex} {a b : Ex} (ha : l[0]? = some a) (hb : l[1]? = some b) : a.cnt + b.cnt ≤ cntL l := by
  match l, ha, hb with
  | x :: y :: l, ha, hb => simp at ha hb; subst ha; subst hb; simp only [cntL]; omega

theorem txt_len {W : World} : ∀ (m : Nat) (e : Ex) (cs : List Value), e.cnt = m → ExIn W e cs → e.right = true → e.txt.length + 10 ≤ 1000 * m := by
  intro m
  induction m using Nat.strongRecOn with
  | ind m ih =>
  intro e cs he hin hr
  obtain ⟨k, s, n, kids, line⟩ := e
  simp only [ExIn] at hin
  obtain ⟨so, cap, _, ⟨hn0, hn1, _⟩, hl, hk⟩ := hin
  simp only [Ex.cnt] at he
  have hr' := hr
  simp only [Ex.right, Bool.and_eq_true] at hr'
  obtain ⟨hrl, hrk⟩ := hr'
  have hkid : ∀ e ∈ kids, e.txt.length + 10 ≤ 1000 * e.cnt := fun e hx => by
    obtain ⟨i, hi⟩ := List.mem_iff_getElem?.1 hx
    obtain ⟨g, o, c0, c1, c2, c3, c4, _, _, _, _, _, _, _, h5⟩ := kids_at hk hi
    exact ih e.cnt (by have := cntL_get hi; omega) e _ rfl h5 (rightL_iff.1 hrl e hx)
  have hsum := kidsum hkid
  have hjl := joinL_len (kids.map Ex.txt)
  rw [List.length_map] at hjl
  simp only [Ex.txt, txtK, txts_snd]
  have hk0 : ∀ i c, (kidT (txts kids) i c).length ≤ 1000 * cntL kids := fun i c => by
    cases hq : kids[i]? with
    | none => rw [kidT_none i c hq]; omega
    | some e => have := kidT_le i c hkid hq; have := cntL_get hq; omega
  have hk01 : ∀ c d, (kidT (txts kids) 0 c).length + (kidT (txts kids) 1 d).length ≤ 1000 * cntL kids := fun c d => by
    cases h0 : kids[0]? with
    | none =>
      rw [kidT_none 0 c h0]; have := hk0 1 d; omega
    | some a =>
      cases h1 : kids[1]? with
      | none => rw [kidT_none 1 d h1]; have := hk0 0 c; omega
      | some b =>
        have q0 := kidT_le 0 c hkid h0
        have q1 := kidT_le 1 d hkid h1
        have q2 := cntL_two h0 h1
        omega
  unfold rightK at hrk
  by_cases h1 : k = 1
  · rw [if_pos h1]; have := itoa_le n hn0 hn1; omega
  rw [if_neg h1] at hrk ⊢
  by_cases h2 : k = 2
  · rw [if_pos h2]; split <;> simp <;> omega
  rw [if_neg h2] at hrk ⊢
  by_cases h3 : k = 3
  · rw [if_pos h3] at hrk ⊢
    simp only [Bool.and_eq_true] at hrk
    have := quot_le hrk.1.1; omega
  rw [if_neg h3] at hrk ⊢
  by_cases h4 : k = 4
  · rw [if_pos h4] at hrk ⊢
    simp only [Bool.and_eq_true] at hrk
    have := name_le hrk.1.1; omega
  rw [if_neg h4] at hrk ⊢
  by_cases h5 : k = 5
  · rw [if_pos (.inl h5)] at hrk
    rw [if_pos h5]
    simp only [Bool.and_eq_true] at hrk
    have := name_le hrk.1
    simp only [List.length_append, List.length_cons, List.length_nil]; omega
  rw [if_neg h5]
  by_cases h6 : k = 6
  · rw [if_pos h6]
    rw [if_neg (by omega), if_pos h6] at hrk
    simp only [Bool.and_eq_true] at hrk
    have hs : s.data.toList.length ≤ 2 := by
      rw [← ByteArray.toList_eq]
      have := hrk.1.1
      rw [Bool.or_eq_true] at this
      rcases this with h | h <;> rw [eq_of_beq h] <;> decide
    have := hk0 0 6
    simp only [List.length_append]; omega
  rw [if_neg h6]
  by_cases h7 : k = 7
  · rw [if_pos h7]
    rw [if_neg (by omega), if_neg h6, if_pos h7] at hrk
    simp only [Bool.and_eq_true, decide_eq_true_eq] at hrk
    have hs := lvl_le hrk.1.1
    have := hk01 (lvl s) (lvl s + 1)
    simp only [List.length_append, List.length_cons]; omega
  rw [if_neg h7]
  by_cases h8 : k = 8
  · rw [if_pos h8]
    have := hk01 7 (-1)
    simp only [List.length_append, List.length_cons, List.length_nil]; omega
  rw [if_neg h8]
  by_cases h9 : k = 9
  · rw [if_pos h9]
    rw [if_neg (by omega), if_neg h6, if_neg h7, if_neg h8, if_pos h9] at hrk
    simp only [Bool.and_eq_true] at hrk
    have := name_le hrk.1.1
    have := hk0 0 7
    simp only [List.length_append, List.length_cons]; omega
  rw [if_neg h9]
  by_cases h10 : k = 10
  · rw [if_pos h10]
    simp only [List.length_append, List.length_cons, List.length_nil]; omega
  rw [if_neg h10]
  rw [if_neg h6, if_neg h7, if_neg h8, if_neg h9, if_neg h10] at hrk
  by_cases h11 : k = 5 ∨ k = 11
  · rw [if_pos h11] at hrk
    simp only [Bool.and_eq_true] at hrk
    have := name_le hrk.1
    simp only [List.length_append, List.length_cons, List.length_nil]; omega
  · rw [if_neg h11] at hrk; cases hrk
end Go.Proofs.YtggjeecpadnihaaGreatDoor

namespace Go.Proofs.YtggjeecpadnihaaGreatDoor
open Go Go.Proofs Go.Eng Go.RowKit Go.Sx Go.Deep
set_option linter.unusedVariables false
set_option linter.unusedSimpArgs false

theorem Globs.old {hv : Value} {W w : World} {gl : List (Nat × List AVal)} (h : Globs hv W gl) (ho : Old W w) : Globs hv w gl := by
  intro x hx
  obtain ⟨c, e, frz, h1, h2⟩ := h x hx
  exact ⟨c, e, frz, by rw [ho.block x.1 (lt_of_get h1)]; exact h1, h2⟩

/-- Where the writer stands: what came in lies below W's end, what it makes from B on. -/
structure Ctx (W : World) (B : Nat) (w : World) : Prop where
  hg : Globs hv W gl
  ng : 9 ≤ W.heap.size
  WB : W.heap.size ≤ B
  old : Old W w
  Bw : B ≤ w.heap.size
theorem Ctx.next {W : World} {B : Nat} {w w' : World} (h : Ctx W B w) (hb : Below B w w') : Ctx W B w' := ⟨h.hg, h.ng, h.WB, h.old.belowB h.WB hb, Nat.le_trans h.Bw hb.size⟩
theorem Ctx.low {W : World} {B : Nat} {w w' : World} (h : Ctx W B w) (hb : Below w.heap.size w w') : Ctx W B w' := h.next (RowKit.Below.mono hb h.Bw)
theorem Ctx.globs {W : World} {B : Nat} {w : World} (h : Ctx W B w) : Globs hv w gl := Globs.old h.hg h.old

theorem WPost.pre {B b : Nat} {l t : List UInt8} {ok : Bool} {w w1 w' : World} {e : Ending} (hb : Below B w w1) (hw : Wr b w w1) (h : WPost B b l t ok w1 e w') : WPost B b l t ok w e w' := by
  cases ok with
  | true => exact ⟨h.1, h.2.1, hb.trans h.2.2.1, hw.trans h.2.2.2⟩
  | false => exact ⟨h.1, hb.trans h.2⟩
theorem WPost.low {B b : Nat} {l t : List UInt8} {ok : Bool} {w w1 w' : World} {e : Ending} (hb : Below w.heap.size w w1) (hB : B ≤ w.heap.size) (h : WPost B b l t ok w1 e w') : WPost B b l t ok w e w' :=
  h.pre (RowKit.Below.mono hb hB) (Wr.of hb)
theorem WPost.seq {B b : Nat} {l t1 t2 : List UInt8} {ok : Bool} {w w1 w' : World} {e : Ending} (hb : Below B w w1) (hw : Wr b w w1) (h : WPost B b (l ++ t1) t2 ok w1 e w') : WPost B b l (t1 ++ t2) ok w e w' := by
  cases ok with
  | true => exact ⟨h.1, by rw [← List.append_assoc]; exact h.2.1, hb.trans h.2.2.1, hw.trans h.2.2.2⟩
  | false => exact ⟨h.1, hb.trans h.2⟩

/-- What writing an expression does. -/
def ExprC (W : World) (e : Ex) : Prop := ∀ (cs : List Value) (B b : Nat) (l : List UInt8) (w : World), ExIn W e cs → Ctx W B w → BufAt 83 [] B b l w → l.length + 1000 * e.cnt ≤ 100000000 →
  Calls Tryz.prog 20 #[.pointer (some ⟨b, 0, none⟩), .agg ⟨cs⟩] w (WPost B b l e.txt e.right w)

set_option maxRecDepth 100000 in
theorem any_any {W : World} {e : Ex} (H : ExprC W e) (cs : List Value) (B b : Nat) (l : List UInt8) (w : World) (hin : ExIn W e cs) (hc : Ctx W B w) (hb : BufAt 83 [] B b l w) (hl : l.length + 1000 * e.cnt ≤ 100000000) :
    Calls Tryz.prog 77 #[.pointer (some ⟨b, 0, none⟩), .agg ⟨cs⟩] w (WPost B b l e.txt e.right w) := by
  obtain ⟨k, s, n, kids, line⟩ := e
  have hin' := hin
  simp only [ExIn] at hin'
  obtain ⟨so, cap, rfl, _⟩ := hin'
  have hal : Below w.heap.size w (w.alloc (.cells ⟨[.int .i64 k, .string s, .int .i64 n, .slice so kids.length cap, .int .i64 line]⟩ 25)) := (RowKit.Below.refl _ _).alloc (Nat.le_refl _) _
  have HC := Lib.hid (H _ B b l _ hin (hc.low hal) (hb.below hal) hl)
  have HAL := Lib.hid hal
  have HB := Lib.hid hc.Bw
  clear H hin hc hb hl hal
  generalize (Ex.mk k s n kids line).right = ok at HC ⊢
  generalize (Ex.mk k s n kids line).txt = t at HC ⊢
  go_enter Tryz.func77, Tryz.ntmps77
  go_wp2_with fail
  go_at_call 20
  refine HC.out.mono ?_
  intro e w2 hp
  have hp2 := hp.low HAL.out HB.out
  clear hp HC HAL HB
  cases ok with
  | true =>
    obtain ⟨rfl, p⟩ := hp2
    have FIN : Hid (WPost B b l t true w (.returned (.tuple #[])) w2) := Lib.hid ⟨rfl, p⟩
    clear p
    simp only
    go_wp2
    go_end0
    exact FIN.out
  | false =>
    obtain ⟨rfl, p⟩ := hp2
    exact ⟨rfl, rfl, p⟩

set_option maxRecDepth 100000 in
theorem within_any {W : World} {e : Ex} (H : ExprC W e) (cs : List Value) (B b : Nat) (l : List UInt8) (w : World) (least : Int) (hin : ExIn W e cs) (hc : Ctx W B w) (hb : BufAt 83 [] B b l w) (hl : l.length + 1000 * e.cnt + 10 ≤ 100000000) :
    Calls Tryz.prog 78 #[.pointer (some ⟨b, 0, none⟩), .agg ⟨cs⟩, .int .i64 least] w (WPost B b l (win e.bind e.txt least) e.right w) := by
  have hlen := txt_len _ _ _ rfl hin
  obtain ⟨k, s, n, kids, line⟩ := e
  have hin' := hin
  simp only [ExIn] at hin'
  obtain ⟨so, cap, rfl, _⟩ := hin'
  have hbind : (Ex.mk k s n kids line).bind = bindK k s := rfl
  rw [hbind]
  have hal : Below w.heap.size w (w.alloc (.cells ⟨[.int .i64 k, .string s, .int .i64 n, .slice so kids.length cap, .int .i64 line]⟩ 25)) := (RowKit.Below.refl _ _).alloc (Nat.le_refl _) _
  have hrow : (w.alloc (.cells ⟨[.int .i64 k, .string s, .int .i64 n, .slice so kids.length cap, .int .i64 line]⟩ 25)).heap[w.heap.size]? = some (.cells ⟨[.int .i64 k, .string s, .int .i64 n, .slice so kids.length cap, .int .i64 line]⟩ 25 (0, 0)) := heap_alloc_new _ _
  obtain ⟨W1, hW1⟩ : ∃ W1, W1 = w.alloc (.cells ⟨[.int .i64 k, .string s, .int .i64 n, .slice so kids.length cap, .int .i64 line]⟩ 25) := ⟨_, rfl⟩
  rw [← hW1] at hal hrow
  have HBI := Lib.hid (binds_any k n s so kids.length cap line W1)
  have HAL := Lib.hid hal
  have HROW := Lib.hid hrow
  have HIN := Lib.hid hin
  have HC := Lib.hid (hc.low hal)
  have HB := Lib.hid (hb.below hal)
  have HBB := Lib.hid hc.Bw
  have HL := Lib.hid hl
  have HLEN := Lib.hid hlen
  have HEX := Lib.hid (fun (l : List UInt8) (w : World) (h1 : Ctx W B w) (h2 : BufAt 83 [] B b l w) (h3 : l.length + 1000 * (Ex.mk k s n kids line).cnt ≤ 100000000) => H _ B b l w hin h1 h2 h3)
  have HBL := Lib.hid hb.lt
  clear hin hc hb hl hal hrow hlen
  generalize hBI : bindK k s = bi at *
  clear hBI
  have HNW : Hid (bi < least → win bi (Ex.mk k s n kids line).txt least = 40 :: ((Ex.mk k s n kids line).txt ++ [41])) := Lib.hid fun h => by unfold win; rw [if_pos h]
  have HNN : Hid (¬ bi < least → win bi (Ex.mk k s n kids line).txt least = (Ex.mk k s n kids line).txt) := Lib.hid fun h => by unfold win; rw [if_neg h]
  generalize (Ex.mk k s n kids line).right = ok at *
  generalize (Ex.mk k s n kids line).txt = t at *
  clear H HIN
  by_cases hlt : bi < least
  · rw [HNW.out hlt]
    have hd : decide (least ≤ bi) = false := decide_eq_false (by omega)
    clear hlt HNW HNN
    go_enter Tryz.func78, Tryz.ntmps78
    go_wp2_with fail
    rw [← hW1]
    clear hW1
    go_at_call 106
    refine HBI.out.mono ?_
    rintro e w2 ⟨rfl, hb2⟩
    have hrow2 : w2.heap[w.heap.size]? = some (.cells ⟨[.int .i64 k, .string s, .int .i64 n, .slice so kids.length cap, .int .i64 line]⟩ 25 (0, 0)) := (hb2.block _ (Array.getElem?_eq_some_iff.1 HROW.out).1).trans HROW.out
    have k0 : w2.cell? ⟨w.heap.size, 0, none⟩ = some (.int .i64 k) := (Lib.cell_of_heap hrow2 0).trans rfl
    have k1 : w2.cell? ⟨w.heap.size, 1, none⟩ = some (.string s) := (Lib.cell_of_heap hrow2 1).trans rfl
    have k2 : w2.cell? ⟨w.heap.size, 2, none⟩ = some (.int .i64 n) := (Lib.cell_of_heap hrow2 2).trans rfl
    have k3 : w2.cell? ⟨w.heap.size, 3, none⟩ = some (.slice so kids.length cap) := (Lib.cell_of_heap hrow2 3).trans rfl
    have k4 : w2.cell? ⟨w.heap.size, 4, none⟩ = some (.int .i64 line) := (Lib.cell_of_heap hrow2 4).trans rfl
    have HW2 := Lib.hid (HAL.out.trans (RowKit.Below.mono hb2 HAL.out.size))
    have HC2 := Lib.hid (HC.out.low hb2)
    have HB2 := Lib.hid (HB.out.below hb2)
    have HR2 := Lib.hid hrow2
    clear hb2 hrow2 HBI HC HB
    simp only
    have HP := Lib.hid (sput1 (w := w2) ⟨#[40]⟩ HB2.out HC2.out.Bw (by have := HL.out; show l.length + 1 ≤ _; omega))
    go_wp2_with fail
    go_at_call 43
    refine HP.out.mono ?_
    rintro e w3 ⟨rfl, p1, p2, p3⟩
    have hne : w.heap.size ≠ b := fun e => by have := HBL.out; omega
    have hrow3 := p3.cell HR2.out hne (by decide)
    have k0' : w3.cell? ⟨w.heap.size, 0, none⟩ = some (.int .i64 k) := (Lib.cell_of_heap hrow3 0).trans rfl
    have k1' : w3.cell? ⟨w.heap.size, 1, none⟩ = some (.string s) := (Lib.cell_of_heap hrow3 1).trans rfl
    have k2' : w3.cell? ⟨w.heap.size, 2, none⟩ = some (.int .i64 n) := (Lib.cell_of_heap hrow3 2).trans rfl
    have k3' : w3.cell? ⟨w.heap.size, 3, none⟩ = some (.slice so kids.length cap) := (Lib.cell_of_heap hrow3 3).trans rfl
    have k4' : w3.cell? ⟨w.heap.size, 4, none⟩ = some (.int .i64 line) := (Lib.cell_of_heap hrow3 4).trans rfl
    have HC3 := Lib.hid (HC2.out.next p2)
    have HCALL := Lib.hid (HEX.out _ w3 (HC2.out.next p2) p1 (by have := HL.out; rw [List.length_append]; show l.length + 1 + _ ≤ _; omega))
    have HW3 := Lib.hid (And.intro ((RowKit.Below.mono HW2.out HBB.out).trans p2) ((Wr.of HW2.out).trans p3))
    clear p1 p2 p3 k0 k1 k2 k3 k4 HP HB2 HC2 hrow3 HR2 HEX
    simp only
    go_wp2_with fail
    go_at_call 20
    refine HCALL.out.mono ?_
    intro e w4 hp
    have hp2 := hp.seq HW3.out.1 HW3.out.2
    clear hp HCALL k0' k1' k2' k3' k4'
    cases ok with
    | false =>
      obtain ⟨rfl, p⟩ := hp2
      exact ⟨rfl, rfl, p⟩
    | true =>
      obtain ⟨rfl, q1, q2, q3⟩ := hp2
      have HP2 := Lib.hid (sput1 (w := w4) ⟨#[41]⟩ q1 (Nat.le_trans HBB.out q2.size) (by
        have h1 := HL.out; have h2 := HLEN.out rfl
        rw [List.length_append, List.length_append]; show l.length + (1 + t.length) + 1 ≤ _; omega))
      have HQ := Lib.hid (And.intro q2 q3)
      clear q1 q2 q3
      simp only
      go_wp2_with fail
      go_at_call 43
      refine HP2.out.mono ?_
      rintro e w5 ⟨rfl, r1, r2, r3⟩
      have FIN : Hid (WPost B b l (40 :: (t ++ [41])) true w (.returned (.tuple #[])) w5) := Lib.hid ⟨rfl, by simpa using r1, HQ.out.1.trans r2, HQ.out.2.trans r3⟩
      clear r1 r2 r3 HP2
      simp only
      go_wp2
      go_end0
      exact FIN.out
  · rw [HNN.out hlt]
    have hd : decide (least ≤ bi) = true := decide_eq_true (by omega)
    clear hlt HNW HNN
    go_enter Tryz.func78, Tryz.ntmps78
    go_wp2_with fail
    rw [← hW1]
    clear hW1
    go_at_call 106
    refine HBI.out.mono ?_
    rintro e w2 ⟨rfl, hb2⟩
    have hrow2 : w2.heap[w.heap.size]? = some (.cells ⟨[.int .i64 k, .string s, .int .i64 n, .slice so kids.length cap, .int .i64 line]⟩ 25 (0, 0)) := (hb2.block _ (Array.getElem?_eq_some_iff.1 HROW.out).1).trans HROW.out
    have k0 : w2.cell? ⟨w.heap.size, 0, none⟩ = some (.int .i64 k) := (Lib.cell_of_heap hrow2 0).trans rfl
    have k1 : w2.cell? ⟨w.heap.size, 1, none⟩ = some (.string s) := (Lib.cell_of_heap hrow2 1).trans rfl
    have k2 : w2.cell? ⟨w.heap.size, 2, none⟩ = some (.int .i64 n) := (Lib.cell_of_heap hrow2 2).trans rfl
    have k3 : w2.cell? ⟨w.heap.size, 3, none⟩ = some (.slice so kids.length cap) := (Lib.cell_of_heap hrow2 3).trans rfl
    have k4 : w2.cell? ⟨w.heap.size, 4, none⟩ = some (.int .i64 line) := (Lib.cell_of_heap hrow2 4).trans rfl
    have HW2 := Lib.hid (HAL.out.trans (RowKit.Below.mono hb2 HAL.out.size))
    have HC2 := Lib.hid (HC.out.low hb2)
    have HB2 := Lib.hid (HB.out.below hb2)
    have HR2 := Lib.hid hrow2
    clear hb2 hrow2 HBI HC HB
    simp only
    have HCALL := Lib.hid (HEX.out _ w2 HC2.out HB2.out (by have := HL.out; omega))
    clear HEX
    go_wp2_with fail
    go_at_call 20
    refine HCALL.out.mono ?_
    intro e w4 hp
    have hp2 := hp.low HW2.out HBB.out
    clear hp HCALL k0 k1 k2 k3 k4
    cases ok with
    | true =>
      obtain ⟨rfl, p⟩ := hp2
      have FIN : Hid (WPost B b l t true w (.returned (.tuple #[])) w4) := Lib.hid ⟨rfl, p⟩
      clear p
      simp only
      go_wp2
      go_end0
      exact FIN.out
    | false =>
      obtain ⟨rfl, p⟩ := hp2
      exact ⟨rfl, rfl, p⟩
end Go.Proofs.YtggjeecpadnihaaGreatDoor

namespace Go.Proofs.YtggjeecpadnihaaGreatDoor
open Go Go.Proofs Go.Eng Go.RowKit Go.Sx Go.Deep
set_option linter.unusedVariables false
set_option linter.unusedSimpArgs false

theorem joinL_snoc (t : List UInt8) : ∀ (l : List (List UInt8)), l ≠ [] → joinL (l ++ [t]) = joinL l ++ ([44, 32] ++ t)
  | [], h => absurd rfl h
  | [a], _ => by simp [joinL]
  | a :: b :: l, _ => by
    have ih := joinL_snoc t (b :: l) (by simp)
    simp only [List.cons_append, joinL] at ih ⊢
    rw [ih]
    simp
theorem rightL_take {l : List Ex} {i : Nat} {e : Ex} (h : l[i]? = some e) (hr : rightL (l.take i) = true) : rightL (l.take (i + 1)) = e.right := by
  rw [List.take_add_one, h]
  have : rightL (l.take i ++ [e]) = (rightL (l.take i) && e.right) := by
    generalize l.take i = a
    induction a with
    | nil => simp [rightL]
    | cons x a ih => simp [rightL, ih, Bool.and_assoc]
  show rightL (l.take i ++ [e]) = _
  rw [this, hr]; rfl
theorem rightL_false {l : List Ex} {i : Nat} {e : Ex} (h : l[i]? = some e) (he : e.right = false) : rightL l = false := by
  cases hq : rightL l with
  | false => rfl
  | true =>
    have := rightL_iff.1 hq e (List.mem_of_getElem? h)
    rw [he] at this; cases this
theorem map_take {l : List Ex} {i : Nat} {e : Ex} (h : l[i]? = some e) : (l.take (i + 1)).map Ex.txt = (l.take i).map Ex.txt ++ [e.txt] := by
  rw [List.take_add_one, h]; simp
theorem cntL_take {l : List Ex} {i : Nat} {e : Ex} (h : l[i]? = some e) : cntL (l.take i) + e.cnt ≤ cntL l := by
  have e1 : l = l.take (i + 1) ++ l.drop (i + 1) := (List.take_append_drop _ _).symm
  have e2 : cntL l = cntL (l.take (i + 1)) + cntL (l.drop (i + 1)) := by rw [← cntL_app, List.take_append_drop]
  rw [List.take_add_one, h] at e2
  have : cntL (l.take i ++ [e]) = cntL (l.take i) + e.cnt := by rw [cntL_app]; simp [cntL]
  simp only [Option.toList] at e2
  omega
theorem jl_len {W : World} {kids : List Ex} {so : Option Addr} (hk : ∀ (i : Nat) e, kids[i]? = some e → KidAt W so i e) {i : Nat} (hr : rightL (kids.take i) = true) : (joinL ((kids.take i).map Ex.txt)).length + 8 * (kids.take i).length ≤ 1000 * cntL (kids.take i) := by
  have h1 : ∀ e ∈ kids.take i, e.txt.length + 10 ≤ 1000 * e.cnt := fun e he => by
    obtain ⟨j, hj⟩ := List.mem_iff_getElem?.1 (List.mem_of_mem_take he)
    obtain ⟨g, o, c0, c1, c2, c3, c4, _, _, _, _, _, _, _, h5⟩ := hk j e hj
    exact txt_len _ _ _ rfl h5 (rightL_iff.1 hr e he)
  have h2 := kidsum h1
  have h3 := joinL_len ((kids.take i).map Ex.txt)
  rw [List.length_map] at h3
  omega

set_option maxRecDepth 100000 in
set_option maxHeartbeats 1000000 in
theorem each_any {W : World} {kids : List Ex} {so : Option Addr} {cap : Nat} (hk : ∀ (i : Nat) e, kids[i]? = some e → KidAt W so i e) (H : ∀ (i : Nat) e, kids[i]? = some e → ExprC W e) (hkl : kids.length ≤ 9223372036854775807)
    (B b : Nat) (l : List UInt8) (w : World) (hc : Ctx W B w) (hb : BufAt 83 [] B b l w) (hl : l.length + 1000 * cntL kids ≤ 100000000) :
    Calls Tryz.prog 76 #[.pointer (some ⟨b, 0, none⟩), .slice so kids.length cap, .func (.func 77) #[.pointer (some ⟨b, 0, none⟩)] #[]] w (WPost B b l (joinL (kids.map Ex.txt)) (rightL kids) w) := by
  have HK := Lib.hid hk
  have HH := Lib.hid H
  have HC := Lib.hid hc
  have HB := Lib.hid hb
  have HL := Lib.hid hl
  clear hk H hc hb hl
  go_enter Tryz.func76, Tryz.ntmps76
  go_wp2_with fail
  go_loopg [10] kids.length (fun kx s10 wr => ∃ i : Nat, s10 = .int .i64 i ∧ i ≤ kids.length ∧ kids.length - i ≤ kx ∧ Aside (rightL (kids.take i) = true ∧ BufAt 83 [] B b (l ++ joinL ((kids.take i).map Ex.txt)) wr ∧ Below B w wr ∧ Wr b w wr))
  case atStart => exact ⟨0, rfl, by omega, by omega, rfl, by simpa [joinL] using HB.out, RowKit.Below.refl _ _, Wr.refl _ _⟩
  case round =>
    obtain ⟨i, rfl, hi, hg, hA⟩ := hrel
    have HA := Lib.hid hA.out
    clear hA
    by_cases hil : i < kids.length
    · have hx : kids[i]? = some kids[i] := List.getElem?_eq_getElem hil
      obtain ⟨g, o, so', cap', rfl, hgW, a0, a1, a2, a3, a4, ht⟩ := kid_open (HK.out i _ hx)
      have hCr := HC.out.next HA.out.2.2.1
      have hold := hCr.old
      have d0 := hold.cell a0
      have d1 := hold.cell a1
      have d2 := hold.cell a2
      have d3 := hold.cell a3
      have d4 := hold.cell a4
      have HEC := Lib.hid (HH.out i _ hx)
      have HX := Lib.hid hx
      have HIN := Lib.hid ht
      have HCr := Lib.hid hCr
      have hjl := jl_len HK.out HA.out.1
      have hct := cntL_take hx
      have HJL : Hid (0 < i → (l ++ joinL ((kids.take i).map Ex.txt)).length + 2 + 1000 * (kids[i] : Ex).cnt ≤ 100000000) := Lib.hid (fun h0 => by rw [List.length_append]; have := HL.out; rw [List.length_take] at hjl; omega)
      have HJL2 : Hid ((l ++ joinL ((kids.take i).map Ex.txt)).length + 1000 * (kids[i] : Ex).cnt ≤ 100000000) := Lib.hid (by rw [List.length_append]; have := HL.out; omega)
      have HFALSE : Hid ((kids[i] : Ex).right = false → ∀ w', Below B w w' → WPost B b l (joinL (kids.map Ex.txt)) (rightL kids) w (.panicked unfitP) w') := Lib.hid (fun he w' hb' => by rw [rightL_false HX.out he]; exact ⟨rfl, hb'⟩)
      have HRT : Hid (rightL (kids.take (i + 1)) = (kids[i] : Ex).right) := Lib.hid (rightL_take hx HA.out.1)
      have HMT := Lib.hid (map_take hx)
      have hi1 : (i : Int) < (kids.length : Int) := by omega
      have hi0 : (0 : Int) ≤ (i : Int) := by omega
      generalize kids[i] = kd at *
      obtain ⟨k', s', n', kids', line'⟩ := kd
      simp only [Ex.kind, Ex.str, Ex.num, Ex.kids, Ex.line] at d0 d1 d2 d3 d4 HIN
      have hal : Below wr.heap.size wr (wr.alloc (.cells #[.int .i64 k', .string s', .int .i64 n', .slice so' kids'.length cap', .int .i64 line'] 25)) := (RowKit.Below.refl _ _).alloc (Nat.le_refl _) _
      have HAL := Lib.hid hal
      have HANY := Lib.hid (fun (l : List UInt8) (w : World) (h1 : Ctx W B w) (h2 : BufAt 83 [] B b l w) (h3 : l.length + 1000 * (Ex.mk k' s' n' kids' line').cnt ≤ 100000000) => any_any HEC.out _ B b l w HIN.out h1 h2 h3)
      have HSIZE := Lib.hid (show (wr.alloc (.cells #[.int .i64 k', .string s', .int .i64 n', .slice so' kids'.length cap', .int .i64 line'] 25)).heap[wr.heap.size]? = some (.cells #[.int .i64 k', .string s', .int .i64 n', .slice so' kids'.length cap', .int .i64 line'] 25 (0, 0)) from heap_alloc_new _ _)
      have HBL := Lib.hid HA.out.2.1.lt
      clear a0 a1 a2 a3 a4 ht hx hold hCr hjl hct hal HEC HIN
      generalize (Ex.mk k' s' n' kids' line').right = ok at *
      generalize (Ex.mk k' s' n' kids' line').txt = t at *
      generalize (Ex.mk k' s' n' kids' line').cnt = cn at *
      by_cases hi00 : i = 0
      · subst hi00
        have hi1n : 0 < kids.length := hil
        simp only [Nat.zero_mul, Nat.add_zero] at d0 d1 d2 d3 d4
        have HCALL := Lib.hid (HANY.out _ _ (HCr.out.low HAL.out) (HA.out.2.1.below HAL.out) HJL2.out)
        clear HANY
        go_wp2_with fail
        go_at_call 77
        refine HCALL.out.mono ?_
        intro e w2 hp
        have hp2 := hp.low HAL.out HCr.out.Bw
        clear hp HCALL d0 d1 d2 d3 d4
        cases ok with
        | false =>
          obtain ⟨rfl, p⟩ := hp2
          exact ⟨rfl, HFALSE.out rfl w2 (HA.out.2.2.1.trans p)⟩
        | true =>
          obtain ⟨rfl, q1, q2, q3⟩ := hp2
          have FIN : Hid (BufAt 83 [] B b (l ++ joinL ((kids.take (0 + 1)).map Ex.txt)) w2 ∧ Below B w w2 ∧ Wr b w w2) := Lib.hid ⟨by rw [HMT.out]; simpa [joinL] using q1, HA.out.2.2.1.trans q2, HA.out.2.2.2.trans q3⟩
          clear q1 q2 q3
          simp only
          go_wp2_with fail
          go_roundg (kids.length - (0 + 1))
          case measure => omega
          case rel => exact ⟨0 + 1, by go_num, by omega, Nat.le_refl _, HRT.out, FIN.out⟩
      · have hi2 : (0 : Int) < (i : Int) := by omega
        have hne : (kids.take i).map Ex.txt ≠ [] := by
          intro h
          have := congrArg List.length h
          rw [List.length_map, List.length_take, List.length_nil] at this
          omega
        have HJS := Lib.hid (joinL_snoc t _ hne)
        have hsz : (wr.alloc (.cells #[.int .i64 k', .string s', .int .i64 n', .slice so' kids'.length cap', .int .i64 line'] 25)).heap.size = wr.heap.size + 1 := Array.size_push ..
        have hput := sput1 (w := wr.alloc (.cells #[.int .i64 k', .string s', .int .i64 n', .slice so' kids'.length cap', .int .i64 line'] 25)) ⟨#[44, 32]⟩ (HA.out.2.1.below HAL.out) (HCr.out.low HAL.out).Bw (by have := HJL.out (by omega); show _ + 2 ≤ _; omega)
        rw [hsz] at hput
        have HPUT := Lib.hid hput
        clear hput hsz
        clear hne
        go_wp2_with fail
        go_at_call 43
        refine HPUT.out.mono ?_
        rintro e w2 ⟨rfl, p1, p2, p3⟩
        have hne2 : wr.heap.size ≠ b := fun e => by have := HBL.out; omega
        have hrow2 := p3.cell HSIZE.out hne2 (by decide)
        have c0 : w2.cell? ⟨wr.heap.size, 0, none⟩ = some (.int .i64 k') := (Lib.cell_of_heap hrow2 0).trans rfl
        have c1 : w2.cell? ⟨wr.heap.size, 1, none⟩ = some (.string s') := (Lib.cell_of_heap hrow2 1).trans rfl
        have c2 : w2.cell? ⟨wr.heap.size, 2, none⟩ = some (.int .i64 n') := (Lib.cell_of_heap hrow2 2).trans rfl
        have c3 : w2.cell? ⟨wr.heap.size, 3, none⟩ = some (.slice so' kids'.length cap') := (Lib.cell_of_heap hrow2 3).trans rfl
        have c4 : w2.cell? ⟨wr.heap.size, 4, none⟩ = some (.int .i64 line') := (Lib.cell_of_heap hrow2 4).trans rfl
        have HB2 := Lib.hid (And.intro ((RowKit.Below.mono HAL.out HCr.out.Bw).trans p2) ((Wr.of HAL.out : Wr b _ _).trans p3))
        have HCALL := Lib.hid (HANY.out _ w2 (HCr.out.next HB2.out.1) p1 (by have := HJL.out (by omega); rw [List.length_append]; show _ + 2 + _ ≤ _; omega))
        clear HANY p1 p2 p3 hrow2 d0 d1 d2 d3 d4 HPUT
        simp only
        go_wp2_with fail
        go_at_call 77
        refine HCALL.out.mono ?_
        intro e w3 hp
        have hp2 := hp.seq HB2.out.1 HB2.out.2
        clear hp HCALL c0 c1 c2 c3 c4
        cases ok with
        | false =>
          obtain ⟨rfl, p⟩ := hp2
          exact ⟨rfl, HFALSE.out rfl w3 (HA.out.2.2.1.trans p)⟩
        | true =>
          obtain ⟨rfl, q1, q2, q3⟩ := hp2
          have FIN : Hid (BufAt 83 [] B b (l ++ joinL ((kids.take (i + 1)).map Ex.txt)) w3 ∧ Below B w w3 ∧ Wr b w w3) := Lib.hid ⟨by rw [HMT.out, HJS.out, ← List.append_assoc]; exact q1, HA.out.2.2.1.trans q2, HA.out.2.2.2.trans q3⟩
          clear q1 q2 q3
          simp only
          go_wp2_with fail
          go_roundg (kids.length - (i + 1))
          case measure => omega
          case rel => exact ⟨i + 1, by go_num, by omega, Nat.le_refl _, HRT.out, FIN.out⟩
    · obtain rfl : i = kids.length := by omega
      have HFIN : Hid (WPost B b l (joinL (kids.map Ex.txt)) (rightL kids) w (.returned (.tuple #[])) wr) := Lib.hid (by
        have h := HA.out
        rw [List.take_length] at h
        rw [h.1]
        exact ⟨rfl, h.2⟩)
      clear HA
      go_wp2_with fail
      go_end0
      exact HFIN.out
end Go.Proofs.YtggjeecpadnihaaGreatDoor

namespace Go.Proofs.YtggjeecpadnihaaGreatDoor
open Go Go.Proofs Go.Eng Go.RowKit Go.Sx Go.Deep
set_option linter.unusedVariables false
set_option linter.unusedSimpArgs false

set_option maxRecDepth 100000 in
set_option maxHeartbeats 1000000 in
theorem list_any {W : World} {k n line : Int} {s : ByteArray} {kids : List Ex} {so : Option Addr} {cap : Nat} (hk : ∀ (i : Nat) e, kids[i]? = some e → KidAt W so i e) (H : ∀ (i : Nat) e, kids[i]? = some e → ExprC W e) (hkl : kids.length ≤ 9223372036854775807)
    (op en : ByteArray) (hop : op.size ≤ 10) (hen : en.size ≤ 10) (B b : Nat) (l : List UInt8) (w : World) (hc : Ctx W B w) (hb : BufAt 83 [] B b l w) (hl : l.length + 1000 * cntL kids + 100 ≤ 100000000) :
    Calls Tryz.prog 45 #[.pointer (some ⟨b, 0, none⟩), .string op, .agg #[.int .i64 k, .string s, .int .i64 n, .slice so kids.length cap, .int .i64 line], .string en] w
      (WPost B b l (op.data.toList ++ (joinL (kids.map Ex.txt) ++ en.data.toList)) ((n == 0) && rightL kids) w) := by
  have hmf : ∀ (fn : Fn) (first cap : Array Value) (w : World), (Instr.makeFunc fn first cap).run Tryz.prog w = .ok (.func fn first cap) w := fun _ _ _ _ => rfl
  obtain ⟨W1, hW1⟩ : ∃ W1, W1 = w.alloc (.cells #[.int .i64 k, .string s, .int .i64 n, .slice so kids.length cap, .int .i64 line] 25) := ⟨_, rfl⟩
  have hal : Below w.heap.size w W1 := by rw [hW1]; exact (RowKit.Below.refl _ _).alloc (Nat.le_refl _) _
  have hrow : W1.heap[w.heap.size]? = some (.cells #[.int .i64 k, .string s, .int .i64 n, .slice so kids.length cap, .int .i64 line] 25 (0, 0)) := by rw [hW1]; exact heap_alloc_new _ _
  have c2 : W1.cell? ⟨w.heap.size, 2, none⟩ = some (.int .i64 n) := (Lib.cell_of_heap hrow 2).trans rfl
  have HAL := Lib.hid hal
  have HROW := Lib.hid hrow
  have HK := Lib.hid hk
  have HH := Lib.hid H
  have HKL := Lib.hid hkl
  have HBL := Lib.hid hb.lt
  have HBw := Lib.hid hc.Bw
  have HC := Lib.hid (hc.low hal)
  have HB := Lib.hid (hb.below hal)
  have HL := Lib.hid hl
  have HJL : Hid (rightL kids = true → (joinL (kids.map Ex.txt)).length ≤ 1000 * cntL kids) := Lib.hid fun hr => by
    have := jl_len hk (i := kids.length) (by rw [List.take_length]; exact hr)
    rw [List.take_length] at this; omega
  have HPUT := Lib.hid (sput1 op HB.out HC.out.Bw (by omega))
  have HEN := Lib.hid hen
  have HOP := Lib.hid hop
  have HOL : Hid (op.data.toList.length = op.size) := Lib.hid (by rw [Array.length_toList]; rfl)
  clear hk H hkl hc hb hl hal hrow hen hop
  cases hn : (n == 0) with
  | false =>
    go_enter Tryz.func45, Tryz.ntmps45
    go_wp2_with fail
    rw [← hW1]
    clear hW1
    go_wp2_with (go_at_call 18; with_reducible refine (need_no _).mono ?_; rintro e w' ⟨rfl, rfl⟩)
    exact ⟨rfl, rfl, RowKit.Below.mono HAL.out HBw.out⟩
  | true =>
    go_enter Tryz.func45, Tryz.ntmps45
    go_wp2_with fail
    rw [← hW1]
    clear hW1
    go_wp2_with (go_at_call 18; with_reducible refine (need_yes _).mono ?_; rintro e w' ⟨rfl, rfl⟩)
    go_at_call 43
    refine HPUT.out.mono ?_
    rintro e w2 ⟨rfl, p1, p2, p3⟩
    have hne : w.heap.size ≠ b := fun e => by have := HBL.out; omega
    have hrow2 := p3.cell HROW.out hne (by decide)
    have c3 : w2.cell? ⟨w.heap.size, 3, none⟩ = some (.slice so kids.length cap) := (Lib.cell_of_heap hrow2 3).trans rfl
    have HW2 := Lib.hid (And.intro ((RowKit.Below.mono HAL.out HBw.out).trans p2) ((Wr.of HAL.out : Wr b _ _).trans p3))
    have HEACH := Lib.hid (each_any (cap := cap) HK.out HH.out HKL.out B b _ w2 (HC.out.next p2) p1 (by have := HL.out; have := HOP.out; have := HOL.out; rw [List.length_append]; omega))
    clear p1 p2 p3 hrow2 c2 HPUT
    generalize hT : joinL (kids.map Ex.txt) = T at *
    generalize rightL kids = R at *
    simp only
    go_wp2_with fail
    go_at_call 76
    refine HEACH.out.mono ?_
    intro e w3 hp
    have hp2 := hp.seq HW2.out.1 HW2.out.2
    clear hp HEACH c3
    cases R with
    | false =>
      obtain ⟨rfl, p⟩ := hp2
      exact ⟨rfl, rfl, p⟩
    | true =>
      obtain ⟨rfl, q1, q2, q3⟩ := hp2
      have HP2 := Lib.hid (sput1 en q1 (Nat.le_trans HBw.out q2.size) (by
        have h1 := HL.out; have h2 := HJL.out (by first | rfl | trivial); have h3 := HEN.out; have h4 := HOP.out
        have h5 := HOL.out; rw [List.length_append, List.length_append]; omega))
      have HQ := Lib.hid (And.intro q2 q3)
      clear q1 q2 q3
      simp only
      go_wp2_with fail
      go_at_call 43
      refine HP2.out.mono ?_
      rintro e w5 ⟨rfl, r1, r2, r3⟩
      have FIN : Hid (WPost B b l (op.data.toList ++ (T ++ en.data.toList)) true w (.returned (.tuple #[])) w5) := Lib.hid ⟨rfl, by simpa using r1, HQ.out.1.trans r2, HQ.out.2.trans r3⟩
      clear r1 r2 r3 HP2
      simp only
      go_wp2
      go_end0
      exact FIN.out
end Go.Proofs.YtggjeecpadnihaaGreatDoor

namespace Go.Proofs.YtggjeecpadnihaaGreatDoor
open Go Go.Proofs Go.Eng Go.RowKit Go.Sx Go.Deep
set_option linter.unusedVariables false
set_option linter.unusedSimpArgs false

theorem sput3 {B b : Nat} {l : List UInt8} {w : World} (s1 s2 s3 : ByteArray) (h : BufAt 83 [] B b l w) (hB : B ≤ w.heap.size) (hn : l.length + (s1.size + (s2.size + s3.size)) ≤ 140737488355328) :
    Calls Tryz.prog 43 #[.pointer (some ⟨b, 0, none⟩), .slice (some ⟨w.heap.size, 0, none⟩) 3 3] (w.alloc (.cells #[.string s1, .string s2, .string s3] 9)) fun e w' =>
      e = .returned (.tuple #[]) ∧ BufAt 83 [] B b (l ++ (s1.data.toList ++ (s2.data.toList ++ s3.data.toList))) w' ∧ Below B w w' ∧ Wr b w w' := by
  have e : catL [s1, s2, s3] = s1.data.toList ++ (s2.data.toList ++ s3.data.toList) := by simp [catL]
  have e1 : s1.data.toList.length = s1.size := by rw [Array.length_toList]; rfl
  have e2 : s2.data.toList.length = s2.size := by rw [Array.length_toList]; rfl
  have e3 : s3.data.toList.length = s3.size := by rw [Array.length_toList]; rfl
  have h1 := sput_row [s1, s2, s3] 3 h hB (by rw [e, List.length_append, List.length_append]; omega) (by simp)
  rw [e] at h1
  exact h1

/-- What the walk of joined starts from. -/
structure JCtx (W : World) (k n line : Int) (s : ByteArray) (kids : List Ex) (so : Option Addr) (cap : Nat) (B b : Nat) (l : List UInt8) (w : World) : Prop where
  kid : ∀ (i : Nat) e, kids[i]? = some e → KidAt W so i e
  hyp : ∀ (i : Nat) e, kids[i]? = some e → ExprC W e
  rng : -9223372036854775808 ≤ n ∧ n ≤ 9223372036854775807
  len : kids.length ≤ 9223372036854775807
  ctx : Ctx W B w
  buf : BufAt 83 [] B b l w
  room : l.length + 1000 * cntL kids + 1000 ≤ 100000000

/-- The row of an expression, in its box. -/
abbrev exRow (k : Int) (s : ByteArray) (n : Int) (so : Option Addr) (m cap : Nat) (line : Int) : Obj := .cells #[.int .i64 k, .string s, .int .i64 n, .slice so m cap, .int .i64 line] 25
theorem row_cells {w : World} {a : Nat} {k n line : Int} {s : ByteArray} {so : Option Addr} {m cap : Nat} (h : w.heap[a]? = some (.cells #[.int .i64 k, .string s, .int .i64 n, .slice so m cap, .int .i64 line] 25 (0, 0))) :
    w.cell? ⟨a, 0, none⟩ = some (.int .i64 k) ∧ w.cell? ⟨a, 1, none⟩ = some (.string s) ∧ w.cell? ⟨a, 2, none⟩ = some (.int .i64 n) ∧ w.cell? ⟨a, 3, none⟩ = some (.slice so m cap) ∧ w.cell? ⟨a, 4, none⟩ = some (.int .i64 line) :=
  ⟨(Lib.cell_of_heap h 0).trans rfl, (Lib.cell_of_heap h 1).trans rfl, (Lib.cell_of_heap h 2).trans rfl, (Lib.cell_of_heap h 3).trans rfl, (Lib.cell_of_heap h 4).trans rfl⟩
theorem kid_cells {W w : World} {so : Option Addr} {i : Nat} {e : Ex} (h : KidAt W so i e) (ho : Old W w) : ∃ g o so' cap', so = some ⟨g, o, none⟩ ∧ w.cell? ⟨g, o + i * 5, none⟩ = some (.int .i64 e.kind) ∧ w.cell? ⟨g, o + i * 5 + 1, none⟩ = some (.string e.str) ∧
    w.cell? ⟨g, o + i * 5 + 2, none⟩ = some (.int .i64 e.num) ∧ w.cell? ⟨g, o + i * 5 + 3, none⟩ = some (.slice so' e.kids.length cap') ∧ w.cell? ⟨g, o + i * 5 + 4, none⟩ = some (.int .i64 e.line) ∧
    ExIn W e [.int .i64 e.kind, .string e.str, .int .i64 e.num, .slice so' e.kids.length cap', .int .i64 e.line] := by
  obtain ⟨g, o, so', cap', rfl, hg, a0, a1, a2, a3, a4, ht⟩ := kid_open h
  exact ⟨g, o, so', cap', rfl, ho.cell a0, ho.cell a1, ho.cell a2, ho.cell a3, ho.cell a4, ht⟩

set_option maxRecDepth 100000 in
set_option maxHeartbeats 1000000 in
theorem joined_6 {W : World} {n line : Int} {s : ByteArray} {kids : List Ex} {so : Option Addr} {cap B b : Nat} {l : List UInt8} {w : World} (h : JCtx W 6 n line s kids so cap B b l w) :
    Calls Tryz.prog 46 #[.pointer (some ⟨b, 0, none⟩), .agg #[.int .i64 6, .string s, .int .i64 n, .slice so kids.length cap, .int .i64 line]] w (WPost B b l (Ex.mk 6 s n kids line).txt (Ex.mk 6 s n kids line).right w) := by
  obtain ⟨hk, H, _, hkl, hc, hb, hl⟩ := h
  obtain ⟨W1, hW1⟩ : ∃ W1, W1 = w.alloc (.cells #[.int .i64 6, .string s, .int .i64 n, .slice so kids.length cap, .int .i64 line] 25) := ⟨_, rfl⟩
  have hal : Below w.heap.size w W1 := by rw [hW1]; exact (RowKit.Below.refl _ _).alloc (Nat.le_refl _) _
  have hrow : W1.heap[w.heap.size]? = some (.cells #[.int .i64 6, .string s, .int .i64 n, .slice so kids.length cap, .int .i64 line] 25 (0, 0)) := by rw [hW1]; exact heap_alloc_new _ _
  obtain ⟨c0, c1, c2, c3, c4⟩ := row_cells hrow
  have HBare := Lib.hid (bare_any 6 n s so kids.length cap line 1 W1)
  have HAL := Lib.hid hal
  have HROW := Lib.hid hrow
  have HBw := Lib.hid hc.Bw
  have HBL := Lib.hid hb.lt
  have HC := Lib.hid (hc.low hal)
  have HB := Lib.hid (hb.below hal)
  have HL := Lib.hid hl
  have HR := Lib.hid (right_6 s n line kids)
  rw [right_6]
  clear hc hb hl hal hrow
  cases hbare : bareB 6 n kids.length 1 with
  | false =>
    rw [hbare] at HBare
    go_enter Tryz.func46, Tryz.ntmps46
    go_wp2_with fail
    rw [← hW1]
    clear hW1
    go_wp2_with (go_at_call 41; (with_reducible refine HBare.out.mono ?_); rintro e w' ⟨rfl, hb⟩; simp only [okE])
    exact ⟨rfl, rfl, (RowKit.Below.mono HAL.out HBw.out).trans (RowKit.Below.mono hb (Nat.le_trans HBw.out HAL.out.size))⟩
  | true =>
    have hlen : kids.length = 1 := by
      unfold bareB at hbare
      rw [Bool.and_eq_true] at hbare
      have := eq_of_beq hbare.1
      omega
    obtain ⟨a, ha⟩ : ∃ a, kids = [a] := by
      match kids, hlen with
      | [a], _ => exact ⟨a, rfl⟩
    rw [hbare] at HBare
    have hkat := hk 0 a (by rw [ha]; rfl)
    have HX := Lib.hid (H 0 a (by rw [ha]; rfl))
    have HRL : Hid (rightL kids = a.right) := Lib.hid (by rw [ha]; simp [rightL])
    rw [HRL.out]
    have HTX : Hid ((Ex.mk 6 s n kids line).txt = s.data.toList ++ win a.bind a.txt 6) := Lib.hid (by rw [ha]; simp [Ex.txt, txtK, txts, kidT])
    rw [HTX.out]
    have HCN : Hid (a.cnt ≤ cntL kids) := Lib.hid (by rw [ha]; simp [cntL])
    have h0len : 0 < kids.length := by omega
    have HKA := Lib.hid hkat
    have hsl : (s.toList == [45]) = true ∨ (s.toList == [33]) = true → s.size ≤ 2 := by
      intro h
      have e : s.toList.length = s.size := by rw [ByteArray.toList_eq, Array.length_toList]; rfl
      rcases h with h | h <;> (rw [← e, eq_of_beq h]; decide)
    have HSL := Lib.hid hsl
    have HSD : Hid (s.data.toList.length = s.size) := Lib.hid (by rw [Array.length_toList]; rfl)
    clear hbare hlen ha hk H hkl hkat hsl HRL HTX HR
    generalize hb1 : (s.toList == [45]) = b1 at *
    generalize hb2 : (s.toList == [33]) = b2 at *
    cases hor : (b1 || b2) with
    | false =>
      obtain ⟨rfl, rfl⟩ : b1 = false ∧ b2 = false := by simpa using hor
      clear hor
      go_enter Tryz.func46, Tryz.ntmps46
      go_wp2_with fail
      rw [← hW1]
      clear hW1
      go_wp2_with fail
      go_at_call 41
      refine HBare.out.mono ?_
      rintro e w2 ⟨rfl, hb⟩
      obtain ⟨d0, d1, d2, d3, d4⟩ := row_cells ((hb.block _ (Array.getElem?_eq_some_iff.1 HROW.out).1).trans HROW.out)
      clear c0 c1 c2 c3 c4
      simp only [okE]
      go_wp2_with (go_at_call 18; (with_reducible refine (need_no _).mono ?_); rintro e w' ⟨rfl, rfl⟩)
      exact ⟨rfl, rfl, (RowKit.Below.mono HAL.out HBw.out).trans (RowKit.Below.mono hb (Nat.le_trans HBw.out HAL.out.size))⟩
    | true =>
      have hs2 := HSL.out (by simpa using hor)
      have HS2 := Lib.hid hs2
      clear hs2
      go_enter Tryz.func46, Tryz.ntmps46
      go_wp2_with fail
      rw [← hW1]
      clear hW1
      go_wp2_with fail
      go_at_call 41
      refine HBare.out.mono ?_
      rintro e w2 ⟨rfl, hb⟩
      have hrow2 := (hb.block _ (Array.getElem?_eq_some_iff.1 HROW.out).1).trans HROW.out
      obtain ⟨d0, d1, d2, d3, d4⟩ := row_cells hrow2
      have HROW2 := Lib.hid hrow2
      have HC2 := Lib.hid (HC.out.low hb)
      have HW2 := Lib.hid (HAL.out.trans (RowKit.Below.mono hb HAL.out.size))
      have HP := Lib.hid (sput1 s (HB.out.below hb) HC2.out.Bw (by have := HL.out; have := HS2.out; omega))
      clear c0 c1 c2 c3 c4 hb hrow2 HBare HB HC
      simp only [okE]
      have fin : ∀ K : Prop, K → K := fun _ h => h
      cases b1 <;> cases b2 <;> first
        | (exact absurd hor (by decide))
        | (go_wp2_with (go_at_call 18; (with_reducible refine (need_yes _).mono ?_); rintro e w' ⟨rfl, rfl⟩)
           go_at_call 43
           refine HP.out.mono ?_
           rintro e w3 ⟨rfl, p1, p2, p3⟩
           have hne : w.heap.size ≠ b := fun e => by have := HBL.out; omega
           obtain ⟨f0, f1, f2, f3, f4⟩ := row_cells (p3.cell HROW2.out hne (by decide))
           have hC3 := HC2.out.next p2
           obtain ⟨g, o, so', cap', rfl, a0, a1, a2, a3, a4, ht⟩ := kid_cells HKA.out hC3.old
           simp only [Nat.zero_mul, Nat.add_zero] at a0 a1 a2 a3 a4
           have HWI := Lib.hid (within_any HX.out _ B b _ w3 6 ht hC3 p1 (by
             have h1 := HL.out; have h2 := HS2.out; have h3 := HSD.out
             have h4 := HCN.out
             rw [List.length_append]; omega))
           have HW3 := Lib.hid (And.intro ((RowKit.Below.mono HW2.out HBw.out).trans p2) ((Wr.of HW2.out : Wr b _ _).trans p3))
           clear p1 p2 p3 d0 d1 d2 d3 d4 hC3 ht HP hne
           generalize win a.bind a.txt 6 = T at *
           generalize a.right = R at *
           simp only
           go_wp2_with fail
           go_at_call 78
           refine HWI.out.mono ?_
           intro e w4 hp
           have hp2 := hp.seq HW3.out.1 HW3.out.2
           clear hp HWI f0 f1 f2 f3 f4 a0 a1 a2 a3 a4
           cases R with
           | false =>
             obtain ⟨rfl, p⟩ := hp2
             exact ⟨rfl, rfl, p⟩
           | true =>
             obtain ⟨rfl, q⟩ := hp2
             have FIN : Hid (WPost B b l (s.data.toList ++ T) true w (.returned (.tuple #[])) w4) := Lib.hid ⟨rfl, q⟩
             clear q
             simp only
             go_wp2
             go_end0
             exact FIN.out)
end Go.Proofs.YtggjeecpadnihaaGreatDoor

namespace Go.Proofs.YtggjeecpadnihaaGreatDoor
open Go Go.Proofs Go.Eng Go.RowKit Go.Sx Go.Deep
set_option linter.unusedVariables false
set_option linter.unusedSimpArgs false

theorem lvl_ge (s : ByteArray) : lvl s ≤ 5 := by
  unfold lvl
  repeat' split
  all_goals omega

set_option maxRecDepth 100000 in
set_option maxHeartbeats 2000000 in
theorem joined_7 {W : World} {n line : Int} {s : ByteArray} {kids : List Ex} {so : Option Addr} {cap B b : Nat} {l : List UInt8} {w : World} (h : JCtx W 7 n line s kids so cap B b l w) :
    Calls Tryz.prog 46 #[.pointer (some ⟨b, 0, none⟩), .agg #[.int .i64 7, .string s, .int .i64 n, .slice so kids.length cap, .int .i64 line]] w (WPost B b l (Ex.mk 7 s n kids line).txt (Ex.mk 7 s n kids line).right w) := by
  obtain ⟨hk, H, _, hkl, hc, hb, hl⟩ := h
  obtain ⟨W1, hW1⟩ : ∃ W1, W1 = w.alloc (.cells #[.int .i64 7, .string s, .int .i64 n, .slice so kids.length cap, .int .i64 line] 25) := ⟨_, rfl⟩
  have hal : Below w.heap.size w W1 := by rw [hW1]; exact (RowKit.Below.refl _ _).alloc (Nat.le_refl _) _
  have hrow : W1.heap[w.heap.size]? = some (.cells #[.int .i64 7, .string s, .int .i64 n, .slice so kids.length cap, .int .i64 line] 25 (0, 0)) := by rw [hW1]; exact heap_alloc_new _ _
  obtain ⟨c0, c1, c2, c3, c4⟩ := row_cells hrow
  have HBare := Lib.hid (bare_any 7 n s so kids.length cap line 2 W1)
  have HAL := Lib.hid hal
  have HROW := Lib.hid hrow
  have HBw := Lib.hid hc.Bw
  have HBL := Lib.hid hb.lt
  have HC := Lib.hid (hc.low hal)
  have HB := Lib.hid (hb.below hal)
  have HL := Lib.hid hl
  rw [right_7]
  clear hc hb hl hal hrow
  cases hbare : bareB 7 n kids.length 2 with
  | false =>
    rw [hbare] at HBare
    go_enter Tryz.func46, Tryz.ntmps46
    go_wp2_with fail
    rw [← hW1]
    clear hW1
    go_wp2_with (go_at_call 41; (with_reducible refine HBare.out.mono ?_); rintro e w' ⟨rfl, hb⟩; simp only [okE])
    exact ⟨rfl, rfl, (RowKit.Below.mono HAL.out HBw.out).trans (RowKit.Below.mono hb (Nat.le_trans HBw.out HAL.out.size))⟩
  | true =>
    have hlen : kids.length = 2 := by
      unfold bareB at hbare
      rw [Bool.and_eq_true] at hbare
      have := eq_of_beq hbare.1
      omega
    obtain ⟨a, c, ha⟩ : ∃ a c, kids = [a, c] := by
      match kids, hlen with
      | [a, c], _ => exact ⟨a, c, rfl⟩
    rw [hbare] at HBare
    have HX := Lib.hid (H 0 a (by rw [ha]; rfl))
    have HY := Lib.hid (H 1 c (by rw [ha]; rfl))
    have HKA := Lib.hid (hk 0 a (by rw [ha]; rfl))
    have HKC := Lib.hid (hk 1 c (by rw [ha]; rfl))
    have HRL : Hid (rightL kids = (a.right && c.right)) := Lib.hid (by rw [ha]; simp [rightL])
    rw [HRL.out]
    have HTX : Hid ((Ex.mk 7 s n kids line).txt = win a.bind a.txt (lvl s) ++ 32 :: (s.data.toList ++ 32 :: win c.bind c.txt (lvl s + 1))) := Lib.hid (by rw [ha]; simp [Ex.txt, txtK, txts, kidT])
    rw [HTX.out]
    have HCN : Hid (a.cnt + c.cnt ≤ cntL kids) := Lib.hid (by rw [ha]; simp [cntL])
    have h0len : 0 < kids.length := by omega
    have h1len : 1 < kids.length := by omega
    have HSD : Hid (s.data.toList.length = s.size) := Lib.hid (by rw [Array.length_toList]; rfl)
    have HTA : Hid (∀ cs, ExIn W a cs → a.right = true → (win a.bind a.txt (lvl s)).length + 8 ≤ 1000 * a.cnt) := Lib.hid fun cs h1 h2 => by
      have q1 := txt_len _ _ _ rfl h1 h2
      have q2 := win_le a.bind a.txt (lvl s)
      omega
    have HLV : Hid (0 ≤ lvl s → s.data.toList.length ≤ 2) := Lib.hid fun h => lvl_le h
    have hl5 := lvl_ge s
    clear hbare hlen ha hk H hkl HRL HTX
    generalize hbl : decide (0 ≤ lvl s) = bl
    go_enter Tryz.func46, Tryz.ntmps46
    go_wp2_with fail
    rw [← hW1]
    clear hW1
    go_wp2_with fail
    go_at_call 41
    refine HBare.out.mono ?_
    rintro e w2 ⟨rfl, hb⟩
    have hrow2 := (hb.block _ (Array.getElem?_eq_some_iff.1 HROW.out).1).trans HROW.out
    clear c0 c1 c2 c3 c4
    obtain ⟨d0, d1, d2, d3, d4⟩ := row_cells hrow2
    have HROW2 := Lib.hid hrow2
    have hC2 := HC.out.low hb
    have HC2 := Lib.hid hC2
    have HB2 := Lib.hid (HB.out.below hb)
    have HW2 := Lib.hid (HAL.out.trans (RowKit.Below.mono hb HAL.out.size))
    clear hb hrow2 HBare HB HC
    obtain ⟨g, o, so', cap', rfl, a0, a1, a2, a3, a4, hta⟩ := kid_cells HKA.out hC2.old
    simp only [Nat.zero_mul, Nat.add_zero] at a0 a1 a2 a3 a4
    have HTAin := Lib.hid hta
    have HWI := Lib.hid (within_any HX.out _ B b _ w2 (lvl s) hta hC2 HB2.out (by
      have h1 := HL.out; have h4 := HCN.out; omega))
    clear hta hC2
    simp only [okE]
    cases bl with
    | false =>
      go_wp2_with (first
        | (go_at_call 67; (with_reducible refine (level_any _ _).mono ?_); rintro e w' ⟨rfl, rfl⟩)
        | (go_at_call 18; (with_reducible refine (need_no _).mono ?_); rintro e w' ⟨rfl, rfl⟩))
      exact ⟨rfl, rfl, RowKit.Below.mono HW2.out HBw.out⟩
    | true =>
      have hl0 : 0 ≤ lvl s := of_decide_eq_true hbl
      clear hbl
      generalize hTA : win a.bind a.txt (lvl s) = TA at *
      clear hTA
      have HRA : Hid (a.right = true → TA.length + 8 ≤ 1000 * a.cnt) := Lib.hid (HTA.out _ HTAin.out)
      clear HTA HTAin
      generalize a.right = RA at *
      go_wp2_with (first
        | (go_at_call 67; (with_reducible refine (level_any _ _).mono ?_); rintro e w' ⟨rfl, rfl⟩)
        | (go_at_call 18; (with_reducible refine (need_yes _).mono ?_); rintro e w' ⟨rfl, rfl⟩))
      go_at_call 78
      refine HWI.out.mono ?_
      intro e w3 hp
      clear HWI a0 a1 a2 a3 a4 d0 d1 d2 d3 d4
      cases RA with
      | false =>
        obtain ⟨rfl, p⟩ := hp
        exact ⟨rfl, rfl, (RowKit.Below.mono HW2.out HBw.out).trans p⟩
      | true =>
        obtain ⟨rfl, p1, p2, p3⟩ := hp
        have hTAl := HRA.out (by first | rfl | trivial)
        have HTAl := Lib.hid hTAl
        clear hTAl
        have hne : w.heap.size ≠ b := fun e => by have := HBL.out; omega
        have hrow3 := p3.cell HROW2.out hne (by decide)
        obtain ⟨d0, d1, d2, d3, d4⟩ := row_cells hrow3
        have HROW3 := Lib.hid hrow3
        have HC3 := Lib.hid (HC2.out.next p2)
        have HB3 := Lib.hid p1
        have HW3 := Lib.hid (And.intro ((RowKit.Below.mono HW2.out HBw.out).trans p2) ((Wr.of HW2.out : Wr b _ _).trans p3))
        have HP := Lib.hid (sput3 ⟨#[32]⟩ s ⟨#[32]⟩ p1 (HC2.out.next p2).Bw (by
          have h1 := HL.out; have h4 := HCN.out; have h5 := HTAl.out; have h6 := HLV.out hl0; have h7 := HSD.out
          rw [List.length_append]; show _ + (1 + (s.size + 1)) ≤ _; omega))
        clear p1 p2 p3 hrow3 HC2 HB2 HW2 HROW2
        simp only
        go_wp2_with fail
        go_at_call 43
        refine HP.out.mono ?_
        rintro e w4 ⟨rfl, p1, p2, p3⟩
        have hrow4 := p3.cell HROW3.out hne (by decide)
        clear d0 d1 d2 d3 d4
        obtain ⟨d0, d1, d2, d3, d4⟩ := row_cells hrow4
        have hC4 := HC3.out.next p2
        obtain ⟨g', o', so2, cap2, hso, a0, a1, a2, a3, a4, htc⟩ := kid_cells HKC.out hC4.old
        obtain ⟨rfl, rfl⟩ : g' = g ∧ o' = o := by injection hso with e1; injection e1 with e2 e3; exact ⟨e2.symm, e3.symm⟩
        simp only [Nat.one_mul] at a0 a1 a2 a3 a4
        have HWI := Lib.hid (within_any HY.out _ B b _ w4 (lvl s + 1) htc hC4 p1 (by
          have h1 := HL.out; have h4 := HCN.out; have h5 := HTAl.out; have h6 := HLV.out hl0; have h7 := HSD.out
          rw [List.length_append, List.length_append, List.length_append, List.length_append]; show _ + _ + (1 + (_ + 1)) + _ + _ ≤ _; omega))
        have HW4 := Lib.hid (And.intro (HW3.out.1.trans p2) (HW3.out.2.trans p3))
        clear p1 p2 p3 hrow4 htc hC4 HP hso hne
        have hwr : IntKind.i64.wrap (lvl s + 1) = lvl s + 1 := IntWalk.i64_in _ (by omega)
        generalize win c.bind c.txt (lvl s + 1) = TC at *
        generalize c.right = RC at *
        simp only
        go_wp2_with fail
        go_at_call 78
        refine HWI.out.mono ?_
        intro e w5 hp
        have hp2 := (hp.seq (l := l ++ TA) HW4.out.1 HW4.out.2)
        clear hp HWI a0 a1 a2 a3 a4 d0 d1 d2 d3 d4
        cases RC with
        | false =>
          obtain ⟨rfl, p⟩ := hp2
          exact ⟨rfl, rfl, p⟩
        | true =>
          obtain ⟨rfl, q1, q2⟩ := hp2
          have FIN : Hid (WPost B b l (TA ++ 32 :: (s.data.toList ++ 32 :: TC)) true w (.returned (.tuple #[])) w5) := Lib.hid ⟨rfl, by simpa using q1, q2⟩
          clear q1 q2
          simp only
          go_wp2
          go_end0
          exact FIN.out
end Go.Proofs.YtggjeecpadnihaaGreatDoor

namespace Go.Proofs.YtggjeecpadnihaaGreatDoor
open Go Go.Proofs Go.Eng Go.RowKit Go.Sx Go.Deep
set_option linter.unusedVariables false
set_option linter.unusedSimpArgs false

theorem lvl_m1 (s : ByteArray) : -1 ≤ lvl s := by
  unfold lvl
  repeat' split
  all_goals omega
theorem win_m1 (e : Ex) (t : List UInt8) : win e.bind t (-1) = t := by
  unfold win
  rw [if_neg]
  cases e with
  | mk k s n kids line =>
    simp only [Ex.bind, bindK]
    have := lvl_m1 s
    split <;> (try split) <;> omega

set_option maxRecDepth 100000 in
set_option maxHeartbeats 2000000 in
theorem joined_8 {W : World} {n line : Int} {s : ByteArray} {kids : List Ex} {so : Option Addr} {cap B b : Nat} {l : List UInt8} {w : World} (h : JCtx W 8 n line s kids so cap B b l w) :
    Calls Tryz.prog 46 #[.pointer (some ⟨b, 0, none⟩), .agg #[.int .i64 8, .string s, .int .i64 n, .slice so kids.length cap, .int .i64 line]] w (WPost B b l (Ex.mk 8 s n kids line).txt (Ex.mk 8 s n kids line).right w) := by
  obtain ⟨hk, H, _, hkl, hc, hb, hl⟩ := h
  obtain ⟨W1, hW1⟩ : ∃ W1, W1 = w.alloc (.cells #[.int .i64 8, .string s, .int .i64 n, .slice so kids.length cap, .int .i64 line] 25) := ⟨_, rfl⟩
  have hal : Below w.heap.size w W1 := by rw [hW1]; exact (RowKit.Below.refl _ _).alloc (Nat.le_refl _) _
  have hrow : W1.heap[w.heap.size]? = some (.cells #[.int .i64 8, .string s, .int .i64 n, .slice so kids.length cap, .int .i64 line] 25 (0, 0)) := by rw [hW1]; exact heap_alloc_new _ _
  obtain ⟨c0, c1, c2, c3, c4⟩ := row_cells hrow
  have HBare := Lib.hid (bare_any 8 n s so kids.length cap line 2 W1)
  have HAL := Lib.hid hal
  have HROW := Lib.hid hrow
  have HBw := Lib.hid hc.Bw
  have HBL := Lib.hid hb.lt
  have HC := Lib.hid (hc.low hal)
  have HB := Lib.hid (hb.below hal)
  have HL := Lib.hid hl
  rw [right_8]
  clear hc hb hl hal hrow
  cases hbare : bareB 8 n kids.length 2 with
  | false =>
    rw [hbare] at HBare
    go_enter Tryz.func46, Tryz.ntmps46
    go_wp2_with fail
    rw [← hW1]
    clear hW1
    go_wp2_with (go_at_call 41; (with_reducible refine HBare.out.mono ?_); rintro e w' ⟨rfl, hb⟩; simp only [okE])
    exact ⟨rfl, rfl, (RowKit.Below.mono HAL.out HBw.out).trans (RowKit.Below.mono hb (Nat.le_trans HBw.out HAL.out.size))⟩
  | true =>
    have hlen : kids.length = 2 := by
      unfold bareB at hbare
      rw [Bool.and_eq_true] at hbare
      have := eq_of_beq hbare.1
      omega
    obtain ⟨a, c, ha⟩ : ∃ a c, kids = [a, c] := by
      match kids, hlen with
      | [a, c], _ => exact ⟨a, c, rfl⟩
    rw [hbare] at HBare
    have HX := Lib.hid (H 0 a (by rw [ha]; rfl))
    have HY := Lib.hid (H 1 c (by rw [ha]; rfl))
    have HKA := Lib.hid (hk 0 a (by rw [ha]; rfl))
    have HKC := Lib.hid (hk 1 c (by rw [ha]; rfl))
    have HRL : Hid (rightL kids = (a.right && c.right)) := Lib.hid (by rw [ha]; simp [rightL])
    rw [HRL.out]
    have HTX : Hid ((Ex.mk 8 s n kids line).txt = win a.bind a.txt 7 ++ 91 :: (c.txt ++ [93])) := Lib.hid (by rw [ha]; simp [Ex.txt, txtK, txts, kidT, win_m1])
    rw [HTX.out]
    have HCN : Hid (a.cnt + c.cnt ≤ cntL kids) := Lib.hid (by rw [ha]; simp [cntL])
    have h0len : 0 < kids.length := by omega
    have h1len : 1 < kids.length := by omega
    have HSD : Hid (s.data.toList.length = s.size) := Lib.hid (by rw [Array.length_toList]; rfl)
    have HTA : Hid (∀ cs, ExIn W a cs → a.right = true → (win a.bind a.txt 7).length + 8 ≤ 1000 * a.cnt) := Lib.hid fun cs h1 h2 => by
      have q1 := txt_len _ _ _ rfl h1 h2
      have q2 := win_le a.bind a.txt 7
      omega
    clear hbare hlen ha hk H hkl HRL HTX
    generalize hbl : s.toList.isEmpty = bl
    go_enter Tryz.func46, Tryz.ntmps46
    go_wp2_with fail
    rw [← hW1]
    clear hW1
    go_wp2_with fail
    go_at_call 41
    refine HBare.out.mono ?_
    rintro e w2 ⟨rfl, hb⟩
    have hrow2 := (hb.block _ (Array.getElem?_eq_some_iff.1 HROW.out).1).trans HROW.out
    clear c0 c1 c2 c3 c4
    obtain ⟨d0, d1, d2, d3, d4⟩ := row_cells hrow2
    have HROW2 := Lib.hid hrow2
    have hC2 := HC.out.low hb
    have HC2 := Lib.hid hC2
    have HB2 := Lib.hid (HB.out.below hb)
    have HW2 := Lib.hid (HAL.out.trans (RowKit.Below.mono hb HAL.out.size))
    clear hb hrow2 HBare HB HC
    obtain ⟨g, o, so', cap', rfl, a0, a1, a2, a3, a4, hta⟩ := kid_cells HKA.out hC2.old
    simp only [Nat.zero_mul, Nat.add_zero] at a0 a1 a2 a3 a4
    have HTAin := Lib.hid hta
    have HWI := Lib.hid (within_any HX.out _ B b _ w2 7 hta hC2 HB2.out (by
      have h1 := HL.out; have h4 := HCN.out; omega))
    clear hta hC2
    simp only [okE]
    cases bl with
    | false =>
      go_wp2_with (go_at_call 18; (with_reducible refine (need_no _).mono ?_); rintro e w' ⟨rfl, rfl⟩)
      exact ⟨rfl, rfl, RowKit.Below.mono HW2.out HBw.out⟩
    | true =>
      generalize hTA : win a.bind a.txt 7 = TA at *
      clear hTA
      have HRA : Hid (a.right = true → TA.length + 8 ≤ 1000 * a.cnt) := Lib.hid (HTA.out _ HTAin.out)
      clear HTA HTAin
      generalize a.right = RA at *
      go_wp2_with (go_at_call 18; (with_reducible refine (need_yes _).mono ?_); rintro e w' ⟨rfl, rfl⟩)
      go_at_call 78
      refine HWI.out.mono ?_
      intro e w3 hp
      clear HWI a0 a1 a2 a3 a4 d0 d1 d2 d3 d4
      cases RA with
      | false =>
        obtain ⟨rfl, p⟩ := hp
        exact ⟨rfl, rfl, (RowKit.Below.mono HW2.out HBw.out).trans p⟩
      | true =>
        obtain ⟨rfl, p1, p2, p3⟩ := hp
        have hTAl := HRA.out (by first | rfl | trivial)
        have HTAl := Lib.hid hTAl
        clear hTAl
        have hne : w.heap.size ≠ b := fun e => by have := HBL.out; omega
        have hrow3 := p3.cell HROW2.out hne (by decide)
        obtain ⟨d0, d1, d2, d3, d4⟩ := row_cells hrow3
        have HROW3 := Lib.hid hrow3
        have HC3 := Lib.hid (HC2.out.next p2)
        have HB3 := Lib.hid p1
        have HW3 := Lib.hid (And.intro ((RowKit.Below.mono HW2.out HBw.out).trans p2) ((Wr.of HW2.out : Wr b _ _).trans p3))
        have HP := Lib.hid (sput1 ⟨#[91]⟩ p1 (HC2.out.next p2).Bw (by
          have h1 := HL.out; have h4 := HCN.out; have h5 := HTAl.out
          rw [List.length_append]; show _ + 1 ≤ _; omega))
        clear p1 p2 p3 hrow3 HC2 HB2 HW2 HROW2
        simp only
        go_wp2_with fail
        go_at_call 43
        refine HP.out.mono ?_
        rintro e w4 ⟨rfl, p1, p2, p3⟩
        have hrow4 := p3.cell HROW3.out hne (by decide)
        clear d0 d1 d2 d3 d4
        obtain ⟨d0, d1, d2, d3, d4⟩ := row_cells hrow4
        have hC4 := HC3.out.next p2
        obtain ⟨g', o', so2, cap2, hso, a0, a1, a2, a3, a4, htc⟩ := kid_cells HKC.out hC4.old
        obtain ⟨rfl, rfl⟩ : g' = g ∧ o' = o := by injection hso with e1; injection e1 with e2 e3; exact ⟨e2.symm, e3.symm⟩
        simp only [Nat.one_mul] at a0 a1 a2 a3 a4
        have HWI := Lib.hid (HY.out _ B b _ w4 htc hC4 p1 (by
          have h1 := HL.out; have h4 := HCN.out; have h5 := HTAl.out
          rw [List.length_append, List.length_append]; show _ + _ + 1 + _ ≤ _; omega))
        have HTCl : Hid (c.right = true → c.txt.length + 10 ≤ 1000 * c.cnt) := Lib.hid (txt_len _ _ _ rfl htc)
        have HW4 := Lib.hid (And.intro (HW3.out.1.trans p2) (HW3.out.2.trans p3))
        clear p1 p2 p3 hrow4 htc hC4 HP hso hne
        generalize c.txt = TC at *
        generalize c.right = RC at *
        simp only
        go_wp2_with fail
        go_at_call 20
        refine HWI.out.mono ?_
        intro e w5 hp
        have hp2 := (hp.seq (l := l ++ TA) HW4.out.1 HW4.out.2)
        clear hp HWI a0 a1 a2 a3 a4 d0 d1 d2 d3 d4
        cases RC with
        | false =>
          obtain ⟨rfl, p⟩ := hp2
          exact ⟨rfl, rfl, p⟩
        | true =>
          obtain ⟨rfl, q1, q2, q3⟩ := hp2
          have HP := Lib.hid (sput1 ⟨#[93]⟩ q1 (Nat.le_trans HBw.out q2.size) (by
            have h1 := HL.out; have h4 := HCN.out; have h5 := HTAl.out; have h6 := HTCl.out (by first | rfl | trivial)
            rw [List.length_append, List.length_append, List.length_append]; show _ + _ + (1 + _) + 1 ≤ _; omega))
          have HW5 := Lib.hid (And.intro q2 q3)
          clear q1 q2 q3
          simp only
          go_wp2_with fail
          go_at_call 43
          refine HP.out.mono ?_
          rintro e w6 ⟨rfl, r1, r2, r3⟩
          have FIN : Hid (WPost B b l (TA ++ 91 :: (TC ++ [93])) true w (.returned (.tuple #[])) w6) := Lib.hid ⟨rfl, by simpa using r1, HW5.out.1.trans r2, HW5.out.2.trans r3⟩
          clear r1 r2 r3 HP
          simp only
          go_wp2
          go_end0
          exact FIN.out
end Go.Proofs.YtggjeecpadnihaaGreatDoor

namespace Go.Proofs.YtggjeecpadnihaaGreatDoor
open Go Go.Proofs Go.Eng Go.RowKit Go.Sx Go.Deep
set_option linter.unusedVariables false
set_option linter.unusedSimpArgs false

set_option maxRecDepth 100000 in
set_option maxHeartbeats 2000000 in
theorem joined_9 {W : World} {n line : Int} {s : ByteArray} {kids : List Ex} {so : Option Addr} {cap B b : Nat} {l : List UInt8} {w : World} (h : JCtx W 9 n line s kids so cap B b l w) :
    Calls Tryz.prog 46 #[.pointer (some ⟨b, 0, none⟩), .agg #[.int .i64 9, .string s, .int .i64 n, .slice so kids.length cap, .int .i64 line]] w (WPost B b l (Ex.mk 9 s n kids line).txt (Ex.mk 9 s n kids line).right w) := by
  obtain ⟨hk, H, _, hkl, hc, hb, hl⟩ := h
  obtain ⟨W1, hW1⟩ : ∃ W1, W1 = w.alloc (.cells #[.int .i64 9, .string s, .int .i64 n, .slice so kids.length cap, .int .i64 line] 25) := ⟨_, rfl⟩
  have hal : Below w.heap.size w W1 := by rw [hW1]; exact (RowKit.Below.refl _ _).alloc (Nat.le_refl _) _
  have hrow : W1.heap[w.heap.size]? = some (.cells #[.int .i64 9, .string s, .int .i64 n, .slice so kids.length cap, .int .i64 line] 25 (0, 0)) := by rw [hW1]; exact heap_alloc_new _ _
  obtain ⟨c0, c1, c2, c3, c4⟩ := row_cells hrow
  have HBare := Lib.hid (bare_any 9 n s so kids.length cap line 1 W1)
  have HAL := Lib.hid hal
  have HROW := Lib.hid hrow
  have HBw := Lib.hid hc.Bw
  have HBL := Lib.hid hb.lt
  have HC := Lib.hid (hc.low hal)
  have HB := Lib.hid (hb.below hal)
  have HL := Lib.hid hl
  rw [right_9]
  clear hc hb hl hal hrow
  cases hbare : bareB 9 n kids.length 1 with
  | false =>
    rw [hbare] at HBare
    go_enter Tryz.func46, Tryz.ntmps46
    go_wp2_with fail
    rw [← hW1]
    clear hW1
    go_wp2_with (go_at_call 41; (with_reducible refine HBare.out.mono ?_); rintro e w' ⟨rfl, hb⟩; simp only [okE])
    exact ⟨rfl, rfl, (RowKit.Below.mono HAL.out HBw.out).trans (RowKit.Below.mono hb (Nat.le_trans HBw.out HAL.out.size))⟩
  | true =>
    have hlen : kids.length = 1 := by
      unfold bareB at hbare
      rw [Bool.and_eq_true] at hbare
      have := eq_of_beq hbare.1
      omega
    obtain ⟨a, ha⟩ : ∃ a, kids = [a] := by
      match kids, hlen with
      | [a], _ => exact ⟨a, rfl⟩
    rw [hbare] at HBare
    have HX := Lib.hid (H 0 a (by rw [ha]; rfl))
    have HKA := Lib.hid (hk 0 a (by rw [ha]; rfl))
    have HRL : Hid (rightL kids = a.right) := Lib.hid (by rw [ha]; simp [rightL])
    rw [HRL.out]
    have HTX : Hid ((Ex.mk 9 s n kids line).txt = win a.bind a.txt 7 ++ 46 :: s.data.toList) := Lib.hid (by rw [ha]; simp [Ex.txt, txtK, txts, kidT])
    rw [HTX.out]
    have HCN : Hid (a.cnt ≤ cntL kids) := Lib.hid (by rw [ha]; simp [cntL])
    have h0len : 0 < kids.length := by omega
    have HSD : Hid (s.data.toList.length = s.size) := Lib.hid (by rw [Array.length_toList]; rfl)
    have HTA : Hid (∀ cs, ExIn W a cs → a.right = true → (win a.bind a.txt 7).length + 8 ≤ 1000 * a.cnt) := Lib.hid fun cs h1 h2 => by
      have q1 := txt_len _ _ _ rfl h1 h2
      have q2 := win_le a.bind a.txt 7
      omega
    clear hbare hlen ha hk H hkl HRL HTX
    generalize hok : nameB s = ok
    go_enter Tryz.func46, Tryz.ntmps46
    go_wp2_with fail
    rw [← hW1]
    clear hW1
    go_wp2_with fail
    go_at_call 41
    refine HBare.out.mono ?_
    rintro e w2 ⟨rfl, hb⟩
    have hrow2 := (hb.block _ (Array.getElem?_eq_some_iff.1 HROW.out).1).trans HROW.out
    clear c0 c1 c2 c3 c4
    obtain ⟨d0, d1, d2, d3, d4⟩ := row_cells hrow2
    have HROW2 := Lib.hid hrow2
    have hC2 := HC.out.low hb
    have HC2 := Lib.hid hC2
    have HB2 := Lib.hid (HB.out.below hb)
    have HW2 := Lib.hid (HAL.out.trans (RowKit.Below.mono hb HAL.out.size))
    clear hb hrow2 HBare HB HC
    obtain ⟨g, o, so', cap', rfl, a0, a1, a2, a3, a4, hta⟩ := kid_cells HKA.out hC2.old
    simp only [Nat.zero_mul, Nat.add_zero] at a0 a1 a2 a3 a4
    have HTAin := Lib.hid hta
    have HWI := Lib.hid (within_any HX.out _ B b _ w2 7 hta hC2 HB2.out (by
      have h1 := HL.out; have h4 := HCN.out; omega))
    clear hta hC2
    simp only [okE]
    generalize hTA : win a.bind a.txt 7 = TA at *
    clear hTA
    have HRA : Hid (a.right = true → TA.length + 8 ≤ 1000 * a.cnt) := Lib.hid (HTA.out _ HTAin.out)
    clear HTA HTAin
    generalize a.right = RA at *
    go_wp2_with fail
    go_at_call 78
    refine HWI.out.mono ?_
    intro e w3 hp
    clear HWI a0 a1 a2 a3 a4 d0 d1 d2 d3 d4
    cases RA with
    | false =>
      obtain ⟨rfl, p⟩ := hp
      exact ⟨rfl, rfl, (RowKit.Below.mono HW2.out HBw.out).trans p⟩
    | true =>
      obtain ⟨rfl, p1, p2, p3⟩ := hp
      have hTAl := HRA.out (by first | rfl | trivial)
      have HTAl := Lib.hid hTAl
      clear hTAl
      have hne : w.heap.size ≠ b := fun e => by have := HBL.out; omega
      have hrow3 := p3.cell HROW2.out hne (by decide)
      obtain ⟨d0, d1, d2, d3, d4⟩ := row_cells hrow3
      have HROW3 := Lib.hid hrow3
      have HC3 := Lib.hid (HC2.out.next p2)
      have HB3 := Lib.hid p1
      have HW3 := Lib.hid (And.intro ((RowKit.Below.mono HW2.out HBw.out).trans p2) ((Wr.of HW2.out : Wr b _ _).trans p3))
      have HP := Lib.hid (sput1 ⟨#[46]⟩ p1 (HC2.out.next p2).Bw (by
        have h1 := HL.out; have h4 := HCN.out; have h5 := HTAl.out
        rw [List.length_append]; show _ + 1 ≤ _; omega))
      clear p1 p2 p3 hrow3 HC2 HB2 HW2 HROW2
      simp only
      go_wp2_with fail
      go_at_call 43
      refine HP.out.mono ?_
      rintro e w4 ⟨rfl, p1, p2, p3⟩
      have hrow4 := p3.cell HROW3.out hne (by decide)
      clear d0 d1 d2 d3 d4
      obtain ⟨d0, d1, d2, d3, d4⟩ := row_cells hrow4
      have hC4 := HC3.out.next p2
      have HNA0 := wname_any s p1 hC4.Bw hC4.globs (by
        have h1 := HL.out; have h4 := HCN.out; have h5 := HTAl.out
        rw [List.length_append, List.length_append]; show _ + _ + 1 + 1000 ≤ _; omega)
      rw [hok] at HNA0
      have HNA := Lib.hid HNA0
      clear HNA0
      have HW4 := Lib.hid (And.intro (HW3.out.1.trans p2) (HW3.out.2.trans p3))
      clear p1 p2 p3 hrow4 hC4 HP hne
      simp only
      go_wp2_with fail
      go_at_call 44
      refine HNA.out.mono ?_
      intro e w5 hp
      have hp2 := (hp.seq (l := l ++ TA) HW4.out.1 HW4.out.2)
      clear hp HNA d0 d1 d2 d3 d4
      cases ok with
      | false =>
        obtain ⟨rfl, p⟩ := hp2
        exact ⟨rfl, rfl, p⟩
      | true =>
        obtain ⟨rfl, q1, q2⟩ := hp2
        have FIN : Hid (WPost B b l (TA ++ 46 :: s.data.toList) true w (.returned (.tuple #[])) w5) := Lib.hid ⟨rfl, by simpa using q1, q2⟩
        clear q1 q2
        simp only
        go_wp2
        go_end0
        exact FIN.out
end Go.Proofs.YtggjeecpadnihaaGreatDoor

namespace Go.Proofs.YtggjeecpadnihaaGreatDoor
open Go Go.Proofs Go.Eng Go.RowKit Go.Sx Go.Deep
set_option linter.unusedVariables false
set_option linter.unusedSimpArgs false

set_option maxRecDepth 100000 in
set_option maxHeartbeats 1000000 in
theorem token_no {B b : Nat} {l : List UInt8} {w : World} (k n : Int) (s t : ByteArray) (h : BufAt 83 [] B b l w) (hB : B ≤ w.heap.size)
    (hT : ∀ w', Below w.heap.size w w' → Calls Tryz.prog 73 #[.agg #[.int .i64 k, .string s, .int .i64 n, .int .i64 0, .int .i64 0]] w' (TextPost false t w')) :
    Calls Tryz.prog 42 #[.pointer (some ⟨b, 0, none⟩), .agg #[.int .i64 k, .string s, .int .i64 n, .int .i64 0, .int .i64 0]] w fun e w' => e = .panicked unfitP ∧ Below B w w' := by
  have hal : Below w.heap.size w (w.alloc (.cells #[.int .i64 k, .string s, .int .i64 n, .int .i64 0, .int .i64 0] 90)) := (RowKit.Below.refl _ _).alloc (Nat.le_refl _) _
  have HT := Lib.hid (hT _ hal)
  have HAL := Lib.hid hal
  have HB := Lib.hid hB
  clear hT h hB hal
  go_enter Tryz.func42, Tryz.ntmps42
  go_wp2_with (first
    | (go_at_call 73; (with_reducible refine HT.out.mono ?_); rintro e w' ⟨rfl, hb⟩; simp only [textR])
    | (go_at_call 18; (with_reducible refine (need_no _).mono ?_); rintro e w' ⟨rfl, rfl⟩))
  exact ⟨rfl, rfl, (RowKit.Below.mono HAL.out HB.out).trans (RowKit.Below.mono hb (Nat.le_trans HB.out HAL.out.size))⟩
set_option maxRecDepth 100000 in
set_option maxHeartbeats 1000000 in
theorem expr_1 {W : World} {n line : Int} {s : ByteArray} {kids : List Ex} {so : Option Addr} {cap B b : Nat} {l : List UInt8} {w : World} (h : JCtx W 1 n line s kids so cap B b l w) :
    Calls Tryz.prog 20 #[.pointer (some ⟨b, 0, none⟩), .agg #[.int .i64 1, .string s, .int .i64 n, .slice so kids.length cap, .int .i64 line]] w (WPost B b l (Ex.mk 1 s n kids line).txt (Ex.mk 1 s n kids line).right w) := by
  obtain ⟨hk, H, hrng, hkl, hc, hb, hl⟩ := h
  obtain ⟨W1, hW1⟩ : ∃ W1, W1 = w.alloc (.cells #[.int .i64 1, .string s, .int .i64 n, .slice so kids.length cap, .int .i64 line] 25) := ⟨_, rfl⟩
  have hal : Below w.heap.size w W1 := by rw [hW1]; exact (RowKit.Below.refl _ _).alloc (Nat.le_refl _) _
  have hrow : W1.heap[w.heap.size]? = some (.cells #[.int .i64 1, .string s, .int .i64 n, .slice so kids.length cap, .int .i64 line] 25 (0, 0)) := by rw [hW1]; exact heap_alloc_new _ _
  obtain ⟨c0, c1, c2, c3, c4⟩ := row_cells hrow
  have HAL := Lib.hid hal
  have HROW1 := Lib.hid hrow
  have HBw := Lib.hid hc.Bw
  have hne : w.heap.size ≠ b := fun e => by have := hb.lt; omega
  have HNE := Lib.hid hne
  have HC1 := Lib.hid (hc.low hal)
  have HB1 := Lib.hid (hb.below hal)
  have HW1 := Lib.hid (And.intro (RowKit.Below.mono hal hc.Bw) (Wr.of hal : Wr b _ _))
  have HL := Lib.hid hl
  have HK := Lib.hid hk
  have HH := Lib.hid H
  have HRNG := Lib.hid hrng
  have HKL := Lib.hid hkl
  have HSD : Hid (s.data.toList.length = s.size) := Lib.hid (by rw [Array.length_toList]; rfl)
  rw [right_1]
  clear hc hb hl hal hrow hne hk H hkl hrng
  have HTX : Hid ((Ex.mk 1 s n kids line).txt = (⟨(Lib.itoa n).toArray⟩ : ByteArray).data.toList) := Lib.hid (by simp [Ex.txt, txtK])
  rw [HTX.out]
  clear HTX
  have hbare := bare_any 1 n s so kids.length cap line 0 W1
  generalize bareB 1 n kids.length 0 = bb at *
  have HBare := Lib.hid hbare
  clear hbare
  have HTXT : Hid (∀ w', Globs hv w' gl → Calls Tryz.prog 73 #[.agg #[.int .i64 2, .string s, .int .i64 n, .int .i64 0, .int .i64 0]] w' (TextPost (s.toList.isEmpty && decide (0 ≤ n)) ⟨(Lib.itoa n).toArray⟩ w')) := Lib.hid fun w' hg => text_int s n w' hg HRNG.out.1 HRNG.out.2
  generalize (s.toList.isEmpty && decide (0 ≤ n)) = ok at *
  have HIL : Hid ((⟨(Lib.itoa n).toArray⟩ : ByteArray).size ≤ 20) := Lib.hid (by have := itoa_le n HRNG.out.1 HRNG.out.2; simpa [ByteArray.size] using this)
  generalize (⟨(Lib.itoa n).toArray⟩ : ByteArray) = tx at *
  go_enter Tryz.func20, Tryz.ntmps20
  go_wp2_with fail
  rw [← hW1]
  clear hW1
  go_wp2_with fail
  go_at_call 41
  refine HBare.out.mono ?_
  rintro e w2 ⟨rfl, hb⟩
  clear c0 c1 c2 c3 c4
  cases bb with
  | false => exact ⟨rfl, rfl, HW1.out.1.trans (RowKit.Below.mono hb HC1.out.Bw)⟩
  | true =>
  have HROW2 := Lib.hid ((hb.block _ (Array.getElem?_eq_some_iff.1 HROW1.out).1).trans HROW1.out)
  have HC2 := Lib.hid (HC1.out.low hb)
  have HB2 := Lib.hid (HB1.out.below hb)
  have HW2 := Lib.hid (And.intro (HW1.out.1.trans (RowKit.Below.mono hb HC1.out.Bw)) (HW1.out.2.trans (Wr.of hb : Wr b _ _)))
  clear hb
  obtain ⟨d0, d1, d2, d3, d4⟩ := row_cells HROW2.out
  simp only [okE]
  have HTK := Lib.hid (token_any 2 n s tx ok HB2.out HC2.out.Bw (fun w' hb => HTXT.out w' (Globs.below HC2.out.globs hb)) (by have := HL.out; have := HIL.out; omega))
  go_wp2_with fail
  go_at_call 42
  refine HTK.out.mono ?_
  intro e wz hp
  have hp2 := hp.pre HW2.out.1 HW2.out.2
  clear hp HTK d0 d1 d2 d3 d4
  cases ok with
  | false =>
    obtain ⟨rfl, p⟩ := hp2
    exact ⟨rfl, rfl, p⟩
  | true =>
    obtain ⟨rfl, q⟩ := hp2
    have FIN : Hid (WPost B b l tx.data.toList true w (.returned (.tuple #[])) wz) := Lib.hid ⟨rfl, q⟩
    clear q
    simp only
    go_wp2
    go_end0
    exact FIN.out

set_option maxRecDepth 100000 in
set_option maxHeartbeats 1000000 in
theorem expr_3 {W : World} {n line : Int} {s : ByteArray} {kids : List Ex} {so : Option Addr} {cap B b : Nat} {l : List UInt8} {w : World} (h : JCtx W 3 n line s kids so cap B b l w) :
    Calls Tryz.prog 20 #[.pointer (some ⟨b, 0, none⟩), .agg #[.int .i64 3, .string s, .int .i64 n, .slice so kids.length cap, .int .i64 line]] w (WPost B b l (Ex.mk 3 s n kids line).txt (Ex.mk 3 s n kids line).right w) := by
  obtain ⟨hk, H, hrng, hkl, hc, hb, hl⟩ := h
  obtain ⟨W1, hW1⟩ : ∃ W1, W1 = w.alloc (.cells #[.int .i64 3, .string s, .int .i64 n, .slice so kids.length cap, .int .i64 line] 25) := ⟨_, rfl⟩
  have hal : Below w.heap.size w W1 := by rw [hW1]; exact (RowKit.Below.refl _ _).alloc (Nat.le_refl _) _
  have hrow : W1.heap[w.heap.size]? = some (.cells #[.int .i64 3, .string s, .int .i64 n, .slice so kids.length cap, .int .i64 line] 25 (0, 0)) := by rw [hW1]; exact heap_alloc_new _ _
  obtain ⟨c0, c1, c2, c3, c4⟩ := row_cells hrow
  have HAL := Lib.hid hal
  have HROW1 := Lib.hid hrow
  have HBw := Lib.hid hc.Bw
  have hne : w.heap.size ≠ b := fun e => by have := hb.lt; omega
  have HNE := Lib.hid hne
  have HC1 := Lib.hid (hc.low hal)
  have HB1 := Lib.hid (hb.below hal)
  have HW1 := Lib.hid (And.intro (RowKit.Below.mono hal hc.Bw) (Wr.of hal : Wr b _ _))
  have HL := Lib.hid hl
  have HK := Lib.hid hk
  have HH := Lib.hid H
  have HRNG := Lib.hid hrng
  have HKL := Lib.hid hkl
  have HSD : Hid (s.data.toList.length = s.size) := Lib.hid (by rw [Array.length_toList]; rfl)
  rw [right_3]
  clear hc hb hl hal hrow hne hk H hkl hrng
  have HTX : Hid ((Ex.mk 3 s n kids line).txt = (⟨(quotL s).toArray⟩ : ByteArray).data.toList) := Lib.hid (by simp [Ex.txt, txtK])
  rw [HTX.out]
  clear HTX
  have hbare := bare_any 3 n s so kids.length cap line 0 W1
  generalize bareB 3 n kids.length 0 = bb at *
  have HBare := Lib.hid hbare
  clear hbare
  have HTXT : Hid (∀ w', Globs hv w' gl → 9 ≤ w'.heap.size → Calls Tryz.prog 73 #[.agg #[.int .i64 3, .string s, .int .i64 0, .int .i64 0, .int .i64 0]] w' (TextPost (plainB s) ⟨(quotL s).toArray⟩ w')) := Lib.hid fun w' hg hng => text_str s w' hg hng
  have HQL : Hid (plainB s = true → (⟨(quotL s).toArray⟩ : ByteArray).size ≤ 512) := Lib.hid (fun h => by have := quot_le h; simpa [ByteArray.size] using this)
  generalize hok : plainB s = ok at *
  generalize (⟨(quotL s).toArray⟩ : ByteArray) = tx at *
  go_enter Tryz.func20, Tryz.ntmps20
  go_wp2_with fail
  rw [← hW1]
  clear hW1
  go_wp2_with fail
  go_at_call 41
  refine HBare.out.mono ?_
  rintro e w2 ⟨rfl, hb⟩
  clear c0 c1 c2 c3 c4
  cases bb with
  | false => exact ⟨rfl, rfl, HW1.out.1.trans (RowKit.Below.mono hb HC1.out.Bw)⟩
  | true =>
  have HROW2 := Lib.hid ((hb.block _ (Array.getElem?_eq_some_iff.1 HROW1.out).1).trans HROW1.out)
  have HC2 := Lib.hid (HC1.out.low hb)
  have HB2 := Lib.hid (HB1.out.below hb)
  have HW2 := Lib.hid (And.intro (HW1.out.1.trans (RowKit.Below.mono hb HC1.out.Bw)) (HW1.out.2.trans (Wr.of hb : Wr b _ _)))
  clear hb
  obtain ⟨d0, d1, d2, d3, d4⟩ := row_cells HROW2.out
  simp only [okE]
  cases ok with
  | false =>
    have HTK := Lib.hid (token_no 3 0 s tx HB2.out HC2.out.Bw (fun w' hb => HTXT.out w' (Globs.below HC2.out.globs hb) (by have := HC2.out.ng; have := HC2.out.old.size; have := hb.size; omega)))
    go_wp2_with fail
    go_at_call 42
    refine HTK.out.mono ?_
    rintro e wz ⟨rfl, p⟩
    exact ⟨rfl, rfl, HW2.out.1.trans p⟩
  | true =>
  have HTK := Lib.hid (token_any 3 0 s tx true HB2.out HC2.out.Bw (fun w' hb => HTXT.out w' (Globs.below HC2.out.globs hb) (by have := HC2.out.ng; have := HC2.out.old.size; have := hb.size; omega)) (by have := HL.out; have := HQL.out (by first | rfl | trivial); omega))
  go_wp2_with fail
  go_at_call 42
  refine HTK.out.mono ?_
  intro e wz hp
  have hp2 := hp.pre HW2.out.1 HW2.out.2
  clear hp HTK d0 d1 d2 d3 d4
  obtain ⟨rfl, q⟩ := hp2
  have FIN : Hid (WPost B b l tx.data.toList true w (.returned (.tuple #[])) wz) := Lib.hid ⟨rfl, q⟩
  clear q
  simp only
  go_wp2
  go_end0
  exact FIN.out

set_option maxRecDepth 100000 in
set_option maxHeartbeats 1000000 in
theorem expr_4 {W : World} {n line : Int} {s : ByteArray} {kids : List Ex} {so : Option Addr} {cap B b : Nat} {l : List UInt8} {w : World} (h : JCtx W 4 n line s kids so cap B b l w) :
    Calls Tryz.prog 20 #[.pointer (some ⟨b, 0, none⟩), .agg #[.int .i64 4, .string s, .int .i64 n, .slice so kids.length cap, .int .i64 line]] w (WPost B b l (Ex.mk 4 s n kids line).txt (Ex.mk 4 s n kids line).right w) := by
  obtain ⟨hk, H, hrng, hkl, hc, hb, hl⟩ := h
  obtain ⟨W1, hW1⟩ : ∃ W1, W1 = w.alloc (.cells #[.int .i64 4, .string s, .int .i64 n, .slice so kids.length cap, .int .i64 line] 25) := ⟨_, rfl⟩
  have hal : Below w.heap.size w W1 := by rw [hW1]; exact (RowKit.Below.refl _ _).alloc (Nat.le_refl _) _
  have hrow : W1.heap[w.heap.size]? = some (.cells #[.int .i64 4, .string s, .int .i64 n, .slice so kids.length cap, .int .i64 line] 25 (0, 0)) := by rw [hW1]; exact heap_alloc_new _ _
  obtain ⟨c0, c1, c2, c3, c4⟩ := row_cells hrow
  have HAL := Lib.hid hal
  have HROW1 := Lib.hid hrow
  have HBw := Lib.hid hc.Bw
  have hne : w.heap.size ≠ b := fun e => by have := hb.lt; omega
  have HNE := Lib.hid hne
  have HC1 := Lib.hid (hc.low hal)
  have HB1 := Lib.hid (hb.below hal)
  have HW1 := Lib.hid (And.intro (RowKit.Below.mono hal hc.Bw) (Wr.of hal : Wr b _ _))
  have HL := Lib.hid hl
  have HK := Lib.hid hk
  have HH := Lib.hid H
  have HRNG := Lib.hid hrng
  have HKL := Lib.hid hkl
  have HSD : Hid (s.data.toList.length = s.size) := Lib.hid (by rw [Array.length_toList]; rfl)
  rw [right_4]
  clear hc hb hl hal hrow hne hk H hkl hrng
  have HTX : Hid ((Ex.mk 4 s n kids line).txt = s.data.toList) := Lib.hid (by simp [Ex.txt, txtK])
  rw [HTX.out]
  clear HTX
  have hbare := bare_any 4 n s so kids.length cap line 0 W1
  generalize bareB 4 n kids.length 0 = bb at *
  have HBare := Lib.hid hbare
  clear hbare
  generalize hok : nameB s = ok
  go_enter Tryz.func20, Tryz.ntmps20
  go_wp2_with fail
  rw [← hW1]
  clear hW1
  go_wp2_with fail
  go_at_call 41
  refine HBare.out.mono ?_
  rintro e w2 ⟨rfl, hb⟩
  clear c0 c1 c2 c3 c4
  cases bb with
  | false => exact ⟨rfl, rfl, HW1.out.1.trans (RowKit.Below.mono hb HC1.out.Bw)⟩
  | true =>
  have HROW2 := Lib.hid ((hb.block _ (Array.getElem?_eq_some_iff.1 HROW1.out).1).trans HROW1.out)
  have HC2 := Lib.hid (HC1.out.low hb)
  have HB2 := Lib.hid (HB1.out.below hb)
  have HW2 := Lib.hid (And.intro (HW1.out.1.trans (RowKit.Below.mono hb HC1.out.Bw)) (HW1.out.2.trans (Wr.of hb : Wr b _ _)))
  clear hb
  obtain ⟨d0, d1, d2, d3, d4⟩ := row_cells HROW2.out
  simp only [okE]
  have hna := wname_any s HB2.out HC2.out.Bw HC2.out.globs (by have := HL.out; omega)
  rw [hok] at hna
  have HNA := Lib.hid hna
  clear hna
  go_wp2_with fail
  go_at_call 44
  refine HNA.out.mono ?_
  intro e wz hp
  have hp2 := hp.pre HW2.out.1 HW2.out.2
  clear hp HNA d0 d1 d2 d3 d4
  cases ok with
  | false =>
    obtain ⟨rfl, p⟩ := hp2
    exact ⟨rfl, rfl, p⟩
  | true =>
    obtain ⟨rfl, q⟩ := hp2
    have FIN : Hid (WPost B b l s.data.toList true w (.returned (.tuple #[])) wz) := Lib.hid ⟨rfl, q⟩
    clear q
    simp only
    go_wp2
    go_end0
    exact FIN.out

end Go.Proofs.YtggjeecpadnihaaGreatDoor

namespace Go.Proofs.YtggjeecpadnihaaGreatDoor
open Go Go.Proofs Go.Eng Go.RowKit Go.Sx Go.Deep
set_option linter.unusedVariables false
set_option linter.unusedSimpArgs false

set_option maxRecDepth 100000 in
set_option maxHeartbeats 1000000 in
theorem expr_5 {W : World} {n line : Int} {s : ByteArray} {kids : List Ex} {so : Option Addr} {cap B b : Nat} {l : List UInt8} {w : World} (h : JCtx W 5 n line s kids so cap B b l w) :
    Calls Tryz.prog 20 #[.pointer (some ⟨b, 0, none⟩), .agg #[.int .i64 5, .string s, .int .i64 n, .slice so kids.length cap, .int .i64 line]] w (WPost B b l (Ex.mk 5 s n kids line).txt (Ex.mk 5 s n kids line).right w) := by
  obtain ⟨hk, H, hrng, hkl, hc, hb, hl⟩ := h
  obtain ⟨W1, hW1⟩ : ∃ W1, W1 = w.alloc (.cells #[.int .i64 5, .string s, .int .i64 n, .slice so kids.length cap, .int .i64 line] 25) := ⟨_, rfl⟩
  have hal : Below w.heap.size w W1 := by rw [hW1]; exact (RowKit.Below.refl _ _).alloc (Nat.le_refl _) _
  have hrow : W1.heap[w.heap.size]? = some (.cells #[.int .i64 5, .string s, .int .i64 n, .slice so kids.length cap, .int .i64 line] 25 (0, 0)) := by rw [hW1]; exact heap_alloc_new _ _
  obtain ⟨c0, c1, c2, c3, c4⟩ := row_cells hrow
  have HAL := Lib.hid hal
  have HROW1 := Lib.hid hrow
  have HBw := Lib.hid hc.Bw
  have hne : w.heap.size ≠ b := fun e => by have := hb.lt; omega
  have HNE := Lib.hid hne
  have HC1 := Lib.hid (hc.low hal)
  have HB1 := Lib.hid (hb.below hal)
  have HW1 := Lib.hid (And.intro (RowKit.Below.mono hal hc.Bw) (Wr.of hal : Wr b _ _))
  have HL := Lib.hid hl
  have HK := Lib.hid hk
  have HH := Lib.hid H
  have HRNG := Lib.hid hrng
  have HKL := Lib.hid hkl
  have HSD : Hid (s.data.toList.length = s.size) := Lib.hid (by rw [Array.length_toList]; rfl)
  rw [right_5]
  clear hc hb hl hal hrow hne hk H hkl hrng
  have HTX : Hid ((Ex.mk 5 s n kids line).txt = s.data.toList ++ 40 :: (joinL (kids.map Ex.txt) ++ [41])) := Lib.hid (by simp [Ex.txt, txtK, txts_snd])
  rw [HTX.out]
  clear HTX
  have hna := wname_any s HB1.out HC1.out.Bw HC1.out.globs (by have := HL.out; omega)
  have HNL : Hid (nameB s = true → s.data.toList.length ≤ 20) := Lib.hid name_le
  generalize nameB s = ok at *
  have HNA := Lib.hid hna
  clear hna
  generalize hJ : joinL (kids.map Ex.txt) = J
  generalize hok2 : ((n == 0) && rightL kids) = okk
  have HJ := Lib.hid hJ
  have HOK2 := Lib.hid hok2
  clear hJ hok2
  go_enter Tryz.func20, Tryz.ntmps20
  go_wp2_with fail
  rw [← hW1]
  clear hW1
  go_wp2_with fail
  go_at_call 44
  refine HNA.out.mono ?_
  intro e w2 hp
  clear HNA c0 c1 c2 c3 c4
  cases ok with
  | false =>
    obtain ⟨rfl, p⟩ := hp
    exact ⟨rfl, rfl, HW1.out.1.trans p⟩
  | true =>
  obtain ⟨rfl, p1, p2, p3⟩ := hp
  have HROW2 := Lib.hid (p3.cell HROW1.out HNE.out (by decide))
  have HC2 := Lib.hid (HC1.out.next p2)
  have HB2 := Lib.hid p1
  have HW2 := Lib.hid (And.intro (HW1.out.1.trans p2) (HW1.out.2.trans p3))
  clear p1 p2 p3
  obtain ⟨d0, d1, d2, d3, d4⟩ := row_cells HROW2.out
  simp only
  have hli := (list_any (k := 5) (n := n) (line := line) (s := s) (cap := cap) HK.out HH.out HKL.out ⟨#[40]⟩ ⟨#[41]⟩ (by decide) (by decide) B b _ w2 HC2.out HB2.out (by
    have h1 := HL.out; have h2 := HNL.out (by first | rfl | trivial)
    rw [List.length_append]; omega))
  rw [HJ.out, HOK2.out] at hli
  have HLI := Lib.hid hli
  clear hli
  go_wp2_with fail
  go_at_call 45
  refine HLI.out.mono ?_
  intro e wz hp
  have hp2 := hp.seq (l := l) HW2.out.1 HW2.out.2
  clear hp HLI d0 d1 d2 d3 d4
  cases okk with
  | false =>
    obtain ⟨rfl, p⟩ := hp2
    exact ⟨rfl, rfl, p⟩
  | true =>
    obtain ⟨rfl, q1, q2⟩ := hp2
    have FIN : Hid (WPost B b l (s.data.toList ++ 40 :: (J ++ [41])) true w (.returned (.tuple #[])) wz) := Lib.hid ⟨rfl, by simpa using q1, q2⟩
    clear q1 q2
    simp only
    go_wp2
    go_end0
    exact FIN.out

set_option maxRecDepth 100000 in
set_option maxHeartbeats 1000000 in
theorem expr_11 {W : World} {n line : Int} {s : ByteArray} {kids : List Ex} {so : Option Addr} {cap B b : Nat} {l : List UInt8} {w : World} (h : JCtx W 11 n line s kids so cap B b l w) :
    Calls Tryz.prog 20 #[.pointer (some ⟨b, 0, none⟩), .agg #[.int .i64 11, .string s, .int .i64 n, .slice so kids.length cap, .int .i64 line]] w (WPost B b l (Ex.mk 11 s n kids line).txt (Ex.mk 11 s n kids line).right w) := by
  obtain ⟨hk, H, hrng, hkl, hc, hb, hl⟩ := h
  obtain ⟨W1, hW1⟩ : ∃ W1, W1 = w.alloc (.cells #[.int .i64 11, .string s, .int .i64 n, .slice so kids.length cap, .int .i64 line] 25) := ⟨_, rfl⟩
  have hal : Below w.heap.size w W1 := by rw [hW1]; exact (RowKit.Below.refl _ _).alloc (Nat.le_refl _) _
  have hrow : W1.heap[w.heap.size]? = some (.cells #[.int .i64 11, .string s, .int .i64 n, .slice so kids.length cap, .int .i64 line] 25 (0, 0)) := by rw [hW1]; exact heap_alloc_new _ _
  obtain ⟨c0, c1, c2, c3, c4⟩ := row_cells hrow
  have HAL := Lib.hid hal
  have HROW1 := Lib.hid hrow
  have HBw := Lib.hid hc.Bw
  have hne : w.heap.size ≠ b := fun e => by have := hb.lt; omega
  have HNE := Lib.hid hne
  have HC1 := Lib.hid (hc.low hal)
  have HB1 := Lib.hid (hb.below hal)
  have HW1 := Lib.hid (And.intro (RowKit.Below.mono hal hc.Bw) (Wr.of hal : Wr b _ _))
  have HL := Lib.hid hl
  have HK := Lib.hid hk
  have HH := Lib.hid H
  have HRNG := Lib.hid hrng
  have HKL := Lib.hid hkl
  have HSD : Hid (s.data.toList.length = s.size) := Lib.hid (by rw [Array.length_toList]; rfl)
  rw [right_11]
  clear hc hb hl hal hrow hne hk H hkl hrng
  have HTX : Hid ((Ex.mk 11 s n kids line).txt = 110 :: 101 :: 119 :: 32 :: (s.data.toList ++ 40 :: (joinL (kids.map Ex.txt) ++ [41]))) := Lib.hid (by simp [Ex.txt, txtK, txts_snd])
  rw [HTX.out]
  clear HTX
  have hsz : W1.heap.size = w.heap.size + 1 := by rw [hW1]; exact Array.size_push ..
  have hpu := sput1 ⟨#[110, 101, 119, 32]⟩ HB1.out HC1.out.Bw (by have := HL.out; show _ + 4 ≤ _; omega)
  rw [hsz] at hpu
  have HPU := Lib.hid hpu
  clear hpu hsz
  have HNL : Hid (nameB s = true → s.data.toList.length ≤ 20) := Lib.hid name_le
  generalize hNB : nameB s = ok at *
  generalize hJ : joinL (kids.map Ex.txt) = J
  generalize hok2 : ((n == 0) && rightL kids) = okk
  have HJ := Lib.hid hJ
  have HOK2 := Lib.hid hok2
  clear hJ hok2
  go_enter Tryz.func20, Tryz.ntmps20
  go_wp2_with fail
  rw [← hW1]
  clear hW1
  go_wp2_with fail
  go_at_call 43
  refine HPU.out.mono ?_
  rintro e w2 ⟨rfl, p1, p2, p3⟩
  clear c0 c1 c2 c3 c4 HPU
  have HROW2 := Lib.hid (p3.cell HROW1.out HNE.out (by decide))
  have HC2 := Lib.hid (HC1.out.next p2)
  have HB2 := Lib.hid p1
  have HW2 := Lib.hid (And.intro (HW1.out.1.trans p2) (HW1.out.2.trans p3))
  clear p1 p2 p3
  obtain ⟨d0, d1, d2, d3, d4⟩ := row_cells HROW2.out
  have hna := wname_any s HB2.out HC2.out.Bw HC2.out.globs (by have := HL.out; rw [List.length_append]; show _ + 4 + 1000 ≤ _; omega)
  rw [hNB] at hna
  have HNA := Lib.hid hna
  clear hna
  simp only
  go_wp2_with fail
  go_at_call 44
  refine HNA.out.mono ?_
  intro e w3 hp
  clear HNA d0 d1 d2 d3 d4
  cases ok with
  | false =>
    obtain ⟨rfl, p⟩ := hp
    exact ⟨rfl, rfl, HW2.out.1.trans p⟩
  | true =>
  obtain ⟨rfl, p1, p2, p3⟩ := hp
  have HROW3 := Lib.hid (p3.cell HROW2.out HNE.out (by decide))
  have HC3 := Lib.hid (HC2.out.next p2)
  have HB3 := Lib.hid p1
  have HW3 := Lib.hid (And.intro (HW2.out.1.trans p2) (HW2.out.2.trans p3))
  clear p1 p2 p3
  obtain ⟨f0, f1, f2, f3, f4⟩ := row_cells HROW3.out
  simp only
  have hli := (list_any (k := 11) (n := n) (line := line) (s := s) (cap := cap) HK.out HH.out HKL.out ⟨#[40]⟩ ⟨#[41]⟩ (by decide) (by decide) B b _ w3 HC3.out HB3.out (by
    have h1 := HL.out; have h2 := HNL.out (by first | rfl | trivial)
    rw [List.length_append, List.length_append]; show _ + 4 + _ + _ + _ ≤ _; omega))
  rw [HJ.out, HOK2.out] at hli
  have HLI := Lib.hid hli
  clear hli
  go_wp2_with fail
  go_at_call 45
  refine HLI.out.mono ?_
  intro e wz hp
  have hp2 := hp.seq (l := l ++ (⟨#[110, 101, 119, 32]⟩ : ByteArray).data.toList) HW3.out.1 HW3.out.2
  clear hp HLI f0 f1 f2 f3 f4
  cases okk with
  | false =>
    obtain ⟨rfl, p⟩ := hp2
    exact ⟨rfl, rfl, p⟩
  | true =>
    obtain ⟨rfl, q1, q2⟩ := hp2
    have FIN : Hid (WPost B b l (110 :: 101 :: 119 :: 32 :: (s.data.toList ++ 40 :: (J ++ [41]))) true w (.returned (.tuple #[])) wz) := Lib.hid ⟨rfl, by simpa using q1, q2⟩
    clear q1 q2
    simp only
    go_wp2
    go_end0
    exact FIN.out

set_option maxRecDepth 100000 in
set_option maxHeartbeats 1000000 in
theorem expr_10 {W : World} {n line : Int} {s : ByteArray} {kids : List Ex} {so : Option Addr} {cap B b : Nat} {l : List UInt8} {w : World} (h : JCtx W 10 n line s kids so cap B b l w) :
    Calls Tryz.prog 20 #[.pointer (some ⟨b, 0, none⟩), .agg #[.int .i64 10, .string s, .int .i64 n, .slice so kids.length cap, .int .i64 line]] w (WPost B b l (Ex.mk 10 s n kids line).txt (Ex.mk 10 s n kids line).right w) := by
  obtain ⟨hk, H, hrng, hkl, hc, hb, hl⟩ := h
  obtain ⟨W1, hW1⟩ : ∃ W1, W1 = w.alloc (.cells #[.int .i64 10, .string s, .int .i64 n, .slice so kids.length cap, .int .i64 line] 25) := ⟨_, rfl⟩
  have hal : Below w.heap.size w W1 := by rw [hW1]; exact (RowKit.Below.refl _ _).alloc (Nat.le_refl _) _
  have hrow : W1.heap[w.heap.size]? = some (.cells #[.int .i64 10, .string s, .int .i64 n, .slice so kids.length cap, .int .i64 line] 25 (0, 0)) := by rw [hW1]; exact heap_alloc_new _ _
  obtain ⟨c0, c1, c2, c3, c4⟩ := row_cells hrow
  have HAL := Lib.hid hal
  have HROW1 := Lib.hid hrow
  have HBw := Lib.hid hc.Bw
  have hne : w.heap.size ≠ b := fun e => by have := hb.lt; omega
  have HNE := Lib.hid hne
  have HC1 := Lib.hid (hc.low hal)
  have HB1 := Lib.hid (hb.below hal)
  have HW1 := Lib.hid (And.intro (RowKit.Below.mono hal hc.Bw) (Wr.of hal : Wr b _ _))
  have HL := Lib.hid hl
  have HK := Lib.hid hk
  have HH := Lib.hid H
  have HRNG := Lib.hid hrng
  have HKL := Lib.hid hkl
  have HSD : Hid (s.data.toList.length = s.size) := Lib.hid (by rw [Array.length_toList]; rfl)
  rw [right_10]
  clear hc hb hl hal hrow hne hk H hkl hrng
  have HTX : Hid ((Ex.mk 10 s n kids line).txt = 91 :: (joinL (kids.map Ex.txt) ++ [93])) := Lib.hid (by simp [Ex.txt, txtK, txts_snd])
  rw [HTX.out]
  clear HTX
  generalize hJ : joinL (kids.map Ex.txt) = J
  generalize hok2 : ((n == 0) && rightL kids) = okk
  have HJ := Lib.hid hJ
  have HOK2 := Lib.hid hok2
  clear hJ hok2
  generalize he : s.toList.isEmpty = be
  generalize hm : decide (0 < kids.length) = bm
  cases be <;> cases bm
  all_goals first
    | (go_enter Tryz.func20, Tryz.ntmps20
       go_wp2_with fail
       rw [← hW1]
       clear hW1
       go_wp2_with (go_at_call 18; (with_reducible refine (need_no _).mono ?_); rintro e w' ⟨rfl, rfl⟩)
       exact ⟨rfl, rfl, HW1.out.1⟩)
    | skip
  go_enter Tryz.func20, Tryz.ntmps20
  go_wp2_with fail
  rw [← hW1]
  clear hW1
  go_wp2_with (go_at_call 18; (with_reducible refine (need_yes _).mono ?_); rintro e w' ⟨rfl, rfl⟩)
  have hli := (list_any (k := 10) (n := n) (line := line) (s := s) (cap := cap) HK.out HH.out HKL.out ⟨#[91]⟩ ⟨#[93]⟩ (by decide) (by decide) B b _ W1 HC1.out HB1.out (by have h1 := HL.out; omega))
  rw [HJ.out, HOK2.out] at hli
  have HLI := Lib.hid hli
  clear hli
  go_wp2_with fail
  go_at_call 45
  refine HLI.out.mono ?_
  intro e wz hp
  have hp2 := hp.pre HW1.out.1 HW1.out.2
  clear hp HLI c0 c1 c2 c3 c4
  cases okk with
  | false =>
    obtain ⟨rfl, p⟩ := hp2
    exact ⟨rfl, rfl, p⟩
  | true =>
    obtain ⟨rfl, q1, q2⟩ := hp2
    have FIN : Hid (WPost B b l (91 :: (J ++ [93])) true w (.returned (.tuple #[])) wz) := Lib.hid ⟨rfl, by simpa using q1, q2⟩
    clear q1 q2
    simp only
    go_wp2
    go_end0
    exact FIN.out

set_option maxRecDepth 100000 in
set_option maxHeartbeats 1000000 in
theorem expr_2 {W : World} {n line : Int} {s : ByteArray} {kids : List Ex} {so : Option Addr} {cap B b : Nat} {l : List UInt8} {w : World} (h : JCtx W 2 n line s kids so cap B b l w) :
    Calls Tryz.prog 20 #[.pointer (some ⟨b, 0, none⟩), .agg #[.int .i64 2, .string s, .int .i64 n, .slice so kids.length cap, .int .i64 line]] w (WPost B b l (Ex.mk 2 s n kids line).txt (Ex.mk 2 s n kids line).right w) := by
  obtain ⟨hk, H, hrng, hkl, hc, hb, hl⟩ := h
  obtain ⟨W1, hW1⟩ : ∃ W1, W1 = w.alloc (.cells #[.int .i64 2, .string s, .int .i64 n, .slice so kids.length cap, .int .i64 line] 25) := ⟨_, rfl⟩
  have hal : Below w.heap.size w W1 := by rw [hW1]; exact (RowKit.Below.refl _ _).alloc (Nat.le_refl _) _
  have hrow : W1.heap[w.heap.size]? = some (.cells #[.int .i64 2, .string s, .int .i64 n, .slice so kids.length cap, .int .i64 line] 25 (0, 0)) := by rw [hW1]; exact heap_alloc_new _ _
  obtain ⟨c0, c1, c2, c3, c4⟩ := row_cells hrow
  have HAL := Lib.hid hal
  have HROW1 := Lib.hid hrow
  have HBw := Lib.hid hc.Bw
  have hne : w.heap.size ≠ b := fun e => by have := hb.lt; omega
  have HNE := Lib.hid hne
  have HC1 := Lib.hid (hc.low hal)
  have HB1 := Lib.hid (hb.below hal)
  have HW1 := Lib.hid (And.intro (RowKit.Below.mono hal hc.Bw) (Wr.of hal : Wr b _ _))
  have HL := Lib.hid hl
  have HK := Lib.hid hk
  have HH := Lib.hid H
  have HRNG := Lib.hid hrng
  have HKL := Lib.hid hkl
  have HSD : Hid (s.data.toList.length = s.size) := Lib.hid (by rw [Array.length_toList]; rfl)
  rw [right_2]
  clear hc hb hl hal hrow hne hk H hkl hrng
  have hbare := bare_any 2 n s so kids.length cap line 0 W1
  generalize hbb : bareB 2 n kids.length 0 = bb at *
  have HBare := Lib.hid hbare
  clear hbare hbb
  have key : ∀ (t : ByteArray) (N : Nat), n = (N : Int) → N ≤ 1 → t.size ≤ 5 →
      (∀ w : World, (Instr.index 92 (.agg #[.string ⟨#[102, 97, 108, 115, 101]⟩, .string ⟨#[116, 114, 117, 101]⟩]) (.int .i64 n)).run Tryz.prog w = .ok (.string t) w) →
      Calls Tryz.prog 20 #[.pointer (some ⟨b, 0, none⟩), .agg #[.int .i64 2, .string s, .int .i64 n, .slice so kids.length cap, .int .i64 line]] w (WPost B b l t.data.toList (bb && s.toList.isEmpty) w) := by
    intro t N hN hN1 hsz hix
    generalize he : s.toList.isEmpty = be
    have HSZ := Lib.hid hsz
    clear hsz
    have h01 : ((n == 0) || (n == 1)) = true := by
      match N, hN1 with
      | 0, _ => subst hN; decide
      | 1, _ => subst hN; decide
    generalize h0 : (n == 0) = b0 at *
    generalize h1 : (n == 1) = b1 at *
    clear hN hN1
    go_enter Tryz.func20, Tryz.ntmps20
    go_wp2_with fail
    rw [← hW1]
    clear hW1
    go_wp2_with fail
    go_at_call 41
    refine HBare.out.mono ?_
    rintro e w2 ⟨rfl, hb⟩
    clear c0 c1 c2 c3 c4
    cases bb with
    | false => exact ⟨rfl, rfl, HW1.out.1.trans (RowKit.Below.mono hb HC1.out.Bw)⟩
    | true =>
    have HROW2 := Lib.hid ((hb.block _ (Array.getElem?_eq_some_iff.1 HROW1.out).1).trans HROW1.out)
    have HC2 := Lib.hid (HC1.out.low hb)
    have HB2 := Lib.hid (HB1.out.below hb)
    have HW2 := Lib.hid (And.intro (HW1.out.1.trans (RowKit.Below.mono hb HC1.out.Bw)) (HW1.out.2.trans (Wr.of hb : Wr b _ _)))
    clear hb
    obtain ⟨d0, d1, d2, d3, d4⟩ := row_cells HROW2.out
    simp only [okE]
    have HPU := Lib.hid (sput1 t HB2.out HC2.out.Bw (by have := HL.out; have := HSZ.out; omega))
    cases be with
    | false =>
      go_wp2_with (go_at_call 18; (with_reducible refine (need_no _).mono ?_); rintro e w' ⟨rfl, rfl⟩)
      exact ⟨rfl, rfl, HW2.out.1⟩
    | true =>
      cases b0 <;> cases b1 <;> first
        | (exact absurd h01 (by decide))
        | (go_wp2_with (go_at_call 18; (with_reducible refine (need_yes _).mono ?_); rintro e w' ⟨rfl, rfl⟩)
           go_at_call 43
           refine HPU.out.mono ?_
           rintro e wz ⟨rfl, q1, q2, q3⟩
           have FIN : Hid (WPost B b l t.data.toList true w (.returned (.tuple #[])) wz) := Lib.hid ⟨rfl, q1, HW2.out.1.trans q2, HW2.out.2.trans q3⟩
           clear q1 q2 q3 HPU
           simp only
           go_wp2
           go_end0
           exact FIN.out)
  by_cases hn0 : n = 0
  · have := key ⟨#[102, 97, 108, 115, 101]⟩ 0 (by omega) (by omega) (by decide) (fun w => by subst hn0; kernel_rfl)
    have e : (Ex.mk 2 s n kids line).txt = (⟨#[102, 97, 108, 115, 101]⟩ : ByteArray).data.toList := by simp [Ex.txt, txtK, hn0]
    rw [e, show ((n == 0) || (n == 1)) = true by simp [hn0], Bool.and_true]
    exact this
  by_cases hn1 : n = 1
  · have := key ⟨#[116, 114, 117, 101]⟩ 1 (by omega) (by omega) (by decide) (fun w => by subst hn1; kernel_rfl)
    have e : (Ex.mk 2 s n kids line).txt = (⟨#[116, 114, 117, 101]⟩ : ByteArray).data.toList := by simp [Ex.txt, txtK, hn1]
    rw [e, show ((n == 0) || (n == 1)) = true by simp [hn1], Bool.and_true]
    exact this
  · clear key
    have h0 : (n == 0) = false := by simpa using hn0
    have h1 : (n == 1) = false := by simpa using hn1
    rw [h0, h1]
    clear hn0 hn1
    generalize he : s.toList.isEmpty = be
    generalize (Ex.mk 2 s n kids line).txt = T
    go_enter Tryz.func20, Tryz.ntmps20
    go_wp2_with fail
    rw [← hW1]
    clear hW1
    go_wp2_with fail
    go_at_call 41
    refine HBare.out.mono ?_
    rintro e w2 ⟨rfl, hb⟩
    clear c0 c1 c2 c3 c4
    cases bb with
    | false => exact ⟨rfl, rfl, HW1.out.1.trans (RowKit.Below.mono hb HC1.out.Bw)⟩
    | true =>
    have HROW2 := Lib.hid ((hb.block _ (Array.getElem?_eq_some_iff.1 HROW1.out).1).trans HROW1.out)
    have HW2 := Lib.hid (HW1.out.1.trans (RowKit.Below.mono hb HC1.out.Bw))
    clear hb
    obtain ⟨d0, d1, d2, d3, d4⟩ := row_cells HROW2.out
    simp only [okE]
    cases be <;>
      (go_wp2_with (go_at_call 18; (with_reducible refine (need_no _).mono ?_); rintro e w' ⟨rfl, rfl⟩)
       exact ⟨rfl, rfl, HW2.out⟩)
end Go.Proofs.YtggjeecpadnihaaGreatDoor

namespace Go.Proofs.YtggjeecpadnihaaGreatDoor
open Go Go.Proofs Go.Eng Go.RowKit Go.Sx Go.Deep
set_option linter.unusedVariables false
set_option linter.unusedSimpArgs false

set_option maxRecDepth 100000 in
theorem joined_other {k n line : Int} {s : ByteArray} {so : Option Addr} {m cap B b : Nat} {l : List UInt8} {w : World} (t : List UInt8) (h6 : (k == 6) = false) (h7 : (k == 7) = false) (h8 : (k == 8) = false) (h9 : (k == 9) = false) (hB : B ≤ w.heap.size) :
    Calls Tryz.prog 46 #[.pointer (some ⟨b, 0, none⟩), .agg #[.int .i64 k, .string s, .int .i64 n, .slice so m cap, .int .i64 line]] w (WPost B b l t false w) := by
  obtain ⟨W1, hW1⟩ : ∃ W1, W1 = w.alloc (.cells #[.int .i64 k, .string s, .int .i64 n, .slice so m cap, .int .i64 line] 25) := ⟨_, rfl⟩
  have hal : Below w.heap.size w W1 := by rw [hW1]; exact (RowKit.Below.refl _ _).alloc (Nat.le_refl _) _
  have hrow : W1.heap[w.heap.size]? = some (.cells #[.int .i64 k, .string s, .int .i64 n, .slice so m cap, .int .i64 line] 25 (0, 0)) := by rw [hW1]; exact heap_alloc_new _ _
  obtain ⟨c0, c1, c2, c3, c4⟩ := row_cells hrow
  have HAL := Lib.hid (RowKit.Below.mono hal hB)
  clear hal hrow hB
  generalize g6 : (k == 6) = b6 at *
  generalize g7 : (k == 7) = b7 at *
  generalize g8 : (k == 8) = b8 at *
  generalize g9 : (k == 9) = b9 at *
  subst h6 h7 h8 h9
  go_enter Tryz.func46, Tryz.ntmps46
  go_wp2_with fail
  rw [← hW1]
  clear hW1
  go_wp2_with (go_at_call 18; (with_reducible refine (need_no _).mono ?_); rintro e w' ⟨rfl, rfl⟩)
  exact ⟨rfl, rfl, HAL.out⟩

set_option maxRecDepth 100000 in
theorem expr_join {k n line : Int} {s : ByteArray} {so : Option Addr} {m cap B b : Nat} {l : List UInt8} {w : World} (T : List UInt8) (ok : Bool) (h1 : (k == 1) = false) (h2 : (k == 2) = false) (h3 : (k == 3) = false) (h4 : (k == 4) = false) (h5 : (k == 5) = false) (h11 : (k == 11) = false) (h10 : (k == 10) = false) (hB : B ≤ w.heap.size)
    (HJ : ∀ w1, Below w.heap.size w w1 → Calls Tryz.prog 46 #[.pointer (some ⟨b, 0, none⟩), .agg #[.int .i64 k, .string s, .int .i64 n, .slice so m cap, .int .i64 line]] w1 (WPost B b l T ok w1)) :
    Calls Tryz.prog 20 #[.pointer (some ⟨b, 0, none⟩), .agg #[.int .i64 k, .string s, .int .i64 n, .slice so m cap, .int .i64 line]] w (WPost B b l T ok w) := by
  obtain ⟨W1, hW1⟩ : ∃ W1, W1 = w.alloc (.cells #[.int .i64 k, .string s, .int .i64 n, .slice so m cap, .int .i64 line] 25) := ⟨_, rfl⟩
  have hal : Below w.heap.size w W1 := by rw [hW1]; exact (RowKit.Below.refl _ _).alloc (Nat.le_refl _) _
  have hrow : W1.heap[w.heap.size]? = some (.cells #[.int .i64 k, .string s, .int .i64 n, .slice so m cap, .int .i64 line] 25 (0, 0)) := by rw [hW1]; exact heap_alloc_new _ _
  obtain ⟨c0, c1, c2, c3, c4⟩ := row_cells hrow
  have HJ1 := Lib.hid (HJ W1 hal)
  have HAL := Lib.hid hal
  have HB := Lib.hid hB
  clear hal hrow hB HJ
  generalize g1 : (k == 1) = b1 at *
  generalize g2 : (k == 2) = b2 at *
  generalize g3 : (k == 3) = b3 at *
  generalize g4 : (k == 4) = b4 at *
  generalize g5 : (k == 5) = b5 at *
  generalize g11 : (k == 11) = b11 at *
  generalize g10 : (k == 10) = b10 at *
  subst h1 h2 h3 h4 h5 h11 h10
  go_enter Tryz.func20, Tryz.ntmps20
  go_wp2_with fail
  rw [← hW1]
  clear hW1
  go_wp2_with fail
  go_at_call 46
  refine HJ1.out.mono ?_
  intro e w2 hp
  have hp2 := hp.low HAL.out HB.out
  clear hp HJ1 c0 c1 c2 c3 c4
  cases ok with
  | false =>
    obtain ⟨rfl, p⟩ := hp2
    exact ⟨rfl, rfl, p⟩
  | true =>
    obtain ⟨rfl, q⟩ := hp2
    have FIN : Hid (WPost B b l T true w (.returned (.tuple #[])) w2) := Lib.hid ⟨rfl, q⟩
    clear q
    simp only
    go_wp2
    go_end0
    exact FIN.out

set_option maxRecDepth 100000 in
theorem expr_all {W : World} : ∀ (m : Nat) (e : Ex), e.cnt ≤ m → ExprC W e := by
  intro m
  induction m with
  | zero => intro e h; have := cnt_pos e; omega
  | succ m ih =>
    intro e he cs B b l w hin hc hb hl
    obtain ⟨k, s, n, kids, line⟩ := e
    simp only [ExIn] at hin
    obtain ⟨so, cap, rfl, hrng, hkl, hki⟩ := hin
    simp only [Ex.cnt] at he hl
    have J : JCtx W k n line s kids so cap B b l w := ⟨fun i e h => by have := kids_at hki h; rwa [Nat.zero_add] at this, fun i e h => ih e (by have := cntL_get h; omega), ⟨hrng.1, hrng.2.1⟩, hkl, hc, hb, by omega⟩
    by_cases h1 : k = 1
    · subst h1; exact expr_1 J
    by_cases h2 : k = 2
    · subst h2; exact expr_2 J
    by_cases h3 : k = 3
    · subst h3; exact expr_3 J
    by_cases h4 : k = 4
    · subst h4; exact expr_4 J
    by_cases h5 : k = 5
    · subst h5; exact expr_5 J
    by_cases h10 : k = 10
    · subst h10; exact expr_10 J
    by_cases h11 : k = 11
    · subst h11; exact expr_11 J
    refine expr_join _ _ (beq_eq_false_iff_ne.2 h1) (beq_eq_false_iff_ne.2 h2) (beq_eq_false_iff_ne.2 h3) (beq_eq_false_iff_ne.2 h4) (beq_eq_false_iff_ne.2 h5) (beq_eq_false_iff_ne.2 h11) (beq_eq_false_iff_ne.2 h10) hc.Bw fun w1 hw1 => ?_
    have J1 : JCtx W k n line s kids so cap B b l w1 := { J with ctx := hc.low hw1, buf := hb.below hw1 }
    by_cases h6 : k = 6
    · subst h6; exact joined_6 J1
    by_cases h7 : k = 7
    · subst h7; exact joined_7 J1
    by_cases h8 : k = 8
    · subst h8; exact joined_8 J1
    by_cases h9 : k = 9
    · subst h9; exact joined_9 J1
    rw [right_other s n line kids (by omega)]
    exact joined_other _ (beq_eq_false_iff_ne.2 h6) (beq_eq_false_iff_ne.2 h7) (beq_eq_false_iff_ne.2 h8) (beq_eq_false_iff_ne.2 h9) (hc.low hw1).Bw

/-- Writing an expression that came in. -/
theorem expr_any (W : World) (e : Ex) : ExprC W e := expr_all e.cnt e (Nat.le_refl _)
end Go.Proofs.YtggjeecpadnihaaGreatDoor

namespace Go.Proofs.YtggjeecpadnihaaGreatDoor
open Go Go.Proofs Go.Eng Go.RowKit Go.Sx Go.Deep
set_option linter.unusedVariables false
set_option linter.unusedSimpArgs false

set_option maxRecDepth 100000 in
theorem caught_idle (p q : Addr) (w : World) :
    CallsD Tryz.prog 38 #[.pointer (some p), .pointer (some q)] .returning w fun e u' w' => e = .returned (.tuple #[]) ∧ u' = .returning ∧ w' = w := by
  refine callsD_of_wpS Tryz.func38 rfl fun c₀ cs hu => ?_
  apply wpS_seq
  apply wpS_region
  simp [wpOpsS, go_sem, recoverD, hu, Tryz.ntmps38, Exit.thenS]
  refine wpS_of_wp ?_
  cases c₀
  simp only at hu
  subst hu
  go_wp2
  simp [bodyPostS, results]

set_option maxRecDepth 100000 in
theorem caught_unfit (a : Nat) (s0 : ByteArray) (n0 : Int) (w : World) (h0 : w.heap[a]? = some (.cells #[.string s0] 9 (0, 0))) (h1 : w.heap[a + 1]? = some (.cells #[.int .i64 n0] 28 (0, 0))) :
    CallsD Tryz.prog 38 #[.pointer (some ⟨a, 0, none⟩), .pointer (some ⟨a + 1, 0, none⟩)] (.panicking unfitP) w fun e u' w' => e = .returned (.tuple #[]) ∧ u' = .panicking [{ v := .iface 76 (.agg #[]), recovered := true }] ∧
      w'.cell? ⟨a, 0, none⟩ = some (.string ⟨#[]⟩) ∧ w'.cell? ⟨a + 1, 0, none⟩ = some (.int .i64 2) ∧ Below a w w' := by
  refine callsD_of_wpS Tryz.func38 rfl fun c₀ cs hu => ?_
  obtain ⟨fn, tm, td, df, mode, kd, ro⟩ := c₀
  simp only at hu
  subst hu
  have l0 := (Array.getElem?_eq_some_iff.1 h0).1
  have l1 := (Array.getElem?_eq_some_iff.1 h1).1
  obtain ⟨W1, hW1⟩ : ∃ W1, W1 = w.alloc (.cells #[] 76) := ⟨_, rfl⟩
  have hal : Below w.heap.size w W1 := by rw [hW1]; exact (RowKit.Below.refl _ _).alloc (Nat.le_refl _) _
  have h0' : W1.heap[a]? = some (.cells #[.string s0] 9 (0, 0)) := (hal.block _ l0).trans h0
  have h1' : W1.heap[a + 1]? = some (.cells #[.int .i64 n0] 28 (0, 0)) := (hal.block _ l1).trans h1
  have c0 : W1.cell? ⟨a, 0, none⟩ = some (.string s0) := by simp [World.cell?, h0']
  have c1 : W1.cell? ⟨a + 1, 0, none⟩ = some (.int .i64 n0) := by simp [World.cell?, h1']
  have z0 : W1.frozen? ⟨a, 0, none⟩ = false := by simp [World.frozen?, h0']
  have z1 : W1.frozen? ⟨a + 1, 0, none⟩ = false := by simp [World.frozen?, h1']
  have FIN : Hid (((W1.setCell ⟨a, 0, none⟩ (.string ⟨#[]⟩)).setCell ⟨a + 1, 0, none⟩ (.int .i64 2)).cell? ⟨a, 0, none⟩ = some (.string ⟨#[]⟩) ∧ ((W1.setCell ⟨a, 0, none⟩ (.string ⟨#[]⟩)).setCell ⟨a + 1, 0, none⟩ (.int .i64 2)).cell? ⟨a + 1, 0, none⟩ = some (.int .i64 2) ∧ Below a w ((W1.setCell ⟨a, 0, none⟩ (.string ⟨#[]⟩)).setCell ⟨a + 1, 0, none⟩ (.int .i64 2))) := Lib.hid ⟨by
      rw [World.cell?_setCell_other _ ⟨a + 1, 0, none⟩ ⟨a, 0, none⟩ _ (by simp)]
      exact World.cell?_setCell_same W1 _ _ c0, by
      exact World.cell?_setCell_same _ _ _ ((World.cell?_setCell_other _ ⟨a, 0, none⟩ ⟨a + 1, 0, none⟩ _ (by simp)).trans c1), by
      exact ((RowKit.Below.mono hal (Nat.le_of_lt l0)).setCell (Nat.le_refl _) _).setCell (Nat.le_succ _) _⟩
  clear h0 h1 h0' h1' hal l0 l1
  subst hW1
  have HA : ∀ w : World, (Instr.typeAssert (.iface 76 (.agg #[])) 20 76 true).run Tryz.prog w = .ok (.tuple #[.agg #[], .bool true]) w := fun w => by kernel_rfl
  apply wpS_seq
  apply wpS_region
  simp [wpOpsS, go_sem, recoverD, unfitP, Tryz.ntmps38, Exit.thenS]
  apply wpS_seq
  apply wpS_seq
  apply wpS_region
  simp [wpOpsS, go_sem, Exit.thenS]
  refine wpS_cond (t := false) (by simp [Act.eval, Array.replicate]) ?_
  simp only [Bool.false_eq_true, if_false]
  refine wpS_of_wp ?_
  have e : (#[Value.pointer (some ⟨a, 0, none⟩), Value.pointer (some ⟨a + 1, 0, none⟩)] ++ ((((Array.replicate 14 undef).setIfInBounds 3 (Value.iface 76 (Value.agg #[]))).setIfInBounds 0 (Value.iface 76 (Value.agg #[]))).setIfInBounds 4 (Value.iface 76 (Value.agg #[]))).setIfInBounds 5 (Value.bool false)) =
    #[Value.pointer (some ⟨a, 0, none⟩), Value.pointer (some ⟨a + 1, 0, none⟩), Value.iface 76 (Value.agg #[]), undef, undef, Value.iface 76 (Value.agg #[]), Value.iface 76 (Value.agg #[]), .bool false, undef, undef, undef, undef, undef, undef, undef, undef] := by rfl
  rw [e]
  clear e
  go_wp2
  unfold Exit.thenS
  refine wpS_of_wp ?_
  go_wp2
  have F := FIN.out
  simp [bodyPostS, results]
  exact F
end Go.Proofs.YtggjeecpadnihaaGreatDoor

namespace Go.Proofs.YtggjeecpadnihaaGreatDoor
open Go Go.Proofs Go.Eng Go.RowKit Go.Sx Go.Deep
set_option linter.unusedVariables false
set_option linter.unusedSimpArgs false

set_option maxRecDepth 100000 in
theorem bldLen_any (B b : Nat) (l : List UInt8) (T : TypeId) (rest : List Value) (w : World) (h : BufAt T rest B b l w) : Calls Tryz.prog 39 #[.pointer (some ⟨b, 0, none⟩)] w fun e w' => e = .returned (.int .i64 (l.length : Int)) ∧ w = w' := by
  obtain ⟨hB, p, v, hp, hb, hown⟩ := h
  obtain ⟨so, cap, rfl⟩ : ∃ so cap, v = .slice so l.length cap := by
    rcases hown.2 with ⟨h1, h2⟩ | ⟨g, cap, cur, h1, _⟩
    · exact ⟨none, 0, by rw [h1]; simp_all⟩
    · exact ⟨_, cap, h1⟩
  have c1 : w.cell? ⟨b, 1, none⟩ = some (.slice so l.length cap) := by simp [World.cell?, hb]
  clear hown hb hp hB
  go_enter Tryz.func39, Tryz.ntmps39
  go_wp2
  go_ret
  exact ⟨rfl, rfl⟩

/-- What told answers. -/
def toldB (ok : Bool) (t : List UInt8) (over : Bool) : Value := match ok, over with
  | true, true => .tuple #[.string ⟨#[]⟩, .int .i64 5]
  | true, false => .tuple #[.string ⟨t.toArray⟩, .int .i64 0]
  | false, _ => .tuple #[.string ⟨#[]⟩, .int .i64 2]
def toldV (ok : Bool) (t : List UInt8) : Value := toldB ok t (decide ((4096 : Int) < (t.length : Int)))

/-- told's cells: the text and the number that it will answer. -/
structure Cells2 (a : Nat) (s : ByteArray) (n : Int) (w : World) : Prop where
  h0 : w.heap[a]? = some (.cells #[.string s] 9 (0, 0))
  h1 : w.heap[a + 1]? = some (.cells #[.int .i64 n] 28 (0, 0))
theorem Cells2.low {a : Nat} {s : ByteArray} {n : Int} {w w' : World} (h : Cells2 a s n w) (hb : Below (a + 1 + 1) w w') : Cells2 a s n w' :=
  ⟨(hb.block _ (by omega)).trans h.h0, (hb.block _ (by omega)).trans h.h1⟩
theorem Cells2.c {a : Nat} {s : ByteArray} {n : Int} {w : World} (h : Cells2 a s n w) : w.cell? ⟨a, 0, none⟩ = some (.string s) ∧ w.cell? ⟨a + 1, 0, none⟩ = some (.int .i64 n) ∧ w.frozen? ⟨a, 0, none⟩ = false ∧ w.frozen? ⟨a + 1, 0, none⟩ = false := by
  obtain ⟨h0, h1⟩ := h
  exact ⟨by simp [World.cell?, h0], by simp [World.cell?, h1], by simp [World.frozen?, h0], by simp [World.frozen?, h1]⟩
theorem Cells2.put {a : Nat} {s : ByteArray} {n : Int} {w : World} (h : Cells2 a s n w) (s' : ByteArray) (n' : Int) :
    ((w.setCell ⟨a, 0, none⟩ (.string s')).setCell ⟨a + 1, 0, none⟩ (.int .i64 n')).cell? ⟨a, 0, none⟩ = some (.string s') ∧ ((w.setCell ⟨a, 0, none⟩ (.string s')).setCell ⟨a + 1, 0, none⟩ (.int .i64 n')).cell? ⟨a + 1, 0, none⟩ = some (.int .i64 n') ∧
      Below a w ((w.setCell ⟨a, 0, none⟩ (.string s')).setCell ⟨a + 1, 0, none⟩ (.int .i64 n')) := by
  obtain ⟨c0, c1, _, _⟩ := h.c
  exact ⟨by
      rw [World.cell?_setCell_other _ ⟨a + 1, 0, none⟩ ⟨a, 0, none⟩ _ (by simp)]
      exact World.cell?_setCell_same w _ _ c0, by
      exact World.cell?_setCell_same _ _ _ ((World.cell?_setCell_other _ ⟨a, 0, none⟩ ⟨a + 1, 0, none⟩ _ (by simp)).trans c1), by
      exact ((RowKit.Below.refl a w).setCell (Nat.le_refl _) _).setCell (Nat.le_succ _) _⟩

theorem three {W3 : World} (w : World) (h : W3 = ((w.alloc (.cells #[.string ⟨#[]⟩] 9)).alloc (.cells #[.int .i64 0] 28)).alloc (.cells #[.pointer none, .slice none 0 0] 83)) :
    W3.heap.size = w.heap.size + 1 + 1 + 1 ∧ Below w.heap.size w W3 ∧ Cells2 w.heap.size ⟨#[]⟩ 0 W3 ∧ BufAt 83 [] (w.heap.size + 1 + 1) (w.heap.size + 1 + 1) [] W3 := by
  obtain ⟨w1, e1⟩ : ∃ w1, w1 = w.alloc (.cells #[.string ⟨#[]⟩] 9) := ⟨_, rfl⟩
  obtain ⟨w2, e2⟩ : ∃ w2, w2 = w1.alloc (.cells #[.int .i64 0] 28) := ⟨_, rfl⟩
  have h' : W3 = w2.alloc (.cells #[.pointer none, .slice none 0 0] 83) := by rw [h, e2, e1]
  have s1 : w1.heap.size = w.heap.size + 1 := by rw [e1]; exact nblk_alloc _ _
  have s2 : w2.heap.size = w.heap.size + 1 + 1 := by rw [e2, nblk_alloc, s1]
  have s3 : W3.heap.size = w.heap.size + 1 + 1 + 1 := by rw [h', nblk_alloc, s2]
  have b1 : Below w.heap.size w w1 := by rw [e1]; exact (RowKit.Below.refl _ _).alloc (Nat.le_refl _) _
  have b2 : Below w1.heap.size w1 w2 := by rw [e2]; exact (RowKit.Below.refl _ _).alloc (Nat.le_refl _) _
  have b3 : Below w2.heap.size w2 W3 := by rw [h']; exact (RowKit.Below.refl _ _).alloc (Nat.le_refl _) _
  have r0 : w1.heap[w.heap.size]? = some (.cells #[.string ⟨#[]⟩] 9 (0, 0)) := by rw [e1]; exact heap_alloc_new _ _
  have r1 : w2.heap[w.heap.size + 1]? = some (.cells #[.int .i64 0] 28 (0, 0)) := by rw [← s1, e2]; exact heap_alloc_new _ _
  refine ⟨s3, b1.trans ((RowKit.Below.mono b2 (by omega)).trans (RowKit.Below.mono b3 (by omega))), ⟨?_, ?_⟩, ?_⟩
  · exact (b3.block _ (by omega)).trans ((b2.block _ (by omega)).trans r0)
  · exact (b3.block _ (by omega)).trans r1
  · have := BufAt.fresh (T := 83) (rest := []) (Nat.le_refl w2.heap.size)
    rw [← h', s2] at this
    exact this

set_option maxRecDepth 100000 in
theorem told_any (t : List UInt8) (ok : Bool) (c : Nat) (w : World)
    (H : ∀ w1 : World, Below w.heap.size w w1 → w1.heap.size = w.heap.size + 1 + 1 + 1 → BufAt 83 [] (w.heap.size + 1 + 1) (w.heap.size + 1 + 1) [] w1 → Calls Tryz.prog 17 #[.pointer (some ⟨w.heap.size + 1 + 1, 0, none⟩), .pointer (some ⟨c, 0, none⟩)] w1 (WPost (w.heap.size + 1 + 1) (w.heap.size + 1 + 1) [] t ok w1)) :
    Calls Tryz.prog 16 #[.func (.func 17) #[] #[.pointer (some ⟨c, 0, none⟩)]] w fun e w' => e = .returned (toldV ok t) ∧ Below w.heap.size w w' := by
  obtain ⟨W3, hW3⟩ : ∃ W3, W3 = ((w.alloc (.cells #[.string ⟨#[]⟩] 9)).alloc (.cells #[.int .i64 0] 28)).alloc (.cells #[.pointer none, .slice none 0 0] 83) := ⟨_, rfl⟩
  obtain ⟨hsz, hal, hc2, hbuf⟩ := three w hW3
  have HC := Lib.hid (H W3 hal hsz hbuf)
  have HAL := Lib.hid hal
  have HSZ := Lib.hid hsz
  have HC2 := Lib.hid hc2
  clear H hsz hal hc2 hbuf
  unfold toldV
  generalize hg : decide ((4096 : Int) < (t.length : Int)) = bg
  have hmf : ∀ (fn : Fn) (first cap : Array Value) (w : World), (Instr.makeFunc fn first cap).run Tryz.prog w = .ok (.func fn first cap) w := fun _ _ _ _ => rfl
  go_enter_defers Tryz.func16, Tryz.ntmps16
  go_wp2_with fail
  rw [← hW3]
  clear hW3
  refine HC.out.mono ?_
  clear HC
  intro e w2 hp
  cases ok with
  | false =>
    obtain ⟨rfl, hb⟩ := hp
    have hC2 := HC2.out.low hb
    have FIN : Hid (Below w.heap.size w w2) := Lib.hid (HAL.out.trans (RowKit.Below.mono hb (by omega)))
    show Leaves _ _ _ _ _ _ _
    refine leaves_cons (f := 38) (args := #[.pointer (some ⟨w.heap.size, 0, none⟩), .pointer (some ⟨w.heap.size + 1, 0, none⟩)]) (by simp) (by simp [go_sem]) ?_
    refine (caught_unfit _ _ _ w2 hC2.h0 hC2.h1).mono ?_
    rintro e u' w'' ⟨rfl, rfl, r0, r1, hb2⟩
    simp [Leaves, settle, results, Tryz.results16, go_sem, r0, r1]
    exact ⟨rfl, FIN.out.trans hb2⟩
  | true =>
    obtain ⟨rfl, hbuf, hb, _⟩ := hp
    rw [List.nil_append] at hbuf
    have HC3 := Lib.hid (HC2.out.low hb)
    have HW2 : Hid (Below w.heap.size w w2) := Lib.hid (HAL.out.trans (RowKit.Below.mono hb (by omega)))
    have HBW : Hid (w.heap.size + 1 + 1 ≤ w2.heap.size) := Lib.hid (by have := hb.size; have := HSZ.out; omega)
    have HLEN := Lib.hid (bldLen_any _ _ _ _ _ w2 hbuf)
    have HSTR := Lib.hid (bldString_any _ _ _ _ _ w2 hbuf HBW.out)
    clear hbuf hb
    simp only
    obtain ⟨c0, c1, z0, z1⟩ := HC3.out.c
    go_wp2_with fail
    go_at_call 39
    refine HLEN.out.mono ?_
    rintro e w' ⟨rfl, rfl⟩
    cases bg with
    | true =>
      go_wp2_with fail
      obtain ⟨f0, f1, f2⟩ := HC3.out.put ⟨#[]⟩ 5
      have F := HW2.out.trans f2
      show Leaves _ _ _ _ _ _ _
      refine leaves_cons (f := 38) (args := #[.pointer (some ⟨w.heap.size, 0, none⟩), .pointer (some ⟨w.heap.size + 1, 0, none⟩)]) (by simp) (by simp [go_sem]) ?_
      refine (caught_idle _ _ _).mono ?_
      rintro e u' w'' ⟨rfl, rfl, rfl⟩
      clear HC3 HW2 HBW HLEN HSTR c0 c1 z0 z1 HAL HSZ HC2
      simp [Leaves, settle, results, Tryz.results16, go_sem, f0, f1]
      exact ⟨rfl, F⟩
    | false =>
      go_wp2_with fail
      go_at_call 40
      refine HSTR.out.mono ?_
      rintro e w3 ⟨rfl, hb3⟩
      have HC4 := Lib.hid (HC3.out.low hb3)
      have HW3 : Hid (Below w.heap.size w w3) := Lib.hid (HW2.out.trans (RowKit.Below.mono hb3 (by omega)))
      clear c0 c1 z0 z1 hb3 HC3 HW2
      obtain ⟨c0, c1, z0, z1⟩ := HC4.out.c
      simp only
      go_wp2_with fail
      obtain ⟨f0, f1, f2⟩ := HC4.out.put ⟨t.toArray⟩ 0
      have F := HW3.out.trans f2
      show Leaves _ _ _ _ _ _ _
      refine leaves_cons (f := 38) (args := #[.pointer (some ⟨w.heap.size, 0, none⟩), .pointer (some ⟨w.heap.size + 1, 0, none⟩)]) (by simp) (by simp [go_sem]) ?_
      refine (caught_idle _ _ _).mono ?_
      rintro e u' w'' ⟨rfl, rfl, rfl⟩
      clear HC4 HW3 HBW HLEN HSTR c0 c1 z0 z1 HAL HSZ HC2
      simp [Leaves, settle, results, Tryz.results16, go_sem, f0, f1]
      exact ⟨rfl, F⟩
end Go.Proofs.YtggjeecpadnihaaGreatDoor

namespace Go.Proofs.YtggjeecpadnihaaGreatDoor
open Go Go.Proofs Go.Eng Go.RowKit Go.Sx Go.Deep
set_option linter.unusedVariables false
set_option linter.unusedSimpArgs false

set_option maxRecDepth 100000 in
theorem print1_any {W : World} {e : Ex} {cs : List Value} {B b c : Nat} {w : World} (hin : ExIn W e cs) (hcnt : e.cnt ≤ 4096) (hc : Ctx W B w) (hb : BufAt 83 [] B b [] w) (hrow : w.heap[c]? = some (.cells ⟨cs⟩ 25 (0, 0))) (hcB : c < B) :
    Calls Tryz.prog 17 #[.pointer (some ⟨b, 0, none⟩), .pointer (some ⟨c, 0, none⟩)] w (WPost B b [] e.txt (decide ((e.depth : Int) ≤ 24) && e.right) w) := by
  have HD := Lib.hid (depth_any W e.cnt e cs rfl hcnt hin w hc.old)
  have HE := Lib.hid (fun w1 (hb1 : Below w.heap.size w w1) => expr_any W e cs B b [] w1 hin (hc.low hb1) (hb.below hb1) (by simp; omega))
  have HBw := Lib.hid hc.Bw
  have HROW := Lib.hid hrow
  obtain ⟨k, s, n, kids, line⟩ := e
  simp only [ExIn] at hin
  obtain ⟨so, cap, rfl, _⟩ := hin
  obtain ⟨c0, c1, c2, c3, c4⟩ := row_cells hrow
  generalize (Ex.mk k s n kids line).right = okr at *
  generalize (Ex.mk k s n kids line).txt = tx at *
  generalize (Ex.mk k s n kids line).depth = dp at *
  generalize hd : decide ((dp : Int) ≤ 24) = bd
  have HCB := Lib.hid hcB
  clear hcnt hc hb hrow hcB
  go_enter Tryz.func17, Tryz.ntmps17
  go_wp2_with fail
  go_at_call 19
  refine HD.out.mono ?_
  rintro e w1 ⟨rfl, hb1⟩
  have HB1 := Lib.hid hb1
  have hrow1 := (hb1.block _ (by have := HCB.out; have := HBw.out; omega)).trans HROW.out
  have HE1 := Lib.hid (HE.out w1 hb1)
  clear c0 c1 c2 c3 c4 hb1 HD HE
  obtain ⟨c0, c1, c2, c3, c4⟩ := row_cells hrow1
  clear hrow1
  simp only
  cases bd with
  | false =>
    go_wp2_with (go_at_call 18; (with_reducible refine (need_no _).mono ?_); rintro e w' ⟨rfl, rfl⟩)
    exact ⟨rfl, rfl, RowKit.Below.mono HB1.out HBw.out⟩
  | true =>
    go_wp2_with (go_at_call 18; (with_reducible refine (need_yes _).mono ?_); rintro e w' ⟨rfl, rfl⟩)
    go_at_call 20
    refine HE1.out.mono ?_
    intro e w2 hp
    have hp2 := hp.low HB1.out HBw.out
    clear hp HE1 c0 c1 c2 c3 c4
    cases okr with
    | false =>
      obtain ⟨rfl, p⟩ := hp2
      exact ⟨rfl, rfl, p⟩
    | true =>
      obtain ⟨rfl, q⟩ := hp2
      have FIN : Hid (WPost B b [] tx (true && true) w (.returned (.tuple #[])) w2) := Lib.hid ⟨rfl, q⟩
      clear q
      simp only
      go_wp2
      go_end0
      exact FIN.out

theorem told_tuple (ok : Bool) (t : List UInt8) : ∃ s n, toldV ok t = .tuple #[.string s, .int .i64 n] := by
  unfold toldV toldB
  split
  · exact ⟨_, _, rfl⟩
  · exact ⟨_, _, rfl⟩
  · exact ⟨_, _, rfl⟩

set_option maxRecDepth 100000 in
/-- PrintExpr of an expression that came in. -/
theorem printExpr_any {W : World} (hg : Globs hv W gl) (ng : 9 ≤ W.heap.size) (e : Ex) (cs : List Value) (hin : ExIn W e cs) (hcnt : e.cnt ≤ 4096) (w : World) (ho : Old W w) :
    Calls Tryz.prog 7 #[.agg ⟨cs⟩] w fun e' w' => e' = .returned (toldV (decide ((e.depth : Int) ≤ 24) && e.right) e.txt) ∧ Below w.heap.size w w' := by
  obtain ⟨W1, hW1⟩ : ∃ W1, W1 = w.alloc (.cells ⟨cs⟩ 25) := ⟨_, rfl⟩
  have hal : Below w.heap.size w W1 := by rw [hW1]; exact (RowKit.Below.refl _ _).alloc (Nat.le_refl _) _
  have hsz : W1.heap.size = w.heap.size + 1 := by rw [hW1]; exact nblk_alloc _ _
  have hrow : W1.heap[w.heap.size]? = some (.cells ⟨cs⟩ 25 (0, 0)) := by rw [hW1]; exact heap_alloc_new _ _
  have hto := told_any e.txt (decide ((e.depth : Int) ≤ 24) && e.right) w.heap.size W1 (fun w1 hb1 hs1 hbuf => by
    have hold : Old W w1 := (ho.belowB ho.size hal).belowB (by have := ho.size; omega) hb1
    refine print1_any hin hcnt ⟨hg, ng, by have := ho.size; omega, hold, by omega⟩ hbuf ((hb1.block _ (by omega)).trans hrow) (by omega))
  obtain ⟨s, n, hs⟩ := told_tuple (decide ((e.depth : Int) ≤ 24) && e.right) e.txt
  rw [hs] at hto ⊢
  have HT := Lib.hid hto
  have HAL := Lib.hid hal
  obtain ⟨k, s', n', kids, line⟩ := e
  simp only [ExIn] at hin
  obtain ⟨so, cap, rfl, _⟩ := hin
  clear hto hs hal hsz hrow ho hg ng hcnt
  have hmf : ∀ (fn : Fn) (first cap : Array Value) (w : World), (Instr.makeFunc fn first cap).run Tryz.prog w = .ok (.func fn first cap) w := fun _ _ _ _ => rfl
  go_enter Tryz.func7, Tryz.ntmps7
  go_wp2_with fail
  rw [← hW1]
  clear hW1
  go_wp2_with fail
  go_at_call 16
  refine HT.out.mono ?_
  rintro e w2 ⟨rfl, hb2⟩
  have FIN := Lib.hid (HAL.out.trans (RowKit.Below.mono hb2 HAL.out.size))
  clear HT HAL hb2
  simp only
  go_wp2
  go_ret2
  exact ⟨rfl, FIN.out⟩
end Go.Proofs.YtggjeecpadnihaaGreatDoor
