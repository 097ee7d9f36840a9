/- VmAdds: a number's digits, as the document writes them. -/
import Derived.Test.YtflblenelggblaaGreatDoorProg
import Derived.WalkKit
import Derived.IntWalk
import Derived.Lib.ItoaNum
import Derived.Lib.Hide
import Derived.Deep.QuietTactic
import Derived.Deep.RegionLaw
import Derived.Deep.RegionLawGrows
import Derived.BigQuiet
import Derived.Deep.LoopGhost
import Derived.Deep.Slices
import Derived.Laws.IdiomStrings
namespace Go.Proofs.YtflblenelggblaaGreatDoor
open Go.RowKit Go.Proofs Go.Deep
set_option linter.unusedVariables false
set_option linter.unusedSimpArgs false

theorem new_cell (W : World) (v : Value) (t : TypeId) : (W.alloc (.cells #[v] t)).cell? ⟨W.heap.size, 0, none⟩ = some v := by
  unfold World.cell? World.alloc
  simp only [Array.getElem?_push_size]
  rfl
/-- 'string([]byte{c})'. -/
theorem conv_at {w : World} {b : Nat} (n : Nat) (h : n < 10) (hc : w.cell? ⟨b, 0, none⟩ = some (.int .u8 (48 + (n : Int)))) : (convert 160 9 (.slice (some ⟨b, 0, none⟩) 1 1)).run Tryz.prog w = .ok (.string ⟨#[UInt8.ofNat (48 + n)]⟩) w := by
  have h := run_convert_bytes_back (P := Tryz.prog) w 160 9 5 ⟨b, 0, none⟩ 1 [UInt8.ofNat (48 + n)] Tryz.underlying160 Tryz.underlying5 Tryz.underlying9 (fun j hj => by
    have : j = 0 := by simp at hj; omega
    subst this
    have e : ((UInt8.ofNat (48 + n)).toNat : Int) = 48 + (n : Int) := by
      rw [UInt8.toNat_ofNat']; omega
    show w.cell? ⟨b, 0, none⟩ = some (.int .u8 ((UInt8.ofNat (48 + n)).toNat : Int))
    rw [e]; exact hc)
  exact h
theorem conv_one (n : Nat) (h : n < 10) (w : World) (t : TypeId) : (convert 160 9 (.slice (some ⟨w.heap.size, 0, none⟩) 1 1)).run Tryz.prog (w.alloc (.cells #[.int .u8 (48 + (n : Int))] t)) = .ok (.string ⟨#[UInt8.ofNat (48 + n)]⟩) (w.alloc (.cells #[.int .u8 (48 + (n : Int))] t)) :=
  conv_at n h (new_cell _ _ _)
theorem conv_drew (n : Nat) (h : n < 10) (w : World) (t : TypeId) : (convert 160 9 (.slice (some ⟨w.heap.size, 0, none⟩) 1 1)).run Tryz.prog (w.alloc (.cells #[.int .u8 (48 + (n : Int))] t)).drew = .ok (.string ⟨#[UInt8.ofNat (48 + n)]⟩) (w.alloc (.cells #[.int .u8 (48 + (n : Int))] t)).drew :=
  conv_at n h (new_cell w _ t)
theorem conv_below (n : Nat) (h : n < 10) {w w' : World} {t : TypeId} (hb : Below (w.alloc (.cells #[.int .u8 (48 + (n : Int))] t)).drew.heap.size (w.alloc (.cells #[.int .u8 (48 + (n : Int))] t)).drew w') : (convert 160 9 (.slice (some ⟨w.heap.size, 0, none⟩) 1 1)).run Tryz.prog w' = .ok (.string ⟨#[UInt8.ofNat (48 + n)]⟩) w' :=
  conv_at n h (by
    have e := hb.cell (p := ⟨w.heap.size, 0, none⟩) (by show w.heap.size < (w.heap.push _).size; rw [Array.size_push]; omega)
    rw [e]; exact new_cell _ _ _)

theorem str_push (l : List UInt8) (c : UInt8) : (⟨l.toArray⟩ : ByteArray) ++ ⟨#[c]⟩ = ⟨(l ++ [c]).toArray⟩ := by
  apply ByteArray.ext
  rw [ByteArray.data_append]
  simp
theorem str_cons (l : List UInt8) (c : UInt8) : (⟨#[c]⟩ : ByteArray) ++ ⟨l.toArray⟩ = ⟨(c :: l).toArray⟩ := by
  apply ByteArray.ext
  rw [ByteArray.data_append]
  simp
theorem below_drew {w w5 : World} (hb : Below w.drew.heap.size w.drew w5) : Below w.heap.size w w5 := ⟨hb.os, hb.tape, hb.output, hb.size, hb.block⟩
theorem below_new {w w5 : World} {o : Obj} (hb : Below (w.alloc o).drew.heap.size (w.alloc o).drew w5) : Below w.heap.size w w5 := by
  have hs : (w.alloc o).heap.size = w.heap.size + 1 := Array.size_push ..
  have h2 : (w.alloc o).heap.size ≤ w5.heap.size := hb.size
  refine ⟨hb.os, hb.tape, hb.output, by omega, fun k hk => ?_⟩
  have h3 := hb.block k (by show k < (w.alloc o).heap.size; omega)
  rw [h3]
  show (w.heap.push o)[k]? = _
  rw [Array.getElem?_push_lt hk, Array.getElem?_eq_getElem hk]
theorem dig_len (n : Nat) : (Lib.decDigits n).length ≤ n + 1 := by
  induction n using Nat.strongRecOn with
  | ind n ih =>
  rw [Lib.decDigits]
  by_cases h : n < 10
  · rw [dif_pos h]; simp
  · rw [dif_neg h]
    have := ih (n / 10) (by omega)
    simp only [List.length_append, List.length_cons, List.length_nil]
    omega

set_option maxRecDepth 100000 in
set_option maxHeartbeats 1000000 in
theorem lexDigits_any (n : Nat) (hn : n ≤ 9223372036854775807) : ∀ (w : World), Calls Tryz.prog 40 #[.int .i64 n] w fun e w' => e = .returned (.string ⟨(Lib.decDigits n).toArray⟩) ∧ Below w.heap.size w w' := by
  induction n using Nat.strongRecOn with
  | ind n ih =>
  intro w
  by_cases h : n < 10
  · have hi : (n : Int) < 10 := by omega
    have hc := conv_one n h w 5
    rw [Lib.decDigits_one h]
    generalize UInt8.ofNat (48 + n) = ch at *
    clear ih
    have HN := Lib.hid hn
    clear hn
    go_enter Tryz.func40, Tryz.ntmps40
    go_wp2
    go_ret
    refine ⟨rfl, ?_⟩
    exact (Below.refl _ _).alloc (Nat.le_refl _) _
  · have hi : ¬ (n : Int) < 10 := by omega
    have I := Lib.hid (ih (n / 10) (by omega) (by omega))
    have hq : Int.tdiv (n : Int) 10 = ((n / 10 : Nat) : Int) := by rw [Int.tdiv_eq_ediv_of_nonneg (by omega)]; omega
    have hr : Int.tmod (n : Int) 10 = ((n % 10 : Nat) : Int) := by rw [Int.tmod_eq_emod_of_nonneg (by omega)]; omega
    have ed : Lib.decDigits n = Lib.decDigits (n / 10) ++ [UInt8.ofNat (48 + n % 10)] := by rw [Lib.decDigits, dif_neg h]
    rw [ed]
    have hw : IntKind.i64.wrap ((n / 10 : Nat) : Int) = ((n / 10 : Nat) : Int) := IntWalk.i64_in _ (by omega)
    generalize hd : n % 10 = d at *
    generalize he : n / 10 = m at *
    have hlen : ¬ 9223372036854775807 < (Lib.decDigits m).length + 1 := by have := dig_len m; omega
    have hd10 : d < 10 := by omega
    have hc := conv_one d hd10
    have hcd := conv_drew d hd10
    have hcb := fun (w w' : World) (t : TypeId) (hb : Below (w.alloc (.cells #[.int .u8 (48 + (d : Int))] t)).drew.heap.size (w.alloc (.cells #[.int .u8 (48 + (d : Int))] t)).drew w') => conv_below d hd10 hb
    have HB := Lib.hid hcb
    clear hcb
    have hw2 : IntKind.i64.wrap (48 + (d : Int)) = 48 + (d : Int) := IntWalk.i64_in _ (by omega)
    have hw3 : IntKind.u8.wrap (48 + (d : Int)) = 48 + (d : Int) := by show (48 + (d : Int)) % 256 = _; omega
    generalize UInt8.ofNat (48 + d) = ch at *
    clear ih
    have HN := Lib.hid hn
    clear hn
    go_enter Tryz.func40, Tryz.ntmps40
    go_wp2
    go_region_law (first | (go_simp; go_at_call 40; refine (I.out _).mono ?_; rintro e w5 ⟨rfl, hb5⟩; try have hcv5 := HB.out _ _ _ hb5))
    all_goals
      go_simp
      go_wp2
      go_ret
      refine ⟨?_, ?_⟩
      · exact congrArg (fun x => Ending.returned (Value.string x)) (str_push _ _)
      · first
          | exact (below_drew hb5).alloc (below_drew hb5).size _
          | exact below_new hb5

theorem itoa_least : Lib.itoa (-9223372036854775808) = [45, 57, 50, 50, 51, 51, 55, 50, 48, 51, 54, 56, 53, 52, 55, 55, 53, 56, 48, 56] := by
  have e : Lib.decDigits 9223372036854775808 = [57, 50, 50, 51, 51, 55, 50, 48, 51, 54, 56, 53, 52, 55, 55, 53, 56, 48, 56] := by
    rw [Lib.decDigits_eq, Lib.nDigits_unique 18 _ (by decide) (by decide)]
    decide +kernel
  unfold Lib.itoa
  rw [if_pos (by decide)]
  exact congrArg (45 :: ·) e
theorem dig_len19 (n : Nat) (h : n ≤ 9223372036854775807) : (Lib.decDigits n).length ≤ 20 := by
  have key : ∀ (k n : Nat), n < 10 ^ (k + 1) → (Lib.decDigits n).length ≤ k + 1 := by
    intro k
    induction k with
    | zero =>
      intro n hn
      rw [Lib.decDigits, dif_pos (by simpa using hn)]; simp
    | succ k ih =>
      intro n hn
      rw [Lib.decDigits]
      by_cases h : n < 10
      · rw [dif_pos h]; simp
      · rw [dif_neg h]
        have hp : 10 ^ (k + 1 + 1) = 10 ^ (k + 1) * 10 := Nat.pow_succ ..
        have := ih (n / 10) (by rw [hp] at hn; omega)
        simp only [List.length_append, List.length_cons, List.length_nil]
        omega
  exact key 19 n (Nat.lt_of_le_of_lt h (by decide))

/-- The text of a number: hindcastref06's and hindcastref09's Digits. -/
theorem refDigits_any (n : Int) (h1 : -9223372036854775808 ≤ n) (h2 : n ≤ 9223372036854775807) (w : World) : Calls Tryz.prog 24 #[.int .i64 n] w fun e w' => e = .returned (.string ⟨(Lib.itoa n).toArray⟩) ∧ Below w.heap.size w w' := by
  by_cases hn : n < 0
  · by_cases hm : n = -9223372036854775808
    · subst hm
      rw [itoa_least]
      go_enter Tryz.func24, Tryz.ntmps24
      go_wp2
      go_ret
      exact ⟨rfl, Below.refl _ _⟩
    · obtain ⟨m, rfl⟩ : ∃ m : Nat, n = -(m : Int) := ⟨n.natAbs, by omega⟩
      have I := Lib.hid (lexDigits_any m (by omega) w)
      have hw : IntKind.i64.wrap (m : Int) = (m : Int) := IntWalk.i64_in _ (by omega)
      have hmm : ¬ (-(m : Int)) = -9223372036854775808 := hm
      have hi : Lib.itoa (-(m : Int)) = 45 :: Lib.decDigits m := by unfold Lib.itoa; rw [if_pos hn]; simp
      have hlen : ¬ 9223372036854775807 < 1 + (Lib.decDigits m).length := by have := dig_len19 m (by omega); omega
      rw [hi]
      have H := Lib.hid (And.intro h1 h2)
      clear h1 h2
      go_enter Tryz.func24, Tryz.ntmps24
      go_wp2_with (go_at_call 40; refine I.out.mono ?_; rintro e w5 ⟨rfl, hb5⟩)
      go_ret
      exact ⟨congrArg (fun x => Ending.returned (Value.string x)) (str_cons _ _), hb5⟩
  · obtain ⟨m, rfl⟩ : ∃ m : Nat, n = (m : Int) := ⟨n.toNat, by omega⟩
    have I := Lib.hid (lexDigits_any m (by omega) w)
    have hi : Lib.itoa (m : Int) = Lib.decDigits m := by unfold Lib.itoa; rw [if_neg hn]; simp
    rw [hi]
    have H := Lib.hid (And.intro h1 h2)
    clear h1 h2
    go_enter Tryz.func24, Tryz.ntmps24
    go_wp2_with (go_at_call 40; refine I.out.mono ?_; rintro e w5 ⟨rfl, hb5⟩)
    go_ret
    exact ⟨rfl, hb5⟩
theorem digits_any (n : Int) (h1 : -9223372036854775808 ≤ n) (h2 : n ≤ 9223372036854775807) (w : World) : Calls Tryz.prog 16 #[.int .i64 n] w fun e w' => e = .returned (.string ⟨(Lib.itoa n).toArray⟩) ∧ Below w.heap.size w w' := by
  have I := Lib.hid (refDigits_any n h1 h2 w)
  clear h1 h2
  go_enter Tryz.func16, Tryz.ntmps16
  go_wp2_with (go_at_call 24; refine I.out.mono ?_; rintro e w5 ⟨rfl, hb5⟩)
  go_ret
  exact ⟨rfl, hb5⟩
end Go.Proofs.YtflblenelggblaaGreatDoor
