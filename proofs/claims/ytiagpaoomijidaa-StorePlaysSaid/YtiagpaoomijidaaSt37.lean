import Derived.Test.YtiagpaoomijidaaSt36
import Derived.Laws.ResultCell
import Derived.Laws.Rows
namespace Go.Proofs.Ytiagpaoomijidaa
open Go.RowKit Go.Proofs
set_option linter.unusedVariables false
set_option linter.unusedSimpArgs false

theorem refNew_any (n : Int) (w : World) : Calls Try.prog 9 #[.int .i64 n] w fun e w' => e = .returned (.agg #[.int .i64 (max 1 (min n 64)).toNat, .slice none 0 0]) ∧ Below w.heap.size w w' := by
  have hc : ∀ k : Int, k = (max 1 (min n 64)).toNat → Ending.returned (.agg #[.int .i64 k, .slice none 0 0]) = .returned (.agg #[.int .i64 (max 1 (min n 64)).toNat, .slice none 0 0]) := fun k hk => by rw [hk]
  have HC := Lib.hid hc
  clear hc
  go_enter Try.func9, Try.ntmps9
  go_wp2
  all_goals
    refine bodyPost_ret (results_cell_row rfl _ _ w.heap.size 27 _ (0, 0) _ rfl (heap_alloc_new _ _) Try.underlying27 rfl (by kernel_rfl)) rfl ?_
    exact ⟨HC.out _ (by omega), (Below.refl _ _).alloc (Nat.le_refl _) _⟩

def RefFloor (l : List (Int × List UInt8)) (q : Int) (w w' : World) (e : Ending) : Prop :=
  Below w.heap.size w w' ∧ ((NoFloor l q ∧ e = .returned (.tuple #[.int .i64 0, .string ⟨#[]⟩, .bool false])) ∨
    ∃ (k : Nat) (x : Int × List UInt8), l[k]? = some x ∧ x.1 ≤ q ∧ (∀ t, k < t → t < l.length → q < posOf l t) ∧ e = .returned (.tuple #[.int .i64 x.1, strV x.2, .bool true]))

set_option maxRecDepth 100000 in
theorem refFloor_any (most : Nat) (l : List (Int × List UInt8)) (lv : Value) (q : Int) (w : World) (h : RefIn w lv l) (hl : l.length ≤ 1000) :
    Calls Try.prog 14 #[.agg #[.int .i64 most, lv], .int .i64 q] w fun e w' => RefFloor l q w w' e := by
  obtain ⟨so, c, rfl, hx⟩ := h
  have HX := Lib.hid hx
  clear hx
  go_enter Try.func14, Try.ntmps14
  go_wp2_with fail
  obtain ⟨W1, hW1⟩ : ∃ W1, W1 = w.alloc (.cells #[.int .i64 most, .slice so l.length c] 27) := ⟨_, rfl⟩
  have hb1 : Below w.heap.size w W1 := by rw [hW1]; exact (Below.refl _ _).alloc (Nat.le_refl _) _
  have hs1 : w.heap.size < W1.heap.size := by rw [hW1]; simp
  have x1 : W1.cell? ⟨w.heap.size, 1, none⟩ = some (.slice so l.length c) := by rw [hW1, cell_new]; rfl
  rw [← hW1]
  have HB1 := Lib.hid hb1
  clear hW1 hb1
  go_loopg [7] l.length (fun kx s7 wr => ∃ (j : Nat), s7 = .int .i64 ((j : Int) - 1) ∧ j ≤ l.length ∧ j ≤ kx ∧ Aside (∀ t, j ≤ t → t < l.length → q < posOf l t) ∧ Aside (Below W1.heap.size W1 wr))
  case atStart => exact ⟨l.length, rfl, Nat.le_refl _, Nat.le_refl _, (fun t h1 h2 => by omega : ∀ t, l.length ≤ t → t < l.length → q < posOf l t), Below.refl _ _⟩
  case round =>
    obtain ⟨j, rfl, hj, hg, I, hb⟩ := hrel
    have y1 := (hb.out.cell (p := ⟨w.heap.size, 1, none⟩) hs1).trans x1
    by_cases hj0 : j = 0
    · subst hj0
      have HI := Lib.hid I.out
      have HB := Lib.hid hb.out
      clear I hb
      go_wp2
      go_ret3
      exact ⟨HB1.out.trans (HB.out.mono (by omega)), .inl ⟨fun t ht => HI.out t (Nat.zero_le _) ht, rfl⟩⟩
    · obtain ⟨k, rfl⟩ : ∃ k, j = k + 1 := ⟨j - 1, by omega⟩
      have hlt : k < l.length := by omega
      obtain ⟨g, e1, e2, e3, e4⟩ := HX.out k l[k] (List.getElem?_eq_getElem hlt)
      subst e1
      have e5 : g < W1.heap.size := by omega
      have c1 := (hb.out.cell (p := ⟨g, k * 2, none⟩) e5).trans ((HB1.out.cell (p := ⟨g, k * 2, none⟩) e2).trans e3)
      have c2 := (hb.out.cell (p := ⟨g, k * 2 + 1, none⟩) e5).trans ((HB1.out.cell (p := ⟨g, k * 2 + 1, none⟩) e2).trans e4)
      have hk0 : (0 : Int) ≤ (k : Int) := by omega
      have hk1 : (k : Int) < (l.length : Int) := by omega
      have ek : (((k + 1 : Nat) : Int) - 1) = (k : Int) := by omega
      rw [ek]
      have HI := Lib.hid I.out
      have HB := Lib.hid hb.out
      have ep : Hid (posOf l k = l[k].1 ∧ l[k]? = some l[k]) := Lib.hid ⟨posOf_get hlt, List.getElem?_eq_getElem hlt⟩
      clear I hb x1 e3 e4 ek
      generalize l[k] = x at *
      obtain ⟨p, b⟩ := x
      unfold strV at c2
      simp only at c1 c2 ep
      by_cases hpq : p ≤ q
      · go_wp2_with fail
        go_quiet (fail)
        go_wp2
        go_ret3
        exact ⟨HB1.out.trans ((below_drewN HB.out).mono (by omega)), .inr ⟨k, (p, b), ep.out.2, hpq, fun t h1 h2 => HI.out t (by omega) h2, rfl⟩⟩
      · have hqp : q < p := by omega
        go_wp2_with fail
        go_roundg k
        case measure => omega
        case rel => exact ⟨k, by go_num, by omega, Nat.le_refl _, (fun t h1 h2 => by
          rcases Nat.lt_or_ge k t with h | h
          · exact HI.out t (by omega) h2
          · obtain rfl : t = k := by omega
            rw [ep.out.1]; exact hqp : ∀ t, k ≤ t → t < l.length → q < posOf l t), HB.out⟩

set_option maxRecDepth 100000 in
theorem refAll_any (most : Nat) (l : List (Int × List UInt8)) (lv : Value) (w : World) (h : RefIn w lv l) (hl : l.length ≤ 1000) :
    Calls Try.prog 17 #[.agg #[.int .i64 most, lv]] w fun e w' => AllPost l w w' e := by
  obtain ⟨i0, hi, hz0, hz1, hz2⟩ := info_parts info3
  obtain ⟨so, c, rfl, hx⟩ := h
  have HX := Lib.hid hx
  clear hx
  go_enter Try.func17, Try.ntmps17
  go_wp2_with fail
  obtain ⟨W1, hW1⟩ : ∃ W1, W1 = w.alloc (.cells #[.int .i64 most, .slice so l.length c] 27) := ⟨_, rfl⟩
  have hb1 : Below w.heap.size w W1 := by rw [hW1]; exact (Below.refl _ _).alloc (Nat.le_refl _) _
  have hs1 : w.heap.size < W1.heap.size := by rw [hW1]; simp
  have x1 : W1.cell? ⟨w.heap.size, 1, none⟩ = some (.slice so l.length c) := by rw [hW1, cell_new]; rfl
  rw [← hW1]
  have HB1 := Lib.hid hb1
  clear hW1 hb1
  go_loopg [3, 4] l.length (fun kx s3 s4 wr => ∃ (k : Nat) (v3 : Value), s4 = .int .i64 k ∧ v3 = s3 ∧ k ≤ l.length ∧ l.length - k ≤ kx ∧ Aside (IntsAt wr W1.heap.size v3 ((l.take k).map (·.1))) ∧ Aside (Below W1.heap.size W1 wr))
  case atStart => exact ⟨0, _, rfl, rfl, Nat.zero_le _, by omega, World.ownsRow_nil _ _ _ _, Below.refl _ _⟩
  case round =>
    obtain ⟨k, v3, rfl, rfl, hk, hg, hown, hb⟩ := hrel
    have y1 := (hb.out.cell (p := ⟨w.heap.size, 1, none⟩) hs1).trans x1
    by_cases hlt : k < l.length
    · obtain ⟨g, e1, e2, e3, e4⟩ := HX.out k l[k] (List.getElem?_eq_getElem hlt)
      subst e1
      have e5 : g < W1.heap.size := by omega
      have c1 := (hb.out.cell (p := ⟨g, k * 2, none⟩) e5).trans ((HB1.out.cell (p := ⟨g, k * 2, none⟩) e2).trans e3)
      have hk0 : (0 : Int) ≤ (k : Int) := by omega
      have hk1 : (k : Int) < (l.length : Int) := by omega
      have E2 : Hid ((l.take (k + 1)).map (·.1) = (l.take k).map (·.1) ++ [l[k].1]) := Lib.hid (by rw [take_succ_get (List.getElem?_eq_getElem hlt), List.map_append]; rfl)
      have hln : ((l.take k).map (·.1)).length = k := by simp; omega
      have HLN := Lib.hid hln
      have hown' : Aside (wr.ownsRow W1.heap.size 3 1 v3 k (((l.take k).map (·.1)).map intV)) := by
        have h := hown.out
        unfold IntsAt at h
        rw [hln] at h
        exact h
      generalize (l.take k).map (·.1) = L at *
      generalize l[k].1 = px at *
      have hwz := hb.out.size
      clear x1 e3 e4 hln hown
      go_wp2_with (at_builtin; refine wpList_append_own _ rfl _ _ 42 rfl W1.heap.size 3 i0 (.int .i64 0) 1 8 Try.underlying42 hi hz0 hz1 hz2 rfl (by decide) _ k _ rfl (hown'.out.alloc _) _ 1 1 [.int .i64 px] rfl rfl ?c1 ?c2 ?c3 ?c4 ?c5 ?_)
      case c1 => intro j u hj; match j, hj with | 0, hj => simp at hj; subst hj; rw [addr_add, cell_new]; rfl
      case c2 => intro u hu; simp at hu; subst hu; rfl
      case c3 => unfold maxLen; omega
      case c4 => omega
      case c5 => simp; omega
      intro v' w' hown2 hgrow _
      go_wp2
      go_roundg (l.length - (k + 1))
      case measure => omega
      case rel =>
        refine ⟨k + 1, v', by go_num, rfl, by omega, Nat.le_refl _, ?_, ?_⟩
        · show IntsAt w' W1.heap.size v' _
          unfold IntsAt
          rw [E2.out]
          have hl : (L ++ [px]).length = k + 1 := by have := HLN.out; simp; omega
          rw [hl, List.map_append]
          simpa [intV] using hown2
        · exact ((hb.out).alloc hwz _).grown hgrow (by simp; omega) (fun j hj => (hown'.out.lt j hj).1)
    · obtain rfl : k = l.length := by omega
      go_wp2
      go_ret
      have h := hown.out
      rw [List.take_length] at h
      exact ⟨v3, rfl, ownsRow_base h (by omega), HB1.out.trans (hb.out.mono (by omega))⟩
end Go.Proofs.Ytiagpaoomijidaa
