import Derived.Test.YtiagpaoomijidaaSt21
import Derived.Laws.IdiomStrings
namespace Go.Proofs.Ytiagpaoomijidaa
open Go.RowKit Go.Proofs
set_option linter.unusedVariables false

/-- The loop's state: the first store, behind so many Puts. -/
structure LoopAt (W0 wr : World) (N k : Nat) : Prop where
  store : StoreAt wr W0.heap.size N 3 (st k)
  keeps : BelowX N W0.heap.size W0 wr

theorem loop_put0 {W0 wr : World} {N : Nat} (h : LoopAt W0 wr N 0) :
    Calls Try.prog 12 #[.pointer (some ⟨N, 0, none⟩), .int .i64 0, .slice (some ⟨wr.heap.size, 0, none⟩) 1 1] (wr.alloc (.cells #[.int .u8 0] 5)) fun e w' => e = .returned (.int .i64 0) ∧ LoopAt W0 w' N 1 :=
  (put_at 0 N _ 3 (st 0) (st 1) _ _ [0] _ (h.store.below ((Below.refl _ _).alloc (Nat.le_refl _) (.cells #[.int .u8 0] 5))) (place_last (by decide)) st_put1 (by decide) (by decide) (by decide) (by decide) (by unfold Ranged; decide) (by decide) (bytes_lit (w := wr) 0 5) (by decide)
    (Nat.le_trans h.keeps.size ((Below.refl wr.heap.size wr).alloc (Nat.le_refl _) (.cells #[.int .u8 0] 5)).size)).mono fun _ _ h' => ⟨h'.1, h'.2.2, (h.keeps.trans (BelowX.full ((Below.refl wr.heap.size wr).alloc (Nat.le_refl _) _))).trans h'.2.1⟩
theorem loop_put1 {W0 wr : World} {N : Nat} (h : LoopAt W0 wr N 1) :
    Calls Try.prog 12 #[.pointer (some ⟨N, 0, none⟩), .int .i64 10, .slice (some ⟨wr.heap.size, 0, none⟩) 1 1] (wr.alloc (.cells #[.int .u8 10] 5)) fun e w' => e = .returned (.int .i64 0) ∧ LoopAt W0 w' N 2 :=
  (put_at 1 N _ 3 (st 1) (st 2) _ _ [10] _ (h.store.below ((Below.refl _ _).alloc (Nat.le_refl _) (.cells #[.int .u8 10] 5))) (place_last (by decide)) st_put2 (by decide) (by decide) (by decide) (by decide) (by unfold Ranged; decide) (by decide) (bytes_lit (w := wr) 10 5) (by decide)
    (Nat.le_trans h.keeps.size ((Below.refl wr.heap.size wr).alloc (Nat.le_refl _) (.cells #[.int .u8 10] 5)).size)).mono fun _ _ h' => ⟨h'.1, h'.2.2, (h.keeps.trans (BelowX.full ((Below.refl wr.heap.size wr).alloc (Nat.le_refl _) _))).trans h'.2.1⟩
theorem loop_put2 {W0 wr : World} {N : Nat} (h : LoopAt W0 wr N 2) :
    Calls Try.prog 12 #[.pointer (some ⟨N, 0, none⟩), .int .i64 20, .slice (some ⟨wr.heap.size, 0, none⟩) 1 1] (wr.alloc (.cells #[.int .u8 20] 5)) fun e w' => e = .returned (.int .i64 0) ∧ LoopAt W0 w' N 3 :=
  (put_at 2 N _ 3 (st 2) (st 3) _ _ [20] _ (h.store.below ((Below.refl _ _).alloc (Nat.le_refl _) (.cells #[.int .u8 20] 5))) (place_last (by decide)) st_put3 (by decide) (by decide) (by decide) (by decide) (by unfold Ranged; decide) (by decide) (bytes_lit (w := wr) 20 5) (by decide)
    (Nat.le_trans h.keeps.size ((Below.refl wr.heap.size wr).alloc (Nat.le_refl _) (.cells #[.int .u8 20] 5)).size)).mono fun _ _ h' => ⟨h'.1, h'.2.2, (h.keeps.trans (BelowX.full ((Below.refl wr.heap.size wr).alloc (Nat.le_refl _) _))).trans h'.2.1⟩
theorem loop_put3 {W0 wr : World} {N : Nat} (h : LoopAt W0 wr N 3) :
    Calls Try.prog 12 #[.pointer (some ⟨N, 0, none⟩), .int .i64 30, .slice (some ⟨wr.heap.size, 0, none⟩) 1 1] (wr.alloc (.cells #[.int .u8 30] 5)) fun e w' => e = .returned (.int .i64 0) ∧ LoopAt W0 w' N 4 :=
  (put_at 3 N _ 3 (st 3) (st 4) _ _ [30] _ (h.store.below ((Below.refl _ _).alloc (Nat.le_refl _) (.cells #[.int .u8 30] 5))) (place_last (by decide)) st_put4 (by decide) (by decide) (by decide) (by decide) (by unfold Ranged; decide) (by decide) (bytes_lit (w := wr) 30 5) (by decide)
    (Nat.le_trans h.keeps.size ((Below.refl wr.heap.size wr).alloc (Nat.le_refl _) (.cells #[.int .u8 30] 5)).size)).mono fun _ _ h' => ⟨h'.1, h'.2.2, (h.keeps.trans (BelowX.full ((Below.refl wr.heap.size wr).alloc (Nat.le_refl _) _))).trans h'.2.1⟩

theorem fresh3 (w : World) : Calls Try.prog 8 #[.int .i64 3] w fun e w' => e = .returned (.pointer (some ⟨w.heap.size, 0, none⟩)) ∧ w'.heap[w.heap.size]? = some (.cells #[.int .i64 (3 : Nat), .slice none 0 0] 51 (0, 0)) ∧ Below w.heap.size w w' := new_fresh 3 w
theorem fresh1 (w : World) : Calls Try.prog 8 #[.int .i64 1] w fun e w' => e = .returned (.pointer (some ⟨w.heap.size, 0, none⟩)) ∧ w'.heap[w.heap.size]? = some (.cells #[.int .i64 (1 : Nat), .slice none 0 0] 51 (0, 0)) ∧ Below w.heap.size w w' := new_fresh 1 w
theorem arr_cell {W0 wr : World} {N A k i : Nat} {v : Value} (h : LoopAt W0 wr N k) (hA : W0.cell? ⟨A, i, none⟩ = some v) (hne : A ≠ N) : wr.cell? ⟨A, i, none⟩ = some v := by
  rw [← hA]
  exact World.cell?_of_block (h.keeps.block A (World.block_lt_of_cell? W0 _ hA) hne (.inl (World.block_lt_of_cell? W0 _ hA)))

abbrev l6 : List (Int × List UInt8) := [(0, [0]), (20, [20]), (25, [])]
theorem floor24 {w w' : World} {e : Ending} (h : FloorPost l6 24 w w' e) : ∃ v', e = .returned (.tuple #[.int .i64 20, v', .bool true]) ∧ BytesAt w' w.heap.size v' [20] ∧ Below w.heap.size w w' := by
  obtain ⟨hb, ⟨hn, _⟩ | ⟨k, x, v', hx, hle, hgt, rfl, hv⟩⟩ := h
  · have := hn 0 (by decide); exact absurd this (by decide)
  · match k, hx with
    | 0, hx => have := hgt 1 (by decide) (by decide); exact absurd this (by decide)
    | 1, hx => cases hx; exact ⟨v', rfl, hv, hb⟩
    | 2, hx => cases hx; exact absurd hle (by decide)
    | k + 3, hx => simp at hx
theorem ints_keepX {w w' : World} {base sb B : Nat} {v : Value} {l : List Int} (h : IntsAt w base v l) (hb : BelowX sb B w w') (hs : ∃ c, w.heap[sb]? = some (.cells c 51 (0, 0))) : IntsAt w' base v l := by
  refine ⟨h.1, ?_⟩
  rcases h.2 with h2 | ⟨g, cap, cur, h1, h2, h3, h4⟩
  · exact .inl h2
  · refine .inr ⟨g, cap, cur, h1, h2, ?_, h4⟩
    rw [hb.block g (Array.getElem?_eq_some_iff.1 h3).1 (fun e => by subst e; obtain ⟨c, hc⟩ := hs; rw [hc] at h3; cases h3) (.inr fun c fr hc => by rw [hc] at h3; cases h3)]
    exact h3
theorem bytes_keepX {w w' : World} {base sb B : Nat} {v : Value} {l : List UInt8} (h : BytesAt w base v l) (hb : BelowX sb B w w') (hs : ∃ c, w.heap[sb]? = some (.cells c 51 (0, 0))) : BytesAt w' base v l := by
  refine ⟨h.1, ?_⟩
  rcases h.2 with h2 | ⟨g, cap, cur, h1, h2, h3, h4⟩
  · exact .inl h2
  · refine .inr ⟨g, cap, cur, h1, h2, ?_, h4⟩
    rw [hb.block g (Array.getElem?_eq_some_iff.1 h3).1 (fun e => by subst e; obtain ⟨c, hc⟩ := hs; rw [hc] at h3; cases h3) (.inr fun c fr hc => by rw [hc] at h3; cases h3)]
    exact h3
theorem bytes_keep {w w' : World} {base : Nat} {v : Value} {b : List UInt8} (h : BytesAt w base v b) (hb : Below w.heap.size w w') : BytesAt w' base v b := ownsRow_below h hb
theorem conv20 {w : World} {B g c : Nat} (h : BytesAt w B (.slice (some ⟨g, 0, none⟩) 1 c) [20]) : (convert 36 9 (.slice (some ⟨g, 0, none⟩) 1 c)).run Try.prog w = .ok (.string ⟨#[20]⟩) w :=
  run_convert_bytes_back w 36 9 5 ⟨g, 0, none⟩ c [20] Try.underlying36 Try.underlying5 Try.underlying9 (fun j hj => by
    have : j = 0 := by simp at hj; omega
    subst this
    exact World.ownsRow.cells h rfl 0 _ rfl)
theorem ints_below {w w' : World} {base : Nat} {v : Value} {l : List Int} (h : IntsAt w base v l) (hb : Below w.heap.size w w') : IntsAt w' base v l := ownsRow_below h hb
theorem store_cells51 {w : World} {base sb most : Nat} {l : List (Int × List UInt8)} (h : StoreAt w base sb most l) : ∃ c, w.heap[sb]? = some (.cells c 51 (0, 0)) := by
  obtain ⟨sv, it, h1, _⟩ := h
  exact ⟨_, h1⟩

theorem BelowX.under {sb B C : Nat} {w w' : World} (h : BelowX sb B w w') (h1 : C ≤ B) (h2 : C ≤ sb) (h3 : C ≤ w.heap.size) : Below C w w' := ⟨h.os, h.tape, h.output, h.size, fun k hk => h.block k (by omega) (by omega) (.inl (by omega))⟩
theorem put25 {w5 : World} {B N : Nat} (S : StoreAt w5 B N 3 (st 4)) (hB : B ≤ w5.heap.size) : Calls Try.prog 12 #[.pointer (some ⟨N, 0, none⟩), .int .i64 25, .slice none 0 0] w5 fun e w' => e = .returned (.int .i64 0) ∧ BelowX N B w5 w' ∧ StoreAt w' B N 3 l6 :=
  put_at 2 N B 3 (st 4) l6 25 _ [] _ S ⟨by decide, fun t ht => by
    match t, ht with
    | 0, _ => decide
    | 1, _ => decide, fun t h1 h2 => by
    have : t = 2 := by have : (st 4).length = 3 := rfl; omega
    subst this; decide⟩ st_put5 (by decide) (by decide) (by decide) (by decide) (by unfold Ranged; decide) (by decide) (.inl ⟨rfl, rfl⟩) (by decide) hB
theorem putx5 {w5 : World} {B N : Nat} (S : StoreAt w5 B N 1 []) (hB : B ≤ w5.heap.size) : Calls Try.prog 12 #[.pointer (some ⟨N, 0, none⟩), .int .i64 5, .slice none 0 0] w5 fun e w' => e = .returned (.int .i64 0) ∧ BelowX N B w5 w' ∧ StoreAt w' B N 1 [(5, [])] :=
  put_at 0 N B 1 [] [(5, [])] 5 _ [] _ S (place_last (by decide)) x_put1 (by decide) (by decide) (by decide) (by decide) (by unfold Ranged; decide) (by decide) (.inl ⟨rfl, rfl⟩) (by decide) hB
theorem putx7 {w5 : World} {B N : Nat} (S : StoreAt w5 B N 1 [(5, [])]) (hB : B ≤ w5.heap.size) : Calls Try.prog 12 #[.pointer (some ⟨N, 0, none⟩), .int .i64 7, .slice none 0 0] w5 fun e w' => e = .returned (.int .i64 0) ∧ BelowX N B w5 w' ∧ StoreAt w' B N 1 [(5, [])] :=
  put_at 1 N B 1 [(5, [])] [(5, [])] 7 _ [] _ S (place_last (by decide)) x_put2 (by decide) (by decide) (by decide) (by decide) (by unfold Ranged; decide) (by decide) (.inl ⟨rfl, rfl⟩) (by decide) hB
theorem putx3 {w5 : World} {B N : Nat} (S : StoreAt w5 B N 1 [(5, [])]) (hB : B ≤ w5.heap.size) : Calls Try.prog 12 #[.pointer (some ⟨N, 0, none⟩), .int .i64 3, .slice none 0 0] w5 fun e w' => e = .returned (.int .i64 0) ∧ BelowX N B w5 w' ∧ StoreAt w' B N 1 [(3, [])] :=
  put_at 0 N B 1 [(5, [])] [(3, [])] 3 _ [] _ S ⟨by decide, fun t ht => by omega, fun t h1 h2 => by
    have : t = 0 := by have : ([(5, [])] : List (Int × List UInt8)).length = 1 := rfl; omega
    subst this; decide⟩ x_put3 (by decide) (by decide) (by decide) (by decide) (by unfold Ranged; decide) (by decide) (.inl ⟨rfl, rfl⟩) (by decide) hB
theorem all_of {w : World} {B N most : Nat} {l : List (Int × List UInt8)} (S : StoreAt w B N most l) (hm : 0 < most) (hl : l.length ≤ 1000) : Calls Try.prog 16 #[.pointer (some ⟨N, 0, none⟩)] w fun e w' => ∃ v, e = .returned v ∧ IntsAt w' w.heap.size v (l.map (·.1)) ∧ Below w.heap.size w w' := all_any N B most l w S hm hl
theorem floor_of {w : World} {B N : Nat} (S : StoreAt w B N 3 l6) : Calls Try.prog 13 #[.pointer (some ⟨N, 0, none⟩), .int .i64 24] w fun e w' => ∃ c g, e = .returned (.tuple #[.int .i64 20, .slice (some ⟨g, 0, none⟩) 1 c, .bool true]) ∧ w'.cell? ⟨g, 0, none⟩ = some (.int .u8 20) ∧ BytesAt w' w.heap.size (.slice (some ⟨g, 0, none⟩) 1 c) [20] ∧ Below w.heap.size w w' := by
  refine (floor_any N B 3 l6 24 w S (by decide) (rising_of (by decide)) (by decide) (by decide)).mono fun e w' h => ?_
  obtain ⟨v', rfl, hv, hb⟩ := floor24 h
  obtain ⟨g, c, rfl⟩ := own_form hv (by decide)
  exact ⟨c, g, rfl, World.ownsRow.cells hv rfl 0 _ rfl, hv, hb⟩

theorem same3 {w : World} {B : Nat} {va : Value} {a b c : Int} (h : IntsAt w B va [a, b, c]) : Calls Try.prog 15 #[va, .slice (some ⟨w.heap.size, 0, none⟩) 3 3] (w.alloc (.cells #[.int .i64 a, .int .i64 b, .int .i64 c] 3)) fun e w' => e = .returned (.bool true) ∧ Below w.heap.size w w' := by
  refine (same_any va _ [a, b, c] [a, b, c] _ (h.isIn.below ((Below.refl _ _).alloc (Nat.le_refl _) _)) (ints_lit [a, b, c] 3 3 rfl) (by simp)).mono fun e w' h' => ?_
  exact ⟨by rw [h'.1, decide_eq_true rfl], ((Below.refl _ _).alloc (Nat.le_refl _) _).trans (h'.2.mono (by show w.heap.size ≤ (w.heap.push _).size; simp))⟩
theorem same1 {w : World} {B : Nat} {va : Value} {a : Int} (h : IntsAt w B va [a]) : Calls Try.prog 15 #[va, .slice (some ⟨w.heap.size, 0, none⟩) 1 1] (w.alloc (.cells #[.int .i64 a] 3)) fun e w' => e = .returned (.bool true) ∧ Below w.heap.size w w' := by
  refine (same_any va _ [a] [a] _ (h.isIn.below ((Below.refl _ _).alloc (Nat.le_refl _) _)) (ints_lit [a] 3 1 rfl) (by simp)).mono fun e w' h' => ?_
  exact ⟨by rw [h'.1, decide_eq_true rfl], ((Below.refl _ _).alloc (Nat.le_refl _) _).trans (h'.2.mono (by show w.heap.size ≤ (w.heap.push _).size; simp))⟩
theorem all_l6 {w : World} {B N : Nat} (S : StoreAt w B N 3 l6) : Calls Try.prog 16 #[.pointer (some ⟨N, 0, none⟩)] w fun e w' => ∃ v, e = .returned v ∧ IntsAt w' w.heap.size v [0, 20, 25] ∧ Below w.heap.size w w' := all_any N B 3 l6 w S (by decide) (by decide)
theorem all_x3 {w : World} {B N : Nat} (S : StoreAt w B N 1 [(3, [])]) : Calls Try.prog 16 #[.pointer (some ⟨N, 0, none⟩)] w fun e w' => ∃ v, e = .returned v ∧ IntsAt w' w.heap.size v [3] ∧ Below w.heap.size w w' := all_any N B 1 [(3, [])] w S (by decide) (by decide)
theorem bytes_cell {w : World} {B g c : Nat} (h : BytesAt w B (.slice (some ⟨g, 0, none⟩) 1 c) [20]) : w.cell? ⟨g, 0, none⟩ = some (.int .u8 20) := World.ownsRow.cells h rfl 0 _ rfl

set_option maxRecDepth 100000 in
set_option maxHeartbeats 2000000 in
theorem lives_any (w : World) : Calls Try.prog 10 #[] w fun e w' => e = .returned (.bool true) ∧ Below w.heap.size w w' := by
  go_enter Try.func10, Try.ntmps10
  go_wp2_with (first
    | (go_at_call 8; refine (fresh3 _).mono ?_; rintro e w1 ⟨rfl, hst1, hb1⟩)
    | (go_at_call 8; refine (fresh1 _).mono ?_; rintro e w2 ⟨rfl, hst2, hb2⟩))
  obtain ⟨N, hN⟩ : ∃ N, N = w.heap.size := ⟨_, rfl⟩
  obtain ⟨M, hM⟩ : ∃ M, M = w1.heap.size := ⟨_, rfl⟩
  obtain ⟨A, hA⟩ : ∃ A, A = w2.heap.size := ⟨_, rfl⟩
  obtain ⟨W0, hW0⟩ : ∃ W0, W0 = w2.alloc (.cells #[.int .i64 0, .int .i64 10, .int .i64 20, .int .i64 30] 3) := ⟨_, rfl⟩
  have hNM : N < M := by have := (Array.getElem?_eq_some_iff.1 hst1).1; omega
  have hMA : M < A := by have := (Array.getElem?_eq_some_iff.1 hst2).1; omega
  have a0 : W0.cell? ⟨A, 0, none⟩ = some (.int .i64 0) := by rw [hW0, hA, cell_new]; rfl
  have a1 : W0.cell? ⟨A, 1, none⟩ = some (.int .i64 10) := by rw [hW0, hA, cell_new]; rfl
  have a2 : W0.cell? ⟨A, 2, none⟩ = some (.int .i64 20) := by rw [hW0, hA, cell_new]; rfl
  have a3 : W0.cell? ⟨A, 3, none⟩ = some (.int .i64 30) := by rw [hW0, hA, cell_new]; rfl
  have hb3 : Below w2.heap.size w2 W0 := by rw [hW0]; exact (Below.refl _ _).alloc (Nat.le_refl _) _
  have hs0 : W0.heap[N]? = some (.cells #[.int .i64 (3 : Nat), .slice none 0 0] 51 (0, 0)) := by rw [hb3.block N (by omega), hb2.block N (by omega), hN]; exact hst1
  have hx0 : W0.heap[M]? = some (.cells #[.int .i64 (1 : Nat), .slice none 0 0] 51 (0, 0)) := by rw [hb3.block M (by omega), hM]; exact hst2
  have hB0 : Below N w W0 := (hb1.mono (by omega)).trans ((hb2.mono (by omega)).trans (hb3.mono (by omega)))
  have HX0 := Lib.hid hx0
  have HNw := Lib.hid hN
  have HB0 := Lib.hid hB0
  have L0 : LoopAt W0 W0 N 0 := ⟨store_empty hs0, (BelowX.full (Below.refl _ _))⟩
  rw [← hW0, ← hN, ← hM, ← hA]
  clear hst1 hb1 hst2 hb2 hW0 hb3 hs0 hx0 hB0 hN hM hA
  go_loopg [21] 4 (fun kx s21 wr => ∃ k : Nat, s21 = .int .i64 k ∧ k ≤ 4 ∧ 4 - k ≤ kx ∧ Aside (LoopAt W0 wr N k))
  case atStart => exact ⟨0, rfl, by omega, by omega, L0⟩
  case round =>
    obtain ⟨k, rfl, hk, hg, L⟩ := hrel
    by_cases hk4 : k < 4
    · obtain rfl | rfl | rfl | rfl : k = 0 ∨ k = 1 ∨ k = 2 ∨ k = 3 := by omega
      · have c := arr_cell L.out a0 (by omega)
        go_wp2_with (go_at_call 12; refine (loop_put0 L.out).mono ?_; rintro e w5 ⟨rfl, L5⟩)
        go_roundg 3
        case measure => omega
        case rel => exact ⟨1, by go_num, by omega, by omega, L5⟩
      · have c := arr_cell L.out a1 (by omega)
        go_wp2_with (go_at_call 12; refine (loop_put1 L.out).mono ?_; rintro e w5 ⟨rfl, L5⟩)
        go_roundg 2
        case measure => omega
        case rel => exact ⟨2, by go_num, by omega, by omega, L5⟩
      · have c := arr_cell L.out a2 (by omega)
        go_wp2_with (go_at_call 12; refine (loop_put2 L.out).mono ?_; rintro e w5 ⟨rfl, L5⟩)
        go_roundg 1
        case measure => omega
        case rel => exact ⟨3, by go_num, by omega, by omega, L5⟩
      · have c := arr_cell L.out a3 (by omega)
        go_wp2_with (go_at_call 12; refine (loop_put3 L.out).mono ?_; rintro e w5 ⟨rfl, L5⟩)
        go_roundg 0
        case measure => omega
        case rel => exact ⟨4, by go_num, by omega, by omega, L5⟩
    · obtain rfl : k = 4 := by omega
      have hX : wr.heap[M]? = some (.cells #[.int .i64 (1 : Nat), .slice none 0 0] 51 (0, 0)) := (L.out.keeps.block M (Array.getElem?_eq_some_iff.1 HX0.out).1 (by omega) (.inl (Array.getElem?_eq_some_iff.1 HX0.out).1)).trans HX0.out
      have HX := Lib.hid hX
      have S4 : Hid (StoreAt wr W0.heap.size N 3 (st 4)) := Lib.hid L.out.store
      have HNB : Hid (∀ {W : World}, Below wr.heap.size wr W → W0.heap.size ≤ W.heap.size) := Lib.hid fun h => Nat.le_trans L.out.keeps.size h.size
      have HN : Hid (Below N w wr) := Lib.hid (HB0.out.trans (L.out.keeps.under (by have := (Array.getElem?_eq_some_iff.1 HX0.out).1; omega) (Nat.le_refl _) (by have := (Array.getElem?_eq_some_iff.1 HX0.out).1; omega)))
      have HMW : Hid (M < W0.heap.size) := Lib.hid (Array.getElem?_eq_some_iff.1 HX0.out).1
      clear hX HX0 HB0 L a0 a1 a2 a3
      go_wp2_with (first
        | (go_at_call 16; with_reducible refine (all_of S4.out (by decide) (by decide)).mono ?_; rintro e w5 ⟨va, rfl, hia, hb5⟩)
        | (go_at_call 12; with_reducible refine (put25 (S4.out.below hb5) (HNB.out hb5)).mono ?_; rintro e w6 ⟨rfl, hx6, S6⟩)
        | (go_at_call 13; with_reducible refine (floor_of S6).mono ?_; rintro e w7 ⟨c7, g7, rfl, k7, hv7, hb7⟩))
      have hXr : M < wr.heap.size := (Array.getElem?_eq_some_iff.1 HX.out).1
      have hX7 : w7.heap[M]? = some (.cells #[.int .i64 (1 : Nat), .slice none 0 0] 51 (0, 0)) := by
        have h5 := (hb5.block M hXr).trans HX.out
        have h6 := (hx6.block M (Nat.lt_of_lt_of_le hXr hb5.size) (by omega) (.inl HMW.out)).trans h5
        exact (hb7.block M (Array.getElem?_eq_some_iff.1 h6).1).trans h6
      have HX7 := Lib.hid hX7
      have X7 : StoreAt w7 w7.heap.size M 1 [] := store_empty hX7
      have S7 := Lib.hid (S6.below hb7)
      have VA7 := Lib.hid (ints_below (ints_keepX hia hx6 (store_cells51 (S4.out.below hb5))) hb7)
      have HV7 := Lib.hid hv7
      have HN7 : Hid (Below N w w7) := Lib.hid ((HN.out.trans (hb5.mono (by omega))).trans ((hx6.under (by have := HMW.out; omega) (Nat.le_refl _) (by have := hb5.size; omega)).trans (hb7.mono (by have := hx6.size; have := hb5.size; omega))))
      have hN7 : N < w7.heap.size := by have := hb7.size; have := hx6.size; have := hb5.size; omega
      clear hX7 hia hx6 hb5 hb7 hv7 S6 HN HX HNB S4 hXr k7
      go_wp2_with (first
        | (go_at_call 12; with_reducible refine (putx5 X7 (Nat.le_refl _)).mono ?_; rintro e w8 ⟨rfl, hx8, X8⟩)
        | (go_at_call 12; with_reducible refine (putx7 X8 hx8.size).mono ?_; rintro e w9 ⟨rfl, hx9, X9⟩)
        | (go_at_call 16; with_reducible refine (all_of X9 (by decide) (by decide)).mono ?_; rintro e w10 ⟨vc, rfl, hic, hb10⟩)
        | (go_at_call 12; with_reducible refine (putx3 (X9.below hb10) (Nat.le_trans hx8.size (Nat.le_trans hx9.size hb10.size))).mono ?_; rintro e w11 ⟨rfl, hx11, X11⟩))
      have BX : BelowX M w7.heap.size w7 w11 := hx8.trans (hx9.trans ((BelowX.full hb10).trans hx11))
      have S11 := Lib.hid (S7.out.other ⟨_, HX7.out⟩ (by omega) BX)
      have VA11 := Lib.hid (ints_keepX VA7.out BX ⟨_, HX7.out⟩)
      have V11 := Lib.hid (bytes_keepX HV7.out BX ⟨_, HX7.out⟩)
      have VC11 := Lib.hid (ints_keepX hic hx11 (store_cells51 (X9.below hb10)))
      have HX11 := Lib.hid X11
      have HN11 : Hid (Below N w w11) := Lib.hid (HN7.out.trans (BX.under (by omega) (by omega) (by omega)))
      clear BX hx8 hx9 hb10 hx11 hic X7 X8 X9 X11 S7 VA7 HV7 HN7 HX7
      have VA12 : Hid (IntsAt w11 wr.heap.size va [0, 20, 30]) := VA11
      have VC12 : Hid (IntsAt w11 w9.heap.size vc [5]) := VC11
      clear VA11 VC11
      go_wp2_with (first
        | (go_at_call 15; with_reducible refine (same3 VA12.out).mono ?_; rintro e w12 ⟨rfl, hb12⟩)
        | (go_at_call 16; with_reducible refine (all_l6 (S11.out.below hb12)).mono ?_; rintro e w13 ⟨vs, rfl, his, hb13⟩))
      have hb13' := hb12.trans (hb13.mono hb12.size)
      have V13 := Lib.hid (bytes_keep V11.out hb13')
      have VC13 := Lib.hid (ints_below VC12.out hb13')
      have X13 := Lib.hid (HX11.out.below hb13')
      have HN13 := Lib.hid (HN11.out.trans (hb13'.mono (by have h1 := HN11.out.size; have h2 := HNw.out; omega)))
      clear hb12 hb13 hb13' V11 VC12 VA12 S11 HX11 HN11
      go_wp2_with (first
        | (go_at_call 15; with_reducible refine (same3 his).mono ?_; rintro e w14 ⟨rfl, hb14⟩; have hcv := conv20 (bytes_keep V13.out hb14))
        | (rw [hcv])
        | (go_at_call 15; with_reducible refine (same1 (ints_below VC13.out hb14)).mono ?_; rintro e w15 ⟨rfl, hb15⟩)
        | (go_at_call 16; with_reducible refine (all_x3 ((X13.out.below hb14).below hb15)).mono ?_; rintro e w16 ⟨vx, rfl, hix, hb16⟩)
        | (go_at_call 15; with_reducible refine (same1 hix).mono ?_; rintro e w17 ⟨rfl, hb17⟩))
      go_ret
      have s0 := HNw.out
      have s1 := HN13.out.size
      have s2 := hb14.size
      have s3 := hb15.size
      have s4 := hb16.size
      refine ⟨rfl, ?_⟩
      rw [← s0]
      exact HN13.out.trans ((hb14.mono (by omega)).trans ((hb15.mono (by omega)).trans ((hb16.mono (by omega)).trans (hb17.mono (by omega)))))
end Go.Proofs.Ytiagpaoomijidaa
