import Derived.Test.YtiagpaoomijidaaSt5
import Derived.Deep.RegionHeld3
import Derived.Tactics
import Derived.Tactics2
import Derived.Laws.Pointers
namespace Go.Proofs.Ytiagpaoomijidaa
open Go.RowKit Go.Proofs
set_option linter.unusedVariables false

theorem clone_any {w : World} {v : Value} {b : List UInt8} (h : BytesIn w v b) (hb : b.length ≤ 140737488351232) :
    Calls Try.prog 21 #[v] w fun e w' => Cloned w w' b e := by
  rcases h with ⟨rfl, rfl⟩ | ⟨a, cap, rfl, h⟩
  · exact clone_nil w
  · refine clone_some a cap b w h hb fun hne => ?_
    cases b with
    | nil => exact absurd rfl hne
    | cons x b => have := World.block_lt_of_cell? w _ (h 0 (byteV x) rfl); rwa [add_block] at this

/-- No position is not above. -/
def NoFloor (l : List (Int × List UInt8)) (q : Int) : Prop := ∀ t, t < l.length → q < posOf l t

def FloorPost (l : List (Int × List UInt8)) (q : Int) (w w' : World) (e : Ending) : Prop :=
  Below w.heap.size w w' ∧ ((NoFloor l q ∧ e = .returned (.tuple #[.int .i64 0, .slice none 0 0, .bool false])) ∨
    ∃ (k : Nat) (x : Int × List UInt8) (v' : Value), l[k]? = some x ∧ x.1 ≤ q ∧ (∀ t, k < t → t < l.length → q < posOf l t) ∧ e = .returned (.tuple #[.int .i64 x.1, v', .bool true]) ∧ BytesAt w' w.heap.size v' x.2)

theorem floor_nil (q : Int) (w : World) : Calls Try.prog 13 #[.pointer none, .int .i64 q] w fun e w' => e = .returned (.tuple #[.int .i64 0, .slice none 0 0, .bool false]) ∧ w = w' := by
  go_enter Try.func13, Try.ntmps13
  go_wp2_with (go_at_call 20; refine (made_nil _).mono ?_; rintro e w' ⟨rfl, rfl⟩)
  go_ret3
  exact ⟨rfl, rfl⟩
theorem floor_zero (a : Addr) (q : Int) (w : World) (h : w.cell? a = some (.int .i64 0)) : Calls Try.prog 13 #[.pointer (some a), .int .i64 q] w fun e w' => e = .returned (.tuple #[.int .i64 0, .slice none 0 0, .bool false]) ∧ w = w' := by
  go_enter Try.func13, Try.ntmps13
  go_wp2_with (go_at_call 20; refine (made_zero _ _ h).mono ?_; rintro e w' ⟨rfl, rfl⟩)
  go_ret3
  exact ⟨rfl, rfl⟩

theorem store_cells {w w1 : World} {base sb most : Nat} {sv : Value} {it : List (Int × Value)} {l : List (Int × List UInt8)} {i : Nat} {x : Int × Value} (h : w.heap[sb]? = some (.cells #[.int .i64 most, sv] 51 (0, 0)))
    (h3 : ItemsAt w base sv it l) (hb : Below w.heap.size w w1) (hx : it[i]? = some x) :
    ∃ g cap, sv = .slice (some ⟨g, 0, none⟩) it.length cap ∧ g < w.heap.size ∧ w1.cell? ⟨sb, 1, none⟩ = some sv ∧ w1.cell? ⟨g, i * 2, none⟩ = some (.int .i64 x.1) ∧ w1.cell? ⟨g, i * 2 + 1, none⟩ = some x.2 ∧ (i : Int) < it.length := by
  have hi : i < it.length := (List.getElem?_eq_some_iff.1 hx).1
  have hlt : sb < w.heap.size := (Array.getElem?_eq_some_iff.1 h).1
  rcases h3.row.2 with ⟨rfl, h4⟩ | ⟨g, cap, cur, rfl, h5, h6, h7⟩
  · omega
  · obtain ⟨k1, k2⟩ := h3.cells rfl i x hx
    have hg : g < w.heap.size := (Array.getElem?_eq_some_iff.1 h6).1
    refine ⟨g, cap, rfl, hg, ?_, ?_, ?_, by omega⟩
    · rw [hb.cell hlt]; simp [World.cell?, h]
    · rw [hb.cell hg]; simpa using k1
    · rw [hb.cell hg]; simpa using k2

theorem item_at {w : World} {base : Nat} {sv : Value} {it : List (Int × Value)} {l : List (Int × List UInt8)} (h3 : ItemsAt w base sv it l) {i : Nat} (hi : i < l.length) :
    ∃ x y, it[i]? = some x ∧ l[i]? = some y ∧ x.1 = y.1 ∧ BytesAt w base x.2 y.2 := by
  have hi' : i < it.length := by have := h3.len; omega
  exact ⟨it[i], l[i], List.getElem?_eq_getElem hi', List.getElem?_eq_getElem hi, h3.pos i _ _ (List.getElem?_eq_getElem hi') (List.getElem?_eq_getElem hi)⟩

theorem ownsRow_heap {w w' : World} {base : Nat} {e : TypeId} {size : Nat} {v : Value} {n : Nat} {xs : List Value} (h : w.ownsRow base e size v n xs) (hh : w'.heap = w.heap) : w'.ownsRow base e size v n xs := by
  unfold World.ownsRow at h ⊢; rw [hh]; exact h
theorem ownsRow_base {w : World} {base base' : Nat} {e : TypeId} {size : Nat} {v : Value} {n : Nat} {xs : List Value} (h : w.ownsRow base e size v n xs) (hb : base' ≤ base) : w.ownsRow base' e size v n xs := by
  refine ⟨h.1, ?_⟩
  rcases h.2 with h2 | ⟨g, cap, cur, h1, h2, h3⟩
  · exact .inl h2
  · exact .inr ⟨g, cap, cur, h1, Nat.le_trans hb h2, h3⟩

set_option maxRecDepth 100000 in
theorem floor_any (sb base most : Nat) (l : List (Int × List UInt8)) (q : Int) (w : World) (h : StoreAt w base sb most l) (hm : 0 < most) (hr : Rising l) (hl : l.length < 4611686018427387904) (hby : ∀ x ∈ l, x.2.length ≤ 140737488351232) :
    Calls Try.prog 13 #[.pointer (some ⟨sb, 0, none⟩), .int .i64 q] w fun e w' => FloorPost l q w w' e := by
  have hf := find_any sb base most l q w h hr hl
  have HF : Hid (Calls Try.prog 22 #[.pointer (some ⟨sb, 0, none⟩), .int .i64 q] w fun e w' => Found (posOf l) l.length q w w' e) := Lib.hid hf
  clear hf
  obtain ⟨sv, it, h1, h2, h3⟩ := h
  have hlt : sb < w.heap.size := (Array.getElem?_eq_some_iff.1 h1).1
  have c0 : w.cell? ⟨sb, 0, none⟩ = some (.int .i64 most) := by simp [World.cell?, h1]
  have H1 : Hid (w.heap[sb]? = some (.cells #[.int .i64 most, sv] 51 (0, 0))) := Lib.hid h1
  clear h1
  go_enter Try.func13, Try.ntmps13
  go_wp2_with (go_at_call 20; refine (made_yes _ most _ hm c0).mono ?_; rintro e w' ⟨rfl, rfl⟩)
  go_at_call 22; refine HF.out.mono ?_; rintro e w1 ⟨i, hp, rfl, hbw⟩
  obtain ⟨hin, hlo, hhi⟩ := hp
  have hil : (l.length : Int) = it.length := by rw [h3.len]
  by_cases hfd : i < l.length ∧ posOf l i = q
  · have hd1 : decide (i < l.length) = true := by simp [hfd.1]
    have hd2 : decide (posOf l i = q) = true := by simp [hfd.2]
    rw [hd1, hd2]
    clear hd1 hd2
    obtain ⟨x, y, hx, hy, hxy⟩ := item_at h3 hfd.1
    obtain ⟨g, cap, rfl, hg, k0, k1, k2, bi⟩ := store_cells H1.out h3 hbw hx
    have hby' := hby _ (List.mem_of_getElem? hy)
    have hcl : ∀ W : World, W.heap = w1.heap → Calls Try.prog 21 #[x.2] W fun e w' => Cloned W w' y.2 e := fun W hW =>
      clone_any (BytesAt.isIn (ownsRow_heap (ownsRow_below hxy.2 hbw) hW)) hby'
    have HC : Hid (∀ W : World, W.heap = w1.heap → Calls Try.prog 21 #[x.2] W fun e w' => Cloned W w' y.2 e) := Lib.hid hcl
    have FIN : Hid (∀ w2 v', BytesAt w2 w1.heap.size v' y.2 → Below w1.heap.size w1 w2 → FloorPost l q w w2 (.returned (.tuple #[.int .i64 x.1, v', .bool true]))) := Lib.hid (fun w2 v' hv hb2 => by
      have e1 : posOf l i = y.1 := by unfold posOf; rw [List.getD_eq_getElem?_getD, hy]; rfl
      refine ⟨hbw.trans (hb2.mono hbw.size), .inr ⟨i, y, v', hy, by omega, fun t ht htl => ?_, by rw [hxy.1], ?_⟩⟩
      · have := hr i t ht htl; omega
      · exact ownsRow_base hv hbw.size)
    have hs1 : sb < w1.heap.size := Nat.lt_of_lt_of_le hlt hbw.size
    have hg1 : g < w1.heap.size := Nat.lt_of_lt_of_le hg hbw.size
    obtain ⟨px, vx⟩ := x
    simp only at k1 k2
    clear hcl hxy hx hy h3 hby hby' hr hlo hhi hfd hil HF H1 hbw c0 hin hl
    go_wp2
    go_region_held3 (fun w' => w'.cell? ⟨sb, 1, none⟩ = some (.slice (some ⟨g, 0, none⟩) it.length cap) ∧ w'.cell? ⟨g, i * 2, none⟩ = some (.int .i64 px) ∧ w'.cell? ⟨g, i * 2 + 1, none⟩ = some vx)
      (first
        | go_keep
        | (go_split_ands
           exact ⟨(hbv.cell (p := ⟨sb, 1, none⟩) (by simpa using hs1)).trans (by assumption), (hbv.cell (p := ⟨g, i * 2, none⟩) (by simpa using hg1)).trans (by assumption), (hbv.cell (p := ⟨g, i * 2 + 1, none⟩) (by simpa using hg1)).trans (by assumption)⟩))
      ((go_at_call 21; refine (HC.out _ (by rfl)).mono ?_; rintro e w2 ⟨v', rfl, hv', hbv⟩))
    go_wp2
    go_ret3
    exact FIN.out w2 v' (by simpa using hv') (((Below.refl _ _).drew).trans (by simpa using hbv))
  · have hd1 : (decide (i < l.length) && decide (posOf l i = q)) = false := by simpa using hfd
    rw [hd1]
    clear hd1
    by_cases hi0 : i = 0
    · subst hi0
      go_wp2
      go_ret3
      exact ⟨hbw, .inl ⟨fun t ht => by
        have := hhi t (Nat.zero_le _) ht
        rcases Nat.eq_zero_or_pos t with rfl | h0
        · have : posOf l 0 ≠ q := fun e => hfd ⟨ht, e⟩
          omega
        · have h1 := hr 0 t h0 ht
          have h2 := hhi 0 (Nat.le_refl _) (by omega)
          omega, rfl⟩⟩
    · have e1 : wrap64 ((i : Int) - 1) = ((i - 1 : Nat) : Int) := by
        rw [show (i : Int) - 1 = ((i - 1 : Nat) : Int) by omega]; exact IntWalk.wrap64_in _ (by omega)
      obtain ⟨x, y, hx, hy, hxy⟩ := item_at h3 (show i - 1 < l.length by omega)
      obtain ⟨g, cap, rfl, hg, k0, k1, k2, bi⟩ := store_cells H1.out h3 hbw hx
      have hby' := hby _ (List.mem_of_getElem? hy)
      have hcl : ∀ W : World, W.heap = w1.heap → Calls Try.prog 21 #[x.2] W fun e w' => Cloned W w' y.2 e := fun W hW =>
        clone_any (BytesAt.isIn (ownsRow_heap (ownsRow_below hxy.2 hbw) hW)) hby'
      have HC : Hid (∀ W : World, W.heap = w1.heap → Calls Try.prog 21 #[x.2] W fun e w' => Cloned W w' y.2 e) := Lib.hid hcl
      have FIN : Hid (∀ w2 v', BytesAt w2 w1.heap.size v' y.2 → Below w1.heap.size w1 w2 → FloorPost l q w w2 (.returned (.tuple #[.int .i64 x.1, v', .bool true]))) := Lib.hid (fun w2 v' hv hb2 => by
        have e1 : posOf l (i - 1) = y.1 := by unfold posOf; rw [List.getD_eq_getElem?_getD, hy]; rfl
        refine ⟨hbw.trans (hb2.mono hbw.size), .inr ⟨i - 1, y, v', hy, ?_, fun t ht htl => ?_, by rw [hxy.1], ?_⟩⟩
        · have := hlo (i - 1) (by omega); omega
        · have h2 := hhi t (by omega) htl
          rcases Nat.lt_or_ge i t with k | k
          · have h3 := hr i t k htl
            have h4 := hhi i (Nat.le_refl _) (by omega)
            omega
          · obtain rfl : t = i := by omega
            have : posOf l t ≠ q := fun e => hfd ⟨htl, e⟩
            omega
        · exact ownsRow_base hv hbw.size)
      have hs1 : sb < w1.heap.size := Nat.lt_of_lt_of_le hlt hbw.size
      have hg1 : g < w1.heap.size := Nat.lt_of_lt_of_le hg hbw.size
      generalize hj : i - 1 = j at e1 bi k1 k2
      obtain ⟨px, vx⟩ := x
      simp only at k1 k2
      have hj0 : (0 : Int) ≤ (j : Int) := Int.natCast_nonneg _
      clear hcl hxy hx hy h3 hby hby' hr hlo hhi hfd hil HF H1 hbw c0 hin hl hi0
      clear hj
      go_wp2
      go_region_held3 (fun w' => w'.cell? ⟨sb, 1, none⟩ = some (.slice (some ⟨g, 0, none⟩) it.length cap) ∧ w'.cell? ⟨g, j * 2, none⟩ = some (.int .i64 px) ∧ w'.cell? ⟨g, j * 2 + 1, none⟩ = some vx)
        (first
          | go_keep
          | (go_split_ands
             exact ⟨(hbv.cell (p := ⟨sb, 1, none⟩) (by simpa using hs1)).trans (by assumption), (hbv.cell (p := ⟨g, j * 2, none⟩) (by simpa using hg1)).trans (by assumption), (hbv.cell (p := ⟨g, j * 2 + 1, none⟩) (by simpa using hg1)).trans (by assumption)⟩))
        ((go_at_call 21; refine (HC.out _ (by rfl)).mono ?_; rintro e w2 ⟨v', rfl, hv', hbv⟩))
      go_wp2
      go_ret3
      exact FIN.out w2 v' (by simpa using hv') (((Below.refl _ _).drew).trans (by simpa using hbv))
end Go.Proofs.Ytiagpaoomijidaa
