import Derived.Test.YtiagpaoomijidaaSt15
import Derived.Test.YtiagpaoomijidaaSt11
namespace Go.Proofs.Ytiagpaoomijidaa
open Go.RowKit Go.Proofs
set_option linter.unusedVariables false

theorem insert_any (i vb base : Nat) (sv : Value) (it : List (Int × Value)) (p : Int) (v : Value) (w : World) (hr : RowAt w base sv it.length (rowCells it)) (hone : ∀ u ∈ rowCells it, u.oneCell' = true) (hv : w.heap[vb]? = some (.cells #[.int .i64 p, v] 57 (0, 0))) (h1 : v.oneCell' = true)
    (hvg : sv.ownBlock ≠ some vb) (hb : base ≤ w.heap.size) (hn : it.length ≤ 1000) (hi : i ≤ it.length) :
    Calls Try.prog 23 #[sv, .int .i64 i, .slice (some ⟨vb, 0, none⟩) 1 1] w fun e w' => Inserted w w' base sv (rowCells (it.take i ++ (p, v) :: it.drop i)) e := by
  have hsplit : rowCells (it.take i ++ (p, v) :: it.drop i) = (rowCells it).take (i * 2) ++ ([.int .i64 p, v] ++ (rowCells it).drop (i * 2)) := by
    rw [rowCells_append, rowCells_cons, rowCells_take, rowCells_drop]; rfl
  rw [hsplit]
  rcases hr.2 with ⟨rfl, h0⟩ | ⟨g, cap, cur, rfl, h3, h4, h5, h6, h7, h8⟩
  · have hit : it = [] := List.length_eq_zero_iff.1 h0
    subst hit
    obtain rfl : i = 0 := by simpa using hi
    exact insert_nil vb base p v w hv h1 hb
  · have hg : vb ≠ g := by rintro rfl; exact hvg rfl
    by_cases he : i = it.length
    · subst he
      have := insert_end g it.length cap vb base p v (rowCells it) w hr hv h1 hb hn
      rw [List.drop_of_length_le (by rw [rowCells_len]; omega), List.take_of_length_le (by rw [rowCells_len]; omega)]
      simpa using this
    · by_cases hc : cap = it.length
      · subst hc
        exact insert_grow g it.length i vb base p v (rowCells it) w hr hone hv h1 hb hn (by omega)
      · exact insert_room g it.length cap i vb base p v (rowCells it) w hr hone hv h1 hg hn (by omega) (by omega)

theorem put_nil (v : Value) (q : Int) (w : World) : Calls Try.prog 12 #[.pointer none, .int .i64 q, v] w fun e w' => e = .returned (.int .i64 1) ∧ Below w.heap.size w w' := by
  go_enter Try.func12, Try.ntmps12
  go_wp2_with (go_at_call 20; refine (made_nil _).mono ?_; rintro e w' ⟨rfl, rfl⟩)
  go_ret
  exact ⟨rfl, (Below.refl _ _).alloc (Nat.le_refl _) _⟩
theorem put_zero (a : Addr) (v : Value) (q : Int) (w : World) (h : w.cell? a = some (.int .i64 0)) : Calls Try.prog 12 #[.pointer (some a), .int .i64 q, v] w fun e w' => e = .returned (.int .i64 1) ∧ Below w.heap.size w w' := by
  have ha : a.block < w.heap.size := World.block_lt_of_cell? w _ h
  go_enter Try.func12, Try.ntmps12
  go_wp2_with (go_at_call 20; refine (made_zero _ _ ((World.cell?_alloc_lt _ _ _ ha).trans h)).mono ?_; rintro e w' ⟨rfl, rfl⟩)
  go_ret
  exact ⟨rfl, (Below.refl _ _).alloc (Nat.le_refl _) _⟩
theorem put_arg (sb base most : Nat) (l : List (Int × List UInt8)) (v : Value) (q : Int) (w : World) (h : StoreAt w base sb most l) (hm : 0 < most) (hq : q < 0) : Calls Try.prog 12 #[.pointer (some ⟨sb, 0, none⟩), .int .i64 q, v] w fun e w' => e = .returned (.int .i64 2) ∧ Below w.heap.size w w' := by
  obtain ⟨sv, it, h1, h2, h3⟩ := h
  have c0 : w.cell? ⟨sb, 0, none⟩ = some (.int .i64 most) := by simp [World.cell?, h1]
  have ha : sb < w.heap.size := World.block_lt_of_cell? w _ c0
  go_enter Try.func12, Try.ntmps12
  go_wp2_with (go_at_call 20; refine (made_yes _ most _ hm ((World.cell?_alloc_lt _ _ _ ha).trans c0)).mono ?_; rintro e w' ⟨rfl, rfl⟩)
  go_ret
  exact ⟨rfl, (Below.refl _ _).alloc (Nat.le_refl _) _⟩
end Go.Proofs.Ytiagpaoomijidaa
