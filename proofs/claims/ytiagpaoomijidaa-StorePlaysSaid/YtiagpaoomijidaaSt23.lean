import Derived.Test.YtiagpaoomijidaaSt22
namespace Go.Proofs.Ytiagpaoomijidaa
open Go.RowKit Go.Proofs
set_option linter.unusedVariables false

theorem nil_walk (p : Int) (v : Value) (w : World) : Calls Try.prog 7 #[.int .i64 p, v, .bool false] w fun e w' => e = .returned (.bool true) ∧ Below w.heap.size w w' := by
  go_enter Try.func7, Try.ntmps7
  go_wp2_with (first
    | (go_at_call 13; refine (floor_nil _ _).mono ?_; rintro e w1 ⟨rfl, rfl⟩)
    | (go_at_call 12; refine (put_nil _ _ _).mono ?_; rintro e w2 ⟨rfl, hb2⟩)
    | (go_at_call 16; refine (all_nil _).mono ?_; rintro e w3 ⟨rfl, rfl⟩)
    | (go_at_call 10; refine (lives_any _).mono ?_; rintro e w4 ⟨rfl, hb4⟩))
  go_ret
  exact ⟨rfl, hb2.trans (hb4.mono hb2.size)⟩
theorem zero_walk (p : Int) (v : Value) (w : World) : Calls Try.prog 7 #[.int .i64 p, v, .bool true] w fun e w' => e = .returned (.bool true) ∧ Below w.heap.size w w' := by
  have hc : (w.alloc (.cells #[.int .i64 0, .slice none 0 0] 51)).cell? ⟨w.heap.size, 0, none⟩ = some (.int .i64 0) := cell_new _ _ _ _
  go_enter Try.func7, Try.ntmps7
  go_wp2_with (first
    | (go_at_call 13; refine (floor_zero _ _ _ hc).mono ?_; rintro e w1 ⟨rfl, rfl⟩)
    | (go_at_call 12; refine (put_zero _ _ _ _ hc).mono ?_; rintro e w2 ⟨rfl, hb2⟩; have hc2 := (hb2.cell (World.block_lt_of_cell? _ _ hc)).trans hc)
    | (go_at_call 16; refine (all_zero _ _ hc2).mono ?_; rintro e w3 ⟨rfl, rfl⟩)
    | (go_at_call 10; refine (lives_any _).mono ?_; rintro e w4 ⟨rfl, hb4⟩))
  go_ret
  have h1 : w.heap.size ≤ (w.alloc (.cells #[.int .i64 0, .slice none 0 0] 51)).heap.size := ((Below.refl w.heap.size w).alloc (Nat.le_refl _) _).size
  exact ⟨rfl, ((Below.refl w.heap.size w).alloc (Nat.le_refl _) _).trans ((hb2.mono h1).trans (hb4.mono (Nat.le_trans h1 hb2.size)))⟩
theorem store_nil_walk (p : Int) (v : Value) (b : Bool) (w : World) : Calls Try.prog 7 #[.int .i64 p, v, .bool b] w fun e w' => e = .returned (.bool true) ∧ Below w.heap.size w w' := by
  cases b
  · exact nil_walk p v w
  · exact zero_walk p v w
end Go.Proofs.Ytiagpaoomijidaa
