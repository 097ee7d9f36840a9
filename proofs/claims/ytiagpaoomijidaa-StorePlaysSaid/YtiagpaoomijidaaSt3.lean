import Derived.Test.YtiagpaoomijidaaSt2
namespace Go.Proofs.Ytiagpaoomijidaa
open Go.RowKit Go.Proofs
set_option linter.unusedVariables false

theorem made_nil (w : World) : Calls Try.prog 20 #[.pointer none] w fun e w' => e = .returned (.bool false) ∧ w = w' := by
  go_enter Try.func20, Try.ntmps20
  go_wp2
  go_ret
  exact ⟨rfl, rfl⟩
theorem made_zero (a : Addr) (w : World) (h : w.cell? a = some (.int .i64 0)) : Calls Try.prog 20 #[.pointer (some a)] w fun e w' => e = .returned (.bool false) ∧ w = w' := by
  go_enter Try.func20, Try.ntmps20
  go_wp2
  go_ret
  exact ⟨rfl, rfl⟩
theorem made_yes (a : Addr) (most : Nat) (w : World) (hm : 0 < most) (h : w.cell? a = some (.int .i64 most)) : Calls Try.prog 20 #[.pointer (some a)] w fun e w' => e = .returned (.bool true) ∧ w = w' := by
  go_enter Try.func20, Try.ntmps20
  go_wp2
  go_ret
  exact ⟨rfl, rfl⟩
theorem put1_any (p q : Int) (v : Value) (a : Addr) (w : World) (ha : a.block < w.heap.size) (h : w.cell? a = some (.int .i64 q)) :
    Calls Try.prog 25 #[.agg #[.int .i64 p, v], .pointer (some a)] w fun e w' => e = .returned (.bool (p != q)) ∧ Below w.heap.size w w' := by
  go_enter Try.func25, Try.ntmps25
  go_wp2
  go_ret
  exact ⟨rfl, (Below.refl _ _).alloc (Nat.le_refl _) _⟩
end Go.Proofs.Ytiagpaoomijidaa
