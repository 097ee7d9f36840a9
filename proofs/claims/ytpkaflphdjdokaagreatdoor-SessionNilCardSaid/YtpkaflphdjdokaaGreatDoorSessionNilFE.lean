/- The types' rows, in 4 parts (all at once exceed a process's memory). -/
import Derived.Test.YtpkaflphdjdokaaGreatDoorRows
import Derived.JoinedOf
namespace Go.Proofs.YtpkaflphdjdokaaGreatDoor.sessionNil
open Go
theorem types_size : Tryz.checked.prog.types.size = 738 := by kernel_rfl
theorem rows_0 : ((List.range 184).all fun i => rowFine Tryz.checked.prog (0 + i)) = true := by kernel_rfl
theorem rows_1 : ((List.range 185).all fun i => rowFine Tryz.checked.prog (184 + i)) = true := by kernel_rfl
theorem rows_2 : ((List.range 184).all fun i => rowFine Tryz.checked.prog (369 + i)) = true := by kernel_rfl
theorem rows_3 : ((List.range 185).all fun i => rowFine Tryz.checked.prog (553 + i)) = true := by kernel_rfl
theorem globals_in : Tryz.checked.prog.globals.all (fun g => decide (g.type < Tryz.checked.prog.types.size)) = true := by kernel_rfl
theorem funcs_in : Tryz.checked.prog.funcs.all (fun f => f.params.all fun t => decide (t < Tryz.checked.prog.types.size)) = true := by kernel_rfl
theorem part_at {k n : Nat} {p : Nat → Bool} (h : ((List.range k).all fun i => p (n + i)) = true) (t : Nat) (h1 : n ≤ t) (h2 : t < n + k) : p t = true := by
  have := List.all_eq_true.1 h (t - n) (List.mem_range.2 (by omega))
  rwa [show n + (t - n) = t by omega] at this
theorem factFE : laidOutB Tryz.checked.prog = true := by
  unfold laidOutB
  rw [Bool.and_eq_true, Bool.and_eq_true]
  refine ⟨⟨?_, globals_in⟩, funcs_in⟩
  rw [List.all_eq_true, types_size]
  intro t ht
  have ht' := List.mem_range.1 ht
  by_cases c0 : t < 184
  · exact part_at rows_0 t (by omega) (by omega)
  by_cases c1 : t < 369
  · exact part_at rows_1 t (by omega) (by omega)
  by_cases c2 : t < 553
  · exact part_at rows_2 t (by omega) (by omega)
  exact part_at rows_3 t (by omega) (by omega)
end Go.Proofs.YtpkaflphdjdokaaGreatDoor.sessionNil
