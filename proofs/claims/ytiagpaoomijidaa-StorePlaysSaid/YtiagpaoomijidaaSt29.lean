import Derived.Test.YtiagpaoomijidaaSt28
import Derived.Deep.SlicePairs
namespace Go.Proofs.Ytiagpaoomijidaa
open Go.RowKit Go.Proofs Go.Deep
set_option linter.unusedVariables false

theorem acts_open {H : Type} {enc : TypeId × Value → H} {W : World} {base fuel : Nat} {sp : Nat → Bool} {held : Bool} {cs : List Value} {x : DataW H × List MemPlace} (h : DataW.trod enc Try.prog W base sp held fuel 22 cs = some x) :
    ∃ so n c P Q, cs = [.slice so n c] ∧ ActsIn W so n P Q := by
  rcases open_slice_pairs (P := Try.prog) (t := 22) (e := 33) Try.underlying22 Try.underlying33 (by kernel_rfl) rfl rfl (by kernel_rfl) (by kernel_rfl) h with ⟨rfl, _⟩ | ⟨a, len, cap, m, n, V0, V1, D0, D1, P0, P1, rfl, hb, hl, hm, hmm, rfl, hx⟩
  · exact ⟨none, 0, 0, fun _ => 0, fun _ => ⟨#[]⟩, rfl, fun i hi => absurd hi (Nat.not_lt_zero _)⟩
  · have hlm : len ≤ m := by rw [hmm]; split <;> omega
    have each : ∀ i, i < len → ∃ y : Int × ByteArray, W.cell? (a.add (i * 2)) = some (.int .i64 y.1) ∧ W.cell? (a.add (i * 2 + 1)) = some (.string y.2) ∧ -9223372036854775808 ≤ y.1 ∧ y.1 ≤ 9223372036854775807 := fun i hi => by
      obtain ⟨h1, h2, h3, h4⟩ := hx i (by omega)
      obtain ⟨z, e1, _, hw⟩ := DataW.trod_int Try.underlying3 h3
      obtain ⟨s, e2, _, _⟩ := DataW.trod_string Try.underlying9 h4
      have e1' := (List.cons.inj e1).1
      have e2' := (List.cons.inj e2).1
      rw [e1'] at h1
      rw [e2'] at h2
      have hr : IntKind.min .i64 ≤ z ∧ z ≤ IntKind.max .i64 := by simpa [Lit.wf] using hw
      exact ⟨(z, s), h1, h2, hr.1, hr.2⟩
    refine ⟨some a, len, cap, fun i => if hi : i < len then (each i hi).choose.1 else 0, fun i => if hi : i < len then (each i hi).choose.2 else ⟨#[]⟩, rfl, fun i hi => ⟨a, rfl, ?_⟩⟩
    have := (each i hi).choose_spec
    simp only [dif_pos hi]
    exact this

theorem acts_at {H : Type} {enc : TypeId × Value → H} {W : World} {base b0 : Nat} {r : Reach} {sp : Nat → Bool} {held : Bool} {v : Value} {d : DataW H} {ps : List MemPlace} (hval : Value.okWide Try.prog W r b0 22 v) (h : DataW.Trod enc Try.prog W base sp held 22 v d ps) :
    ∃ so n c P Q, v = .slice so n c ∧ ActsIn W so n P Q := by
  obtain ⟨fuel, hf⟩ := h
  obtain ⟨so, n, c, P, Q, e, ha⟩ := acts_open hf
  have hv : v.cells.toList = [v] := by
    cases v <;> first | rfl | (unfold Value.okWide Cell.okWide Cell.ok at hval; rw [Try.underlying22] at hval; simp at hval)
  rw [hv] at e
  exact ⟨so, n, c, P, Q, (List.cons.inj e).1, ha⟩

theorem store_first_walk (most : Int) (so : Option Addr) (n c : Nat) (P : Nat → Int) (Q : Nat → ByteArray) (w : World) (ha : ActsIn w so n P Q) : Calls Try.prog 4 #[.int .i64 most, .slice so n c] w fun e w' => e = .returned (.bool true) ∧ Below w.heap.size w w' := by
  by_cases hn : n ≤ 300
  · exact first_main most so n c P Q w ha hn
  · have hn1 : (300 : Int) < (n : Int) := by omega
    clear ha
    go_enter Try.func4, Try.ntmps4
    go_wp2_with (go_at_call 10; refine (lives_any _).mono ?_; rintro e w9 ⟨rfl, hb9⟩)
    go_ret
    exact ⟨rfl, hb9⟩
end Go.Proofs.Ytiagpaoomijidaa
