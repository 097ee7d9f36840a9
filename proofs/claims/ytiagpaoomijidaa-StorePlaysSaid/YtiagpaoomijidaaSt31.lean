import Derived.Test.YtiagpaoomijidaaSt30
import Derived.SizedLaws
namespace Go.Proofs.Ytiagpaoomijidaa
open Go.RowKit Go.Proofs Go.Deep
set_option linter.unusedVariables false

theorem weightsAll_mem {H : Type} {P : Program} {e : TypeId} {n : Nat} : ∀ {l : List (DataW H)} {d : DataW H}, d ∈ l → n ∈ d.weights P e → n ∈ DataW.weightsAll P e l
  | x :: l, d, hd, hn => by
    unfold DataW.weightsAll
    rcases List.mem_cons.1 hd with rfl | h
    · exact List.mem_append_left _ hn
    · exact List.mem_append_right _ (weightsAll_mem h hn)

/-- A row of Puts that came in, and each text among what is weighed. -/
theorem acts_sized {H : Type} {enc : TypeId × Value → H} {W : World} {base b0 : Nat} {r : Reach} {sp : Nat → Bool} {held : Bool} {v : Value} {d : DataW H} {ps : List MemPlace} (hval : Value.okWide Try.prog W r b0 22 v) (h : DataW.Trod enc Try.prog W base sp held 22 v d ps) :
    ∃ so n c P Q, v = .slice so n c ∧ ActsIn W so n P Q ∧ ∀ i, i < n → (Q i).data.toList.length ∈ d.weights Try.prog 22 := by
  obtain ⟨fuel, hf⟩ := h
  have hv : v.cells.toList = [v] := by
    cases v <;> first | rfl | (unfold Value.okWide Cell.okWide Cell.ok at hval; rw [Try.underlying22] at hval; simp at hval)
  rw [hv] at hf
  rcases open_slice_pairs (P := Try.prog) (t := 22) (e := 33) Try.underlying22 Try.underlying33 (by kernel_rfl) rfl rfl (by kernel_rfl) (by kernel_rfl) hf with ⟨e, _⟩ | ⟨a, len, cap, m, n, V0, V1, D0, D1, P0, P1, e, hb, hl, hm, hmm, hx', hx⟩
  · exact ⟨none, 0, 0, fun _ => 0, fun _ => ⟨#[]⟩, (List.cons.inj e).1, fun i hi => absurd hi (Nat.not_lt_zero _), fun i hi => absurd hi (Nat.not_lt_zero _)⟩
  · have hlm : len ≤ m := by rw [hmm]; split <;> omega
    have hd := congrArg Prod.fst hx'
    simp only at hd
    have each : ∀ i, i < len → ∃ y : Int × ByteArray, (W.cell? (a.add (i * 2)) = some (.int .i64 y.1) ∧ W.cell? (a.add (i * 2 + 1)) = some (.string y.2) ∧ -9223372036854775808 ≤ y.1 ∧ y.1 ≤ 9223372036854775807) ∧ y.2.data.toList.length ∈ d.weights Try.prog 22 := fun i hi => by
      obtain ⟨h1, h2, h3, h4⟩ := hx i (by omega)
      obtain ⟨z, e1, _, hw⟩ := DataW.trod_int Try.underlying3 h3
      obtain ⟨s, e2, e3, _⟩ := DataW.trod_string Try.underlying9 h4
      have e1' := (List.cons.inj e1).1
      have e2' := (List.cons.inj e2).1
      rw [e1'] at h1
      rw [e2'] at h2
      have hr : IntKind.min .i64 ≤ z ∧ z ≤ IntKind.max .i64 := by simpa [Lit.wf] using hw
      refine ⟨(z, s), ⟨h1, h2, hr.1, hr.2⟩, ?_⟩
      have hD : D1 i = .lit (.string s.data.toList) := congrArg Prod.fst e3
      rw [hd]
      unfold DataW.weights
      rw [Try.underlying22]
      simp only
      refine List.mem_cons_of_mem _ (List.mem_append_left _ (weightsAll_mem (d := .agg [D0 i, D1 i]) (List.mem_map.2 ⟨i, List.mem_range.2 hi, rfl⟩) ?_))
      unfold DataW.weights
      rw [Try.underlying33]
      simp only
      show _ ∈ DataW.weightsEach _ [_, _] [D0 i, D1 i]
      unfold DataW.weightsEach
      refine List.mem_append_right _ ?_
      unfold DataW.weightsEach
      refine List.mem_append_left _ ?_
      rw [hD]
      unfold DataW.weights
      exact List.mem_singleton.2 rfl
    refine ⟨some a, len, cap, fun i => if hi : i < len then (each i hi).choose.1 else 0, fun i => if hi : i < len then (each i hi).choose.2 else ⟨#[]⟩, (List.cons.inj e).1, fun i hi => ⟨a, rfl, ?_⟩, fun i hi => ?_⟩
    · have := (each i hi).choose_spec.1
      simp only [dif_pos hi]
      exact this
    · have := (each i hi).choose_spec.2
      simp only [dif_pos hi]
      exact this

theorem acts_fit {n : Nat} {Q : Nat → ByteArray} {H : Type} {ts : List TypeId} {ds : List (DataW H)} {j : Nat} {d : DataW H} (hs : (DataW.weightsEach Try.prog ts ds).all (· ≤ reachBytes) = true) (ht : ts[j]? = some 22) (hd : ds[j]? = some d)
    (h : ∀ i, i < n → (Q i).data.toList.length ∈ d.weights Try.prog 22) : ActsFit n Q := fun i hi => by
  have := List.all_eq_true.1 hs _ (DataW.weights_mem_each ht hd _ (h i hi))
  simp only [decide_eq_true_eq] at this
  exact this
end Go.Proofs.Ytiagpaoomijidaa
