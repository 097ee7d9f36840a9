/- The engine, part W: arguments that are not known: cell by cell. -/
import Derived.Test.YtggjeecpadnihaaGreatDoorEngV
import GoSem.ClaimWide
set_option linter.unusedSimpArgs false
set_option linter.unusedVariables false
set_option linter.unusedSectionVars false
namespace Go.Eng

section
variable {P : Program} {w : World} {r : Reach} {base : Nat}

theorem cell_one {t : TypeId} {v : Value} (h : Cell.okWide P w r base t v) : Value.one v = true := by
  unfold Cell.okWide Cell.ok at h
  cases v <;> first | rfl | (revert h; cases P.underlying t with | none => simp | some d => cases d <;> simp)

theorem cell_int {t : TypeId} {v : Value} {k : IntKind} (hu : P.underlying t = some (.int k)) (h : Cell.okWide P w r base t v) : ∃ n, v = .int k n := by
  unfold Cell.okWide Cell.ok at h
  rw [hu] at h
  cases v <;> simp at h
  obtain ⟨rfl, _⟩ := h
  exact ⟨_, rfl⟩

theorem cell_bool {t : TypeId} {v : Value} (hu : P.underlying t = some .bool) (h : Cell.okWide P w r base t v) : ∃ b, v = .bool b := by
  unfold Cell.okWide Cell.ok at h
  rw [hu] at h
  cases v <;> simp at h
  exact ⟨_, rfl⟩

/-- A struct that came in: its cells. -/
theorem wide_agg {t : TypeId} {v : Value} {fs : Array Field} {n : Nat} {ts : List TypeId} (hu : P.underlying t = some (.struct fs)) (hc : P.cellsOf t = n) (hts : P.cellTypes P.depth t = some ts) (hn : ts.length = n) (h : Value.okWide P w r base t v) :
    ∃ l : List Value, v = .agg ⟨l⟩ ∧ l.length = n ∧ ∀ (i : Nat) x, l[i]? = some x → ∃ u, ts[i]? = some u ∧ Cell.okWide P w r base u x := by
  unfold Value.okWide at h
  rw [hu] at h
  obtain ⟨cs, rfl, h1, ts', h2, _, h3⟩ := h
  rw [hts] at h2
  cases h2
  obtain ⟨l⟩ := cs
  have hl : l.length = n := by rw [← hc, ← h1]; rfl
  refine ⟨l, rfl, hl, fun i x hx => ?_⟩
  obtain ⟨u, h4, h5⟩ := h3 i x (by simpa using hx)
  have hi : i < l.length := by
    rcases Nat.lt_or_ge i l.length with h | h
    · exact h
    · rw [List.getElem?_eq_none h] at hx; cases hx
  rw [Nat.mod_eq_of_lt (by omega)] at h4
  exact ⟨u, h4, h5⟩

theorem wide_cell {t : TypeId} {v : Value} (hu : ∀ fs, P.underlying t ≠ some (.struct fs)) (ha : ∀ n e, P.underlying t ≠ some (.array n e)) (h : Value.okWide P w r base t v) : Cell.okWide P w r base t v := by
  unfold Value.okWide at h
  split at h
  · rename_i fs hf; exact absurd hf (hu _)
  · rename_i n e hf; exact absurd hf (ha _ _)
  · exact h

theorem ones_of {l : List Value} {ts : List TypeId} (h : ∀ (i : Nat) x, l[i]? = some x → ∃ u, ts[i]? = some u ∧ Cell.okWide P w r base u x) : ∀ x ∈ l, Value.one x = true := by
  intro x hx
  obtain ⟨i, hi⟩ := List.getElem?_of_mem hx
  obtain ⟨u, _, h2⟩ := h i x hi
  exact cell_one h2
end

/-! ### Values by their numbers -/
def envL (hv : Value) (L : List Value) : Nat → Value := fun i => L.getD i hv

theorem envL_ok {hv : Value} {L : List Value} (ho : Value.one hv = true) (h : ∀ x ∈ L, Value.one x = true) : EnvOk (envL hv L) := by
  intro i
  unfold envL
  rw [List.getD_eq_getElem?_getD]
  cases hi : L[i]? with
  | none => exact ho
  | some x => exact h x (List.mem_of_getElem? hi)

theorem envL_K {hv : Value} {L : List Value} (h : L.length ≤ KH) : envL hv L KH = hv := by
  unfold envL
  rw [List.getD_eq_getElem?_getD, List.getElem?_eq_none h]; rfl

theorem envL_at {hv : Value} (A : List Value) (x : Value) (C : List Value) : envL hv (A ++ (x :: C)) A.length = x := by unfold envL; simp

theorem envL_mid {hv : Value} {A B C : List Value} {c : Nat} {x : Value} (h : B[c]? = some x) : envL hv (A ++ (B ++ C)) (A.length + c) = x := by
  have hc : c < B.length := (List.getElem?_eq_some_iff.1 h).1
  unfold envL
  rw [List.getD_eq_getElem?_getD, List.getElem?_append_right (by omega), List.getElem?_append_left (by omega), show A.length + c - A.length = c by omega, h]; rfl

def symsFrom : Nat → Nat → List AVal
  | _, 0 => []
  | j, n + 1 => .sym j :: symsFrom (j + 1) n

theorem vrels_syms {ρ : Rho} {hv : Value} : ∀ (B A C : List Value), VRels ρ (envL hv (A ++ (B ++ C))) (symsFrom A.length B.length) B
  | [], _, _ => .nil
  | x :: B, A, C => by
    have h1 : envL hv (A ++ (x :: B ++ C)) A.length = x := by
      unfold envL; simp
    have ih := vrels_syms (ρ := ρ) (hv := hv) B (A ++ [x]) C
    have e : A ++ [x] ++ (B ++ C) = A ++ (x :: B ++ C) := by simp
    rw [e, List.length_append] at ih
    refine .cons ?_ ih
    have := VRel.sym (ρ := ρ) (env := envL hv (A ++ (x :: B ++ C))) A.length
    rw [h1] at this; exact this

theorem vrel_sym {ρ : Rho} {hv : Value} (x : Value) (A C : List Value) : VRel ρ (envL hv (A ++ (x :: C))) (.sym A.length) x := by
  have h1 : envL hv (A ++ (x :: C)) A.length = x := by unfold envL; simp
  have := VRel.sym (ρ := ρ) (env := envL hv (A ++ (x :: C))) A.length
  rw [h1] at this; exact this
end Go.Eng
