import Derived.Test.YtiagpaoomijidaaSt11
import Derived.Lib.AppendZeros
import Derived.Lib.Overlaps
import Derived.Laws.Externs
import Derived.Laws.IdiomCopy
namespace Go.Proofs.Ytiagpaoomijidaa
open Go.RowKit Go.Proofs
set_option linter.unusedVariables false
set_option linter.unusedSimpArgs false

/-! ### Cells that are written one after the other -/
def spl : Array Value → Nat → List Value → Array Value
  | c, _, [] => c
  | c, o, v :: l => spl (c.setIfInBounds o v) (o + 1) l

theorem spl_size : ∀ (l : List Value) (c : Array Value) (o : Nat), (spl c o l).size = c.size
  | [], _, _ => rfl
  | v :: l, c, o => by rw [spl, spl_size l]; simp

theorem spl_get : ∀ (l : List Value) (c : Array Value) (o j : Nat), o + l.length ≤ c.size → (spl c o l)[j]? = if o ≤ j ∧ j < o + l.length then l[j - o]? else c[j]?
  | [], c, o, j, h => by rw [if_neg (by simp)]; rfl
  | v :: l, c, o, j, h => by
    have hl : (v :: l).length = l.length + 1 := rfl
    rw [hl] at h ⊢
    rw [spl, spl_get l _ (o + 1) j (by simp; omega)]
    by_cases hj : j = o
    · subst hj
      rw [if_neg (by omega), if_pos (by omega), Nat.sub_self, Array.getElem?_setIfInBounds_self]
      simp; omega
    · rw [Array.getElem?_setIfInBounds_ne (by omega)]
      by_cases h2 : o + 1 ≤ j ∧ j < o + 1 + l.length
      · rw [if_pos h2, if_pos (by omega), show j - o = (j - (o + 1)) + 1 by omega]; rfl
      · rw [if_neg h2, if_neg (by omega)]

theorem spl_list (l : List Value) (c : Array Value) (o : Nat) (h : o + l.length ≤ c.size) : (spl c o l).toList = c.toList.take o ++ (l ++ c.toList.drop (o + l.length)) := by
  apply List.ext_getElem?
  intro j
  rw [Array.getElem?_toList, spl_get l c o j h]
  have ht : (c.toList.take o).length = o := by rw [List.length_take, Array.length_toList]; omega
  rw [List.getElem?_append, ht, List.getElem?_append]
  by_cases h1 : j < o
  · rw [if_neg (by omega), if_pos h1, List.getElem?_take, if_pos h1, Array.getElem?_toList]
  · rw [if_neg h1]
    by_cases h2 : j < o + l.length
    · rw [if_pos (by omega), if_pos (by omega)]
    · rw [if_neg (by omega), if_neg (by omega), List.getElem?_drop, Array.getElem?_toList]
      congr 1; omega

theorem setCells_block {w : World} {b : Nat} {t : TypeId} {fr : Nat × Nat} : ∀ (l : List Value) (o : Nat) (w : World) (c : Array Value), w.heap[b]? = some (.cells c t fr) → (w.setCells b o l).heap[b]? = some (.cells (spl c o l) t fr)
  | [], o, w, c, h => h
  | v :: l, o, w, c, h => by
    rw [World.setCells, spl]
    exact setCells_block (w := w) l (o + 1) _ _ (setCell_block h)

theorem setCells_other {b k : Nat} (hk : k ≠ b) : ∀ (l : List Value) (o : Nat) (w : World), (w.setCells b o l).heap[k]? = w.heap[k]?
  | [], _, _ => rfl
  | v :: l, o, w => by rw [World.setCells, setCells_other hk l]; exact Below.heap_setCell _ _ _ _ hk

theorem setCells_size (b : Nat) : ∀ (l : List Value) (o : Nat) (w : World), (w.setCells b o l).heap.size = w.heap.size
  | [], _, _ => rfl
  | v :: l, o, w => by rw [World.setCells, setCells_size b l]; simp [World.setCell]

theorem size57 : ∀ w : World, (sizeOf 57).run Try.prog w = .ok 2 w := by
  intro w
  obtain ⟨i0, hi0, hz0, hz1, hz2⟩ := info_parts info57
  simp [sizeOf, typeInfo, hi0, hz1]

/-- copy, items of two cells. -/
theorem run_copy2 (w : World) (ty : TypeId) (b o dLen dCap : Nat) (a : Addr) (sLen sCap : Nat) (cs : List Value) (m : Nat) (hm : m = Nat.min sLen dLen) (hn : cs.length = m * 2)
    (hsrc : ∀ j v, cs[j]? = some v → w.cell? (a.add j) = some v) (hc : ∀ j, j < cs.length → (w.cell? ⟨b, o + j, none⟩).isSome = true) (hf : ∀ j, j < cs.length → w.frozen? ⟨b, o + j, none⟩ = false) (h1 : ∀ v ∈ cs, v.oneCell' = true) :
    (Builtin.copy_ #[49, 49] ty #[.slice (some ⟨b, o, none⟩) dLen dCap, .slice (some a) sLen sCap]).run Try.prog w = .ok (goInt m) (w.setCells b o cs) := by
  have hl := run_loadCells_list (P := Try.prog) w a cs hsrc
  have hst := run_storeCells_cells (P := Try.prog) b o cs 0 w (by simpa using hc) (by simpa using hf) h1
  rw [hn] at hl
  simp [Builtin.copy_, run_underlying Try.underlying49, Builtin.lenOf, Builtin.firstCells, size57, ← hm, hl, hst]

/-- append of zeros, where there is no room. -/
theorem run_zeros (w : World) (ty : TypeId) (g i c k : Nat) (olds : List Value) (hlo : olds.length = i * 2) (holds : ∀ j u, olds[j]? = some u → w.cell? ((⟨g, 0, none⟩ : Addr).add j) = some u) (hg : c < i + k) (hk : 0 < k) (hs : i + k ≤ 2000) :
    (Builtin.append_ #[49, 3] ty #[.slice (some ⟨g, 0, none⟩) i c, .int .i64 k]).run Try.prog w =
      .ok (.slice (some ⟨w.heap.size, 0, none⟩) (i + k) (grownCap w (i + k) c 57)) (w.drew.alloc (.cells (⟨olds⟩ ++ Builtin.zeroCells #[.int .i64 0, .slice none 0 0] k ++ Builtin.zeroCells #[.int .i64 0, .slice none 0 0] (grownCap w (i + k) c 57 - (i + k))) 57)) := by
  obtain ⟨i0, hi0, hz0, hz1, hz2⟩ := info_parts info57
  have hl := run_loadCells_list (P := Try.prog) w.drew (⟨g, 0, none⟩ : Addr) olds holds
  rw [hlo] at hl
  have hw : IntKind.i64.wrap (k : Int) = k := by rw [IntKind.wrap_i64]; omega
  have hfit : ¬ (281474976710656 < Builtin.nextslicecap (i + k) c * 32) := by
    have := growslice_fits (need := i + k) (old := c) (bytes := 32) hg (by omega)
    omega
  have hn : ¬ (i + k ≤ c) := by omega
  have h63' : ¬ (9223372036854775807 < (i : Int) + (k : Int)) := by omega
  have h48i : ¬ (281474976710656 < (k : Int) * 32) := by omega
  have hneg : ¬ ((k : Int) < 0) := by omega
  have hns : ¬ (k * 2 = 0) := by omega
  have hcel : (Value.agg #[.int .i64 0, .slice none 0 0]).cells = #[.int .i64 0, .slice none 0 0] := rfl
  simp [Builtin.append_, run_underlying Try.underlying49, run_underlying Try.underlying3, size57, typeInfo, zeroValue, hi0, hz0, hz1, hz2, asInt, asIntOf, hw, hn, hneg, hns, h63', h48i, hfit, Question.forced, Builtin.firstCells, hl, newRow, grownCap]
  rfl
end Go.Proofs.Ytiagpaoomijidaa
