import Derived.Test.YtiagpaoomijidaaSt7
namespace Go.Proofs.Ytiagpaoomijidaa
open Go.RowKit Go.Proofs
set_option linter.unusedVariables false

/-- All positions are ones that may be. -/
def Ranged (l : List (Int × List UInt8)) : Prop := ∀ x ∈ l, 0 ≤ x.1 ∧ x.1 ≤ 9223372036854775807

theorem Ranged.pos {l : List (Int × List UInt8)} (h : Ranged l) (i : Nat) : 0 ≤ posOf l i ∧ posOf l i ≤ 9223372036854775807 := by
  unfold posOf
  rw [List.getD_eq_getElem?_getD]
  cases hx : l[i]? with
  | none => exact ⟨by decide, by decide⟩
  | some x => exact h x (List.mem_of_getElem? hx)

def gapOf (l : List (Int × List UInt8)) (i : Nat) : Int := posOf l i - posOf l (i - 1)

theorem gap_any (sb base most : Nat) (l : List (Int × List UInt8)) (i : Nat) (a : Addr) (w : World) (h : StoreAt w base sb most l) (ha : w.cell? a = some (.pointer (some ⟨sb, 0, none⟩))) (h1 : 1 ≤ i) (hi : i < l.length) (hr : Ranged l) (hl : l.length ≤ 1000) :
    Calls Try.prog 32 #[.int .i64 i, .pointer (some a)] w fun e w' => e = .returned (.int .i64 (gapOf l i)) ∧ ∃ n, w' = w.drewN n := by
  obtain ⟨sv, it, h1', h2, h3⟩ := h
  obtain ⟨x, y, hx, hy, hxy⟩ := item_at h3 hi
  obtain ⟨x0, y0, hx0, hy0, hxy0⟩ := item_at h3 (show i - 1 < l.length by omega)
  obtain ⟨g, cap, rfl, hg, k0, k1, k2, bi⟩ := store_cells h1' h3 (Below.refl _ _) hx
  obtain ⟨g', cap', he, hg', k0', k1', k2', bi'⟩ := store_cells h1' h3 (Below.refl _ _) hx0
  cases he
  have e1 : posOf l i = x.1 := by unfold posOf; rw [List.getD_eq_getElem?_getD, hy, hxy.1]; rfl
  have e0 : posOf l (i - 1) = x0.1 := by unfold posOf; rw [List.getD_eq_getElem?_getD, hy0, hxy0.1]; rfl
  have r1 := hr.pos i
  have r0 := hr.pos (i - 1)
  rw [e1] at r1
  rw [e0] at r0
  have FIN : Hid (gapOf l i = x.1 - x0.1) := Lib.hid (by unfold gapOf; rw [e1, e0])
  have ew : IntKind.i64.wrap ((i : Int) - 1) = ((i - 1 : Nat) : Int) := by rw [show (i : Int) - 1 = ((i - 1 : Nat) : Int) by omega]; exact IntWalk.i64_in _ (by omega)
  have ei : (0 : Int) ≤ ((i - 1 : Nat) : Int) := Int.natCast_nonneg _
  have ei' : (0 : Int) ≤ (i : Int) := Int.natCast_nonneg _
  have eg : IntKind.i64.wrap (x.1 - x0.1) = x.1 - x0.1 := IntWalk.i64_in _ (by omega)
  obtain ⟨px, vx⟩ := x
  obtain ⟨py, vy⟩ := x0
  simp only at k1 k2 k1' k2' eg FIN
  clear hxy hxy0 hx hy hx0 hy0 e1 e0 r1 r0 hr h3 h1' k0' hg' h1 hi k2 k2'
  generalize hj : i - 1 = j at *
  clear hj
  go_enter Try.func32, Try.ntmps32
  go_wp2
  go_quiet (fail)
  go_wp2
  go_ret
  rw [FIN.out]
  exact ⟨rfl, _, rfl⟩
end Go.Proofs.Ytiagpaoomijidaa
