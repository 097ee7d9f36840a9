import Derived.Test.YtiagpaoomijidaaSt19
import Derived.Test.YtiagpaoomijidaaSt7
import Derived.Deep.QuietTactic
import Derived.BigQuiet
namespace Go.Proofs.Ytiagpaoomijidaa
open Go.RowKit Go.Proofs
set_option linter.unusedVariables false

/-- Numbers that are read somewhere. -/
def IntsIn (w : World) (v : Value) (l : List Int) : Prop :=
  ∃ so c, v = .slice so l.length c ∧ ∀ i, i < l.length → ∃ a, so = some a ∧ w.cell? (a.add i) = some (.int .i64 (l.getD i 0))

theorem IntsAt.isIn {w : World} {base : Nat} {v : Value} {l : List Int} (h : IntsAt w base v l) : IntsIn w v l := by
  rcases h.2 with ⟨h1, h2⟩ | ⟨g, cap, cur, h1, h2⟩
  · exact ⟨none, 0, by rw [h2]; exact h1, fun i hi => by omega⟩
  · subst h1
    refine ⟨some ⟨g, 0, none⟩, cap, rfl, fun i hi => ⟨_, rfl, ?_⟩⟩
    refine World.ownsRow.cells h rfl i _ ?_
    rw [List.getElem?_map, List.getElem?_eq_getElem hi, List.getD_eq_getElem?_getD, List.getElem?_eq_getElem hi]; rfl
theorem IntsIn.below {w w' : World} {v : Value} {l : List Int} (h : IntsIn w v l) (hb : Below w.heap.size w w') : IntsIn w' v l := by
  obtain ⟨so, c, h1, h2⟩ := h
  refine ⟨so, c, h1, fun i hi => ?_⟩
  obtain ⟨a, h3, h4⟩ := h2 i hi
  exact ⟨a, h3, by rw [hb.cell (World.block_lt_of_cell? w _ h4)]; exact h4⟩

theorem same_len (va vb : Value) (la lb : List Int) (w : World) (ha : IntsIn w va la) (hb : IntsIn w vb lb) (hne : la.length ≠ lb.length) :
    Calls Try.prog 15 #[va, vb] w fun e w' => e = .returned (.bool (decide (la = lb))) ∧ Below w.heap.size w w' := by
  obtain ⟨sa, ca, rfl, ha'⟩ := ha
  obtain ⟨s2, cb, rfl, hb'⟩ := hb
  have hd : decide (la = lb) = false := by simpa using (fun e => hne (by rw [e]) : la ≠ lb)
  rw [hd]
  have hn2 : ¬ (la.length : Int) = (lb.length : Int) := by omega
  clear ha' hb' hd
  go_enter Try.func15, Try.ntmps15
  go_wp2
  go_ret
  exact ⟨rfl, Below.refl _ _⟩

theorem same_eq (va vb : Value) (la lb : List Int) (w : World) (ha : IntsIn w va la) (hb : IntsIn w vb lb) (he : la.length = lb.length) (hl : la.length ≤ 100000) :
    Calls Try.prog 15 #[va, vb] w fun e w' => e = .returned (.bool (decide (la = lb))) ∧ Below w.heap.size w w' := by
  obtain ⟨sa, ca, rfl, ha'⟩ := ha
  obtain ⟨s2, cb, rfl, hb'⟩ := hb
  rw [← he] at hb' ⊢
  have HA := Lib.hid ha'
  have HB := Lib.hid hb'
  clear ha' hb'
  go_enter Try.func15, Try.ntmps15
  go_wp2
  go_loopg [5] la.length (fun kx s5 wr => ∃ k : Nat, s5 = .int .i64 k ∧ k ≤ la.length ∧ la.length - k ≤ kx ∧ Aside (Below w.heap.size w wr) ∧ Aside (∀ t, t < k → la.getD t 0 = lb.getD t 0))
  case atStart => exact ⟨0, rfl, Nat.zero_le _, by omega, Below.refl _ _, fun t h => absurd h (Nat.not_lt_zero _)⟩
  case round =>
    obtain ⟨k, rfl, hk, hg, S1, I1⟩ := hrel
    by_cases hlt : k < la.length
    · obtain ⟨a, rfl, k1⟩ := HA.out k hlt
      obtain ⟨a2, rfl, k2⟩ := HB.out k hlt
      have c1 : wr.cell? (a.add k) = some (.int .i64 (la.getD k 0)) := by rw [S1.out.cell (World.block_lt_of_cell? w _ k1)]; exact k1
      have c2 : wr.cell? (a2.add k) = some (.int .i64 (lb.getD k 0)) := by rw [S1.out.cell (World.block_lt_of_cell? w _ k2)]; exact k2
      have E1 : Hid (∀ x y, la.getD k 0 = x → lb.getD k 0 = y → x = y → ∀ t, t < k + 1 → la.getD t 0 = lb.getD t 0) := Lib.hid fun x y h1 h2 h3 t ht => by
        rcases Nat.lt_or_ge t k with h | h
        · exact I1.out t h
        · obtain rfl : t = k := by omega
          rw [h1, h2, h3]
      have E2 : Hid (∀ x y, la.getD k 0 = x → lb.getD k 0 = y → x ≠ y → decide (la = lb) = false) := Lib.hid fun x y h1 h2 h3 => by
        rw [decide_eq_false_iff_not]
        rintro rfl
        exact h3 (h1.symm.trans h2)
      clear k1 k2 HA HB
      generalize hx : la.getD k 0 = x at c1
      generalize hy : lb.getD k 0 = y at c2
      have HX := Lib.hid hx
      have HY := Lib.hid hy
      clear hx hy
      have hk0 : (0 : Int) ≤ (k : Int) := Int.natCast_nonneg _
      have hk1 : (k : Int) < (la.length : Int) := by omega
      have hk2 : (k : Int) < (lb.length : Int) := by omega
      by_cases hxy : x = y
      · subst hxy
        go_wp2_with fail
        go_quiet (fail)
        go_wp2
        go_roundg (la.length - (k + 1))
        case measure => omega
        case rel => exact ⟨k + 1, by go_num, by omega, Nat.le_refl _, below_drewN S1.out, E1.out _ _ HX.out HY.out rfl⟩
      · go_wp2_with fail
        go_quiet (fail)
        go_wp2
        go_ret
        exact ⟨by rw [E2.out _ _ HX.out HY.out hxy]; rfl, below_drewN S1.out⟩
    · obtain rfl : k = la.length := by omega
      go_wp2
      go_ret
      refine ⟨?_, S1.out⟩
      have e : la = lb := List.ext_getElem he fun t h1 h2 => by
        have := I1.out t h1
        rw [List.getD_eq_getElem?_getD, List.getD_eq_getElem?_getD, List.getElem?_eq_getElem h1, List.getElem?_eq_getElem h2] at this
        exact this
      rw [decide_eq_true e]; rfl
theorem same_any (va vb : Value) (la lb : List Int) (w : World) (ha : IntsIn w va la) (hb : IntsIn w vb lb) (hl : la.length ≤ 100000) :
    Calls Try.prog 15 #[va, vb] w fun e w' => e = .returned (.bool (decide (la = lb))) ∧ Below w.heap.size w w' := by
  by_cases he : la.length = lb.length
  · exact same_eq va vb la lb w ha hb he hl
  · exact same_len va vb la lb w ha hb he
end Go.Proofs.Ytiagpaoomijidaa
