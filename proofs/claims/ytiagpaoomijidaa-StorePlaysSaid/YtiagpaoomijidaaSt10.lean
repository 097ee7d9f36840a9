import Derived.Test.YtiagpaoomijidaaSt9
import Derived.Deep.RegionLawGrows
namespace Go.Proofs.Ytiagpaoomijidaa
open Go.RowKit Go.Proofs
set_option linter.unusedVariables false

theorem info57 : (Try.prog.info? 57).map (fun i => (i.zero, i.size, i.bytes)) = some (some (.agg #[.int .i64 0, .slice none 0 0]), 2, 32) := by kernel_rfl

theorem one_of_row : ∀ (it : List (Int × Value)), (∀ x ∈ it, x.2.oneCell' = true) → ∀ u ∈ rowCells it, u.oneCell' = true
  | [], _, u, h => by simp [rowCells] at h
  | x :: it, hx, u, h => by
    rw [rowCells_cons] at h
    rcases List.mem_cons.1 h with e | h
    · rw [e]; rfl
    · rcases List.mem_cons.1 h with e | h
      · rw [e]; exact hx x (by simp)
      · exact one_of_row it (fun y hy => hx y (by simp [hy])) u h

theorem ItemsAt.one {w : World} {base : Nat} {sv : Value} {it : List (Int × Value)} {l : List (Int × List UInt8)} (h : ItemsAt w base sv it l) : ∀ x ∈ it, x.2.oneCell' = true := by
  intro x hx
  obtain ⟨i, hi, rfl⟩ := List.getElem_of_mem hx
  have hil : i < l.length := by have := h.len; omega
  obtain ⟨o, c, e⟩ := (h.pos i _ _ (List.getElem?_eq_getElem hi) (List.getElem?_eq_getElem hil)).2.form
  rw [e]; rfl

theorem own_form {w : World} {base : Nat} {e : TypeId} {size : Nat} {v : Value} {n : Nat} {xs : List Value} (h : w.ownsRow base e size v n xs) (hn : 0 < n) : ∃ g c, v = .slice (some ⟨g, 0, none⟩) n c := by
  rcases h.2 with ⟨_, h2⟩ | ⟨g, cap, cur, h1, h2⟩
  · omega
  · exact ⟨g, cap, h1⟩

theorem below_grown {w w1 : World} (h : w.drew.grownBy w1 none) : Below w.heap.size w w1 :=
  ((Below.refl _ _).drew).grown h (Nat.le_refl _) (fun k hk => by cases hk)

theorem eraseIdx_eq {α : Type} (l : List α) (i : Nat) : l.eraseIdx i = l.take i ++ l.drop (i + 1) := List.eraseIdx_eq_take_drop_succ l i

set_option maxRecDepth 100000 in
set_option maxHeartbeats 1000000 in
theorem drop_mid (sb g n cap i : Nat) (m : Value) (it : List (Int × Value)) (w : World) (h1 : w.heap[sb]? = some (.cells #[m, .slice (some ⟨g, 0, none⟩) n cap] 51 (0, 0)))
    (hown : RowAt w 0 (.slice (some ⟨g, 0, none⟩) n cap) n (rowCells it)) (hn : it.length = n) (h1' : ∀ x ∈ it, x.2.oneCell' = true) (hi : i + 1 < n) (hnc : n ≤ cap) (hn2 : n ≤ 1000) :
    Calls Try.prog 26 #[.pointer (some ⟨sb, 0, none⟩), .int .i64 i] w fun e w' => ∃ g' c' w1, e = .returned (.tuple #[]) ∧ w1.ownsRow w.heap.size 57 2 (.slice (some ⟨g', 0, none⟩) (n - 1) c') (n - 1) (rowCells (it.eraseIdx i)) ∧
      Below w.heap.size w w1 ∧ w' = w1.setCell ⟨sb, 1, none⟩ (.slice (some ⟨g', 0, none⟩) (n - 1) c') := by
  obtain ⟨i0, hi0, hz0, hz1, hz2⟩ := info_parts info57
  have hsb : sb < w.heap.size := (Array.getElem?_eq_some_iff.1 h1).1
  have c1 : w.cell? ⟨sb, 1, none⟩ = some (.slice (some ⟨g, 0, none⟩) n cap) := by simp [World.cell?, h1]
  have f1 : w.frozen? ⟨sb, 1, none⟩ = false := by simp [World.frozen?, h1]
  have hcells : ∀ j u, (rowCells it)[j]? = some u → w.cell? ((⟨g, 0, none⟩ : Addr).add j) = some u := fun j u hu => by rw [addr_add]; exact hown.cells j u hu
  have ho : Hid (∀ j u, (rowCells (it.take i))[j]? = some u → w.drew.cell? ((⟨g, 0, none⟩ : Addr).add j) = some u) := Lib.hid (fun j u hu => by
    rw [← rowCells_take, List.getElem?_take] at hu
    split at hu
    · exact hcells j u hu
    · cases hu)
  have hd : Hid (∀ j u, (rowCells (it.drop (i + 1)))[j]? = some u → w.drew.cell? ((⟨g, (i + 1) * 2, none⟩ : Addr).add j) = some u) := Lib.hid (fun j u hu => by
    rw [← rowCells_drop, List.getElem?_drop] at hu
    have := hcells _ u hu
    rw [addr_add] at this ⊢
    rw [Nat.zero_add] at this
    exact this)
  have s1 : Hid ((rowCells (it.take i)).length = i * 2) := Lib.hid (by rw [rowCells_len, List.length_take, Nat.min_eq_left (by omega)])
  have s2 : Hid ((rowCells (it.drop (i + 1))).length = (n - (i + 1)) * 2) := Lib.hid (by rw [rowCells_len, List.length_drop, hn])
  have s3 : Hid (∀ u ∈ rowCells (it.drop (i + 1)), u.oneCell' = true) := Lib.hid (one_of_row _ (fun x hx => h1' x (List.mem_of_mem_drop hx)))
  have FIN : Hid (rowCells (it.take i) ++ rowCells (it.drop (i + 1)) = rowCells (it.eraseIdx i)) := Lib.hid (by rw [eraseIdx_eq, rowCells_append])
  have hwr : IntKind.i64.wrap ((i : Int) + 1) = (i : Int) + 1 := IntWalk.i64_in _ (by omega)
  have hp0 : (0 : Int) ≤ (i : Int) + 1 := by omega
  have hp1 : (i : Int) + 1 ≤ (n : Int) := by omega
  have hp2 : ((i : Int) + 1).toNat = i + 1 := by omega
  have hq : (0 : Int) ≤ (i : Int) := Int.natCast_nonneg _
  have hq1 : (i : Int) ≤ (cap : Int) := by omega
  have hne : ¬ cap = i + 1 := by omega
  clear hcells hown h1' hn h1
  go_enter Try.func26, Try.ntmps26
  go_wp2_with fail
  go_region_law (refine step_append_grows rfl (.tmp 11) (.tmp 18) 49 rfl 57 i0 (.agg #[.int .i64 0, .slice none 0 0]) 2 32 Try.underlying49 hi0 hz0 hz1 hz2 rfl (by decide) (some ⟨g, 0, none⟩) i i (rowCells (it.take i)) (by simp [Act.eval, Act.put]) (by intro h; cases h) s1.out (by intro b hb; cases hb; exact ho.out) ⟨g, (i + 1) * 2, none⟩ (n - (i + 1)) (cap - (i + 1)) (rowCells (it.drop (i + 1))) (by simp [Act.eval, Act.put]) s2.out hd.out s3.out (by omega) (by unfold maxLen; omega) (by omega) ?_; intro v' w1 hown1 hgrow; obtain ⟨g', c', rfl⟩ := own_form hown1 (by omega); have hb1 := below_grown hgrow; have k1 := (hb1.cell (p := ⟨sb, 1, none⟩) hsb).trans c1; have e1 := (hb1.frozen (p := ⟨sb, 1, none⟩) hsb).trans f1)
  all_goals go_wp2
  all_goals go_end0
  all_goals
    have en : i + (n - (i + 1)) = n - 1 := by omega
    rw [en] at hown1
    refine ⟨g', c', w1, rfl, ?_, hb1, by rw [en]⟩
    have h := hown1
    rw [FIN.out] at h
    exact h

set_option maxRecDepth 100000 in
set_option maxHeartbeats 1000000 in
theorem drop_end (sb g cap i : Nat) (m : Value) (w : World) (h1 : w.heap[sb]? = some (.cells #[m, .slice (some ⟨g, 0, none⟩) (i + 1) cap] 51 (0, 0))) (hnc : i + 1 ≤ cap) (hn2 : i + 1 ≤ 1000) :
    Calls Try.prog 26 #[.pointer (some ⟨sb, 0, none⟩), .int .i64 i] w fun e w' => e = .returned (.tuple #[]) ∧ ∃ n, w' = (w.drewN n).setCell ⟨sb, 1, none⟩ (.slice (some ⟨g, 0, none⟩) i i) := by
  have hsb : sb < w.heap.size := (Array.getElem?_eq_some_iff.1 h1).1
  have c1 : w.cell? ⟨sb, 1, none⟩ = some (.slice (some ⟨g, 0, none⟩) (i + 1) cap) := by simp [World.cell?, h1]
  have f1 : w.frozen? ⟨sb, 1, none⟩ = false := by simp [World.frozen?, h1]
  have hwr : IntKind.i64.wrap ((i : Int) + 1) = (i : Int) + 1 := IntWalk.i64_in _ (by omega)
  have hp0 : (0 : Int) ≤ (i : Int) + 1 := by omega
  have hp1 : (i : Int) + 1 ≤ ((i + 1 : Nat) : Int) := by omega
  have hp2 : ((i : Int) + 1).toNat = i + 1 := by omega
  have hq : (0 : Int) ≤ (i : Int) := Int.natCast_nonneg _
  have hq1 : (i : Int) ≤ (cap : Int) := by omega
  clear h1
  by_cases hne : cap = i + 1
  · subst hne
    go_enter Try.func26, Try.ntmps26
    go_wp2_with fail
    go_region
    all_goals (go_end0; exact ⟨rfl, 1, rfl⟩)
  · go_enter Try.func26, Try.ntmps26
    go_wp2_with fail
    go_region
    all_goals (go_end0; exact ⟨rfl, 1, rfl⟩)
end Go.Proofs.Ytiagpaoomijidaa
