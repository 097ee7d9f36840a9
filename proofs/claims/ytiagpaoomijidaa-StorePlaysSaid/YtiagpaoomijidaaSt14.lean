import Derived.Test.YtiagpaoomijidaaSt13
import Derived.Shelf.Spec.SlicesInsert
namespace Go.Proofs.Ytiagpaoomijidaa
open Go.RowKit Go.Proofs
set_option linter.unusedVariables false
set_option linter.unusedSimpArgs false

theorem mid_get {xs : List Value} {i : Nat} : ∀ j u, (xs.drop (i * 2))[j]? = some u → xs[i * 2 + j]? = some u := fun j u h => by rwa [List.getElem?_drop] at h

set_option maxRecDepth 100000 in
set_option maxHeartbeats 2000000 in
theorem insert_grow (g n i vb base : Nat) (p : Int) (v : Value) (xs : List Value) (w : World) (hr : RowAt w base (.slice (some ⟨g, 0, none⟩) n n) n xs) (hone : ∀ u ∈ xs, u.oneCell' = true) (hv : w.heap[vb]? = some (.cells #[.int .i64 p, v] 57 (0, 0))) (h1 : v.oneCell' = true)
    (hb : base ≤ w.heap.size) (hn : n ≤ 1000) (hi : i < n) :
    Calls Try.prog 23 #[.slice (some ⟨g, 0, none⟩) n n, .int .i64 i, .slice (some ⟨vb, 0, none⟩) 1 1] w fun e w' => Inserted w w' base (.slice (some ⟨g, 0, none⟩) n n) (xs.take (i * 2) ++ ([.int .i64 p, v] ++ xs.drop (i * 2))) e := by
  have hvb : vb < w.heap.size := (Array.getElem?_eq_some_iff.1 hv).1
  obtain ⟨r1, r2, r3, r4, r5⟩ := row_room hr
  have hxl := hr.1
  have hcells := hr.cells
  obtain ⟨nc, hnc⟩ : ∃ nc, nc = grownCap w (i + (n + 1 - i)) n 57 := ⟨_, rfl⟩
  have hge : i + (n + 1 - i) ≤ nc := by rw [hnc]; exact grownCap_ge _ _ _ _
  have hle : nc ≤ maxLen := by rw [hnc]; exact grownCap_le_maxLen _ _ _ _ (by unfold maxLen; omega)
  obtain ⟨R, hR⟩ : ∃ R : Array Value, R = ⟨xs.take (i * 2)⟩ ++ Builtin.zeroCells #[.int .i64 0, .slice none 0 0] (n + 1 - i) ++ Builtin.zeroCells #[.int .i64 0, .slice none 0 0] (nc - (i + (n + 1 - i))) := ⟨_, rfl⟩
  have hRs : R.size = nc * 2 := by
    rw [hR]; simp only [Array.size_append, List.size_toArray, size_zeroCells, List.length_take]; simp; omega
  have hz : ∀ ty, (Builtin.append_ #[49, 3] ty #[.slice (some ⟨g, 0, none⟩) i n, .int .i64 ((n + 1 - i : Nat) : Int)]).run Try.prog w = .ok (.slice (some ⟨w.heap.size, 0, none⟩) (i + (n + 1 - i)) nc) (w.drew.alloc (.cells R 57)) := by
    intro ty
    have h := run_zeros w ty g i n (n + 1 - i) (xs.take (i * 2)) (by rw [List.length_take]; omega) (fun j u hu => by
      rw [addr_add]
      rw [List.getElem?_take] at hu
      split at hu
      · exact hcells j u hu
      · cases hu) (by omega) (by omega) (by omega)
    rw [← hnc, ← hR] at h
    exact h
  have hw1 : IntKind.i64.wrap ((n : Int) + 1) = (n : Int) + 1 := IntWalk.i64_in _ (by omega)
  have hw2 : IntKind.i64.wrap ((n : Int) + 1 - (i : Int)) = ((n + 1 - i : Nat) : Int) := by rw [IntWalk.i64_in _ (by omega)]; omega
  have hw3 : IntKind.i64.wrap ((i : Int) + 1) = (i : Int) + 1 := IntWalk.i64_in _ (by omega)
  have hp2 : ((i : Int) + 1).toNat = i + 1 := by omega
  have hp0 : (0 : Int) ≤ (i : Int) + 1 := by omega
  have hp1 : (i : Int) + 1 ≤ (n : Int) + 1 := by omega
  have hi0 : (0 : Int) ≤ (i : Int) := Int.natCast_nonneg _
  have hi1 : (i : Int) ≤ (n : Int) := by omega
  have hne : ¬ n = i := by omega
  have hne2 : ¬ (i : Int) = (n : Int) := by omega
  have hnc1 : ¬ nc = i := by omega
  have hq1 : (1 : Int) ≤ ((n + 1 - i : Nat) : Int) := by omega
  have hnc2 : ¬ nc = i + 1 := by omega
  -- the copies
  have hvo : ∀ u ∈ [Value.int .i64 p, v], u.oneCell' = true := by intro u hu; simp at hu; rcases hu with rfl | rfl; rfl; exact h1
  obtain ⟨W0, hW0⟩ : ∃ W0, W0 = w.drew.alloc (.cells R 57) := ⟨_, rfl⟩
  have hold : ∀ k, k < w.heap.size → W0.heap[k]? = w.heap[k]? := fun k hk => by rw [hW0]; exact Below.heap_alloc w.drew _ k hk
  have hnew : W0.heap[w.heap.size]? = some (.cells R 57 (0, 0)) := by rw [hW0]; show (w.heap.push _)[w.heap.size]? = _; simp
  have hc1 : ∀ ty dL dC, 1 ≤ dL → (Builtin.copy_ #[49, 49] ty #[.slice (some ⟨w.heap.size, i * 2, none⟩) dL dC, .slice (some ⟨vb, 0, none⟩) 1 1]).run Try.prog W0 = .ok (goInt 1) (W0.setCells w.heap.size (i * 2) [.int .i64 p, v]) := fun ty dL dC hdL =>
    run_copy2 W0 ty w.heap.size (i * 2) dL dC ⟨vb, 0, none⟩ 1 1 [.int .i64 p, v] 1 (by show 1 = min 1 dL; omega) rfl (item_cells (by rw [hold vb hvb]; exact hv))
      (fun j hj => by rw [cell_block hnew, Array.getElem?_eq_getElem (by simp at hj; omega)]; rfl) (fun j hj => by simp [World.frozen?, hnew]) hvo
  obtain ⟨W1, hW1⟩ : ∃ W1, W1 = W0.setCells w.heap.size (i * 2) [.int .i64 p, v] := ⟨_, rfl⟩
  have hold1 : ∀ k, k < w.heap.size → W1.heap[k]? = w.heap[k]? := fun k hk => by rw [hW1, setCells_other (by omega)]; exact hold k hk
  have hnew1 : W1.heap[w.heap.size]? = some (.cells (spl R (i * 2) [.int .i64 p, v]) 57 (0, 0)) := by rw [hW1]; exact setCells_block (w := w) _ _ _ _ hnew
  have hc2 : ∀ ty dL dC sC, n - i ≤ dL → (Builtin.copy_ #[49, 49] ty #[.slice (some ⟨w.heap.size, (i + 1) * 2, none⟩) dL dC, .slice (some ⟨g, i * 2, none⟩) (n - i) sC]).run Try.prog W1.drew =   .ok (goInt ((n - i : Nat) : Int)) (W1.drew.setCells w.heap.size ((i + 1) * 2) (xs.drop (i * 2))) := fun ty dL dC sC hdL =>
    run_copy2 W1.drew ty w.heap.size ((i + 1) * 2) dL dC ⟨g, i * 2, none⟩ (n - i) sC (xs.drop (i * 2)) (n - i) (by show n - i = min (n - i) dL; omega) (by rw [List.length_drop]; omega)
      (fun j u hu => by
        rw [addr_add]
        have := hcells _ u (mid_get j u hu)
        rw [Nat.zero_add] at this
        rw [← this]
        exact World.cell?_of_block (hold1 g r4))
      (fun j hj => by
        rw [List.length_drop] at hj
        rw [show W1.drew.cell? ⟨w.heap.size, (i + 1) * 2 + j, none⟩ = W1.cell? ⟨w.heap.size, (i + 1) * 2 + j, none⟩ from rfl, cell_block hnew1, Array.getElem?_eq_getElem (by rw [spl_size]; omega)]; rfl)
      (fun j hj => by show W1.frozen? _ = false; simp [World.frozen?, hnew1])
      (fun u hu => hone u (List.mem_of_mem_drop hu))
  rw [← hW0] at hz
  rw [← hW1] at hc1
  have FIN : Hid (Inserted w (W1.drew.setCells w.heap.size ((i + 1) * 2) (xs.drop (i * 2))) base (.slice (some ⟨g, 0, none⟩) n n) (xs.take (i * 2) ++ ([.int .i64 p, v] ++ xs.drop (i * 2))) (.returned (.slice (some ⟨w.heap.size, 0, none⟩) (i + (n + 1 - i)) nc))) := Lib.hid (by
    have el : (xs.take (i * 2) ++ ([Value.int .i64 p, v] ++ xs.drop (i * 2))).length = (n + 1) * 2 := by simp [hxl]; omega
    have e2 : (xs.take (i * 2) ++ ([Value.int .i64 p, v] ++ xs.drop (i * 2))).length / 2 = n + 1 := by rw [el]; omega
    obtain ⟨W, hW⟩ : ∃ W, W = W1.drew.setCells w.heap.size ((i + 1) * 2) (xs.drop (i * 2)) := ⟨_, rfl⟩
    rw [← hW]
    have ho : W.os = w.os := by rw [hW, setCells_os]; show W1.os = _; rw [hW1, setCells_os, hW0]; rfl
    have ht : W.tape = w.tape := by rw [hW, setCells_tape]; show W1.tape = _; rw [hW1, setCells_tape, hW0]; rfl
    have hp : W.output = w.output := by rw [hW, setCells_output]; show W1.output = _; rw [hW1, setCells_output, hW0]; rfl
    have hlast : W.heap[w.heap.size]? = some (.cells (spl (spl R (i * 2) [.int .i64 p, v]) ((i + 1) * 2) (xs.drop (i * 2))) 57 (0, 0)) := by rw [hW]; exact setCells_block (w := w) _ _ _ _ hnew1
    have hdl : (xs.drop (i * 2)).length = n * 2 - i * 2 := by rw [List.length_drop, hxl]
    refine ⟨_, rfl, ?_, ⟨ho, ht, hp, ?_, fun k hk _ => ?_⟩⟩
    · rw [e2, show i + (n + 1 - i) = n + 1 by omega]
      refine ⟨el, .inr ⟨w.heap.size, nc, _, rfl, hb, hlast, by omega, hle, by rw [spl_size, spl_size, hRs]; exact Nat.le_refl _, ?_⟩⟩
      rw [spl_list _ _ _ (by rw [spl_size, hRs, hdl]; omega), spl_list _ _ _ (by rw [hRs]; simp; omega)]
      have eR : R.toList.take (i * 2) = xs.take (i * 2) := by
        rw [hR]
        simp only [Array.toList_append, List.append_assoc]
        exact List.take_left' (by rw [List.length_take]; omega)
      rw [eR]
      have et : (xs.take (i * 2) ++ ([Value.int .i64 p, v] ++ R.toList.drop (i * 2 + [Value.int .i64 p, v].length))).take ((i + 1) * 2) = xs.take (i * 2) ++ [.int .i64 p, v] := by
        rw [← List.append_assoc]
        exact List.take_left' (by simp [List.length_take]; omega)
      rw [et, ← List.append_assoc]
      rw [List.take_left' (by rw [List.length_append, List.length_append, List.length_take, hdl]; simp; omega)]
      simp
    · rw [hW, setCells_size]
      have := (Array.getElem?_eq_some_iff.1 hnew1).1
      show w.heap.size ≤ W1.heap.size
      omega
    · rw [hW, setCells_other (by omega)]
      exact hold1 k hk)
  have HC1 := Lib.hid hc1
  have HC2 := Lib.hid hc2
  have hz' := Lib.hid hz
  clear hz hR hnc hcells hr hv hxl r5 hc1 hc2 hW0 hW1 hold hnew hold1 hnew1 hvo hone
  go_enter Try.func23, Try.ntmps23
  go_wp2_with (first
    | (at_builtin; refine Lib.wpList_append_run _ rfl _ _ 49 3 rfl _ _ rfl rfl _ _ (hz'.out _) ?_)
    | (refine wpList_copy_runI _ rfl _ _ 49 49 rfl _ _ rfl rfl (HC1.out _ _ _ (by omega)) ?_))
  go_region_law (refine Go.Proofs.step_copy_runI rfl _ _ 49 49 rfl _ _ (by simp [Act.eval, Act.put]) (by simp [Act.eval, Act.put]) (HC2.out _ (i + (n + 1 - i) - (i + 1)) (nc - (i + 1)) (n - i) (by omega)) ?_)
  all_goals go_wp2
  all_goals go_ret
  all_goals exact FIN.out
end Go.Proofs.Ytiagpaoomijidaa
