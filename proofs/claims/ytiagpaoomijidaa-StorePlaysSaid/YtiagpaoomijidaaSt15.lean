import Derived.Test.YtiagpaoomijidaaSt14
namespace Go.Proofs.Ytiagpaoomijidaa
open Go.RowKit Go.Proofs
set_option linter.unusedVariables false
set_option linter.unusedSimpArgs false

set_option maxRecDepth 100000 in
set_option maxHeartbeats 2000000 in
theorem insert_room (g n cap i vb base : Nat) (p : Int) (v : Value) (xs : List Value) (w : World) (hr : RowAt w base (.slice (some ⟨g, 0, none⟩) n cap) n xs) (hone : ∀ u ∈ xs, u.oneCell' = true) (hv : w.heap[vb]? = some (.cells #[.int .i64 p, v] 57 (0, 0))) (h1 : v.oneCell' = true)
    (hvg : vb ≠ g) (hn : n ≤ 1000) (hi : i < n) (hroom : n + 1 ≤ cap) :
    Calls Try.prog 23 #[.slice (some ⟨g, 0, none⟩) n cap, .int .i64 i, .slice (some ⟨vb, 0, none⟩) 1 1] w fun e w' => Inserted w w' base (.slice (some ⟨g, 0, none⟩) n cap) (xs.take (i * 2) ++ ([.int .i64 p, v] ++ xs.drop (i * 2))) e := by
  obtain ⟨r1, r2, r3, r4, r5⟩ := row_room hr
  have hxl := hr.1
  have hcells := hr.cells
  obtain ⟨cur, hcur, hcs, htk⟩ : ∃ cur, w.heap[g]? = some (.cells cur 57 (0, 0)) ∧ cap * 2 ≤ cur.size ∧ cur.toList.take (n * 2) = xs := by
    rcases hr.2 with ⟨h, _⟩ | ⟨g', cap', cur, h, h2, h3, h4, h5, h6, h7⟩
    · cases h
    · cases h; exact ⟨cur, h3, h6, h7⟩
  have hvo : ∀ u ∈ [Value.int .i64 p, v], u.oneCell' = true := by intro u hu; simp at hu; rcases hu with rfl | rfl; rfl; exact h1
  have hdl : (xs.drop (i * 2)).length = (n - i) * 2 := by rw [List.length_drop, hxl]; omega
  have hov : ∀ lb cb, (callFunc 30 #[.slice (some ⟨vb, 0, none⟩) 1 1, .slice (some ⟨g, (i + 1) * 2, none⟩) lb cb]).run Try.prog w = .ok (.value (.bool false)) w := fun lb cb => by
    rw [run_callFunc_extern Try.func30 (by kernel_rfl) (by kernel_rfl) (by kernel_rfl) (e := Extern.SlicesOverlaps.overlaps #[49, 49] #[4]) (by kernel_rfl),
      Lib.run_overlaps_apart w 49 4 57 Try.underlying49 2 size57 ⟨vb, 0, none⟩ ⟨g, (i + 1) * 2, none⟩ 1 1 lb cb hvg 57 57 2 cur.size (by simp [World.shape?, hv]) (by simp [World.shape?, hcur]) (by omega) (by simp [World.frozen?, hv]) (by simp [World.frozen?, hv])]
    rfl
  have hc1 : ∀ ty dL dC sL sC, dL = n - i → n - i ≤ sL → (Builtin.copy_ #[49, 49] ty #[.slice (some ⟨g, (i + 1) * 2, none⟩) dL dC, .slice (some ⟨g, i * 2, none⟩) sL sC]).run Try.prog w.drew = .ok (goInt ((n - i : Nat) : Int)) (w.drew.setCells g ((i + 1) * 2) (xs.drop (i * 2))) := fun ty dL dC sL sC hdL hsL =>
    run_copy2 w.drew ty g ((i + 1) * 2) dL dC ⟨g, i * 2, none⟩ sL sC (xs.drop (i * 2)) (n - i) (by show n - i = min sL dL; omega) hdl
      (fun j u hu => by
        rw [addr_add]
        have := hcells _ u (mid_get j u hu)
        rw [Nat.zero_add] at this
        exact this)
      (fun j hj => by
        rw [hdl] at hj
        exact (r5 _ (by omega)).1)
      (fun j hj => by
        rw [hdl] at hj
        exact (r5 _ (by omega)).2)
      (fun u hu => hone u (List.mem_of_mem_drop hu))
  obtain ⟨W1, hW1⟩ : ∃ W1, W1 = w.drew.setCells g ((i + 1) * 2) (xs.drop (i * 2)) := ⟨_, rfl⟩
  have hold1 : ∀ k, k ≠ g → W1.heap[k]? = w.heap[k]? := fun k hk => by rw [hW1, setCells_other hk]; rfl
  have hnew1 : W1.heap[g]? = some (.cells (spl cur ((i + 1) * 2) (xs.drop (i * 2))) 57 (0, 0)) := by rw [hW1]; exact setCells_block (w := w) _ _ _ _ hcur
  have hc2 : ∀ ty dL dC, 1 ≤ dL → (Builtin.copy_ #[49, 49] ty #[.slice (some ⟨g, i * 2, none⟩) dL dC, .slice (some ⟨vb, 0, none⟩) 1 1]).run Try.prog W1 = .ok (goInt 1) (W1.setCells g (i * 2) [.int .i64 p, v]) := fun ty dL dC hdL =>
    run_copy2 W1 ty g (i * 2) dL dC ⟨vb, 0, none⟩ 1 1 [.int .i64 p, v] 1 (by show 1 = min 1 dL; omega) rfl (item_cells (by rw [hold1 vb hvg]; exact hv))
      (fun j hj => by rw [cell_block hnew1, Array.getElem?_eq_getElem (by rw [spl_size]; simp at hj; omega)]; rfl) (fun j hj => by simp [World.frozen?, hnew1]) hvo
  rw [← hW1] at hc1
  have FIN : Hid (Inserted w (W1.setCells g (i * 2) [.int .i64 p, v]) base (.slice (some ⟨g, 0, none⟩) n cap) (xs.take (i * 2) ++ ([.int .i64 p, v] ++ xs.drop (i * 2))) (.returned (.slice (some ⟨g, 0, none⟩) (n + 1) cap))) := Lib.hid (by
    have el : (xs.take (i * 2) ++ ([.int .i64 p, v] ++ xs.drop (i * 2))).length = (n + 1) * 2 := by simp [hxl]; omega
    have e2 : (xs.take (i * 2) ++ ([.int .i64 p, v] ++ xs.drop (i * 2))).length / 2 = n + 1 := by rw [el]; omega
    obtain ⟨W, hW⟩ : ∃ W, W = W1.setCells g (i * 2) [.int .i64 p, v] := ⟨_, rfl⟩
    rw [← hW]
    have ho : W.os = w.os := by rw [hW, setCells_os, hW1, setCells_os]; rfl
    have ht : W.tape = w.tape := by rw [hW, setCells_tape, hW1, setCells_tape]; rfl
    have hp : W.output = w.output := by rw [hW, setCells_output, hW1, setCells_output]; rfl
    have hlast : W.heap[g]? = some (.cells (spl (spl cur ((i + 1) * 2) (xs.drop (i * 2))) (i * 2) [.int .i64 p, v]) 57 (0, 0)) := by rw [hW]; exact setCells_block (w := w) _ _ _ _ hnew1
    refine ⟨_, rfl, ?_, ⟨ho, ht, hp, ?_, fun k hk hne => ?_⟩⟩
    · rw [e2]
      refine ⟨el, .inr ⟨g, cap, _, rfl, r1, hlast, hroom, r3, by rw [spl_size, spl_size]; exact hcs, ?_⟩⟩
      rw [spl_list _ _ _ (by rw [spl_size]; simp; omega), spl_list _ _ _ (by rw [hdl]; omega)]
      have e3 : (cur.toList.take ((i + 1) * 2)).length = (i + 1) * 2 := by rw [List.length_take, Array.length_toList]; omega
      have e4 : (cur.toList.take ((i + 1) * 2) ++ (xs.drop (i * 2) ++ cur.toList.drop ((i + 1) * 2 + (xs.drop (i * 2)).length))).take (i * 2) = xs.take (i * 2) := by
        rw [List.take_append_of_le_length (by omega), List.take_take, ← htk, List.take_take]
        congr 1; omega
      have e5 : (cur.toList.take ((i + 1) * 2) ++ (xs.drop (i * 2) ++ cur.toList.drop ((i + 1) * 2 + (xs.drop (i * 2)).length))).drop (i * 2 + [Value.int .i64 p, v].length) = xs.drop (i * 2) ++ cur.toList.drop ((i + 1) * 2 + (xs.drop (i * 2)).length) := by
        exact List.drop_left' (by rw [e3]; simp; omega)
      rw [e4, e5]
      rw [← List.append_assoc [Value.int .i64 p, v], ← List.append_assoc]
      exact List.take_left' el
    · rw [hW, setCells_size, hW1, setCells_size]
      exact Nat.le_refl _
    · have hkg : k ≠ g := fun e => hne (by subst e; rfl)
      rw [hW, setCells_other hkg]
      exact hold1 k hkg)
  have hw1 : IntKind.i64.wrap ((n : Int) + 1) = (n : Int) + 1 := IntWalk.i64_in _ (by omega)
  have hw3 : IntKind.i64.wrap ((i : Int) + 1) = (i : Int) + 1 := IntWalk.i64_in _ (by omega)
  have hp2 : ((i : Int) + 1).toNat = i + 1 := by omega
  have hp3 : ((n : Int) + 1).toNat = n + 1 := by omega
  have hp0 : (0 : Int) ≤ (i : Int) + 1 := by omega
  have hp4 : (0 : Int) ≤ (n : Int) + 1 := by omega
  have hp1 : (i : Int) + 1 ≤ (n : Int) + 1 := by omega
  have hp5 : (n : Int) + 1 ≤ (cap : Int) := by omega
  have hp6 : (i : Int) ≤ (n : Int) + 1 := by omega
  have hi0 : (0 : Int) ≤ (i : Int) := Int.natCast_nonneg _
  have hi1 : (i : Int) ≤ (n : Int) := by omega
  have hne2 : ¬ (i : Int) = (n : Int) := by omega
  have hb2 : ¬ cap = i + 1 := by omega
  have hb4 : ¬ cap = i := by omega
  have HC1 := Lib.hid hc1
  have HC2 := Lib.hid hc2
  clear hcells hr hv hxl r5 hc1 hc2 hW1 hold1 hnew1 hvo hone hdl hcur hcs htk
  go_enter Try.func23, Try.ntmps23
  go_wp2_with (simp only [hov])
  go_region_law (refine Go.Proofs.step_copy_runI rfl _ _ 49 49 rfl _ _ (by simp [Act.eval, Act.put]) (by simp [Act.eval, Act.put]) (HC1.out _ (n + 1 - (i + 1)) (cap - (i + 1)) (n + 1 - i) (cap - i) (by omega) (by omega)) ?_)
  all_goals go_wp2
  all_goals go_wp2_with (rw [HC2.out 3 (n + 1 - i) (cap - i) (by omega)])
  all_goals go_ret
  all_goals exact FIN.out
end Go.Proofs.Ytiagpaoomijidaa
