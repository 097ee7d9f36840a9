/- EvalNil: the law's walk. -/
import Derived.Test.YtfdbkfehkolpmaaGreatDoorEv3
namespace Go.Proofs.YtfdbkfehkolpmaaGreatDoor
open Go Go.Proofs Go.Eng Go.RowKit
set_option linter.unusedVariables false
set_option linter.unusedSimpArgs false

section
variable {a0 : List Value} {a1 a2 : Value}

theorem env_ok (o0 : ∀ x ∈ a0, Value.one x = true) (o1 : Value.one a1 = true) (o2 : Value.one a2 = true) : EnvOk (envL hv (a0 ++ ([a1] ++ ([a2] ++ ([]))))) := by
  refine envL_ok rfl fun x hx => ?_
  simp only [List.mem_append, List.mem_singleton, List.not_mem_nil, or_false] at hx
  rcases hx with hx | hx | hx
  · exact o0 x hx
  · rw [hx]; exact o1
  · rw [hx]; exact o2

theorem rel0 (e0 : a0.length = 5) (w : World) : VRel (globR 8 w) (envL hv (a0 ++ ([a1] ++ ([a2] ++ ([]))))) (.agg (symsFrom 0 5)) (.agg ⟨a0⟩) := by
  have h := vrels_syms (ρ := globR 8 w) (hv := hv) a0 ([] : List Value) ([a1] ++ ([a2] ++ ([])))
  have hl : ([] : List Value).length = 0 := by simp
  rw [hl, e0] at h
  refine VRels.agg ?_
  simpa [List.append_assoc] using h
theorem rel1 (e0 : a0.length = 5) (w : World) : VRel (globR 8 w) (envL hv (a0 ++ ([a1] ++ ([a2] ++ ([]))))) (.sym 5) a1 := by
  have h := vrel_sym (ρ := globR 8 w) (hv := hv) (a1) ((a0) : List Value) ([a2] ++ ([]))
  rw [e0] at h
  simpa [List.append_assoc] using h
theorem rel2 (e0 : a0.length = 5) (w : World) : VRel (globR 8 w) (envL hv (a0 ++ ([a1] ++ ([a2] ++ ([]))))) (.sym 6) a2 := by
  have h := vrel_sym (ρ := globR 8 w) (hv := hv) (a2) ((a0 ++ [a1]) : List Value) ([])
  have hl : ((a0 ++ [a1]) : List Value).length = 6 := by simp [e0]
  rw [hl] at h
  simpa [List.append_assoc] using h

theorem run_ok (o0 : ∀ x ∈ a0, Value.one x = true) (o1 : Value.one a1 = true) (o2 : Value.one a2 = true) : CallOk Tryz.prog (envL hv (a0 ++ ([a1] ++ ([a2] ++ ([]))))) (okcP Tryz.prog) 8 (callF Tryz.prog X0 noExt 100) :=
  callF_ok (P := Tryz.prog) (X := X0) prog_names (env_ok o0 o1 o2) nofacts prog_mix prog_ok noExt_ok 100

theorem eval_calls (e0 : a0.length = 5) (o0 : ∀ x ∈ a0, Value.one x = true) (o1 : Value.one a1 = true) (o2 : Value.one a2 = true) (w : World) (hg : Globs hv w gl) (hng : 8 ≤ w.heap.size) :
    Calls Tryz.prog 6 #[.agg ⟨a0⟩, a2, .pointer none, .slice none 0 0] w fun e w' => e = .returned (.tuple #[.agg #[.int .i64 0, .int .i64 0, .string ⟨#[]⟩], .int .i64 1]) ∧ Below w.heap.size w w' := by
  have hK : envL hv (a0 ++ ([a1] ++ ([a2] ++ ([])))) KH = hv := envL_K (by simp [KH, e0])
  refine (val_calls hK rfl (run_ok o0 o1 o2) gl_lt (eval_run (globElem w)) (by kernel_rfl) hng hg (.cons (rel0 e0 w) (.cons (rel2 e0 w) (.cons .nptr (.cons .nslc .nil))))).mono ?_
  rintro e w' ⟨⟨y, ρ, rfl, hy⟩, hb⟩
  obtain ⟨l, rfl, hl⟩ := hy.of_tup
  obtain ⟨x, z, rfl, hx, hz⟩ := vrels2 hl
  obtain ⟨l2, rfl, hl2⟩ := hx.of_agg
  obtain ⟨p, q, r, rfl, hp, hq, hr⟩ := vrels3 hl2
  rw [hp.of_int, hq.of_int, vrel_str0 hr, hz.of_int]
  exact ⟨rfl, hb⟩
theorem text_calls (e0 : a0.length = 5) (o0 : ∀ x ∈ a0, Value.one x = true) (o1 : Value.one a1 = true) (o2 : Value.one a2 = true) (w : World) (hg : Globs hv w gl) (hng : 8 ≤ w.heap.size) :
    Calls Tryz.prog 7 #[a1, a2, .pointer none, .slice none 0 0] w fun e w' => e = .returned (.tuple #[.string ⟨#[]⟩, .int .i64 1]) ∧ Below w.heap.size w w' := by
  have hK : envL hv (a0 ++ ([a1] ++ ([a2] ++ ([])))) KH = hv := envL_K (by simp [KH, e0])
  refine (val_calls hK rfl (run_ok o0 o1 o2) gl_lt (text_run (globElem w)) (by kernel_rfl) hng hg (.cons (rel1 e0 w) (.cons (rel2 e0 w) (.cons .nptr (.cons .nslc .nil))))).mono ?_
  rintro e w' ⟨⟨y, ρ, rfl, hy⟩, hb⟩
  obtain ⟨l, rfl, hl⟩ := hy.of_tup
  obtain ⟨x, z, rfl, hx, hz⟩ := vrels2 hl
  rw [vrel_str0 hx, hz.of_int]
  exact ⟨rfl, hb⟩
end

theorem below_calls (w : World) (hg : Globs hv w gl) (hng : 8 ≤ w.heap.size) :
    Calls Tryz.prog 8 #[.agg #[.int .i64 1, .int .i64 1, .string ⟨#[]⟩], .agg #[.int .i64 1, .int .i64 2, .string ⟨#[]⟩]] w fun e w' => e = .returned (.bool true) ∧ Below w.heap.size w w' := by
  have s0 : ∀ {ρ : Rho}, VRel ρ (fun _ => hv) (.str 0 0) (.string ⟨#[]⟩) := VRel.of_string ⟨#[]⟩
  refine (val_calls (env := fun _ => hv) rfl rfl (callF_ok (P := Tryz.prog) (X := X0) prog_names (fun _ => rfl) nofacts prog_mix prog_ok noExt_ok 100) gl_lt (below_run (globElem w)) (by kernel_rfl) hng hg
    (.cons (VRels.agg (.cons (.int _ _) (.cons (.int _ _) (.cons s0 .nil)))) (.cons (VRels.agg (.cons (.int _ _) (.cons (.int _ _) (.cons s0 .nil)))) .nil))).mono ?_
  rintro e w' ⟨⟨y, ρ, rfl, hy⟩, hb⟩
  rw [hy.of_bool]
  exact ⟨rfl, hb⟩

set_option maxRecDepth 100000 in
theorem num_any (n : Int) (w : World) : Calls Tryz.prog 9 #[.int .i64 n] w fun e w' => e = .returned (.agg #[.int .i64 1, .int .i64 n, .string ⟨#[]⟩]) ∧ Below w.heap.size w w' := by
  go_enter Tryz.func9, Tryz.ntmps9
  go_wp2
  refine bodyPost_ret (results_cell_row rfl _ _ w.heap.size 31 _ (0, 0) _ rfl (heap_alloc_new _ _) Tryz.underlying31 rfl (by kernel_rfl)) rfl ?_
  exact ⟨rfl, (RowKit.Below.refl _ _).alloc (Nat.le_refl _) _⟩

set_option maxRecDepth 100000 in
set_option maxHeartbeats 0 in
theorem top_walk {a0 : List Value} {a1 a2 : Value} (e0 : a0.length = 5) (o0 : ∀ x ∈ a0, Value.one x = true) (o1 : Value.one a1 = true) (o2 : Value.one a2 = true) (W : World) (hg : Globs hv W gl) (hng : 8 ≤ W.heap.size)
    {H : Type} {enc : TypeId × Value → H} {base : Nat} {sp : Nat → Bool} {held : Bool} {n : Nat} {x : DataW H × List MemPlace} (ht : DataW.trod enc Tryz.prog W base sp held n 25 a0 = some x) :
    Calls Tryz.prog 3 #[.agg ⟨a0⟩, a1, a2] W fun e w' => e = .returned (.bool true) ∧ Below W.heap.size W w' := by
  obtain ⟨c0, c1, c2, c3, c4, rfl, _⟩ := expr_open ht
  have CE : Hid (∀ w, Below W.heap.size W w → Calls Tryz.prog 6 #[.agg ⟨[c0, c1, c2, c3, c4]⟩, a2, .pointer none, .slice none 0 0] w fun e w' => e = .returned (.tuple #[.agg #[.int .i64 0, .int .i64 0, .string ⟨#[]⟩], .int .i64 1]) ∧ Below w.heap.size w w') := Lib.hid fun w hw => eval_calls e0 o0 o1 o2 w (hg.below hw) (by have := hw.size; omega)
  have CT : Hid (∀ w, Below W.heap.size W w → Calls Tryz.prog 7 #[a1, a2, .pointer none, .slice none 0 0] w fun e w' => e = .returned (.tuple #[.string ⟨#[]⟩, .int .i64 1]) ∧ Below w.heap.size w w') := Lib.hid fun w hw => text_calls e0 o0 o1 o2 w (hg.below hw) (by have := hw.size; omega)
  have CB : Hid (∀ w, Below W.heap.size W w → Calls Tryz.prog 8 #[.agg #[.int .i64 1, .int .i64 1, .string ⟨#[]⟩], .agg #[.int .i64 1, .int .i64 2, .string ⟨#[]⟩]] w fun e w' => e = .returned (.bool true) ∧ Below w.heap.size w w') := Lib.hid fun w hw => below_calls w (hg.below hw) (by have := hw.size; omega)
  have CL : Hid (∀ w, Below W.heap.size W w → Calls Tryz.prog 5 #[] w fun e w' => e = .returned (.bool true) ∧ Below w.heap.size w w') := Lib.hid fun w hw => lives_calls w (by have := hw.size; omega) (hg.below hw)
  have CS : Hid (∀ w, Below W.heap.size W w → Calls Tryz.prog 4 #[.agg ⟨[c0, c1, c2, c3, c4]⟩] w fun e w' => ∃ b, e = .returned (.bool b) ∧ Below w.heap.size w w') := Lib.hid fun w hw => small_any ht w hw
  clear o0 o1 o2 hg hng ht e0
  go_enter Tryz.func3, Tryz.ntmps3
  go_wp2_with fail
  obtain ⟨W1, hW1⟩ : ∃ W1, W1 = W.alloc (.cells ⟨[c0, c1, c2, c3, c4]⟩ 25) := ⟨_, rfl⟩
  have hb1 : Below W.heap.size W W1 := by rw [hW1]; exact (RowKit.Below.refl _ _).alloc (Nat.le_refl _) _
  have hrow : W1.heap[W.heap.size]? = some (.cells ⟨[c0, c1, c2, c3, c4]⟩ 25 (0, 0)) := by rw [hW1]; exact heap_alloc_new _ _
  rw [← hW1]
  clear hW1
  have HB1 := Lib.hid hb1
  have hs1 : W.heap.size < W1.heap.size := (Array.getElem?_eq_some_iff.1 hrow).1
  have HX : Hid (∀ w, Below W1.heap.size W1 w → w.cell? ⟨W.heap.size, 0, none⟩ = some c0 ∧ w.cell? ⟨W.heap.size, 1, none⟩ = some c1 ∧ w.cell? ⟨W.heap.size, 2, none⟩ = some c2 ∧ w.cell? ⟨W.heap.size, 3, none⟩ = some c3 ∧ w.cell? ⟨W.heap.size, 4, none⟩ = some c4) := Lib.hid fun w hw => by
    have h : w.heap[W.heap.size]? = some (.cells ⟨[c0, c1, c2, c3, c4]⟩ 25 (0, 0)) := (hw.block _ hs1).trans hrow
    refine ⟨?_, ?_, ?_, ?_, ?_⟩ <;> simp [World.cell?, h]
  clear hb1 hrow
  go_at_call 4
  refine (CS.out _ HB1.out).mono ?_
  rintro e w2 ⟨b, rfl, hb2⟩
  obtain ⟨k0, k1, k2, k3, k4⟩ := HX.out w2 hb2
  have HB2 : Hid (Below W.heap.size W w2) := Lib.hid (HB1.out.trans (hb2.mono HB1.out.size))
  simp only
  clear hb2
  cases b with
  | false =>
    go_wp2_with (go_at_call 5; with_reducible refine (CL.out _ HB2.out).mono ?_; rintro e w3 ⟨rfl, hb3⟩)
    go_ret
    exact ⟨rfl, HB2.out.trans (hb3.mono HB2.out.size)⟩
  | true =>
    go_wp2_with (first
      | (go_at_call 6; with_reducible refine (CE.out _ HB2.out).mono ?_; rintro e w3 ⟨rfl, hb3⟩))
    obtain ⟨W3, hW3⟩ : ∃ W3, W3 = w3.alloc (.cells #[.int .i64 0, .int .i64 0, .string ⟨#[]⟩] 31) := ⟨_, rfl⟩
    have ha3 : Below w3.heap.size w3 W3 := by rw [hW3]; exact (RowKit.Below.refl _ _).alloc (Nat.le_refl _) _
    have hrow3 : W3.heap[w3.heap.size]? = some (.cells #[.int .i64 0, .int .i64 0, .string ⟨#[]⟩] 31 (0, 0)) := by rw [hW3]; exact heap_alloc_new _ _
    rw [← hW3]
    clear hW3
    have hs3 : w3.heap.size < W3.heap.size := (Array.getElem?_eq_some_iff.1 hrow3).1
    have hb23 : Below W.heap.size W w3 := HB2.out.trans (hb3.mono HB2.out.size)
    have HB3 : Hid (Below W.heap.size W W3) := Lib.hid (hb23.trans (ha3.mono hb23.size))
    have HV : Hid (∀ w, Below W3.heap.size W3 w → w.cell? ⟨w3.heap.size, 0, none⟩ = some (.int .i64 0) ∧ w.cell? ⟨w3.heap.size, 1, none⟩ = some (.int .i64 0) ∧ w.cell? ⟨w3.heap.size, 2, none⟩ = some (.string ⟨#[]⟩)) := Lib.hid fun w hw => by
      have h : w.heap[w3.heap.size]? = some (.cells #[.int .i64 0, .int .i64 0, .string ⟨#[]⟩] 31 (0, 0)) := (hw.block _ hs3).trans hrow3
      refine ⟨?_, ?_, ?_⟩ <;> simp [World.cell?, h]
    clear k0 k1 k2 k3 k4 hb3 ha3 hb23 hrow3 CE CS HX HB2
    go_at_call 7
    refine (CT.out _ HB3.out).mono ?_
    rintro e w4 ⟨rfl, hb4⟩
    obtain ⟨v0, v1, v2⟩ := HV.out w4 hb4
    have HB4 : Hid (Below W.heap.size W w4) := Lib.hid (HB3.out.trans (hb4.mono HB3.out.size))
    clear hb4 HV HB3 CT
    simp only
    go_wp2_with (first
      | (go_at_call 9; with_reducible refine (num_any 1 _).mono ?_; rintro e w5 ⟨rfl, hb5⟩)
      | (go_at_call 9; with_reducible refine (num_any 2 _).mono ?_; rintro e w6 ⟨rfl, hb6⟩)
      | (go_at_call 8; with_reducible refine (CB.out _ (HB4.out.trans ((hb5.trans (hb6.mono hb5.size)).mono HB4.out.size))).mono ?_; rintro e w7 ⟨rfl, hb7⟩)
      | (go_at_call 5; with_reducible refine (CL.out _ (HB4.out.trans (((hb5.trans (hb6.mono hb5.size)).trans (hb7.mono (Nat.le_trans hb5.size hb6.size))).mono HB4.out.size))).mono ?_; rintro e w8 ⟨rfl, hb8⟩))
    go_ret
    have h5 := hb5.size
    have h6 := hb6.size
    have h7 := hb7.size
    refine ⟨rfl, HB4.out.trans (RowKit.Below.mono ?_ HB4.out.size)⟩
    exact (hb5.trans (hb6.mono h5)).trans ((hb7.trans (hb8.mono h7)).mono (Nat.le_trans h5 h6))
end Go.Proofs.YtfdbkfehkolpmaaGreatDoor
