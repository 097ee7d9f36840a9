/- SyntaxSigns: the law returns true at every input, and leaves its arguments as they were. No condition; the package-level tables that it reads are as the program's text lays them. -/
import Derived.Test.YtpnkohfmpdehaaaGreatDoorSyntaxSignsRun
import Derived.Test.YtpnkohfmpdehaaaGreatDoorSyntaxSignsFacts
import Derived.Test.YtpnkohfmpdehaaaGreatDoorSyntaxSignsRun0
import Derived.Test.YtpnkohfmpdehaaaGreatDoorSyntaxSignsRun2
import Derived.Test.YtpnkohfmpdehaaaGreatDoorSyntaxSignsRun4
import Derived.Test.YtpnkohfmpdehaaaGreatDoorSyntaxSignsRun6
import Derived.Test.YtpnkohfmpdehaaaGreatDoorSyntaxSignsRun8
import Derived.Test.YtpnkohfmpdehaaaGreatDoorSyntaxSignsRun10
import Derived.Test.YtpnkohfmpdehaaaGreatDoorSyntaxSignsRun12
import Derived.Test.YtpnkohfmpdehaaaGreatDoorTie
import Derived.Test.YtpnkohfmpdehaaaGreatDoorCards
import Derived.WalkKit
import Derived.ProofKit
import Derived.LaidMore
import Derived.OpenShut
import Derived.Stop.Joined
import Derived.Carry
import Derived.SevenTiedAt
namespace Go.Proofs.YtpnkohfmpdehaaaGreatDoor.syntaxSigns
open Go Go.ChangeShapes Go.WideShapes Go.ChangeAt Go.WideMaps Go.WideElems Go.RowKit Go.Eng
set_option linter.unusedVariables false
set_option linter.unusedSimpArgs false

theorem own : ownKnob Tryz.prog.godebug = none := by kernel_rfl
theorem laidOut : laidOutB Tryz.prog = true := by kernel_rfl
theorem params_ok : ∀ t ∈ Tryz.f3.params.toList, Tryz.prog.readableRec t = true ∧ t < Tryz.prog.types.size := by
  have h : (Tryz.f3.params.toList.all fun t => Tryz.prog.readableRec t && decide (t < Tryz.prog.types.size)) = true := by kernel_rfl
  intro t ht
  have := List.all_eq_true.1 h t ht
  rw [Bool.and_eq_true] at this
  exact ⟨this.1, of_decide_eq_true this.2⟩
noncomputable abbrev laid : List (String × DataW Unit) := Rows.syntaxSignsRow.laid

/-- What the condition gives: the tables. -/
theorem of_laid {W : World} (h : laidMetH Tryz.prog laid W) : Globs hv W gl := by
  obtain ⟨⟨ps, hl, _, _⟩, hh⟩ := laid_parts h
  intro x hx
  have hx' : x = (0, [AVal.sym KH]) ∨ x = (1, tb Rows.laid_hindcast_lex_signs) ∨ x = (2, tb Rows.laid_hindcast_lex_words) ∨ x = (6, tb Rows.laid_internal_strconv_uint64pow10) ∨ x = (7, tb Rows.laid_math_bits_deBruijn32tab) ∨ x = (8, tb Rows.laid_math_bits_deBruijn64tab) := by
    simpa [gl] using hx
  rcases hx' with rfl | rfl | rfl | rfl | rfl | rfl
  · exact laid_handle hh (n := "errors.errorType") (d := Rows.laid_errors_errorType) (List.mem_filter.2 ⟨by simp [laid, Rows.syntaxSignsRow], by kernel_rfl⟩) (name := [101, 114, 114, 111, 114]) (u := 128) (ty := 54) (by kernel_rfl) (by kernel_rfl) (by kernel_rfl) (by kernel_rfl) (by kernel_rfl) (by kernel_rfl)
  · exact laid_tab hl (n := "hindcast/lex.signs") (d := Rows.laid_hindcast_lex_signs) (List.mem_filter.2 ⟨by simp [laid, Rows.syntaxSignsRow], by kernel_rfl⟩) (by kernel_rfl) (by kernel_rfl) (t := 170) (e := 9) (k := 25) (by kernel_rfl) (by kernel_rfl) (by kernel_rfl) (.inl (by kernel_rfl)) (by kernel_rfl)
  · exact laid_tab hl (n := "hindcast/lex.words") (d := Rows.laid_hindcast_lex_words) (List.mem_filter.2 ⟨by simp [laid, Rows.syntaxSignsRow], by kernel_rfl⟩) (by kernel_rfl) (by kernel_rfl) (t := 175) (e := 9) (k := 10) (by kernel_rfl) (by kernel_rfl) (by kernel_rfl) (.inl (by kernel_rfl)) (by kernel_rfl)
  · exact laid_tab hl (n := "internal/strconv.uint64pow10") (d := Rows.laid_internal_strconv_uint64pow10) (List.mem_filter.2 ⟨by simp [laid, Rows.syntaxSignsRow], by kernel_rfl⟩) (by kernel_rfl) (by kernel_rfl) (t := 221) (e := 177) (k := 20) (by kernel_rfl) (by kernel_rfl) (by kernel_rfl) (.inr (.inl ⟨.u64, by kernel_rfl⟩)) (by kernel_rfl)
  · exact laid_tab hl (n := "math/bits.deBruijn32tab") (d := Rows.laid_math_bits_deBruijn32tab) (List.mem_filter.2 ⟨by simp [laid, Rows.syntaxSignsRow], by kernel_rfl⟩) (by kernel_rfl) (by kernel_rfl) (t := 254) (e := 5) (k := 32) (by kernel_rfl) (by kernel_rfl) (by kernel_rfl) (.inr (.inl ⟨.u8, by kernel_rfl⟩)) (by kernel_rfl)
  · exact laid_tab hl (n := "math/bits.deBruijn64tab") (d := Rows.laid_math_bits_deBruijn64tab) (List.mem_filter.2 ⟨by simp [laid, Rows.syntaxSignsRow], by kernel_rfl⟩) (by kernel_rfl) (by kernel_rfl) (t := 255) (e := 5) (k := 64) (by kernel_rfl) (by kernel_rfl) (by kernel_rfl) (.inr (.inl ⟨.u8, by kernel_rfl⟩)) (by kernel_rfl)
theorem of_size {W : World} (h : Globs hv W gl) : 9 ≤ W.heap.size := by
  obtain ⟨c, e, frz, h1, _⟩ := h (8, tb Rows.laid_math_bits_deBruijn64tab) (by simp [gl])
  exact lt_of_get h1

noncomputable section
theorem law_run (es : Nat → TypeId) (m0 : Nat) (m1 : Nat) (g0 : m0 < 13) (g1 : m1 < 13) : isTrueR (callF Tryz.prog (X1 m0 m1) (extOf 6 gl) 100 (.fn 3) [.sym 0, .sym 1] (globH 9 es gl)) = 1 := by
  have h : test es m0 = true := by
    have hv : m0 = 0 ∨ m0 = 1 ∨ m0 = 2 ∨ m0 = 3 ∨ m0 = 4 ∨ m0 = 5 ∨ m0 = 6 ∨ m0 = 7 ∨ m0 = 8 ∨ m0 = 9 ∨ m0 = 10 ∨ m0 = 11 ∨ m0 = 12 := by omega
    rcases hv with rfl | rfl | rfl | rfl | rfl | rfl | rfl | rfl | rfl | rfl | rfl | rfl | rfl
    · exact run0 es
    · exact run1 es
    · exact run2 es
    · exact run3 es
    · exact run4 es
    · exact run5 es
    · exact run6 es
    · exact run7 es
    · exact run8 es
    · exact run9 es
    · exact run10 es
    · exact run11 es
    · exact run12 es
  unfold test at h
  have h := allN_of h m1 g1
  exact Nat.eq_of_beq_eq_true h
end

theorem walk (a0 : Int) (a1 : Int)   (W : World) (hg : Globs hv W gl) : Calls Tryz.prog 3 #[.int .i64 a0, .int .i64 a1] W fun e w' => e = .returned (.bool true) ∧ Below W.heap.size W w' := by
  have hK : envL hv ([.int .i64 a0] ++ ([.int .i64 a1] ++ ([.int .u64 (IntKind.u64.wrap a0)] ++ ([.int .u64 (IntKind.u64.wrap a1)] ++ ([]))))) KH = hv := envL_K (by simp [KH])
  have henv : EnvOk (envL hv ([.int .i64 a0] ++ ([.int .i64 a1] ++ ([.int .u64 (IntKind.u64.wrap a0)] ++ ([.int .u64 (IntKind.u64.wrap a1)] ++ ([])))))) := by
    refine envL_ok rfl fun x hx => ?_
    simp only [List.mem_append, List.mem_singleton, List.not_mem_nil, or_false] at hx
    rcases hx with hx | hx | hx | hx
    · rw [hx]; rfl
    · rw [hx]; rfl
    · rw [hx]; rfl
    · rw [hx]; rfl
  obtain ⟨m0, g0, s0⟩ := rem_lt a0 12
  obtain ⟨m1, g1, s1⟩ := rem_lt a1 12
  have hf : ∀ f ∈ (X1 m0 m1).facts, FactOk Tryz.prog (envL hv ([.int .i64 a0] ++ ([.int .i64 a1] ++ ([.int .u64 (IntKind.u64.wrap a0)] ++ ([.int .u64 (IntKind.u64.wrap a1)] ++ ([])))))) f := by
    intro f hf
    have hf' : f = ⟨.conv 3 23, .sym 0, .nptr, .sym 2⟩ ∨ f = ⟨.bin .rem, .sym 2, .int .u64 (Int.ofNat (12 + 1)), .int .u64 (Int.ofNat m0)⟩ ∨ f = ⟨.conv 3 23, .sym 1, .nptr, .sym 3⟩ ∨ f = ⟨.bin .rem, .sym 3, .int .u64 (Int.ofNat (12 + 1)), .int .u64 (Int.ofNat m1)⟩ := by simpa [X1] using hf
    rcases hf' with rfl | rfl | rfl | rfl
    · have he : envL hv ([.int .i64 a0] ++ ([.int .i64 a1] ++ ([.int .u64 (IntKind.u64.wrap a0)] ++ ([.int .u64 (IntKind.u64.wrap a1)] ++ ([]))))) 0 = .int .i64 a0 := by
        have h := envL_at (hv := hv) ([] : List Value) (.int .i64 a0) ([.int .i64 a1] ++ ([.int .u64 (IntKind.u64.wrap a0)] ++ ([.int .u64 (IntKind.u64.wrap a1)] ++ ([]))))
        have hl : ([] : List Value).length = 0 := by simp
        rw [hl] at h
        simpa [List.append_assoc] using h
      have he' : envL hv ([.int .i64 a0] ++ ([.int .i64 a1] ++ ([.int .u64 (IntKind.u64.wrap a0)] ++ ([.int .u64 (IntKind.u64.wrap a1)] ++ ([]))))) 2 = .int .u64 (IntKind.u64.wrap a0) := by
        have h := envL_at (hv := hv) (([.int .i64 a0] ++ [.int .i64 a1]) : List Value) (.int .u64 (IntKind.u64.wrap a0)) ([.int .u64 (IntKind.u64.wrap a1)] ++ ([]))
        have hl : (([.int .i64 a0] ++ [.int .i64 a1]) : List Value).length = 2 := by simp
        rw [hl] at h
        simpa [List.append_assoc] using h
      exact fact_conv he he' Tryz.underlying3 Tryz.underlying23
    · have he' : envL hv ([.int .i64 a0] ++ ([.int .i64 a1] ++ ([.int .u64 (IntKind.u64.wrap a0)] ++ ([.int .u64 (IntKind.u64.wrap a1)] ++ ([]))))) 2 = .int .u64 (IntKind.u64.wrap a0) := by
        have h := envL_at (hv := hv) (([.int .i64 a0] ++ [.int .i64 a1]) : List Value) (.int .u64 (IntKind.u64.wrap a0)) ([.int .u64 (IntKind.u64.wrap a1)] ++ ([]))
        have hl : (([.int .i64 a0] ++ [.int .i64 a1]) : List Value).length = 2 := by simp
        rw [hl] at h
        simpa [List.append_assoc] using h
      exact fact_rem he' (wrap_nonneg _) s0
    · have he : envL hv ([.int .i64 a0] ++ ([.int .i64 a1] ++ ([.int .u64 (IntKind.u64.wrap a0)] ++ ([.int .u64 (IntKind.u64.wrap a1)] ++ ([]))))) 1 = .int .i64 a1 := by
        have h := envL_at (hv := hv) (([.int .i64 a0]) : List Value) (.int .i64 a1) ([.int .u64 (IntKind.u64.wrap a0)] ++ ([.int .u64 (IntKind.u64.wrap a1)] ++ ([])))
        have hl : (([.int .i64 a0]) : List Value).length = 1 := by simp
        rw [hl] at h
        simpa [List.append_assoc] using h
      have he' : envL hv ([.int .i64 a0] ++ ([.int .i64 a1] ++ ([.int .u64 (IntKind.u64.wrap a0)] ++ ([.int .u64 (IntKind.u64.wrap a1)] ++ ([]))))) 3 = .int .u64 (IntKind.u64.wrap a1) := by
        have h := envL_at (hv := hv) (([.int .i64 a0] ++ [.int .i64 a1] ++ [.int .u64 (IntKind.u64.wrap a0)]) : List Value) (.int .u64 (IntKind.u64.wrap a1)) ([])
        have hl : (([.int .i64 a0] ++ [.int .i64 a1] ++ [.int .u64 (IntKind.u64.wrap a0)]) : List Value).length = 3 := by simp
        rw [hl] at h
        simpa [List.append_assoc] using h
      exact fact_conv he he' Tryz.underlying3 Tryz.underlying23
    · have he' : envL hv ([.int .i64 a0] ++ ([.int .i64 a1] ++ ([.int .u64 (IntKind.u64.wrap a0)] ++ ([.int .u64 (IntKind.u64.wrap a1)] ++ ([]))))) 3 = .int .u64 (IntKind.u64.wrap a1) := by
        have h := envL_at (hv := hv) (([.int .i64 a0] ++ [.int .i64 a1] ++ [.int .u64 (IntKind.u64.wrap a0)]) : List Value) (.int .u64 (IntKind.u64.wrap a1)) ([])
        have hl : (([.int .i64 a0] ++ [.int .i64 a1] ++ [.int .u64 (IntKind.u64.wrap a0)]) : List Value).length = 3 := by simp
        rw [hl] at h
        simpa [List.append_assoc] using h
      exact fact_rem he' (wrap_nonneg _) s1
  have r0 : VRel (globR 9 W) (envL hv ([.int .i64 a0] ++ ([.int .i64 a1] ++ ([.int .u64 (IntKind.u64.wrap a0)] ++ ([.int .u64 (IntKind.u64.wrap a1)] ++ ([])))))) (.sym 0) (.int .i64 a0) := by
    have h := vrel_sym (ρ := globR 9 W) (hv := hv) (.int .i64 a0) ([] : List Value) ([.int .i64 a1] ++ ([.int .u64 (IntKind.u64.wrap a0)] ++ ([.int .u64 (IntKind.u64.wrap a1)] ++ ([]))))
    have hl : ([] : List Value).length = 0 := by simp
    rw [hl] at h
    simpa [List.append_assoc] using h
  have r1 : VRel (globR 9 W) (envL hv ([.int .i64 a0] ++ ([.int .i64 a1] ++ ([.int .u64 (IntKind.u64.wrap a0)] ++ ([.int .u64 (IntKind.u64.wrap a1)] ++ ([])))))) (.sym 1) (.int .i64 a1) := by
    have h := vrel_sym (ρ := globR 9 W) (hv := hv) (.int .i64 a1) (([.int .i64 a0]) : List Value) ([.int .u64 (IntKind.u64.wrap a0)] ++ ([.int .u64 (IntKind.u64.wrap a1)] ++ ([])))
    have hl : (([.int .i64 a0]) : List Value).length = 1 := by simp
    rw [hl] at h
    simpa [List.append_assoc] using h
  exact true_calls hK rfl (callF_ok (P := Tryz.prog) (X := X1 m0 m1) prog_names henv hf prog_mix prog_ok (extOf_ok hK gl_lt gl_lit lives_calls) 100) gl_lt (law_run (globElem W) m0 m1  g0 g1) (by kernel_rfl) (of_size hg) hg (.cons r0 (.cons r1 .nil))

/-- The door's own heap meets the condition. -/
theorem door_met (os : Os) (args : Array Value) : laidMetH Tryz.prog laid ((World.doorLaid Tryz.prog 400 os).forCall (fun _ _ => 0) ⟨#[], args, []⟩).memory :=
  laidMetH_of_parts3 (fuel := 8) (laidMet_of_run' 8 (by kernel_rfl) (by kernel_rfl)) (by kernel_rfl) (by kernel_rfl)

set_option maxRecDepth 100000 in
theorem lifted (os : Os) (started : os.Started) (H : Type) (enc : TypeId × Value → H) :
    ReturnsInHanded {} Tryz.checked os 3 .any (fun w args => (Rows.syntaxSignsSpec.pre enc Tryz.prog Tryz.f3 [] false w args ∧ laidMetH Tryz.prog laid w) ∧ sizedMet enc Tryz.prog Tryz.f3 (OpenSpec.ofChange Rows.syntaxSignsSpec) false w args)
      (Rows.syntaxSignsSpec.post enc Tryz.prog Tryz.f3 false true false false) := by
  refine returnsInHanded_of_change_and (C := Tryz.checked) (X := fun w _ => laidMetH Tryz.prog laid w) (fun _ _ _ hh h => h.of_heap hh) own started (by kernel_rfl) Tryz.func3
    (ChangeSpec.witness_shaped (enc := enc) (C := Tryz.checked) (os := os) (X := fun w _ => laidMetH Tryz.prog laid w) false (World.doorLaid Tryz.prog 400 os) #[.int .i64 0, .int .i64 0] 8 rfl (World.shaped_of_RefB (by kernel_rfl) (by kernel_rfl)) (by kernel_rfl) (by kernel_rfl) (by kernel_rfl) (door_met os _)) ?_
  intro W base args ds gs before hval0 hW _ _ hL _
  have hval : ∀ (j : Nat) t v, Tryz.f3.params[j]? = some t → args[j]? = some v → Value.okWide Tryz.prog W .any base t v := hval0
  have hW' := hW
  obtain ⟨p, q, hA0, hV, rfl, hfz, hnd⟩ := hW
  have hA : DataW.TrodAll enc Tryz.prog W 0 (fun _ => true) true Tryz.f3.params.toList args.toList ds p := hA0
  rw [Tryz.params3] at hA hval
  obtain ⟨v0, vs0, d0, ds0, p0, q0, hargs, rfl, rfl, h0, r0⟩ := trodAll_cons hA
  obtain ⟨v1, vs1, d1, ds1, p1, q1, rfl, rfl, rfl, h1, r1⟩ := trodAll_cons r0
  obtain ⟨rfl, rfl, rfl⟩ := trodAll_nil r1
  obtain rfl : args = #[v0, v1] := by cases args; simp_all
  obtain ⟨rfl, rfl⟩ := trodVars_none hV
  obtain ⟨a0, rfl, rfl, rfl, w0⟩ := open_int Tryz.underlying3 (hval 0 3 v0 rfl rfl) h0
  obtain ⟨a1, rfl, rfl, rfl, w1⟩ := open_int Tryz.underlying3 (hval 1 3 v1 rfl rfl) h1
  clear hA0 hval0
  refine (walk a0 a1   W (of_laid hL)).mono fun e W' ⟨he, hb⟩ => ?_
  subst he
  exact ⟨_, rfl, post_below laidOut params_ok rfl (by simpa using hW') rfl Tryz.underlying4 rfl hb⟩

theorem over : Rows.syntaxSignsRow.holds Tryz.pinned (OpenSpec.ofChange Rows.syntaxSignsSpec) :=
  OpenClaim.holds_of_wide 3 Tryz.f3 rfl rfl rfl rfl rfl rfl rfl ⟨rfl, rfl, rfl, rfl, rfl⟩ rfl rfl rfl rfl rfl (by as_aux_lemma => kernel_rfl) Tryz.func3 facts
    (of_decide_eq_true (by as_aux_lemma => kernel_rfl)) (by unfold Func.isWrapper; first | (rw [if_pos (by decide +kernel)]; kernel_rfl) | (rw [if_neg (by decide +kernel)]; exact ⟨rfl, rfl⟩))
    (fun os started H enc _ => lifted os started H enc)

/-- The statement: the tied card. -/
theorem proved : Rows.SyntaxSignsCardSaid :=
  Claim7.holds_tied_plain_at .later [] [.data, .data, .data, .handle, .sentinel, .sentinel, .data, .data] true (true, "1f50e3c957ae37af467138d73188b80039a9171a29c527cb4c5e84548a8e64c4") true
    over (fun _ h => by cases h) (by as_aux_lemma => kernel_rfl) (fun _ h => by cases h) syntaxSigns_row_tie rfl ⟨rfl, rfl⟩ (by as_aux_lemma => kernel_rfl) rfl
    (fun f fn hf hfn => by
      obtain rfl : f = 3 := Option.some.inj ((show Tryz.prog.funcNamed "hindcast/hindcastlaw04.SyntaxSigns" = some 3 by kernel_rfl).symm.trans hf) |>.symm
      obtain rfl : fn = Tryz.f3 := (Option.some.inj (Tryz.func3.symm.trans hfn)).symm
      exact ⟨by kernel_rfl, fun j t ht => by
        rw [Tryz.params3] at ht
        have h3 : t = 3 := by
          match j, ht with
          | 0, ht => have := Option.some.inj ht; subst this; exact rfl
          | 1, ht => have := Option.some.inj ht; subst this; exact rfl
          | _ + 2, ht => simp at ht
        rcases h3 with rfl
        · exact (show Tryz.prog.wantsStandIn 3 = false by kernel_rfl)⟩)
    (by as_aux_lemma => kernel_rfl)
#print axioms proved
end Go.Proofs.YtpnkohfmpdehaaaGreatDoor.syntaxSigns
