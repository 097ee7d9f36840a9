/- SyntaxWrites: the law returns true at every input, and leaves its arguments as they were. No condition; the package-level tables that it reads are as the program's text lays them. -/
import Derived.Test.YtggjeecpadnihaaGreatDoorSyC
import Derived.Test.YtggjeecpadnihaaGreatDoorSyntaxWritesFacts
import Derived.Test.YtggjeecpadnihaaGreatDoorTie
import Derived.Test.YtggjeecpadnihaaGreatDoorCards
import Derived.WalkKit
import Derived.ProofKit
import Derived.LaidMore
import Derived.Lay
import Derived.OpenShut
import Derived.Stop.Joined
import Derived.Carry
import Derived.SevenTiedAt
namespace Go.Proofs.YtggjeecpadnihaaGreatDoor.syntaxWrites
open Go Go.ChangeShapes Go.WideShapes Go.ChangeAt Go.WideMaps Go.WideElems Go.RowKit Go.Eng
set_option linter.unusedVariables false
set_option linter.unusedSimpArgs false

theorem own : ownKnob Tryz.prog.godebug = none := by kernel_rfl
theorem laidOut : laidOutB Tryz.prog = true := by kernel_rfl
theorem params_ok : ∀ t ∈ Tryz.f3.params.toList, Tryz.prog.readableRec t = true ∧ t < Tryz.prog.types.size := by
  have h : (Tryz.f3.params.toList.all fun t => Tryz.prog.readableRec t && decide (t < Tryz.prog.types.size)) = true := by kernel_rfl
  intro t ht
  have := List.all_eq_true.1 h t ht
  rw [Bool.and_eq_true] at this
  exact ⟨this.1, of_decide_eq_true this.2⟩
noncomputable abbrev laid : List (String × DataW Unit) := Rows.syntaxWritesRow.laid

/-- What the condition gives: the tables. -/
theorem of_laid {W : World} (h : laidMetH Tryz.prog laid W) : Globs hv W gl := by
  obtain ⟨⟨ps, hl, _, _⟩, hh⟩ := laid_parts h
  intro x hx
  have hx' : x = (0, [AVal.sym KH]) ∨ x = (1, tb Rows.laid_hindcast_lex_signs) ∨ x = (2, tb Rows.laid_hindcast_lex_words) ∨ x = (3, tb Rows.laid_internal_strconv_uint64pow10) ∨ x = (7, tb Rows.laid_math_bits_deBruijn32tab) ∨ x = (8, tb Rows.laid_math_bits_deBruijn64tab) := by
    simpa [gl] using hx
  rcases hx' with rfl | rfl | rfl | rfl | rfl | rfl
  · exact laid_handle hh (n := "errors.errorType") (d := Rows.laid_errors_errorType) (List.mem_filter.2 ⟨by simp [laid, Rows.syntaxWritesRow], by kernel_rfl⟩) (name := [101, 114, 114, 111, 114]) (u := 167) (ty := 116) (by kernel_rfl) (by kernel_rfl) (by kernel_rfl) (by kernel_rfl) (by kernel_rfl) (by kernel_rfl)
  · exact laid_tab hl (n := "hindcast/lex.signs") (d := Rows.laid_hindcast_lex_signs) (List.mem_filter.2 ⟨by simp [laid, Rows.syntaxWritesRow], by kernel_rfl⟩) (by kernel_rfl) (by kernel_rfl) (t := 184) (e := 9) (k := 25) (by kernel_rfl) (by kernel_rfl) (by kernel_rfl) (.inl (by kernel_rfl)) (by kernel_rfl)
  · exact laid_tab hl (n := "hindcast/lex.words") (d := Rows.laid_hindcast_lex_words) (List.mem_filter.2 ⟨by simp [laid, Rows.syntaxWritesRow], by kernel_rfl⟩) (by kernel_rfl) (by kernel_rfl) (t := 185) (e := 9) (k := 10) (by kernel_rfl) (by kernel_rfl) (by kernel_rfl) (.inl (by kernel_rfl)) (by kernel_rfl)
  · exact laid_tab hl (n := "internal/strconv.uint64pow10") (d := Rows.laid_internal_strconv_uint64pow10) (List.mem_filter.2 ⟨by simp [laid, Rows.syntaxWritesRow], by kernel_rfl⟩) (by kernel_rfl) (by kernel_rfl) (t := 233) (e := 217) (k := 20) (by kernel_rfl) (by kernel_rfl) (by kernel_rfl) (.inr (.inl ⟨.u64, by kernel_rfl⟩)) (by kernel_rfl)
  · exact laid_tab hl (n := "math/bits.deBruijn32tab") (d := Rows.laid_math_bits_deBruijn32tab) (List.mem_filter.2 ⟨by simp [laid, Rows.syntaxWritesRow], by kernel_rfl⟩) (by kernel_rfl) (by kernel_rfl) (t := 272) (e := 5) (k := 32) (by kernel_rfl) (by kernel_rfl) (by kernel_rfl) (.inr (.inl ⟨.u8, by kernel_rfl⟩)) (by kernel_rfl)
  · exact laid_tab hl (n := "math/bits.deBruijn64tab") (d := Rows.laid_math_bits_deBruijn64tab) (List.mem_filter.2 ⟨by simp [laid, Rows.syntaxWritesRow], by kernel_rfl⟩) (by kernel_rfl) (by kernel_rfl) (t := 273) (e := 5) (k := 64) (by kernel_rfl) (by kernel_rfl) (by kernel_rfl) (.inr (.inl ⟨.u8, by kernel_rfl⟩)) (by kernel_rfl)
theorem of_size {W : World} (h : Globs hv W gl) : 9 ≤ W.heap.size := by
  obtain ⟨c, e, frz, h1, _⟩ := h (8, tb Rows.laid_math_bits_deBruijn64tab) (by simp [gl])
  exact lt_of_get h1

/-- The door's own heap meets the condition. -/
theorem door_met (os : Os) (args : Array Value) : laidMetH Tryz.prog laid ((World.doorLaid Tryz.prog 400 os).forCall (fun _ _ => 0) ⟨#[], args, []⟩).memory :=
  laidMetH_of_parts3 (fuel := 8) (laidMet_of_run' 8 (by kernel_rfl) (by kernel_rfl)) (by kernel_rfl) (by kernel_rfl)

set_option maxRecDepth 100000 in
theorem lifted (os : Os) (started : os.Started) (H : Type) (enc : TypeId × Value → H) :
    ReturnsInHanded {} Tryz.checked os 3 .any (fun w args => (Rows.syntaxWritesSpec.pre enc Tryz.prog Tryz.f3 [] false w args ∧ laidMetH Tryz.prog laid w) ∧ sizedMet enc Tryz.prog Tryz.f3 (OpenSpec.ofChange Rows.syntaxWritesSpec) false w args)
      (Rows.syntaxWritesSpec.post enc Tryz.prog Tryz.f3 false true false false) := by
  refine returnsInHanded_of_change_and (C := Tryz.checked) (X := fun w _ => laidMetH Tryz.prog laid w) (fun _ _ _ hh h => h.of_heap hh) own started (by kernel_rfl) Tryz.func3
    (ChangeSpec.witness_shaped (enc := enc) (C := Tryz.checked) (os := os) (X := fun w _ => laidMetH Tryz.prog laid w) false (World.doorLaid Tryz.prog 400 os) #[.agg #[.int .i64 0, .string ⟨#[]⟩, .int .i64 0, .slice none 0 0, .int .i64 0]] 8 rfl (World.shaped_of_RefB (by kernel_rfl) (by kernel_rfl)) (by kernel_rfl) (by kernel_rfl) (by kernel_rfl) (door_met os _)) ?_
  intro W base args ds gs before hval0 hW _ _ hL _
  have hval : ∀ (j : Nat) t v, Tryz.f3.params[j]? = some t → args[j]? = some v → Value.okWide Tryz.prog W .any base t v := hval0
  have hW' := hW
  obtain ⟨p, q, hA0, hV, rfl, hfz, hnd⟩ := hW
  have hA : DataW.TrodAll enc Tryz.prog W 0 (fun _ => true) true Tryz.f3.params.toList args.toList ds p := hA0
  rw [Tryz.params3] at hA hval
  obtain ⟨v0, vs0, d0, ds0, p0, q0, hargs, rfl, rfl, h0, r0⟩ := trodAll_cons hA
  obtain ⟨rfl, rfl, rfl⟩ := trodAll_nil r0
  obtain rfl : args = #[v0] := by cases args; simp_all
  obtain ⟨rfl, rfl⟩ := trodVars_none hV
  obtain ⟨l0, rfl, e0, c0⟩ := wide_agg (n := 5) (ts := [22, 9, 3, 23, 3]) Tryz.underlying25 (by kernel_rfl) (by kernel_rfl) rfl (hval 0 25 v0 rfl rfl)
  clear hA0 hval0
  obtain ⟨fuel, ht⟩ := h0
  refine (writes_walk W (of_laid hL) (of_size (of_laid hL)) ht).mono fun e W' ⟨he, hb⟩ => ?_
  subst he
  exact ⟨_, rfl, post_below laidOut params_ok rfl (by simpa using hW') rfl Tryz.underlying4 rfl hb⟩

theorem over : Rows.syntaxWritesRow.holds Tryz.pinned (OpenSpec.ofChange Rows.syntaxWritesSpec) :=
  OpenClaim.holds_of_wide 3 Tryz.f3 rfl rfl rfl rfl rfl rfl rfl ⟨rfl, rfl, rfl, rfl, rfl⟩ rfl rfl rfl rfl rfl (by as_aux_lemma => kernel_rfl) Tryz.func3 facts
    (of_decide_eq_true (by as_aux_lemma => kernel_rfl)) (by unfold Func.isWrapper; first | (rw [if_pos (by decide +kernel)]; kernel_rfl) | (rw [if_neg (by decide +kernel)]; exact ⟨rfl, rfl⟩))
    (fun os started H enc _ => lifted os started H enc)

theorem p_named : Tryz.prog.funcNamed "hindcast/hindcastlaw04.SyntaxWrites" = some 3 := by kernel_rfl
theorem p_looks : true = Tryz.pinned.checked.prog.looks [] := by kernel_rfl
theorem p_goes : (Tryz.prog.funcs.toList.all fun fn => !fn.goes) = true := by kernel_rfl
theorem p_stand25 : Tryz.prog.wantsStandIn 25 = false := by kernel_rfl
/-- The statement: the tied card. -/
theorem proved : Rows.SyntaxWritesCardSaid :=
  Claim7.holds_tied_plain_at .later [] [.data, .data, .data, .handle, .sentinel, .sentinel, .data, .data] true (true, "8ac4b070a83cd33d3733ddef614809f0f6cf39dedf72085f10aead5515863cab") true
    over (fun _ h => by cases h) (by as_aux_lemma => kernel_rfl) (fun _ h => by cases h) syntaxWrites_row_tie rfl ⟨rfl, rfl⟩ (by as_aux_lemma => kernel_rfl) rfl
    (fun f fn hf hfn => by
      obtain rfl : f = 3 := Option.some.inj (p_named.symm.trans hf) |>.symm
      obtain rfl : fn = Tryz.f3 := (Option.some.inj (Tryz.func3.symm.trans hfn)).symm
      exact ⟨p_looks, fun j t ht => by
        rw [Tryz.params3] at ht
        have h3 : t = 25 := by
          match j, ht with
          | 0, ht => have := Option.some.inj ht; subst this; exact rfl
          | _ + 1, ht => simp at ht
        rcases h3 with rfl
        · exact p_stand25⟩)
    (goesBy_none rfl p_goes)
#print axioms proved
end Go.Proofs.YtggjeecpadnihaaGreatDoor.syntaxWrites
