/- SyntaxPrints, the second form: the law returns true, and leaves its argument as it was, at every program of bulk at most 1048576 (values and letters, each counted each time it is reached). The package-level tables that it reads are as the text of the program lays them. -/
import Derived.Test.YtggjeecpadnihaaGreatDoorSzE
import Derived.Test.YtggjeecpadnihaaGreatDoorSyntaxPrintsUptoFacts
import Derived.Test.YtggjeecpadnihaaGreatDoorTie
import Derived.Test.YtggjeecpadnihaaGreatDoorCards
import Derived.WalkKit
import Derived.JoinedCond
import Derived.Deep.DeepHandedRow
import Derived.ProofKit
import Derived.LaidMore
import Derived.Lay
import Derived.OpenShut
import Derived.Stop.Joined
import Derived.Carry
import Derived.SevenTiedAt
namespace Go.Proofs.YtggjeecpadnihaaGreatDoor.syntaxPrints
open Go Go.ChangeShapes Go.WideShapes Go.ChangeAt Go.WideMaps Go.WideElems Go.RowKit Go.Eng
set_option linter.unusedVariables false
set_option linter.unusedSimpArgs false

theorem own : ownKnob Tryz.prog.godebug = none := by kernel_rfl
theorem laidOut : laidOutB Tryz.prog = true := by kernel_rfl
theorem params_ok : ∀ t ∈ Tryz.f4.params.toList, Tryz.prog.readableRec t = true ∧ t < Tryz.prog.types.size := by
  have h : (Tryz.f4.params.toList.all fun t => Tryz.prog.readableRec t && decide (t < Tryz.prog.types.size)) = true := by kernel_rfl
  intro t ht
  have := List.all_eq_true.1 h t ht
  rw [Bool.and_eq_true] at this
  exact ⟨this.1, of_decide_eq_true this.2⟩
noncomputable abbrev laid : List (String × DataW Unit) := Rows.syntaxPrintsUptoRow.laid

/-- What the condition gives: the tables. -/
theorem of_laid {W : World} (h : laidMetH Tryz.prog laid W) : Globs hv W gl := by
  obtain ⟨⟨ps, hl, _, _⟩, hh⟩ := laid_parts h
  intro x hx
  have hx' : x = (0, [AVal.sym KH]) ∨ x = (1, tb Rows.laid_hindcast_lex_signs) ∨ x = (2, tb Rows.laid_hindcast_lex_words) ∨ x = (3, tb Rows.laid_internal_strconv_uint64pow10) ∨ x = (7, tb Rows.laid_math_bits_deBruijn32tab) ∨ x = (8, tb Rows.laid_math_bits_deBruijn64tab) := by
    simpa [gl] using hx
  rcases hx' with rfl | rfl | rfl | rfl | rfl | rfl
  · exact laid_handle hh (n := "errors.errorType") (d := Rows.laid_errors_errorType) (List.mem_filter.2 ⟨by simp [laid, Rows.syntaxPrintsUptoRow], by kernel_rfl⟩) (name := [101, 114, 114, 111, 114]) (u := 167) (ty := 116) (by kernel_rfl) (by kernel_rfl) (by kernel_rfl) (by kernel_rfl) (by kernel_rfl) (by kernel_rfl)
  · exact laid_tab hl (n := "hindcast/lex.signs") (d := Rows.laid_hindcast_lex_signs) (List.mem_filter.2 ⟨by simp [laid, Rows.syntaxPrintsUptoRow], by kernel_rfl⟩) (by kernel_rfl) (by kernel_rfl) (t := 184) (e := 9) (k := 25) (by kernel_rfl) (by kernel_rfl) (by kernel_rfl) (.inl (by kernel_rfl)) (by kernel_rfl)
  · exact laid_tab hl (n := "hindcast/lex.words") (d := Rows.laid_hindcast_lex_words) (List.mem_filter.2 ⟨by simp [laid, Rows.syntaxPrintsUptoRow], by kernel_rfl⟩) (by kernel_rfl) (by kernel_rfl) (t := 185) (e := 9) (k := 10) (by kernel_rfl) (by kernel_rfl) (by kernel_rfl) (.inl (by kernel_rfl)) (by kernel_rfl)
  · exact laid_tab hl (n := "internal/strconv.uint64pow10") (d := Rows.laid_internal_strconv_uint64pow10) (List.mem_filter.2 ⟨by simp [laid, Rows.syntaxPrintsUptoRow], by kernel_rfl⟩) (by kernel_rfl) (by kernel_rfl) (t := 233) (e := 217) (k := 20) (by kernel_rfl) (by kernel_rfl) (by kernel_rfl) (.inr (.inl ⟨.u64, by kernel_rfl⟩)) (by kernel_rfl)
  · exact laid_tab hl (n := "math/bits.deBruijn32tab") (d := Rows.laid_math_bits_deBruijn32tab) (List.mem_filter.2 ⟨by simp [laid, Rows.syntaxPrintsUptoRow], by kernel_rfl⟩) (by kernel_rfl) (by kernel_rfl) (t := 272) (e := 5) (k := 32) (by kernel_rfl) (by kernel_rfl) (by kernel_rfl) (.inr (.inl ⟨.u8, by kernel_rfl⟩)) (by kernel_rfl)
  · exact laid_tab hl (n := "math/bits.deBruijn64tab") (d := Rows.laid_math_bits_deBruijn64tab) (List.mem_filter.2 ⟨by simp [laid, Rows.syntaxPrintsUptoRow], by kernel_rfl⟩) (by kernel_rfl) (by kernel_rfl) (t := 273) (e := 5) (k := 64) (by kernel_rfl) (by kernel_rfl) (by kernel_rfl) (.inr (.inl ⟨.u8, by kernel_rfl⟩)) (by kernel_rfl)
theorem of_size {W : World} (h : Globs hv W gl) : 9 ≤ W.heap.size := by
  obtain ⟨c, e, frz, h1, _⟩ := h (8, tb Rows.laid_math_bits_deBruijn64tab) (by simp [gl])
  exact lt_of_get h1

/-- The door's own heap meets the condition. -/
theorem door_met (os : Os) (args : Array Value) : laidMetH Tryz.prog laid ((World.doorLaid Tryz.prog 400 os).forCall (fun _ _ => 0) ⟨#[], args, []⟩).memory :=
  laidMetH_of_parts3 (fuel := 8) (laidMet_of_run' 8 (by kernel_rfl) (by kernel_rfl)) (by kernel_rfl) (by kernel_rfl)

/-- What the witness reads as. -/
theorem reads (os : Os) {H : Type} (enc : TypeId × Value → H) : ∃ places, DataW.whole enc Tryz.prog ((World.doorLaid Tryz.prog 400 os).forCall (fun _ _ => 0) ⟨#[], #[.agg #[.slice none 0 0, .slice none 0 0]], []⟩).memory Tryz.f4.params.toList Rows.syntaxPrintsSpec.vars false #[Value.agg #[.slice none 0 0, .slice none 0 0]].toList 8 = some ([.agg [.nil, .nil]], [], places) :=
  ⟨[], by kernel_rfl⟩
/-- There is an input that fits. -/
theorem fits (os : Os) {H : Type} (enc : TypeId × Value → H) : ∃ (w : World) (tape : Tape) (i : Input), w.os = os ∧ (w.forCall tape i).Shaped Tryz.prog ∧ i.vars = [] ∧ Input.okWide Tryz.prog (w.forCall tape i) .any w.heap.size 4 i ∧
      (Rows.OpenSpec.upto Rows.syntaxPrintsSpec).preRow enc Tryz.prog Tryz.f4 Rows.syntaxPrintsUptoRow.domain false Rows.syntaxPrintsUptoRow.laid (w.forCall tape i).memory i.args ∧ ({} : Assume).holds Tryz.prog (lone (Frame.enter Tryz.prog 4 i.args .normal) [] (w.forCall tape i)) := by
  obtain ⟨places, hx⟩ := reads os enc
  have hok : Input.okWideB Tryz.prog ((World.doorLaid Tryz.prog 400 os).forCall (fun _ _ => 0) ⟨#[], #[.agg #[.slice none 0 0, .slice none 0 0]], []⟩) 4 ⟨#[], #[.agg #[.slice none 0 0, .slice none 0 0]], []⟩ = true := by kernel_rfl
  exact ⟨World.doorLaid Tryz.prog 400 os, fun _ _ => 0, ⟨#[], #[.agg #[.slice none 0 0, .slice none 0 0]], []⟩, rfl, World.shaped_of_RefB (by kernel_rfl) (by kernel_rfl), (Input.okWide_of_okWideB (base := 0) hok).1, (Input.okWide_of_okWideB hok).2,
    OpenSpec.preRow_of_cond 8 hx (by kernel_rfl) (fun k hk => by cases hk; kernel_rfl) (by kernel_rfl) (door_met os _), by
    simp only [Assume.holds]
    exact ⟨by simp, by simp, fun _ => Modest.zero, by simp, by simp⟩⟩

set_option maxRecDepth 100000 in
theorem lifted (os : Os) (started : os.Started) (H : Type) (enc : TypeId × Value → H) (F : Stop.Interp) :
    ReturnsInHanded {} Tryz.checked os 4 .any ((Rows.OpenSpec.upto Rows.syntaxPrintsSpec).preRow enc Tryz.prog Tryz.f4 Rows.syntaxPrintsUptoRow.domain false Rows.syntaxPrintsUptoRow.laid) (((Rows.OpenSpec.upto Rows.syntaxPrintsSpec).at F).post enc Tryz.prog Tryz.f4 false true false false) := by
  refine returnsInHanded_of_row (C := Tryz.checked) (s := Rows.OpenSpec.upto Rows.syntaxPrintsSpec) own started (by kernel_rfl) Tryz.func4 (fits os enc) ?_
  intro W base args ds gs before hval0 hW _ hcond _ hL _ _
  have hk := hcond _ rfl
  have hval : ∀ (j : Nat) t v, Tryz.f4.params[j]? = some t → args[j]? = some v → Value.okWide Tryz.prog W .any base t v := hval0
  have hW' := hW
  obtain ⟨p, q, hA0, hV, rfl, hfz, hnd⟩ := hW
  have hA : DataW.TrodAll enc Tryz.prog W 0 (fun _ => true) true Tryz.f4.params.toList args.toList ds p := hA0
  rw [Tryz.params4] at hA hval
  obtain ⟨v0, vs0, d0, ds0, p0, q0, hargs, rfl, rfl, h0, r0⟩ := trodAll_cons hA
  obtain ⟨rfl, rfl, rfl⟩ := trodAll_nil r0
  obtain rfl : args = #[v0] := by cases args; simp_all
  obtain ⟨rfl, rfl⟩ := trodVars_none hV
  obtain ⟨l0, rfl, e0, c0⟩ := wide_agg (n := 2) (ts := [33, 34]) Tryz.underlying36 (by kernel_rfl) (by kernel_rfl) rfl (hval 0 36 v0 rfl rfl)
  clear hA0 hval0
  have hbk : Rows.uptoBulk d0 ≤ 1048576 := by
    have h : Rows.uptoBulkAll ([d0] ++ []) ≤ 1048576 := of_decide_eq_true hk
    simp only [List.append_nil, Rows.uptoBulkAll] at h
    omega
  obtain ⟨fuel, ht⟩ := h0
  refine (prints_walk W (of_laid hL) (of_size (of_laid hL)) ht hbk).mono fun e W' ⟨he, hb⟩ => ?_
  subst he
  have hp : Rows.syntaxPrintsSpec.post enc Tryz.prog Tryz.f4 false true false false W #[.agg ⟨l0⟩] (.bool true) W' :=
    post_below laidOut params_ok rfl (by first | (simp only [List.append_nil] at hW'; exact hW') | simpa using hW') rfl Tryz.underlying4 rfl hb
  exact ⟨_, rfl, hp⟩

theorem over : Rows.syntaxPrintsUptoRow.holds Tryz.pinned (Rows.OpenSpec.upto Rows.syntaxPrintsSpec) :=
  OpenClaim.holds_of_cond 4 Tryz.f4 rfl rfl rfl rfl rfl rfl rfl ⟨rfl, rfl, rfl, rfl, rfl⟩ rfl rfl rfl rfl rfl (by as_aux_lemma => kernel_rfl) Tryz.func4 facts
    (of_decide_eq_true (by as_aux_lemma => kernel_rfl)) (by unfold Func.isWrapper; first | (rw [if_pos (by decide +kernel)]; kernel_rfl) | (rw [if_neg (by decide +kernel)]; exact ⟨rfl, rfl⟩))
    (fun os started H enc _ F => by rw [OpenClaim.pre_eq_preRow]; exact lifted os started H enc F)

theorem p_named : Tryz.prog.funcNamed "hindcast/hindcastlaw04.SyntaxPrints" = some 4 := by kernel_rfl
theorem p_looks : true = Tryz.pinned.checked.prog.looks [] := by kernel_rfl
theorem p_goes : (Tryz.prog.funcs.toList.all fun fn => !fn.goes) = true := by kernel_rfl
theorem p_stand : Tryz.prog.wantsStandIn 36 = false := by kernel_rfl
/-- The statement: the tied card. -/
theorem proved : Rows.SyntaxPrintsUptoCardSaid :=
  Claim7.holds_tied_plain_at .later [] [.data, .data, .data, .handle, .sentinel, .sentinel, .data, .data] true (true, "8ac4b070a83cd33d3733ddef614809f0f6cf39dedf72085f10aead5515863cab") true
    over (fun _ h => by cases h) (by as_aux_lemma => kernel_rfl) (fun _ h => by cases h) syntaxPrintsUpto_row_tie rfl ⟨rfl, rfl⟩ (by as_aux_lemma => kernel_rfl) rfl
    (fun f fn hf hfn => by
      obtain rfl : f = 4 := Option.some.inj (p_named.symm.trans hf) |>.symm
      obtain rfl : fn = Tryz.f4 := (Option.some.inj (Tryz.func4.symm.trans hfn)).symm
      exact ⟨p_looks, fun j t ht => by
        rw [Tryz.params4] at ht
        have h3 : t = 36 := by
          match j, ht with
          | 0, ht => have := Option.some.inj ht; subst this; exact rfl
          | _ + 1, ht => simp at ht
        rcases h3 with rfl
        · exact p_stand⟩)
    (goesBy_none rfl p_goes)
#print axioms proved
end Go.Proofs.YtggjeecpadnihaaGreatDoor.syntaxPrints
