/- SessionNil: the law returns true at every input, and leaves its arguments as they were. No condition; the package-level tables that it reads are as the program's text lays them. -/
import Derived.Test.YtpkaflphdjdokaaGreatDoorSessionNilRun
import Derived.Test.YtpkaflphdjdokaaGreatDoorSessionNilFacts
import Derived.Test.YtpkaflphdjdokaaGreatDoorOwn
import Derived.Test.YtpkaflphdjdokaaGreatDoorCards
import Derived.WalkKit
import Derived.ProofKit
import Derived.LaidMore
import Derived.Lay
import Derived.OpenShut
import Derived.Stop.Joined
import Derived.Carry
import Derived.SevenTiedAt
namespace Go.Proofs.YtpkaflphdjdokaaGreatDoor.sessionNil
open Go Go.ChangeShapes Go.WideShapes Go.ChangeAt Go.WideMaps Go.WideElems Go.RowKit Go.Eng
set_option linter.unusedVariables false
set_option linter.unusedSimpArgs false

theorem own : ownKnob Tryz.prog.godebug = none := by kernel_rfl
theorem laidOut : laidOutB Tryz.prog = true := factFE
theorem params_ok : ∀ t ∈ Tryz.f3.params.toList, Tryz.prog.readableRec t = true ∧ t < Tryz.prog.types.size := by
  have h : (Tryz.f3.params.toList.all fun t => Tryz.prog.readableRec t && decide (t < Tryz.prog.types.size)) = true := by kernel_rfl
  intro t ht
  have := List.all_eq_true.1 h t ht
  rw [Bool.and_eq_true] at this
  exact ⟨this.1, of_decide_eq_true this.2⟩
noncomputable abbrev laid : List (String × DataW Unit) := Rows.sessionNilRow.laid

/-- What the condition gives: the tables. -/
theorem of_laid {W : World} (h : laidMetH Tryz.prog laid W) : Globs hv W gl := by
  obtain ⟨⟨ps, hl, _, _⟩, hh⟩ := laid_parts h
  intro x hx
  have hx' : x = (4, [AVal.sym KH]) ∨ x = (0, tb Rows.laid_hindcast_lex_signs) ∨ x = (1, tb Rows.laid_hindcast_lex_words) ∨ x = (2, tb Rows.laid_internal_strconv_uint64pow10) ∨ x = (5, tb Rows.laid_math_bits_deBruijn32tab) ∨ x = (6, tb Rows.laid_math_bits_deBruijn64tab) ∨ x = (7, tb Rows.laid_unicode_utf8_first) := by
    simpa [gl] using hx
  rcases hx' with rfl | rfl | rfl | rfl | rfl | rfl | rfl
  · exact laid_handle hh (n := "errors.errorType") (d := Rows.laid_errors_errorType) (List.mem_filter.2 ⟨by simp [laid, Rows.sessionNilRow], by kernel_rfl⟩) (name := [101, 114, 114, 111, 114]) (u := 499) (ty := 79) (by kernel_rfl) (by kernel_rfl) (by kernel_rfl) (by kernel_rfl) (by kernel_rfl) (by kernel_rfl)
  · exact laid_tab hl (n := "hindcast/lex.signs") (d := Rows.laid_hindcast_lex_signs) (List.mem_filter.2 ⟨by simp [laid, Rows.sessionNilRow], by kernel_rfl⟩) (by kernel_rfl) (by kernel_rfl) (t := 279) (e := 9) (k := 25) (by kernel_rfl) (by kernel_rfl) (by kernel_rfl) (.inl (by kernel_rfl)) (by kernel_rfl)
  · exact laid_tab hl (n := "hindcast/lex.words") (d := Rows.laid_hindcast_lex_words) (List.mem_filter.2 ⟨by simp [laid, Rows.sessionNilRow], by kernel_rfl⟩) (by kernel_rfl) (by kernel_rfl) (t := 281) (e := 9) (k := 10) (by kernel_rfl) (by kernel_rfl) (by kernel_rfl) (.inl (by kernel_rfl)) (by kernel_rfl)
  · exact laid_tab hl (n := "internal/strconv.uint64pow10") (d := Rows.laid_internal_strconv_uint64pow10) (List.mem_filter.2 ⟨by simp [laid, Rows.sessionNilRow], by kernel_rfl⟩) (by kernel_rfl) (by kernel_rfl) (t := 311) (e := 145) (k := 20) (by kernel_rfl) (by kernel_rfl) (by kernel_rfl) (.inr (.inl ⟨.u64, by kernel_rfl⟩)) (by kernel_rfl)
  · exact laid_tab hl (n := "math/bits.deBruijn32tab") (d := Rows.laid_math_bits_deBruijn32tab) (List.mem_filter.2 ⟨by simp [laid, Rows.sessionNilRow], by kernel_rfl⟩) (by kernel_rfl) (by kernel_rfl) (t := 491) (e := 5) (k := 32) (by kernel_rfl) (by kernel_rfl) (by kernel_rfl) (.inr (.inl ⟨.u8, by kernel_rfl⟩)) (by kernel_rfl)
  · exact laid_tab hl (n := "math/bits.deBruijn64tab") (d := Rows.laid_math_bits_deBruijn64tab) (List.mem_filter.2 ⟨by simp [laid, Rows.sessionNilRow], by kernel_rfl⟩) (by kernel_rfl) (by kernel_rfl) (t := 492) (e := 5) (k := 64) (by kernel_rfl) (by kernel_rfl) (by kernel_rfl) (.inr (.inl ⟨.u8, by kernel_rfl⟩)) (by kernel_rfl)
  · exact laid_tab hl (n := "unicode/utf8.first") (d := Rows.laid_unicode_utf8_first) (List.mem_filter.2 ⟨by simp [laid, Rows.sessionNilRow], by kernel_rfl⟩) (by kernel_rfl) (by kernel_rfl) (t := 560) (e := 5) (k := 256) (by kernel_rfl) (by kernel_rfl) (by kernel_rfl) (.inr (.inl ⟨.u8, by kernel_rfl⟩)) (by kernel_rfl)
theorem of_size {W : World} (h : Globs hv W gl) : 8 ≤ W.heap.size := by
  obtain ⟨c, e, frz, h1, _⟩ := h (7, tb Rows.laid_unicode_utf8_first) (by simp [gl])
  exact lt_of_get h1

/-! ### The run: lives by its contract -/
noncomputable section
def X1  : Cx := ⟨[], 8⟩
theorem law_run (es : Nat → TypeId)  (a1 : Bool) : isTrueR (callF Tryz.prog (X1 ) (extOf 14 gl) 100 (.fn 3) [.agg (symsFrom 0 8), .bool a1] (globH 8 es gl)) = 1 := by
  cases a1 <;> kernel_rfl
end

theorem walk (a0 : List Value) (a1 : Bool)  (e0 : a0.length = 8) (o0 : ∀ x ∈ a0, Value.one x = true) (W : World) (hg : Globs hv W gl) : Calls Tryz.prog 3 #[.agg ⟨a0⟩, .bool a1] W fun e w' => e = .returned (.bool true) ∧ Below W.heap.size W w' := by
  have hK : envL hv (a0 ++ ([])) KH = hv := envL_K (by simp [KH, e0])
  have henv : EnvOk (envL hv (a0 ++ ([]))) := by
    refine envL_ok rfl fun x hx => ?_
    simp only [List.mem_append, List.mem_singleton, List.not_mem_nil, or_false] at hx
    · exact o0 x hx
  have hf : ∀ f ∈ (X1 ).facts, FactOk Tryz.prog (envL hv (a0 ++ ([]))) f := by
    intro f hf
    cases hf
  have r0 : VRel (globR 8 W) (envL hv (a0 ++ ([]))) (.agg (symsFrom 0 8)) (.agg ⟨a0⟩) := by
    have h := vrels_syms (ρ := globR 8 W) (hv := hv) a0 ([] : List Value) ([])
    have hl : ([] : List Value).length = 0 := by simp
    rw [hl, e0] at h
    refine VRels.agg ?_
    simpa [List.append_assoc] using h
  exact true_calls hK rfl (callF_ok (P := Tryz.prog) (X := X1 ) prog_names henv hf prog_mix prog_ok (extOf_ok hK gl_lt gl_lit lives_calls) 100) gl_lt (law_run (globElem W)  a1 ) (by kernel_rfl) (of_size hg) hg (.cons r0 (.cons (VRel.bool a1) .nil))

/-- The witness: the door's own heap, and the pinned tables laid. -/
noncomputable def witW (os : Os) : World := (World.doorLaid Tryz.prog 400 os).layVars Tryz.prog ((laid.filter fun x => x.2.handleName?.isNone).filter fun x => (["unicode/utf8.first"]).contains x.1)
def witB (n : Nat) : List Nat := (List.range n).filter fun k => !([7]).contains k
theorem door_met (os : Os) (args : Array Value) : laidMetH Tryz.prog laid ((witW os).forCall (fun _ _ => 0) ⟨#[], args, []⟩).memory :=
  laidMetH_of_parts3 (fuel := 8) (laidMet.of_heap (by simp [World.memory, World.forCall, Input.heap]) (laidMet_layVars (w0 := World.doorLaid Tryz.prog 400 os) (w' := witW os) ["unicode/utf8.first"] (witB (World.doorLaid Tryz.prog 400 os).heap.size) rfl (by kernel_rfl) (by kernel_rfl)
    (LaidIn.of_run (witB (World.doorLaid Tryz.prog 400 os).heap.size) 8 (by kernel_rfl) (by kernel_rfl) (by kernel_rfl) (by kernel_rfl)))) (by kernel_rfl) (by kernel_rfl)

set_option maxRecDepth 100000 in
theorem lifted (os : Os) (started : os.Started) (H : Type) (enc : TypeId × Value → H) :
    ReturnsInHanded {} Tryz.checked os 3 .any (fun w args => (Rows.sessionNilSpec.pre enc Tryz.prog Tryz.f3 [] false w args ∧ laidMetH Tryz.prog laid w) ∧ sizedMet enc Tryz.prog Tryz.f3 (OpenSpec.ofChange Rows.sessionNilSpec) false w args)
      (Rows.sessionNilSpec.post enc Tryz.prog Tryz.f3 false true false false) := by
  refine returnsInHanded_of_change_and (C := Tryz.checked) (X := fun w _ => laidMetH Tryz.prog laid w) (fun _ _ _ hh h => h.of_heap hh) own started (by kernel_rfl) Tryz.func3
    (ChangeSpec.witness_shaped (enc := enc) (C := Tryz.checked) (os := os) (X := fun w _ => laidMetH Tryz.prog laid w) false (witW os) #[.agg #[.int .i64 0, .int .i64 0, .int .i64 0, .int .i64 0, .string ⟨#[]⟩, .int .i64 0, .int .i64 0, .string ⟨#[]⟩], .bool false] 8 ((World.layVars_os _ _ _).trans rfl) (World.shaped_of_RefB (by kernel_rfl) (by kernel_rfl)) (by kernel_rfl) (by kernel_rfl) (by kernel_rfl) (door_met os _)) ?_
  intro W base args ds gs before hval0 hW _ _ hL _
  have hval : ∀ (j : Nat) t v, Tryz.f3.params[j]? = some t → args[j]? = some v → Value.okWide Tryz.prog W .any base t v := hval0
  have hW' := hW
  obtain ⟨p, q, hA0, hV, rfl, hfz, hnd⟩ := hW
  have hA : DataW.TrodAll enc Tryz.prog W 0 (fun _ => true) true Tryz.f3.params.toList args.toList ds p := hA0
  rw [Tryz.params3] at hA hval
  obtain ⟨v0, vs0, d0, ds0, p0, q0, hargs, rfl, rfl, h0, r0⟩ := trodAll_cons hA
  obtain ⟨v1, vs1, d1, ds1, p1, q1, rfl, rfl, rfl, h1, r1⟩ := trodAll_cons r0
  obtain ⟨rfl, rfl, rfl⟩ := trodAll_nil r1
  obtain rfl : args = #[v0, v1] := by cases args; simp_all
  obtain ⟨rfl, rfl⟩ := trodVars_none hV
  obtain ⟨l0, rfl, e0, c0⟩ := wide_agg (n := 8) (ts := [3, 3, 22, 3, 9, 23, 3, 9]) Tryz.underlying27 (by kernel_rfl) (by kernel_rfl) rfl (hval 0 27 v0 rfl rfl)
  obtain ⟨a1, rfl, rfl, rfl⟩ := open_bool Tryz.underlying4 (hval 1 4 v1 rfl rfl) h1
  clear hA0 hval0
  refine (walk l0 a1  e0 (ones_of c0) W (of_laid hL)).mono fun e W' ⟨he, hb⟩ => ?_
  subst he
  exact ⟨_, rfl, post_below laidOut params_ok rfl (by simpa using hW') rfl Tryz.underlying4 rfl hb⟩

theorem over : Rows.sessionNilRow.holds Tryz.pinned (OpenSpec.ofChange Rows.sessionNilSpec) :=
  OpenClaim.holds_of_wide 3 Tryz.f3 rfl rfl rfl rfl rfl rfl rfl ⟨rfl, rfl, rfl, rfl, rfl⟩ rfl rfl rfl rfl rfl (by as_aux_lemma => kernel_rfl) Tryz.func3 facts
    (of_decide_eq_true (by as_aux_lemma => kernel_rfl)) (by unfold Func.isWrapper; first | (rw [if_pos (by decide +kernel)]; kernel_rfl) | (rw [if_neg (by decide +kernel)]; exact ⟨rfl, rfl⟩))
    (fun os started H enc _ => lifted os started H enc)

theorem p_named : Tryz.prog.funcNamed "hindcast/hindcastlaw19.SessionNil" = some 3 := by kernel_rfl
theorem p_looks : true = Tryz.pinned.checked.prog.looks [] := by kernel_rfl
theorem p_goes : (Tryz.prog.funcs.toList.all fun fn => !fn.goes) = true := by kernel_rfl
theorem p_stand27 : Tryz.prog.wantsStandIn 27 = false := by kernel_rfl
theorem p_stand4 : Tryz.prog.wantsStandIn 4 = false := by kernel_rfl
/-- The statement: the tied card. -/
theorem proved : Rows.SessionNilCardSaid :=
  Claim7.holds_tied_plain_at .later [] [.data, .data, .data, .data, .data, .sentinel, .sentinel, .handle, .pinned, .data] true (true, "8afab2ada895828f26da6a757635a877409bc204b5bfabf358fa45e49c85a73a") true
    over (fun _ h => by cases h) (by as_aux_lemma => kernel_rfl) (fun _ h => by cases h) sessionNil_row_tie2 rfl ⟨rfl, rfl⟩ (by as_aux_lemma => kernel_rfl) rfl
    (fun f fn hf hfn => by
      obtain rfl : f = 3 := Option.some.inj (p_named.symm.trans hf) |>.symm
      obtain rfl : fn = Tryz.f3 := (Option.some.inj (Tryz.func3.symm.trans hfn)).symm
      exact ⟨p_looks, fun j t ht => by
        rw [Tryz.params3] at ht
        have h3 : t = 27 ∨ t = 4 := by
          match j, ht with
          | 0, ht => have := Option.some.inj ht; subst this; exact .inl rfl
          | 1, ht => have := Option.some.inj ht; subst this; exact .inr (rfl)
          | _ + 2, ht => simp at ht
        rcases h3 with rfl | rfl
        · exact p_stand27
        · exact p_stand4⟩)
    (goesBy_none rfl p_goes)
#print axioms proved
end Go.Proofs.YtpkaflphdjdokaaGreatDoor.sessionNil
