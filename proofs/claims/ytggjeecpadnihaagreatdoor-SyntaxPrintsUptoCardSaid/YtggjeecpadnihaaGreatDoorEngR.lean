/- The engine, part R: results, deferred calls, the end of a function. -/
import Derived.Test.YtggjeecpadnihaaGreatDoorEngQ3
import Derived.Defers
set_option linter.unusedVariables false
set_option linter.unusedSimpArgs false
set_option linter.unusedSectionVars false
namespace Go.Eng

section
variable {P : Program} {env : Nat → Value} {okc : FuncId → Code → Bool} {ρ ρ' : Rho} {h h' : AHeap} {w w' : World} {X : Cx}

/-! ### Results -/
def resultOf (tmps : Array Value) : ResultVar → Sem Value
  | .tmp t => pure (tmps.getD t undef)
  | .cell a t => do loadVar t (← asAddr (tmps.getD a undef))

theorem results_list (hr : HRel P env okc ρ h w) {mask : Nat} {tm : T AVal} {tmps : Array Value} (ht : TmRel env ρ mask tm tmps) : ∀ (l : List ResultVar) (vs : List AVal), resultsA P h tm l = some vs →
    ∃ xs, VRels ρ env vs xs ∧ (l.mapM (resultOf tmps)).run P w = .ok xs w
  | [], vs, hx => by cases hx; exact ⟨[], .nil, rfl⟩
  | .tmp t :: l, vs, hx => by
    unfold resultsA at hx
    split at hx
    rotate_left
    · cases hx
    rename_i v r h1 h2
    cases hx
    obtain ⟨_, x, g1, g2⟩ := ht t v h1
    obtain ⟨xs, q1, q2⟩ := results_list hr ht l r h2
    refine ⟨x :: xs, .cons g2 q1, ?_⟩
    have hd : tmps.getD t undef = x := by simp [Array.getD_eq_getD_getElem?, g1]
    rw [List.mapM_cons]
    simp only [resultOf, Sem.run_bind, Sem.run_pure, Result.andThen_ok, q2, hd]
  | .cell a t :: l, vs, hx => by
    unfold resultsA at hx
    split at hx
    rotate_left
    · cases hx
    rename_i b o r h1 h2
    split at hx
    rotate_left
    · cases hx
    rename_i v hl
    cases hx
    obtain ⟨_, x, g1, g2⟩ := ht a _ h1
    have hd : tmps.getD a undef = x := by simp [Array.getD_eq_getD_getElem?, g1]
    cases g2 with | ptr _ hi =>
    obtain ⟨y, y1, y2⟩ := loadA_sound hr hi hl
    obtain ⟨xs, q1, q2⟩ := results_list hr ht l r h2
    refine ⟨y :: xs, .cons y2 q1, ?_⟩
    rw [List.mapM_cons]
    simp only [resultOf, Sem.run_bind, hd, asAddr, Sem.run_pure, Result.andThen_ok, y1, q2]

theorem results_sound (hr : HRel P env okc ρ h w) {mask : Nat} {tm : T AVal} {tmps : Array Value} (ht : TmRel env ρ mask tm tmps) {fn : Func} {vs : List AVal} (hx : resultsA P h tm fn.results.toList = some vs) :
    ∃ x, (results fn tmps).run P w = .ok x w ∧ VRel ρ env (tupA vs) x := by
  obtain ⟨xs, h1, h2⟩ := results_list hr ht _ _ hx
  have hm : (fn.results.mapM (resultOf tmps)).run P w = .ok ⟨xs⟩ w := by
    rw [← Array.toArray_toList (xs := fn.results), List.mapM_toArray]
    simp [h2]
  refine ⟨if h : (⟨xs⟩ : Array Value).size = 1 then (⟨xs⟩ : Array Value)[0] else .tuple ⟨xs⟩, ?_, ?_⟩
  · have e : results fn tmps = (do let vs ← fn.results.mapM (resultOf tmps); pure (if h : vs.size = 1 then vs[0] else .tuple vs)) := by
      unfold results resultOf
      congr 1
    rw [e]
    simp only [Sem.run_bind, hm, Result.andThen_ok, Sem.run_pure]
  · match vs, h1 with
    | [], h1 => rw [h1.nil_iff]; exact VRels.nil.tup
    | [v], h1 =>
      obtain ⟨x, r, rfl, hv, hr⟩ := h1.uncons
      have := hr.nil_iff; subst this
      exact hv
    | v1 :: v2 :: r, h1 =>
      obtain ⟨x, r', rfl, hv, hr⟩ := h1.uncons
      obtain ⟨y, r'', rfl, hv', hr'⟩ := hr.uncons
      have hne : ¬ ((⟨x :: y :: r''⟩ : Array Value).size = 1) := by simp
      rw [dif_neg hne]
      exact h1.tup

/-! ### Deferred calls -/
/-- Do the deferred calls come to what they come to in the world? -/
def CallDOk (P : Program) (env : Nat → Value) (okc : FuncId → Code → Bool) (ng : Nat) (call : FuncId → List AVal → UM → AHeap → Option (AEnd × UM × AHeap)) : Prop :=
  ∀ ρ h w, HRel P env okc ρ h w → GlobOk ρ ng → ∀ f args u e u' h', call f args u h = some (e, u', h') → u ≠ .no → (bodyOf P f).isSome = true → ∀ args', VRels ρ env args args' → ∀ (c0 : Frame) cs, ModeRel env ρ u c0.mode →
    ∃ ρ' w' fr m' x, Steps P (lone (Frame.enter P f ⟨args'⟩ .deferred) (c0 :: cs) w) (lone fr ({ c0 with mode := m' } :: cs) w') ∧ fr.kind = .deferred ∧ fr.going P w' x ∧ Go' P env okc (fun b => h.next ≤ b) ρ h w ρ' h' w' ∧
      EndRel env ρ' e x ∧ ModeRel env ρ' u' m' ∧ u' ≠ .no

theorem step_collected {fr : Frame} {cs : List Frame} {B : Nat} {ds : List Deferred} (hm : fr.mode ≠ .run) (hd : fr.defers = { target := .collected B, args := #[] } :: ds)
    (hw : w.heap[B]? = some (.deferred (some []))) : step P (lone fr cs w) = .next (lone { fr with defers := ds } cs (setAt' w B (.deferred none))) := by
  have ht : (Instr.takeDeferred B).run P w = .ok [] (setAt' w B (.deferred none)) := by
    simp [Instr.takeDeferred, getObj, setObj, Sem.run, hw, setAt', Sem.run_bind]
  refine step_lone_go ?_
  cases hmode : fr.mode with
  | run => exact absurd hmode hm
  | returning => simp [stepG, Go.unwind, hmode, hd, Sem.runT_eq, ht]
  | panicking chain => simp [stepG, Go.unwind, hmode, hd, Sem.runT_eq, ht]

theorem body_call {f : FuncId} (hb : (bodyOf P f).isSome = true) (args : Array Value) : (callFunc f args).run P w = .ok (.enter f args) w := by
  cases h : bodyOf P f with
  | none => rw [h] at hb; cases hb
  | some fc =>
    unfold bodyOf at h
    split at h
    rotate_left
    · cases h
    rename_i fn' hf
    split at h
    · cases h
    rename_i hnm
    split at h
    rotate_left
    · cases h
    rename_i c hcb
    have hn' : ¬ fn'.name = "runtime.NumGoroutine" := by simpa using hnm
    simp [callFunc, hf, hn', hcb]

/-- The deferred calls of a frame, and its end. -/
theorem unwind_sound {ng : Nat} {cl : CallF} {call : FuncId → List AVal → UM → AHeap → Option (AEnd × UM × AHeap)} (hc : CallDOk P env okc ng call) {fn : Func} {mask : Nat} {tm : T AVal} :
    ∀ (ds : List ADefd) (u : UM) (h : AHeap) (e : AEnd) (h' : AHeap) (ρ : Rho) (w : World) (fr : Frame) (dsC : List Deferred), Eng.unwind P cl call fn tm ds u h = some (e, h') → HRel P env okc ρ h w → GlobOk ρ ng → u ≠ .no →
      ModeRel env ρ u fr.mode → TmRel env ρ mask tm fr.tmps → DefsRel env ρ ds dsC → fr.defers = dsC → fr.kind = .normal → P.funcs[fr.fn]? = some fn → ∀ cs,
      ∃ ρ' w' fr' x, Steps P (lone fr cs w) (lone fr' cs w') ∧ fr'.fn = fr.fn ∧ fr'.leaving P w' x ∧ Go' P env okc (fun b => h.next ≤ b) ρ h w ρ' h' w' ∧ EndRel env ρ' e x
  | [], u, h, e, h', ρ, w, fr, dsC, hx, hr, hg, hu, hm, ht, hd, hfd, hk, hf, cs => by
    have hds : dsC = [] := by cases dsC with | nil => rfl | cons _ _ => exact hd.elim
    subst hds
    cases u with
    | no => exact absurd rfl hu
    | ret =>
      unfold Eng.unwind at hx
      split at hx
      rotate_left
      · cases hx
      rename_i l hl
      cases hx
      obtain ⟨x, h1, h2⟩ := results_sound hr ht hl
      exact ⟨ρ, w, fr, .returned x, Steps.refl P _, rfl, ⟨hm, hfd, hk, fn, hf, h1⟩, .refl hr, h2⟩
    | pan v r =>
      cases r with
      | true => cases hx
      | false =>
        cases hx
        obtain ⟨x, h1, h2⟩ := hm
        exact ⟨ρ, w, fr, .panicked [{ v := x, recovered := false }], Steps.refl P _, rfl, ⟨h1, hfd, fn, hf⟩, .refl hr, ⟨x, rfl, h2⟩⟩
  | .collected b :: ds, u, h, e, h', ρ, w, fr, dsC, hx, hr, hg, hu, hm, ht, hd, hfd, hk, hf, cs => by
    cases dsC with
    | nil => exact hd.elim
    | cons d dsC =>
      obtain ⟨⟨i, hi, rfl⟩, hd2⟩ := hd
      unfold Eng.unwind at hx
      split at hx
      rotate_left
      · cases hx
      rename_i hb
      obtain ⟨ob, h1, h2⟩ := hr.obj b _ i hb rfl hi
      have h2 : ob = .deferred (some []) := h2
      subst h2
      have hrun : fr.mode ≠ .run := by
        cases u with
        | no => exact absurd rfl hu
        | ret => have : fr.mode = .returning := hm; rw [this]; simp
        | pan v r => obtain ⟨x, h1, _⟩ := hm; rw [h1]; simp
      have hput : Go' P env okc (fun b => h.next ≤ b) ρ h w ρ (h.put b (.defs none)) (setAt' w i.blk (.deferred none)) := Go'.put hr hb ⟨rfl, rfl⟩ hi rfl
      have hstep := step_collected (P := P) (cs := cs) hrun hfd h1
      obtain ⟨ρ', w', fr', x, q1, q2, q3, q4, q5⟩ := unwind_sound hc ds u _ e h' ρ _ { fr with defers := dsC } dsC hx hput.rel hg hu hm ht hd2 rfl hk hf cs
      exact ⟨ρ', w', fr', x, .head hstep q1, q2, q3, hput.trans q4, q5⟩
  | .call d :: ds, u, h, e, h', ρ, w, fr, dsC, hx, hr, hg, hu, hm, ht, hd, hfd, hk, hf, cs => by
    cases dsC with
    | nil => exact hd.elim
    | cons d' dsC =>
      obtain ⟨⟨cap, args, rfl, hcap, hargs⟩, hd2⟩ := hd
      unfold Eng.unwind at hx
      split at hx
      rotate_left
      · cases hx
      rename_i fc hb
      have hbs : (bodyOf P d.f).isSome = true := by rw [hb]; rfl
      have hrun : fr.mode ≠ .run := by
        cases u with
        | no => exact absurd rfl hu
        | ret => have : fr.mode = .returning := hm; rw [this]; simp
        | pan v r => obtain ⟨x, h1, _⟩ := hm; rw [h1]; simp
      have hinv : (invoke (.fn (.func d.f) ⟨cap⟩) ⟨args⟩).run P w = .ok (.enter d.f ⟨args ++ cap⟩) w := by
        have e : (⟨args⟩ : Array Value) ++ (⟨cap⟩ : Array Value) = ⟨args ++ cap⟩ := by apply Array.ext'; simp
        show (callFunc d.f ((⟨args⟩ : Array Value) ++ (⟨cap⟩ : Array Value))).run P w = _
        rw [e]; exact body_call hbs _
      have hstep := step_defer (P := P) (cs := cs) hrun hfd rfl hinv
      cases hcall : call d.f (d.args ++ d.cap) u h with
      | none => rw [hcall] at hx; cases hx
      | some r =>
        obtain ⟨e1, u1, h1⟩ := r
        obtain ⟨ρ1, w1, frX, m1, x1, q1, q2, q3, q4, q5, q6, q7⟩ := hc ρ h w hr hg d.f _ u e1 u1 h1 hcall hu hbs _ (hargs.append hcap) { fr with defers := dsC } cs hm
        have hn := q4.next
        -- on behind the call
        have on : ∀ (u2 : UM) (m2 : FrameMode), u2 ≠ .no → ModeRel env ρ1 u2 m2 → Eng.unwind P cl call fn tm ds u2 h1 = some (e, h') →
            step P (lone frX ({ { fr with defers := dsC } with mode := m1 } :: cs) w1) = .next (lone { { fr with defers := dsC } with mode := m2 } cs w1) →
            ∃ ρ' w' fr' x, Steps P (lone fr cs w) (lone fr' cs w') ∧ fr'.fn = fr.fn ∧ fr'.leaving P w' x ∧ Go' P env okc (fun b => h.next ≤ b) ρ h w ρ' h' w' ∧ EndRel env ρ' e x := by
          intro u2 m2 hu2 hm2 hx2 hst
          obtain ⟨ρ', w', fr', x, r1, r2, r3, r4, r5⟩ := unwind_sound hc ds u2 h1 e h' ρ1 w1 { { fr with defers := dsC } with mode := m2 } dsC hx2 q4.rel (hg.mono q4.sub) hu2 hm2 (ht.mono q4.sub) (hd2.mono q4.sub) rfl hk hf cs
          exact ⟨ρ', w', fr', x, .head hstep (Steps.trans q1 (.head hst r1)), r2, r3, q4.trans (r4.mono (fun y hy => Nat.le_trans hn hy)), r5⟩
        rw [hcall] at hx
        cases e1 with
        | ret v =>
          cases x1 with
          | panicked _ => exact q5.elim
          | outgrown => exact q5.elim
          | returned y =>
            have hback := step_going_returned (P := P) (c := { { fr with defers := dsC } with mode := m1 }) (cs := cs) q2 q3
            cases u1 with
            | no => exact absurd rfl q7
            | ret =>
              have hm1 : m1 = .returning := q6
              subst hm1
              exact on .ret .returning (by simp) rfl hx hback
            | pan v' r =>
              obtain ⟨z, rfl, hz⟩ := q6
              cases r with
              | true => exact on .ret .returning (by simp) rfl hx hback
              | false => exact on (.pan v' false) _ (by simp) ⟨z, rfl, hz⟩ hx hback
        | pan v =>
          cases x1 with
          | returned _ => exact q5.elim
          | outgrown => exact q5.elim
          | panicked ch =>
            obtain ⟨y, rfl, hv⟩ := q5
            have hback := step_going_panicked (P := P) (c := { { fr with defers := dsC } with mode := m1 }) (cs := cs) q3
            cases u1 with
            | no => cases hx
            | ret =>
              have hm1 : m1 = .returning := q6
              subst hm1
              exact on (.pan v false) _ (by simp) ⟨y, rfl, hv⟩ hx hback
            | pan v' r => cases r <;> cases hx

end
end Go.Eng
