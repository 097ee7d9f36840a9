/- The engine, part S: calls. -/
import Derived.Test.YtggjeecpadnihaaGreatDoorEngR
set_option linter.unusedVariables false
set_option linter.unusedSimpArgs false
set_option linter.unusedSectionVars false
namespace Go.Eng

section
variable {P : Program} {env : Nat → Value} {ρ ρ' : Rho} {h h' : AHeap} {w w' : World} {X : Cx}

/-! ### Arguments -/
theorem fits_len : ∀ (l : List AVal), List.rec (motive := fun _ => Nat) 0 (fun _ _ ih => Nat.succ ih) l = l.length
  | [] => rfl
  | _ :: l => by show Nat.succ _ = _; rw [fits_len l]; rfl
theorem fits_le {l : List AVal} {n : Nat} (h : fits l n = true) : l.length ≤ n := by
  unfold fits at h; rw [fits_len] at h; exact Nat.le_of_ble_eq_true h

theorem paramsA_get (m : Nat) : ∀ (l : List AVal) (i : Nat) (tm : T AVal) (t : Nat) (v : AVal), (paramsA l i m tm).get t = some v →
    (tm.get t = some v) ∨ (i ≤ t ∧ l[t - i]? = some v ∧ bitOf m t = true)
  | [], _, _, _, _, h => .inl h
  | x :: l, i, tm, t, v, h => by
    have h' : (match bitOf m i with | true => paramsA l (Nat.succ i) m (T.set x tm i) | false => paramsA l (Nat.succ i) m tm).get t = some v := h
    cases hb : bitOf m i with
    | false =>
      rw [hb] at h'
      rcases paramsA_get m l (i + 1) tm t v h' with h1 | ⟨h1, h2, h3⟩
      · exact .inl h1
      · refine .inr ⟨by omega, ?_, h3⟩
        have e : t - i = (t - (i + 1)) + 1 := by omega
        rw [e, List.getElem?_cons_succ]; exact h2
    | true =>
      rw [hb] at h'
      rcases paramsA_get m l (i + 1) _ t v h' with h1 | ⟨h1, h2, h3⟩
      · rw [T.get_set] at h1
        split at h1
        · rename_i e
          cases h1; subst e
          exact .inr ⟨Nat.le_refl _, by simp, hb⟩
        · exact .inl h1
      · refine .inr ⟨by omega, ?_, h3⟩
        have e : t - i = (t - (i + 1)) + 1 := by omega
        rw [e, List.getElem?_cons_succ]; exact h2

theorem leaf_get (t : Nat) : (T.leaf : T AVal).get t = none := rfl

/-- A frame's first slots. -/
theorem params_rel {args : List AVal} {args' : List Value} (ha : VRels ρ env args args') (mask n : Nat) : TmRel env ρ mask (paramsA args 0 mask .leaf) ((⟨args'⟩ : Array Value) ++ Array.replicate (n - (⟨args'⟩ : Array Value).size) undef) := by
  intro t v hg
  rcases paramsA_get mask args 0 .leaf t v hg with h1 | ⟨_, h2, h3⟩
  · cases h1
  · obtain ⟨x, h4, h5⟩ := ha.get h2
    refine ⟨h3, x, ?_, h5⟩
    have hlt : t < args'.length := by
      rcases Nat.lt_or_ge t args'.length with h | h
      · exact h
      · rw [Nat.sub_zero] at h4; rw [List.getElem?_eq_none h] at h4; cases h4
    rw [Array.getElem?_append_left (by simpa using hlt)]
    simpa using h4

theorem enter_frame {f : FuncId} {fn : Func} {c : Code} (hb : bodyOf P f = some (fn, c)) (args : Array Value) (kind : CallKind) :
    Frame.enter P f args kind = ({ (default : Frame) with fn := f, kind := kind } : Frame).atR { tmps := args ++ Array.replicate (fn.ntmps - args.size) undef, defers := [] } [.code c] := by
  unfold bodyOf at hb
  split at hb
  rotate_left
  · cases hb
  rename_i fn' hf
  split at hb
  · cases hb
  split at hb
  rotate_left
  · cases hb
  rename_i c' hc
  cases hb
  simp only [Frame.enter, Frame.atR, hf, Option.map_some, Option.getD_some, Option.bind_some, hc]
  rfl

theorem bodyOf_funcs {f : FuncId} {fn : Func} {c : Code} (hb : bodyOf P f = some (fn, c)) : P.funcs[f]? = some fn ∧ fn.body = some c := by
  unfold bodyOf at hb
  split at hb
  rotate_left
  · cases hb
  rename_i fn' hf
  split at hb
  · cases hb
  split at hb
  rotate_left
  · cases hb
  rename_i c' hc
  cases hb
  exact ⟨hf, hc⟩

theorem progOk_body (hp : progOk P = true) {f : FuncId} {fn : Func} {c : Code} (hb : bodyOf P f = some (fn, c)) : codeOk fn.ntmps c = true := by
  obtain ⟨h1, h2⟩ := bodyOf_funcs hb
  unfold progOk at hp
  rw [List.all_eq_true] at hp
  have hm : fn ∈ P.funcs.toList := by
    rw [Array.mem_toList_iff]; exact Array.mem_of_getElem? h1
  have := hp fn hm
  rw [h2] at this
  exact this

variable (he : EnvOk env) (hF : ∀ f ∈ X.facts, FactOk P env f) (hmix : P.follows .mixedOrders = true) (hp : progOk P = true)

/-- How a body is run, in a frame of its own. -/
theorem body_start {fn : Func} {c : Code} {args : List AVal} {args' : List Value} (ha : VRels ρ env args args') (hfit : fits args fn.ntmps = true) {okc : FuncId → Code → Bool}
    (hr : HRel P env okc ρ h w) {um : UM} {m : FrameMode} (hm : ModeRel env ρ um m) :
    CSt P env okc fn.ntmps (maskF fn c) ρ ⟨paramsA args 0 (maskF fn c) .leaf, [], h, um⟩ { tmps := (⟨args'⟩ : Array Value) ++ Array.replicate (fn.ntmps - (⟨args'⟩ : Array Value).size) undef, defers := [] } m w := by
  refine ⟨params_rel ha _ _, ?_, trivial, hr, hm⟩
  have h1 := fits_le hfit
  have h2 := ha.1
  simp
  omega

include he hF hmix hp

/-- A deferred call. -/
theorem callD_sound {call : CallF} (hc : CallOk P env (okcP P) X.nglob call) : CallDOk P env (okcP P) X.nglob (callD P X call) := by
  intro ρ h w hr hg f args u e u' h' hx hu hbs args' ha c0 cs hm
  unfold callD at hx
  split at hx
  rotate_left
  · cases hx
  rename_i fn c hb
  split at hx
  · cases hx
  rename_i hfit
  have hst := body_start (c := c) ha hfit hr hm
  have hcode := code_sound he hF hc hmix (n := fn.ntmps) (mask := maskF fn c) (rd := none) (b := { (default : Frame) with fn := f, kind := .deferred }) (cfn := fun m => { c0 with mode := m } :: cs) hb rfl rfl c (progOk_body hp hb)
  have hent := enter_frame hb (⟨args'⟩ : Array Value) .deferred
  have hcs : CsOk ({ (default : Frame) with fn := f, kind := .deferred } : Frame) (fun m => { c0 with mode := m } :: cs) u := .inr ⟨rfl, hu, c0, cs, rfl⟩
  have key : ∀ x s', execC P X call none (maskF fn c) f c ⟨paramsA args 0 (maskF fn c) .leaf, [], h, u⟩ = some (x, s') → s'.um ≠ .no ∧
      ∃ ρ' a' m' w', Arr P env ({ (default : Frame) with fn := f, kind := .deferred } : Frame) (fun m => { c0 with mode := m } :: cs) [] (lone (Frame.enter P f ⟨args'⟩ .deferred) (c0 :: cs) w) ρ' a' m' w' x ∧
        CSt P env (okcP P) fn.ntmps (maskF fn c) ρ' s' a' m' w' ∧ Go' P env (okcP P) (fun y => h.next ≤ y) ρ h w ρ' s'.h w' := by
    intro x s' hrun
    obtain ⟨ρ', a', m', w', q1, q2, q3, q4⟩ := hcode [] ⟨paramsA args 0 (maskF fn c) .leaf, [], h, u⟩ x s' ρ _ c0.mode w hrun hst hg hcs rfl
    rw [hent]
    refine ⟨?_, ρ', a', m', w', q1, q2, q3⟩
    rcases q4 with ⟨q5, _⟩ | ⟨_, q6, _⟩
    · cases q5
    · exact q6
  have fin : ∀ (x : AExit) (tm : T AVal) (h1 : AHeap) (u1 : UM) (l : List AVal), (x = .normal ∨ x = .ret) → execC P X call none (maskF fn c) f c ⟨paramsA args 0 (maskF fn c) .leaf, [], h, u⟩ = some (x, ⟨tm, [], h1, u1⟩) →
      resultsA P h1 tm fn.results.toList = some l → (e, u', h') = (.ret (tupA l), u1, h1) →
      ∃ ρ' w' fr m' x, Steps P (lone (Frame.enter P f ⟨args'⟩ .deferred) (c0 :: cs) w) (lone fr ({ c0 with mode := m' } :: cs) w') ∧ fr.kind = .deferred ∧ fr.going P w' x ∧ Go' P env (okcP P) (fun b => h.next ≤ b) ρ h w ρ' h' w' ∧
        EndRel env ρ' e x ∧ ModeRel env ρ' u' m' ∧ u' ≠ .no := by
    intro x tm h1 u1 l hxx hrun hl heq
    cases heq
    obtain ⟨k0, ρ', a', m', w', q1, q2, q3⟩ := key x _ hrun
    obtain ⟨y, y1, y2⟩ := results_sound q2.heap q2.tms hl
    have hd : a'.defers = [] := by
      have := q2.defs
      cases hda : a'.defers with
      | nil => rfl
      | cons d l => rw [hda] at this; exact this.elim
    rcases hxx with rfl | rfl
    · have q1' : Steps P (lone (Frame.enter P f ⟨args'⟩ .deferred) (c0 :: cs) w) (lone (({ (default : Frame) with fn := f, kind := .deferred } : Frame).atR a' []) ({ c0 with mode := m' } :: cs) w') := q1
      exact ⟨ρ', w', _, m', .returned y, Steps.trans q1' (.one (stepR_end rfl)), rfl, ⟨rfl, hd, fn, (bodyOf_funcs hb).1, y1⟩, q3, y2, q2.mode, k0⟩
    · obtain ⟨k1, q1'⟩ := q1
      exact ⟨ρ', w', _, m', .returned y, Steps.trans q1' (.one (stepR_ret rfl)), rfl, ⟨rfl, hd, fn, (bodyOf_funcs hb).1, y1⟩, q3, y2, q2.mode, k0⟩
  split at hx
  · rename_i tm h1 u1 hrun
    split at hx
    rotate_left
    · cases hx
    rename_i l hl
    exact fin .normal tm h1 u1 l (.inl rfl) hrun hl (by cases hx; rfl)
  · rename_i tm h1 u1 hrun
    split at hx
    rotate_left
    · cases hx
    rename_i l hl
    exact fin .ret tm h1 u1 l (.inr rfl) hrun hl (by cases hx; rfl)
  · rename_i v tm h1 u1 hrun
    cases hx
    obtain ⟨k0, ρ', a', m', w', ⟨todo, y, y1, q1⟩, q2, q3⟩ := key _ _ hrun
    have hd : a'.defers = [] := by
      have := q2.defs
      cases hda : a'.defers with
      | nil => rfl
      | cons d l => rw [hda] at this; exact this.elim
    exact ⟨ρ', w', _, m', .panicked [{ v := y, recovered := false }], q1, rfl, ⟨rfl, hd, fn, (bodyOf_funcs hb).1⟩, q3, ⟨y, rfl, y1⟩, q2.mode, k0⟩
  · cases hx

/-- A function's call. -/
theorem compF_sound {call : CallF} (hc : CallOk P env (okcP P) X.nglob call) (hr : HRel P env (okcP P) ρ h w) (hg : GlobOk ρ X.nglob) {f : FuncId} {args : List AVal} {e : AEnd} (hx : (compF P X call f).f args h = some (e, h'))
    {args' : List Value} (ha : VRels ρ env args args') (cs : List Frame) :
    ∃ ρ' w' fr x, Steps P (lone (Frame.enter P f ⟨args'⟩ .normal) cs w) (lone fr cs w') ∧ fr.fn = f ∧ fr.leaving P w' x ∧ Go' P env (okcP P) (fun b => h.next ≤ b) ρ h w ρ' h' w' ∧ EndRel env ρ' e x := by
  unfold compF at hx
  split at hx
  rotate_left
  · cases hx
  rename_i fn c hb
  simp only at hx
  split at hx
  rotate_left
  · cases hx
  rename_i hfit
  have hst := body_start (c := c) ha hfit hr (um := .no) (m := .run) trivial
  have hcode := code_sound he hF hc hmix (n := fn.ntmps) (mask := maskF fn c) (rd := none) (b := { (default : Frame) with fn := f, kind := .normal }) (cfn := fun _ => cs) hb rfl rfl c (progOk_body hp hb)
  have hent := enter_frame hb (⟨args'⟩ : Array Value) .normal
  cases hrun : execC P X call none (maskF fn c) f c ⟨paramsA args 0 (maskF fn c) .leaf, [], h, .no⟩ with
  | none => rw [hrun] at hx; cases hx
  | some r =>
    obtain ⟨x, s'⟩ := r
    rw [hrun] at hx
    obtain ⟨ρ', a', m', w', q1, q2, q3, q4⟩ := hcode [] _ x s' ρ _ .run w hrun hst hg (.inl ⟨rfl, fun _ _ => rfl, rfl⟩) rfl
    rw [hent]
    have hn := q3.next
    have on : ∀ (u : UM) (fr : Frame) (M : Machine), u ≠ .no → ModeRel env ρ' u fr.mode → fr.tmps = a'.tmps → fr.defers = a'.defers → fr.kind = .normal → fr.fn = f → Steps P M (lone fr cs w') →
        Eng.unwind P call (callD P X call) fn s'.tm s'.ds u s'.h = some (e, h') →
        ∃ ρ' w' fr x, Steps P M (lone fr cs w') ∧ fr.fn = f ∧ fr.leaving P w' x ∧ Go' P env (okcP P) (fun b => h.next ≤ b) ρ h w ρ' h' w' ∧ EndRel env ρ' e x := by
      intro u fr M hu hm ht hd hk hfn hs hun
      obtain ⟨ρ2, w2, fr', y, r1, r2, r3, r4, r5⟩ := unwind_sound (callD_sound he hF hmix hp hc) (mask := maskF fn c) s'.ds u s'.h e h' ρ' w' fr _ hun q2.heap (hg.mono q3.sub) hu hm (ht ▸ q2.tms) (hd ▸ q2.defs) rfl hk (hfn ▸ (bodyOf_funcs hb).1) cs
      exact ⟨ρ2, w2, fr', y, Steps.trans hs r1, r2.trans hfn, r3, q3.trans (r4.mono (fun y hy => Nat.le_trans hn hy)), r5⟩
    cases x with
    | normal => exact on .ret { (({ (default : Frame) with fn := f, kind := .normal } : Frame).atR a' []) with mode := .returning } _ (by simp) rfl rfl rfl rfl rfl (Steps.trans q1 (.one (stepR_end rfl))) hx
    | ret =>
      obtain ⟨k1, q1⟩ := q1
      exact on .ret { (({ (default : Frame) with fn := f, kind := .normal } : Frame).atR a' (.code .ret :: k1)) with mode := .returning } _ (by simp) rfl rfl rfl rfl rfl (Steps.trans q1 (.one (stepR_ret rfl))) hx
    | exit id => cases hx
    | pan v =>
      obtain ⟨todo, y, y1, q1⟩ := q1
      exact on (.pan v false) { (({ (default : Frame) with fn := f, kind := .normal } : Frame).atR a' todo) with mode := .panicking [{ v := y, recovered := false }] } _ (by simp) ⟨y, rfl, y1⟩ rfl rfl rfl rfl q1 hx

end
end Go.Eng
