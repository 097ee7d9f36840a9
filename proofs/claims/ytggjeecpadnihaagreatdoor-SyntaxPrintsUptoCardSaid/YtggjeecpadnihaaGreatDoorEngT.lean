/- The engine, part T: rounds of a range over a function; calls to a depth; what a run says of a call. -/
import Derived.Test.YtggjeecpadnihaaGreatDoorEngS
set_option linter.unusedVariables false
set_option linter.unusedSimpArgs false
set_option linter.unusedSectionVars false
namespace Go.Eng

section
variable {P : Program} {env : Nat → Value} {ρ ρ' : Rho} {h h' : AHeap} {w w' : World} {X : Cx}

theorem setParams_rel {n m : Nat} : ∀ (ts : List Tmp) (vs : List AVal) (tm tm0 : T AVal) (tmps : Array Value) (vs' : List Value), setParams ts vs n m tm = some tm0 → VRels ρ env vs vs' → TmRel env ρ m tm tmps → tmps.size = n →
    TmRel env ρ m tm0 ((ts.zip vs').foldl (fun tmps (x : Tmp × Value) => tmps.setIfInBounds x.1 x.2) tmps) ∧ ts.length = vs.length ∧ ((ts.zip vs').foldl (fun tmps (x : Tmp × Value) => tmps.setIfInBounds x.1 x.2) tmps).size = n
  | [], [], tm, tm0, tmps, vs', h, hv, ht, hn => by
    cases h
    exact ⟨by simpa using ht, rfl, by simpa using hn⟩
  | t :: ts, v :: vs, tm, tm0, tmps, vs', h, hv, ht, hn => by
    obtain ⟨x, r, rfl, hx, hr⟩ := hv.uncons
    unfold setParams at h
    have hsz : (tmps.setIfInBounds t x).size = n := by simpa using hn
    split at h
    · rename_i hb
      split at h
      rotate_left
      · cases h
      rename_i hlt
      have hlt' : t < n := Nat.le_of_ble_eq_true hlt
      have htm : TmRel env ρ m (T.set v tm t) (tmps.setIfInBounds t x) := by
        intro u y hg
        rw [T.get_set] at hg
        split at hg
        · rename_i e; subst e; cases hg
          exact ⟨hb, x, by rw [Array.getElem?_setIfInBounds_self]; simp [hn, hlt'], hx⟩
        · rename_i e
          obtain ⟨h1, z, h2, h3⟩ := ht u y hg
          exact ⟨h1, z, by rw [Array.getElem?_setIfInBounds_ne e]; exact h2, h3⟩
      obtain ⟨q1, q2, q3⟩ := setParams_rel ts vs _ tm0 _ r h hr htm hsz
      exact ⟨q1, by simp [q2], q3⟩
    · rename_i hb
      have htm : TmRel env ρ m tm (tmps.setIfInBounds t x) := by
        intro u y hg
        obtain ⟨h1, z, h2, h3⟩ := ht u y hg
        refine ⟨h1, z, ?_, h3⟩
        rw [Array.getElem?_setIfInBounds_ne]; exact h2
        intro e; subst e; rw [h1] at hb; cases hb
      obtain ⟨q1, q2, q3⟩ := setParams_rel ts vs _ tm0 _ r h hr htm hsz
      exact ⟨q1, by simp [q2], q3⟩
  | [], _ :: _, _, _, _, _, h, _, _, _ => by cases h
  | _ :: _, [], _, _, _, _, h, _, _, _ => by cases h

theorem DefsRel.nil' {ds : List Deferred} (h : DefsRel env ρ [] ds) : ds = [] := by
  cases ds with
  | nil => rfl
  | cons _ _ => exact h.elim

variable (he : EnvOk env) (hF : ∀ f ∈ X.facts, FactOk P env f) (hmix : P.follows .mixedOrders = true) (hp : progOk P = true)
include he hF hmix hp

set_option maxHeartbeats 1000000 in
theorem round_sound {call : CallF} (hc : CallOk P env (okcP P) X.nglob call) (hr : HRel P env (okcP P) ρ h w) (hg : GlobOk ρ X.nglob) {b : Nat} {i : BI} {args : List AVal} {e : AEnd}
    (hi : ρ b = some i) {args' : List Value} (ha : VRels ρ env args args') : roundA P X call b args h = some (e, h') →
    ∃ f tmps as bd, (Instr.yield i.blk ⟨args'⟩).run P w = .ok (.round i.blk f tmps as bd) w ∧ ∀ c cs, ∃ ρ' w' m', Steps P (lone (Frame.round i.blk f tmps as bd .normal) (c :: cs) w) m' ∧
      Go' P env (okcP P) (fun b => h.next ≤ b) ρ h w ρ' h' w' ∧ (match e with
        | .ret v => ∃ x, VRel ρ' env v x ∧ m' = lone (c.finish x) cs w'
        | .pan v => ∃ x, VRel ρ' env v x ∧ m' = lone (c.raise [{ v := x, recovered := false }]) cs w') := by
  intro hx
  unfold roundA at hx
  split at hx
  rotate_left
  · cases hx
  rename_i st pend f tm params assign body dd hget
  obtain ⟨L, hw, L', i', e1, e2, e3, e4, e5, e6, e7, e8, e9, e10, e11, fn', c', e12, e13, e14⟩ := loop_of hr hget hi
  cases e1
  split at hx
  rotate_left
  · cases hx
  rename_i fn c hb
  rw [hb] at e12
  obtain ⟨rfl, rfl⟩ : fn = fn' ∧ c = c' := by cases e12; exact ⟨rfl, rfl⟩
  split at hx
  rotate_left
  · cases hx
  rename_i tm0 hset
  obtain ⟨s1, s2, s3⟩ := setParams_rel params args tm tm0 L.tmps args' hset ha e14 e13
  have hsize : (⟨args'⟩ : Array Value).size = L.params.size := by
    have := ha.1
    rw [← Array.length_toList (xs := L.params), e5, s2]; simp [this]
  have hfold : (L.params.zip (⟨args'⟩ : Array Value)).foldl (fun tmps (x : Tmp × Value) => tmps.setIfInBounds x.1 x.2) L.tmps = (params.zip args').foldl (fun tmps (x : Tmp × Value) => tmps.setIfInBounds x.1 x.2) L.tmps := by
    rw [← Array.foldl_toList, Array.toList_zip, e5]
  refine ⟨L.fn, (L.params.zip (⟨args'⟩ : Array Value)).foldl (fun tmps (x : Tmp × Value) => tmps.setIfInBounds x.1 x.2) L.tmps, L.assign, L.body, ?_, ?_⟩
  · simp only [Instr.yield, Sem.run_bind, run_getLoop hw, Result.andThen_ok, hsize, ne_eq, not_true_eq_false, if_false, Sem.run_pure]
  intro c0 cs
  rw [hfold, e4, e6, e7]
  have hround : ∀ tmps, Frame.round i.blk f tmps assign body .normal = ({ (default : Frame) with fn := f, kind := .normal, roundOf := some i.blk } : Frame).atR { tmps := tmps, defers := [] } [.code assign, .beginRound, .code body] := by
    intro tmps; simp [Frame.round, Frame.atR]
  rw [hround]
  have hok : ∀ c1, okcP P f c1 = true → codeOk fn.ntmps c1 = true := fun c1 h1 => by
    unfold okcP at h1; rw [hb] at h1; exact h1
  have hst : CSt P env (okcP P) fn.ntmps (maskF fn c) ρ ⟨tm0, [], h, .no⟩ { tmps := (params.zip args').foldl (fun tmps (x : Tmp × Value) => tmps.setIfInBounds x.1 x.2) L.tmps, defers := [] } .run w :=
    ⟨s1, s3, trivial, hr, trivial⟩
  have hcode := fun (c1 : Code) h1 => code_sound he hF hc hmix (n := fn.ntmps) (mask := maskF fn c) (rd := some b) (b := { (default : Frame) with fn := f, kind := .normal, roundOf := some i.blk }) (cfn := fun _ => c0 :: cs) hb rfl rfl c1 (hok c1 h1)
  split at hx
  rotate_left
  · cases hx
  rename_i tm1 h1 u1 hrun1
  obtain ⟨ρ1, a1, m1, w1, p1, p2, p3, p4⟩ := hcode assign e10 [.beginRound, .code body] _ _ _ ρ _ .run w hrun1 hst hg (.inl ⟨rfl, fun _ _ => rfl, rfl⟩) ⟨i, hi, rfl⟩
  have p1' : Steps P _ (lone (({ (default : Frame) with fn := f, kind := .normal, roundOf := some i.blk } : Frame).atR a1 [.beginRound, .code body]) (c0 :: cs) w1) := p1
  split at hx
  rotate_left
  · cases hx
  rename_i pend1 f1 tm1' params1 assign1 body1 dd1 hget1
  obtain ⟨L1, hw1, L1', i1, g1, g2, g3, g4⟩ := loop_of p2.heap hget1 (p3.sub _ _ hi)
  cases g1
  have hput1 : Go' P env (okcP P) (fun y => h.next ≤ y) ρ1 h1 w1 ρ1 (h1.put b (.loop .busy pend1 f1 tm1' params1 assign1 body1 dd1)) (setAt' w1 i.blk (.loop { L1 with state := .busy })) :=
    Go'.put p2.heap hget1 ⟨rfl, rfl⟩ (p3.sub _ _ hi) ⟨{ L1 with state := .busy }, i1, rfl, rfl, g3, g4⟩
  have hbegin : (Instr.beginRound i.blk).run P w1 = .ok () (setAt' w1 i.blk (.loop { L1 with state := .busy })) := by
    simp only [Instr.beginRound, Sem.run_bind, run_getLoop hw1, Result.andThen_ok, run_setLoop hw1, g2, Sem.run_pure]
  have hst1 : CSt P env (okcP P) fn.ntmps (maskF fn c) ρ1 ⟨tm1, [], h1.put b (.loop .busy pend1 f1 tm1' params1 assign1 body1 dd1), .no⟩ a1 .run (setAt' w1 i.blk (.loop { L1 with state := .busy })) :=
    ⟨p2.tms, p2.size, p2.defs, hput1.rel, trivial⟩
  split at hx
  rotate_left
  · cases hx
  rename_i x tm2 h2 u2 hrun2
  obtain ⟨ρ2, a2, m2, w2, q1, q2, q3, q4⟩ := hcode body e11 [] _ _ _ ρ1 _ .run _ hrun2 hst1 (hg.mono p3.sub) (.inl ⟨rfl, fun _ _ => rfl, rfl⟩) ⟨i, p3.sub _ _ hi, rfl⟩
  have hi2 : ρ2 b = some i := q3.sub _ _ (p3.sub _ _ hi)
  split at hx
  rotate_left
  · cases hx
  rename_i st2 pend2 f2 tm2' params2 assign2 body2 dd2 hget2
  obtain ⟨L2, hw2, L2', i2, k1, k2, k3, k4⟩ := loop_of q2.heap hget2 hi2
  cases k1
  have hn3 := p3.next
  have hgo : Go' P env (okcP P) (fun y => h.next ≤ y) ρ h w ρ2 h2 w2 := (p3.trans hput1).trans (q3.mono (fun y hy => by have hy' : h1.next ≤ y := hy; exact Nat.le_trans hn3 hy'))
  have hto : Steps P (lone (({ (default : Frame) with fn := f, kind := .normal, roundOf := some i.blk } : Frame).atR { tmps := (params.zip args').foldl (fun tmps (x : Tmp × Value) => tmps.setIfInBounds x.1 x.2) L.tmps, defers := [] } [.code assign, .beginRound, .code body]) (c0 :: cs) w)
      (lone (({ (default : Frame) with fn := f, kind := .normal, roundOf := some i.blk } : Frame).atR a1 [.code body]) (c0 :: cs) (setAt' w1 i.blk (.loop { L1 with state := .busy }))) :=
    Steps.trans p1' (.one (stepR_beginRound rfl hbegin))
  -- a round's end
  have hend : ∀ (j : Option Code) (st3 : LoopState), (if j.isNone then LoopState.ready else .done) = st3 →
      (Instr.endRound i.blk j).run P w2 = .ok (.bool j.isNone) (setAt' w2 i.blk (.loop { L2 with state := st3, pending := j })) ∧
      Go' P env (okcP P) (fun y => h.next ≤ y) ρ h w ρ2 (h2.put b (.loop st3 j f2 tm2' params2 assign2 body2 dd2)) (setAt' w2 i.blk (.loop { L2 with state := st3, pending := j })) := by
    intro j st3 hj
    subst hj
    refine ⟨?_, hgo.trans (Go'.put q2.heap hget2 ⟨rfl, rfl⟩ hi2 ⟨{ L2 with state := if j.isNone then .ready else .done, pending := j }, i2, rfl, rfl, rfl, k4⟩)⟩
    simp only [Instr.endRound, Sem.run_bind, run_getLoop hw2, Result.andThen_ok, run_setLoop hw2, Sem.run_pure]
  cases x with
  | normal =>
    cases hx
    obtain ⟨r1, r2⟩ := hend none .ready rfl
    exact ⟨ρ2, _, _, Steps.trans hto (Steps.trans q1 (.one (stepR_round_end rfl rfl r1))), r2, _, .bool true, rfl⟩
  | ret =>
    cases hx
    obtain ⟨r1, r2⟩ := hend (some .ret) .done rfl
    obtain ⟨k, q1⟩ := q1
    exact ⟨ρ2, _, _, Steps.trans hto (Steps.trans q1 (.one (stepR_round_ret rfl rfl r1))), r2, _, .bool false, rfl⟩
  | exit id =>
    cases hx
    obtain ⟨r1, r2⟩ := hend (some (.exit id)) .done rfl
    obtain ⟨k, hk, q1⟩ := q1
    exact ⟨ρ2, _, _, Steps.trans hto (Steps.trans q1 (.one (stepR_round_exit rfl rfl (by rw [hk]; rfl) r1))), r2, _, .bool false, rfl⟩
  | pan v =>
    cases hx
    obtain ⟨todo, y, y1, q1⟩ := q1
    refine ⟨ρ2, w2, _, Steps.trans hto (Steps.trans q1 (.one (step_leave_panicked ⟨rfl, q2.defs.nil', fn, (bodyOf_funcs hb).1⟩))), hgo, y, y1, rfl⟩

/-- Calls to a depth. -/
theorem callN_ok {ext : CallF} (hext : CallOk P env (okcP P) X.nglob ext) : ∀ n, CallOk P env (okcP P) X.nglob (callN P X ext n)
  | 0 => hext
  | n + 1 => by
    have ih := callN_ok hext n
    refine ⟨?_, ?_⟩
    · intro ρ h w hr hg f args e h' hx hb args' ha cs
      have hx' : (match ext (.fn f) args h with | some r => some r | none => (compF P X (callN P X ext n) f).f args h) = some (e, h') := hx
      cases hxe : ext (.fn f) args h with
      | some r =>
        rw [hxe] at hx'
        cases hx'
        exact hext.fn ρ h w hr hg f args e h' hxe hb args' ha cs
      | none =>
        rw [hxe] at hx'
        exact compF_sound he hF hmix hp ih hr hg hx' ha cs
    · intro ρ h w hr hg b i args e h' hx hi args' ha
      have hx' : roundA P X (callN P X ext n) b args h = some (e, h') := hx
      exact round_sound he hF hmix hp ih hr hg hi ha hx'

omit he hF hmix hp in
theorem noExt_ok {okc : FuncId → Code → Bool} {ng : Nat} : CallOk P env okc ng noExt :=
  ⟨fun _ _ _ _ _ _ _ _ _ h => (by cases h), fun _ _ _ _ _ _ _ _ _ _ h => (by cases h)⟩

omit he hF hmix hp in
/-- What a run says of a call. -/
theorem calls_of {call : CallF} {ng : Nat} (hc : CallOk P env (okcP P) ng call) {f : FuncId} {args : List AVal} {e : AEnd} (hx : call (.fn f) args h = some (e, h')) (hb : (bodyOf P f).isSome = true) (hr : HRel P env (okcP P) ρ h w) (hg : GlobOk ρ ng)
    {args' : List Value} (ha : VRels ρ env args args') :
    Calls P f ⟨args'⟩ w fun x w' => ∃ ρ', Go' P env (okcP P) (fun b => h.next ≤ b) ρ h w ρ' h' w' ∧ EndRel env ρ' e x := by
  intro cs
  obtain ⟨ρ', w', fr, x, q1, q2, q3, q4, q5⟩ := hc.fn ρ h w hr hg f args e h' hx hb args' ha cs
  refine ⟨x, w', fr, ⟨ρ', q4, q5⟩, ?_, q2, q3⟩
  cases x with
  | returned _ => exact q1
  | panicked _ => exact q1
  | outgrown => cases e <;> exact q5.elim

end
end Go.Eng
