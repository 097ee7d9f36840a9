/- The engine, part N: an operation in its frame. -/
import Derived.Test.YtggjeecpadnihaaGreatDoorEngM
set_option linter.unusedSectionVars false
set_option linter.unusedVariables false
set_option linter.unusedSimpArgs false
namespace Go.Eng

/-! ### Frames -/
/-- The callers of a frame: those of a deferred one by how the next frame out is left. -/
def CsOk (b : Frame) (cfn : FrameMode → List Frame) (um : UM) : Prop :=
  (b.kind = .normal ∧ (∀ m m', cfn m = cfn m') ∧ um = .no) ∨ (b.kind = .deferred ∧ um ≠ .no ∧ ∃ (c0 : Frame) (rest : List Frame), cfn = fun m => { c0 with mode := m } :: rest)

def ModeRel (env : Nat → Value) (ρ : Rho) : UM → FrameMode → Prop
  | .no, _ => True
  | .ret, m => m = .returning
  | .pan v r, m => ∃ x, m = .panicking [{ v := x, recovered := r }] ∧ VRel ρ env v x

def GlobOk (ρ : Rho) (n : Nat) : Prop := ∀ g, g < n → ∃ i, ρ g = some i ∧ i.blk = g ∧ i.shift = 0

def EndRel (env : Nat → Value) (ρ : Rho) : AEnd → Ending → Prop
  | .ret v, .returned x => VRel ρ env v x
  | .pan v, .panicked c => ∃ x, c = [{ v := x, recovered := false }] ∧ VRel ρ env v x
  | _, _ => False

/-- Do the calls that the evaluator makes come to what they come to in the world? -/
structure CallOk (P : Program) (env : Nat → Value) (okc : FuncId → Code → Bool) (ng : Nat) (call : CallF) : Prop where
  fn : ∀ ρ h w, HRel P env okc ρ h w → GlobOk ρ ng → ∀ f args e h', call (.fn f) args h = some (e, h') → (bodyOf P f).isSome = true → ∀ args', VRels ρ env args args' → ∀ cs,
    ∃ ρ' w' fr x, Steps P (lone (Frame.enter P f ⟨args'⟩ .normal) cs w) (lone fr cs w') ∧ fr.fn = f ∧ fr.leaving P w' x ∧ Go' P env okc (fun b => h.next ≤ b) ρ h w ρ' h' w' ∧ EndRel env ρ' e x
  round : ∀ ρ h w, HRel P env okc ρ h w → GlobOk ρ ng → ∀ b i args e h', call (.round b) args h = some (e, h') → ρ b = some i → ∀ args', VRels ρ env args args' →
    ∃ f tmps as bd, (Instr.yield i.blk ⟨args'⟩).run P w = .ok (.round i.blk f tmps as bd) w ∧ ∀ c cs, ∃ ρ' w' m', Steps P (lone (Frame.round i.blk f tmps as bd .normal) (c :: cs) w) m' ∧
      Go' P env okc (fun b => h.next ≤ b) ρ h w ρ' h' w' ∧ (match e with
        | .ret v => ∃ x, VRel ρ' env v x ∧ m' = lone (c.finish x) cs w'
        | .pan v => ∃ x, VRel ρ' env v x ∧ m' = lone (c.raise [{ v := x, recovered := false }]) cs w')

section
variable {P : Program} {env : Nat → Value} {okc : FuncId → Code → Bool} {ρ ρ' : Rho} {h h' : AHeap} {w w' : World} {X : Cx}

theorem ModeRel.mono (hs : ρ.sub ρ') {um : UM} {m : FrameMode} (hm : ModeRel env ρ um m) : ModeRel env ρ' um m := by
  cases um with
  | no => trivial
  | ret => exact hm
  | pan v r => obtain ⟨x, h1, h2⟩ := hm; exact ⟨x, h1, h2.mono hs⟩
theorem GlobOk.mono (hs : ρ.sub ρ') {n : Nat} (hg : GlobOk ρ n) : GlobOk ρ' n := fun g hlt => let ⟨i, a, b, c⟩ := hg g hlt; ⟨i, hs _ _ a, b, c⟩

/-- What an operand comes to. -/
theorem evA_rel (hg : GlobOk ρ X.nglob) {loc : Loc} {tm : T AVal} {a : Act} (hs : ∀ t v, lookL loc t tm = some v → ∃ x, a.tmps[t]? = some x ∧ VRel ρ env v x) (x : Operand) (v : AVal)
    (hx : evA X loc tm x = some v) : VRel ρ env v (a.eval x) := by
  cases x with
  | tmp t =>
    have hx' : some (orAny (lookL loc t tm)) = some v := hx
    cases hl : lookL loc t tm with
    | none => rw [hl] at hx'; cases hx'; exact .any _
    | some z =>
      rw [hl] at hx'; cases hx'
      obtain ⟨y, h1, h2⟩ := hs t z hl
      have : a.eval (.tmp t) = y := by simp [Act.eval, Array.getD_eq_getD_getElem?, h1]
      rw [this]; exact h2
  | const c => exact ofConst_rel hx
  | global g =>
    have hx' : (match Nat.ble (g + 1) X.nglob with | true => some (AVal.ptr g 0) | false => none) = some v := hx
    split at hx'
    · rename_i hb
      cases hx'
      obtain ⟨i, h1, h2, h3⟩ := hg g (ble_le hb)
      have := VRel.ptr (env := env) 0 h1
      rw [h2, h3] at this; exact this
    · cases hx'
  | func f => cases hx; exact VRels.nil.func .nil

/-- How an operation leaves its frame. -/
def OperOk (P : Program) (env : Nat → Value) (okc : FuncId → Code → Bool) (N : Nat → Prop) (ρ : Rho) (ds : List ADefd) (h : AHeap) (um : UM) (b : Frame) (cfn : FrameMode → List Frame) (a : Act) (m : FrameMode) (w : World)
    (ops : Array Oper) (i : Nat) (rest : List Nat) (k : List Item) (dst : Option Tmp) : ORes → Prop
  | .ok v ds' h' um' => ∃ ρ' x d' m' w', Steps P (lone (b.atR a (.inRegion ops (i :: rest) :: k)) (cfn m) w) (lone (b.atR ({ a with defers := d' }.put dst x) (.inRegion ops rest :: k)) (cfn m') w') ∧
      Go' P env okc N ρ h w ρ' h' w' ∧ VRel ρ' env v x ∧ DefsRel env ρ' ds' d' ∧ ModeRel env ρ' um' m' ∧ CsOk b cfn um'
  | .pan v ds' h' um' => ds' = ds ∧ um' = um ∧ ∃ ρ' x w', Steps P (lone (b.atR a (.inRegion ops (i :: rest) :: k)) (cfn m) w)
      (lone { b.atR a (.inRegion ops (i :: rest) :: k) with mode := .panicking [{ v := x, recovered := false }] } (cfn m) w') ∧
      Go' P env okc N ρ h w ρ' h' w' ∧ VRel ρ' env v x

theorem put_defers (a : Act) (dst : Option Tmp) (x : Value) : ({ a with defers := a.defers }.put dst x : Act) = a.put dst x := rfl

theorem exec_defer {ev : Operand → Option AVal} {rid : Nat} {c : Call} {n : ANext} (hx : execA P X ev h rid (.defer c) = some n) : ∃ d, n = .dfr d h := by
  have hx' : deferA ev h c = some n := hx
  unfold deferA at hx'
  split at hx'
  · split at hx'
    · cases hx'; exact ⟨_, rfl⟩
    · cases hx'
  · cases hx'

set_option maxHeartbeats 1000000 in
theorem operA_sound (he : EnvOk env) (hF : ∀ f ∈ X.facts, FactOk P env f) {call : CallF} (hc : CallOk P env okc X.nglob call) (hr : HRel P env okc ρ h w) (hg : GlobOk ρ X.nglob)
    {rd : Bool} {b : Frame} {cfn : FrameMode → List Frame} {a : Act} {m : FrameMode} {ds : List ADefd} {um : UM} (hrd : rd = false → b.roundOf = none) (hcs : CsOk b cfn um) (hds : DefsRel env ρ ds a.defers) (hm : ModeRel env ρ um m)
    {ev : Operand → Option AVal} (hev : ∀ x v, ev x = some v → VRel ρ env v (a.eval x)) {ops : Array Oper} {i : Nat} {rest : List Nat} {k : List Item} {o : Oper} {rid : Nat} {r : ORes}
    (hrid : mayAlloc P o.op = true → ρ rid = none ∧ rid < h.next) (ho : ops[i]? = some o) (hw : Region.wanted o (yielded ops a.tmps) = true)
    (hx : operA P X call rd ev ds h um rid o.op = some r) :
    OperOk P env okc (fun x => (mayAlloc P o.op = true ∧ x = rid) ∨ h.next ≤ x) ρ ds h um b cfn a m w ops i rest k o.dst r := by
  unfold operA at hx
  cases hex : execA P X ev h rid o.op with
  | none => rw [hex] at hx; cases hx
  | some n =>
    have hsem : Oper.semAt b.roundOf a.eval o = execOp a.eval o := by
      cases rd with
      | false => rw [hrd rfl]; rfl
      | true =>
        refine Oper.semAt_eq _ _ _ (fun c hcd => ?_)
        rw [hcd] at hex
        obtain ⟨d, rfl⟩ := exec_defer hex
        rw [hcd, hex] at hx; cases hx
    have hok := execA_sound (N := fun x => (mayAlloc P o.op = true ∧ x = rid) ∨ h.next ≤ x) he hF hr (fun b hb => .inr hb) hev (fun hm => let ⟨h1, h2⟩ := hrid hm; ⟨h1, h2, .inl ⟨hm, rfl⟩⟩) hex
    have hgs : ∀ cs, stepG P true { frame := b.atR a (.inRegion ops (i :: rest) :: k), callers := cs, status := .running, dying := none } w =
        stepG.apply P true (b.atR a (.inRegion ops (i :: rest) :: k)) cs none (execOp a.eval o) w := fun cs => by rw [stepGR_op ho hw, hsem]
    have hfin : ∀ v, (b.atR a (.inRegion ops (i :: rest) :: k)).finish v = b.atR (a.put o.dst v) (.inRegion ops rest :: k) := by
      intro v; rw [Frame.finish_atR, ho]; rfl
    rw [hex] at hx
    cases n with
    | val v h1 =>
      cases hx
      obtain ⟨nx, ρ', w', h1, h2, h3⟩ := hok
      rcases h3 with ⟨x, rfl, hv⟩ | ⟨rfl, rfl⟩
      · refine ⟨ρ', x, a.defers, m, w', .one (step_lone_go ?_), h2, hv, hds.mono h2.sub, hm.mono h2.sub, hcs⟩
        rw [hgs, put_defers, ← hfin]; simp [stepG.apply, h1]
      · refine ⟨ρ', undef, a.defers, m, w', .one (step_lone_go ?_), h2, .undef, hds.mono h2.sub, hm.mono h2.sub, hcs⟩
        rw [hgs, put_defers, ← hfin]; simp [stepG.apply, h1]
    | enter t args h1 =>
      cases t with
      | fn f =>
        obtain ⟨rfl, args', h2, h3, h4⟩ := hok
        simp only at hx
        cases hcall : call (.fn f) args h1 with
        | none => rw [hcall] at hx; cases hx
        | some eh =>
          obtain ⟨e, h''⟩ := eh
          obtain ⟨ρ', w', fr, x, q1, q2, q3, q4, q5⟩ := hc.fn ρ h1 w hr hg f args e h'' hcall h4 args' h3 (b.atR a (.inRegion ops (i :: rest) :: k) :: cfn m)
          have henter : step P (lone (b.atR a (.inRegion ops (i :: rest) :: k)) (cfn m) w) =
              .next (lone (Frame.enter P f ⟨args'⟩ .normal) (b.atR a (.inRegion ops (i :: rest) :: k) :: cfn m) w) :=
            step_lone_go (by rw [hgs]; simp [stepG.apply, h2, Frame.atR])
          have q4' := q4.mono (N' := fun x => (mayAlloc P o.op = true ∧ x = rid) ∨ h1.next ≤ x) (fun _ hb => .inr hb)
          rw [hcall] at hx
          cases e with
          | ret v =>
            cases hx
            cases x with
            | returned x =>
              refine ⟨ρ', x, a.defers, m, w', .head henter (Steps.trans q1 (.one ?_)), q4', q5, hds.mono q4.sub, hm.mono q4.sub, hcs⟩
              rw [put_defers, ← hfin]; exact step_leave_returned q3
            | panicked _ => exact q5.elim
            | outgrown => exact q5.elim
          | pan v =>
            cases hx
            cases x with
            | panicked ch =>
              obtain ⟨x, rfl, hv⟩ := q5
              refine ⟨rfl, rfl, ρ', x, w', .head henter (Steps.trans q1 (.one ?_)), q4', hv⟩
              rw [← Frame.raise_atR]; exact step_leave_panicked q3
            | returned _ => exact q5.elim
            | outgrown => exact q5.elim
      | round rb =>
        obtain ⟨rfl, i', args', h2, h3, h4⟩ := hok
        simp only at hx
        cases hcall : call (.round rb) args h1 with
        | none => rw [hcall] at hx; cases hx
        | some eh =>
          obtain ⟨e, h''⟩ := eh
          obtain ⟨f, tmps, as, bd, y1, y2⟩ := hc.round ρ h1 w hr hg rb i' args e h'' hcall h2 args' h4
          obtain ⟨ρ', w', m', q1, q4, q5⟩ := y2 (b.atR a (.inRegion ops (i :: rest) :: k)) (cfn m)
          have henter : step P (lone (b.atR a (.inRegion ops (i :: rest) :: k)) (cfn m) w) =
              .next (lone (Frame.round i'.blk f tmps as bd .normal) (b.atR a (.inRegion ops (i :: rest) :: k) :: cfn m) w) :=
            step_lone_go (by rw [hgs]; simp [stepG.apply, h3, y1])
          have q4' := q4.mono (N' := fun x => (mayAlloc P o.op = true ∧ x = rid) ∨ h1.next ≤ x) (fun _ hb => .inr hb)
          rw [hcall] at hx
          cases e with
          | ret v =>
            cases hx
            obtain ⟨x, hv, rfl⟩ := q5
            refine ⟨ρ', x, a.defers, m, w', .head henter ?_, q4', hv, hds.mono q4.sub, hm.mono q4.sub, hcs⟩
            rw [put_defers, ← hfin]; exact q1
          | pan v =>
            cases hx
            obtain ⟨x, hv, rfl⟩ := q5
            refine ⟨rfl, rfl, ρ', x, w', .head henter ?_, q4', hv⟩
            rw [← Frame.raise_atR]; exact q1
    | pan v h1 =>
      cases hx
      obtain ⟨rfl, x, h2, h3⟩ := hok
      refine ⟨rfl, rfl, ρ, x, w, .one (step_lone_go ?_), .refl hr, h3⟩
      rw [hgs, ← Frame.raise_atR]; simp [stepG.apply, h2]
    | dfr d h1 =>
      simp only at hx
      cases rd with
      | true => cases hx
      | false =>
        cases hx
        obtain ⟨rfl, e, h2, h3⟩ := hok
        refine ⟨ρ, undef, e :: a.defers, m, w, .one (step_lone_go ?_), .refl hr, .undef, ⟨h3, hds⟩, hm, hcs⟩
        have : ({ b.atR a (.inRegion ops (i :: rest) :: k) with defers := e :: a.defers } : Frame).finish undef =
            b.atR ({ a with defers := e :: a.defers }.put o.dst undef) (.inRegion ops rest :: k) := by
          have := Frame.finish_atR b { a with defers := e :: a.defers } ops i rest k undef
          rw [ho] at this; exact this
        rw [hgs]; simp only [stepG.apply, Sem.runT_eq, h2, GStep.bare_after]
        exact congrArg (fun fr => GStep.go { frame := fr, callers := cfn m, status := .running, dying := none } w) this
    | recover h1 =>
      simp only at hx
      cases rd with
      | true => cases hx
      | false =>
        cases hx
        obtain ⟨rfl, h2⟩ := hok
        have hro := hrd rfl
        have hstep : ∀ (v : Value) (m' : FrameMode), (tryRecover (b.atR a (.inRegion ops (i :: rest) :: k)) (cfn m) = some (v, cfn m') ∨ (tryRecover (b.atR a (.inRegion ops (i :: rest) :: k)) (cfn m) = none ∧ v = .nilIface ∧ m' = m)) →
            step P (lone (b.atR a (.inRegion ops (i :: rest) :: k)) (cfn m) w) = .next (lone (b.atR (a.put o.dst v) (.inRegion ops rest :: k)) (cfn m') w) := by
          intro v m' ht
          refine step_lone_go ?_
          rw [hgs, ← hfin]
          rcases ht with ht | ⟨ht, rfl, rfl⟩
          · simp only [Frame.atR, hro] at ht ⊢; simp [stepG.apply, h2, ht]
          · simp only [Frame.atR, hro] at ht ⊢; simp [stepG.apply, h2, ht]
        rcases hcs with ⟨c1, c2, rfl⟩ | ⟨c1, c2, c0, cr, c3⟩
        · refine ⟨ρ, .nilIface, a.defers, m, w, .one (hstep _ m (.inr ⟨?_, rfl, rfl⟩)), .refl hr, .niface, hds, trivial, .inl ⟨c1, c2, rfl⟩⟩
          have : (b.atR a (.inRegion ops (i :: rest) :: k)).kind = .normal := c1
          unfold tryRecover; rw [this]
        · have hk : (b.atR a (.inRegion ops (i :: rest) :: k)).kind = .deferred := c1
          cases um with
          | no => exact absurd rfl c2
          | ret =>
            have hm' : m = .returning := hm
            refine ⟨ρ, .nilIface, a.defers, m, w, .one (hstep _ m (.inr ⟨?_, rfl, rfl⟩)), .refl hr, .niface, hds, hm, .inr ⟨c1, c2, c0, cr, c3⟩⟩
            unfold tryRecover; rw [hk, c3, hm']
          | pan v rc =>
            obtain ⟨x, e1, e2⟩ := hm
            cases rc with
            | true =>
              refine ⟨ρ, .nilIface, a.defers, m, w, .one (hstep _ m (.inr ⟨?_, rfl, rfl⟩)), .refl hr, .niface, hds, ⟨x, e1, e2⟩, .inr ⟨c1, c2, c0, cr, c3⟩⟩
              unfold tryRecover; rw [hk, c3, e1]
            | false =>
              refine ⟨ρ, x, a.defers, .panicking [{ v := x, recovered := true }], w, .one (hstep _ _ (.inl ?_)), .refl hr, e2, hds, ⟨x, rfl, e2⟩, .inr ⟨c1, by simp [recoverA], c0, cr, c3⟩⟩
              unfold tryRecover; rw [hk, c3, e1]

end
end Go.Eng
