/- The engine, part Y6: the compiled evaluator is the evaluator: regions whose order is open, with effects. -/
import Derived.Test.YtpnkohfmpdehaaaGreatDoorEngY5
set_option linter.unusedSimpArgs false
set_option linter.unusedSectionVars false
set_option linter.unusedVariables false
namespace Go.Eng

theorem commitF_eq (m : Nat) (h : AHeap) : ∀ l : List Pd, commitF m l h = commit m l h
  | [] => rfl
  | p :: l => by
    show bB (commitF m l h) (putO (commitF m l h) p.rid p.obj) (bitOf m p.i) = _
    rw [commitF_eq m h l, putO_eq]
    show _ = (match bitOf m p.i with | true => (commit m l h).put p.rid p.obj | false => commit m l h)
    cases bitOf m p.i <;> rfl
theorem commitAllF_eq (h : AHeap) : ∀ l : List Pd, commitAllF l h = commitAll l h
  | [] => rfl
  | p :: l => by
    show putO (commitAllF l h) p.rid p.obj = _
    rw [commitAllF_eq h l, putO_eq]; rfl
theorem keepF_eq (m : Nat) : ∀ l : List Pd, keepF m l = keep m l
  | [] => rfl
  | p :: l => by
    show bB (p :: keepF m l) (keepF m l) (bitOf m p.i) = _
    rw [keepF_eq m l]
    show _ = (match bitOf m p.i with | true => keep m l | false => p :: keep m l)
    cases bitOf m p.i <;> rfl
theorem openF_eq (al : List Pd) : ∀ l : List Sn, openF l al = openAt l al
  | [] => rfl
  | s :: l => by
    show keepF s.m (openF l al) = _
    rw [openF_eq al l, keepF_eq]; rfl
theorem lastF_eq (m : Nat) (l : List Sn) : lastF m l = lastEff m l := by cases l <;> rfl

section
variable {P : Program} {X : Cx}

/-- Reads that are the same. -/
structure RdRel (P : Program) (X : Cx) (tm : T AVal) (a : RdK) (b : Rd) : Prop where
  i : a.i = b.i
  m : a.m = b.m
  v : a.v = b.v
  as : ∀ h v, a.k.f a.vs tm h = some v → ∃ h', execA P X (evA X b.loc tm) h 0 b.op = some (.val v h')

def RdsRel (P : Program) (X : Cx) (tm : T AVal) : List RdK → List Rd → Prop
  | [], [] => True
  | a :: l, b :: l' => RdRel P X tm a b ∧ RdsRel P X tm l l'
  | _, _ => False

variable {tm : T AVal}

theorem asF_ok {a : RdK} {b : Rd} (hr : RdRel P X tm a b) (h : AHeap) (hx : asF tm h a = true) : readsAs P X tm h b = true := by
  unfold asF at hx
  rw [bO_some] at hx
  split at hx
  · rename_i v hv
    obtain ⟨h', he⟩ := hr.as h v hv
    unfold readsAs
    rw [he]
    rw [← hr.v]; exact hx
  · cases hx

def optBit (m : Nat) : Option Nat → Bool
  | some e => bitOf m e
  | none => false
theorem readsOk_cons (h : AHeap) (e : Option Nat) (sn : List Sn) (r : Rd) (rs : List Rd) : readsOk P X tm h e sn (r :: rs) = ((optBit r.m e || ahead r sn || readsAs P X tm h r) && readsOk P X tm h e sn rs) := by
  cases e <;> rfl

theorem readsF_ok (h : AHeap) (e : Option Nat) (sn : List Sn) : ∀ {rs : List RdK} {rs' : List Rd}, RdsRel P X tm rs rs' → readsF tm h e sn rs = true → readsOk P X tm h e sn rs' = true
  | [], [], _, _ => rfl
  | a :: rs, b :: rs', ⟨h1, h2⟩, hx => by
    have hx' : bB (bB (bB false (readsF tm h e sn rs) (asF tm h a)) (readsF tm h e sn rs) (aheadF a sn)) (readsF tm h e sn rs) (bO false (bitOf a.m) e) = true := hx
    have hah : aheadF a sn = ahead b sn := by
      cases sn with
      | nil => rfl
      | cons s l => show bitOf s.m a.i = bitOf s.m b.i; rw [h1.i]
    have he : bO false (bitOf a.m) e = optBit b.m e := by
      cases e with
      | none => rfl
      | some e => show bitOf a.m e = bitOf b.m e; rw [h1.m]
    rw [hah, he] at hx'
    rw [readsOk_cons]
    have rest : readsF tm h e sn rs = true := by
      rw [bB_eq, bB_eq, bB_eq] at hx'
      split at hx'
      · exact hx'
      · split at hx'
        · exact hx'
        · split at hx'
          · exact hx'
          · cases hx'
    rw [readsF_ok h e sn h2 rest]
    rw [Bool.and_true]
    cases hc : optBit b.m e with
    | true => rfl
    | false =>
      cases hd : ahead b sn with
      | true => rfl
      | false =>
        rw [hc, hd] at hx'
        have ha : asF tm h a = true := by
          cases hq : asF tm h a with
          | true => rfl
          | false => rw [hq] at hx'; cases hx'
        rw [asF_ok h1 h ha]; rfl
  | [], _ :: _, h, _ => h.elim
  | _ :: _, [], h, _ => h.elim

theorem snapsF_ok (al : List Pd) {rs : List RdK} {rs' : List Rd} (hr : RdsRel P X tm rs rs') : ∀ (sn : List Sn), snapsF tm al rs sn = true → snapsOk P X tm al rs' sn = true
  | [], _ => rfl
  | s :: l, hx => by
    have hx' : bB false (snapsF tm al rs l) (readsF tm (commitAllF (openF l al) s.h) (some s.e) l rs) = true := hx
    rw [bB_eq] at hx'
    split at hx'
    · rename_i h1
      show (readsOk P X tm (commitAll (openAt l al) s.h) (some s.e) l rs' && snapsOk P X tm al rs' l) = true
      rw [snapsF_ok al hr l hx', commitAllF_eq, openF_eq] at *
      rw [readsF_ok _ _ _ hr h1]; rfl
    · cases hx'

theorem endDraw_ok {mask : Nat} {e : Env} {vs : Vs} {loc : Loc} (hE : EnvRel e vs tm loc) {h : AHeap} {pend al : List Pd} {sn : List Sn} {rs : List RdK} {rs' : List Rd} (hr : RdsRel P X tm rs rs') :
    ROk mask tm (dEnd (flushC mask e.n e.E) tm vs h pend al sn rs) (endDraw P X tm ⟨loc, [], h, .no, pend, al, sn, rs'⟩) := by
  unfold dEnd
  rw [bB_eq]
  split
  · rename_i hc
    rw [Bool.and_eq_true] at hc
    obtain ⟨h1, h2⟩ := hc
    rw [commitAllF_eq, openF_eq] at h1
    have h3 := readsF_ok _ _ _ hr h1
    have h4 := snapsF_ok al hr sn h2
    refine ⟨loc, ?_, (flushC_eq mask hE.loc).symm⟩
    unfold endDraw
    simp only
    rw [h3, h4, commitAllF_eq]; rfl
  · trivial

section
variable {call : CallF} {mask : Nat} {ev : Operand → Option AVal}

theorem vOf_ok {o : OpK} {op : Op} {vs : Vs} (hop : OpOk P X o op ev vs tm) (h : AHeap) (v : AVal) (hv : (vOf o).f vs tm h = some v) : ∃ h', execA P X ev h 0 op = some (.val v h') := by
  cases o with
  | v g => exact ⟨h, hop h 0 v hv⟩
  | a g => cases hv
  | s g => cases hv
  | call f g => cases hv
  | g g =>
    have hv' : bO none valOf (g.f vs tm h 0) = some v := hv
    have he : g.f vs tm h 0 = execA P X ev h 0 op := hop h 0
    rw [he, bO_some] at hv'
    cases hx : execA P X ev h 0 op with
    | none => rw [hx] at hv'; cases hv'
    | some n =>
      rw [hx] at hv'
      cases n <;> first | (cases hv'; exact ⟨_, rfl⟩) | cases hv'

theorem aOf_ok {o : OpK} {op : Op} {vs : Vs} (hop : OpOk P X o op ev vs tm) (h h' : AHeap) (rid : Nat) (v : AVal) (hv : (aOf o).f vs tm h rid = some (v, h')) : execA P X ev h rid op = some (.val v h') := by
  cases o with
  | v g => cases hv
  | a g => exact hop h rid v h' hv
  | s g => cases hv
  | call f g => cases hv
  | g g =>
    have hv' : bO none valOf2 (g.f vs tm h rid) = some (v, h') := hv
    have he : g.f vs tm h rid = execA P X ev h rid op := hop h rid
    rw [he, bO_some] at hv'
    cases hx : execA P X ev h rid op with
    | none => rw [hx] at hv'; cases hv'
    | some n =>
      rw [hx] at hv'
      cases n <;> first | (cases hv'; rfl) | cases hv'

/-- An effect, then the rest. -/
theorem dEff_ok {o : OpK} {op : Op} {dst : Option Nat} {i m k st : Nat} {tl : List (Oper × Nat)} {ih : DF} {vs : Vs} {h : AHeap} {pend al : List Pd} {sn : List Sn} {rs : List RdK} {rs' : List Rd} {ops : Array Oper} {rid0 : Nat} {loc0 : Loc}
    (hr : RdsRel P X tm rs rs') (hop : OpOk P X o op ev vs tm) {F : AVal → List ADefd → AHeap → UM → Option RRes}
    (hih : ∀ v h', ROk mask tm (ih.f call tm st (pushK dst v vs) h' (keepF m pend) al (⟨i, m, h⟩ :: sn) rs) (F v [] h' .no)) :
    ROk mask tm ((dEff o dst i m k tl ih).f call tm st vs h pend al sn rs) (match lastEff m sn with
      | false => none
      | true =>
        match operA P X call false ev [] (commit m pend h) .no (st + k) op with
        | some (.ok v ds h' um) => F v ds h' um
        | some (.pan v ds h' um) =>
          match panOk P X ops tm i m tl rid0 ⟨loc0, [], h, .no, pend, al, sn, rs'⟩ with
          | true => some (.pan v ds h' um)
          | false => none
        | none => none) := by
  have hpan : ∀ v h', ROk mask tm (bB .bad (.pan v h') (allAfter i tl && snapsF tm al rs (⟨i, m, h⟩ :: sn))) (match panOk P X ops tm i m tl rid0 ⟨loc0, [], h, .no, pend, al, sn, rs'⟩ with | true => some (.pan v [] h' .no) | false => none) := by
    intro v h'
    rw [bB_eq]
    split
    · rename_i hc
      rw [Bool.and_eq_true] at hc
      have h1 := snapsF_ok al hr (⟨i, m, h⟩ :: sn) hc.2
      rw [panOk_after P X ops tm hc.1 h1]; rfl
    · trivial
  have hafter : ∀ (x : Option (AEnd × AHeap)), ROk mask tm (bO .bad (dAfter dst i m tl ih call tm st vs h pend al sn rs) x) (match (match x with | some (.ret v, h'') => some (ORes.ok v [] h'' .no) | some (.pan v, h'') => some (.pan v [] h'' .no) | none => none) with
        | some (.ok v ds h' um) => F v ds h' um
        | some (.pan v ds h' um) =>
          match panOk P X ops tm i m tl rid0 ⟨loc0, [], h, .no, pend, al, sn, rs'⟩ with
          | true => some (.pan v ds h' um)
          | false => none
        | none => none) := by
    intro x
    cases x with
    | none => trivial
    | some p =>
      obtain ⟨e, h'⟩ := p
      cases e with
      | ret v => exact hih v h'
      | pan v => exact hpan v h'
  cases hl : lastEff m sn with
  | false =>
    have hl' : lastF m sn = false := by rw [lastF_eq]; exact hl
    cases o with
    | v g => show ROk mask tm (bB .bad _ (lastF m sn)) _; rw [hl']; trivial
    | a g => show ROk mask tm (bB .bad _ (lastF m sn)) _; rw [hl']; trivial
    | s g => show ROk mask tm (bB .bad _ (lastF m sn)) _; rw [hl']; trivial
    | call f g => show ROk mask tm (bB .bad _ (lastF m sn)) _; rw [hl']; trivial
    | g g => show ROk mask tm (bB .bad _ (lastF m sn)) _; rw [hl']; trivial
  | true =>
    have hl' : lastF m sn = true := by rw [lastF_eq]; exact hl
    simp only
    cases o with
    | v g =>
      have hop' : ∀ h rid v, g.f vs tm h = some v → execA P X ev h rid op = some (.val v h) := hop
      show ROk mask tm (bB .bad (bO .bad (fun v => dVal dst i m ih call tm st vs h pend al sn rs v (commitF m pend h)) (g.f vs tm (commitF m pend h))) (lastF m sn)) _
      rw [hl', commitF_eq]
      show ROk mask tm (bO .bad _ (g.f vs tm (commit m pend h))) _
      cases hg : g.f vs tm (commit m pend h) with
      | none => trivial
      | some v =>
        unfold operA
        rw [hop' _ (st + k) v hg]
        exact hih v _
    | a g =>
      have hop' : ∀ h rid v h', g.f vs tm h rid = some (v, h') → execA P X ev h rid op = some (.val v h') := hop
      show ROk mask tm (bB .bad (bO .bad (fun p => Prod.rec (motive := fun _ => CR) (dVal dst i m ih call tm st vs h pend al sn rs) p) (g.f vs tm (commitF m pend h) (st + k))) (lastF m sn)) _
      rw [hl', commitF_eq]
      show ROk mask tm (bO .bad _ (g.f vs tm (commit m pend h) (st + k))) _
      cases hg : g.f vs tm (commit m pend h) (st + k) with
      | none => trivial
      | some p =>
        obtain ⟨v, h'⟩ := p
        unfold operA
        rw [hop' _ (st + k) v h' hg]
        exact hih v h'
    | s g =>
      have hop' : ∀ h rid h', g.f vs tm h = some h' → execA P X ev h rid op = some (.val undefA h') := hop
      show ROk mask tm (bB .bad (bO .bad (dVal dst i m ih call tm st vs h pend al sn rs undefA) (g.f vs tm (commitF m pend h))) (lastF m sn)) _
      rw [hl', commitF_eq]
      show ROk mask tm (bO .bad _ (g.f vs tm (commit m pend h))) _
      cases hg : g.f vs tm (commit m pend h) with
      | none => trivial
      | some h' =>
        unfold operA
        rw [hop' _ (st + k) h' hg]
        exact hih undefA h'
    | call f g =>
      have he : ∀ h rid, execA P X ev h rid op = some (.enter (.fn f) (g.f vs tm) h) := hop
      show ROk mask tm (bB .bad (bO .bad (dAfter dst i m tl ih call tm st vs h pend al sn rs) (call (.fn f) (g.f vs tm) (commitF m pend h))) (lastF m sn)) _
      rw [hl', commitF_eq]
      unfold operA
      rw [he]
      exact hafter _
    | g g =>
      have he : ∀ h rid, g.f vs tm h rid = execA P X ev h rid op := hop
      show ROk mask tm (bB .bad (bO .bad (dGo dst i m tl ih call tm st vs h pend al sn rs) (g.f vs tm (commitF m pend h) (st + k))) (lastF m sn)) _
      rw [hl', commitF_eq, he]
      unfold operA
      cases execA P X ev (commit m pend h) (st + k) op with
      | none => trivial
      | some n =>
        cases n with
        | val v h' => exact hih v h'
        | enter t args h' => exact hafter _
        | pan v h' => exact hpan v h'
        | dfr d h' => trivial
        | recover h' => trivial

theorem dSkip_ok {dst : Option Nat} {st : Nat} {ih : DF} {vs : Vs} {h : AHeap} {pend al : List Pd} {sn : List Sn} {rs : List RdK} {old : Option RRes} (hih : ROk mask tm (ih.f call tm st (pushK dst undefA vs) h pend al sn rs) old) :
    ROk mask tm ((dSkip dst ih).f call tm st vs h pend al sn rs) old := by
  cases dst with
  | none => exact hih
  | some d => exact hih
end

theorem dOps_cons (mask : Nat) (ops : Array Oper) (om : Oper × Nat) (tl : List (Oper × Nat)) (e : Env) (i k : Nat) : (dOps P X mask ops (om :: tl)).f e i k = (match aliasOf X e om.1 with
      | some e' => (dOps P X mask ops tl).f e' (Nat.succ i) k
      | none => dStepO P X ops om.1 e i om.2 k tl ((dOps P X mask ops tl).f (e.push om.1.dst) (Nat.succ i) (nextK P om.1.op k))) := rfl

variable (hn : plainNames P = true)
include hn

theorem dOps_ok {call : CallF} {mask : Nat} {ops : Array Oper} {st : Nat} : ∀ (l : List (Oper × Nat)) (e : Env) (i k : Nat) (vs : Vs) (loc : Loc) (h : AHeap) (pend al : List Pd) (sn : List Sn) (rs : List RdK) (rs' : List Rd), EnvRel e vs tm loc → RdsRel P X tm rs rs' →
    ROk mask tm (((dOps P X mask ops l).f e i k).f call tm st vs h pend al sn rs) ((compDraw P X call false ops l).f tm i (st + k) ⟨loc, [], h, .no, pend, al, sn, rs'⟩)
  | [], e, i, k, vs, loc, h, pend, al, sn, rs, rs', hE, hr => endDraw_ok hE hr
  | om :: tl, e, i, k, vs, loc, h, pend, al, sn, rs, rs', hE, hr => by
    rw [compDraw_cons, dOps_cons]
    cases ha : aliasOf X e om.1 with
    | some e' =>
      obtain ⟨hg, _, x, v, hop, hv, hE'⟩ := aliasOf_ok hE ha
      rw [wanted_none hg]
      have hcl : clsOf P om.1.op = .pure := by rcases hop with hop | hop <;> (rw [hop]; rfl)
      have hex : execA P X (evA X loc tm) h 0 om.1.op = some (.val v h) := by
        rcases hop with hop | hop <;> (rw [hop]; show v1 h (evA X loc tm x) = _; rw [hv]; rfl)
      have hnx : nextRid P om.1.op (st + k) = st + k := by rcases hop with hop | hop <;> (rw [hop]; rfl)
      simp only [hcl, hex, hnx]
      exact dOps_ok tl e' (i + 1) k vs _ h pend al sn rs rs' hE' hr
    | none =>
      show ROk mask tm ((dStepO P X ops om.1 e i om.2 k tl ((dOps P X mask ops tl).f (e.push om.1.dst) (Nat.succ i) (nextK P om.1.op k))).f call tm st vs h pend al sn rs) _
      have hnx : nextRid P om.1.op (st + k) = st + nextK P om.1.op k := nextK_eq _ _ _
      have hop := kOp_ok (P := P) (X := X) hE hn om.1.op
      have ih : ∀ v h' pend' al' sn' rs2 rs2', RdsRel P X tm rs2 rs2' → ROk mask tm (((dOps P X mask ops tl).f (e.push om.1.dst) (Nat.succ i) (nextK P om.1.op k)).f call tm st (pushK om.1.dst v vs) h' pend' al' sn' rs2)
          ((compDraw P X call false ops tl).f tm (Nat.succ i) (nextRid P om.1.op (st + k)) ⟨pushL om.1.dst v loc, [], h', .no, pend', al', sn', rs2'⟩) := by
        intro v h' pend' al' sn' rs2 rs2' h2
        rw [hnx]
        exact dOps_ok tl _ (i + 1) _ _ _ h' pend' al' sn' rs2 rs2' (hE.push om.1.dst v) h2
      have hrun : ROk mask tm ((dStep (kOp P X e om.1.op) (clsOf P om.1.op) om.1.dst i om.2 k tl ((dOps P X mask ops tl).f (e.push om.1.dst) (Nat.succ i) (nextK P om.1.op k))).f call tm st vs h pend al sn rs)
          (match clsOf P om.1.op with
            | .pure =>
              match execA P X (evA X loc tm) h 0 om.1.op with
              | some (.val v _) => (compDraw P X call false ops tl).f tm (Nat.succ i) (nextRid P om.1.op (st + k)) ⟨pushL om.1.dst v loc, [], h, .no, pend, al, sn, rs'⟩
              | _ => none
            | .alloc =>
              match execA P X (evA X loc tm) h (st + k) om.1.op with
              | some (.val v h') =>
                match h'.get (st + k) with
                | some obj => (compDraw P X call false ops tl).f tm (Nat.succ i) (nextRid P om.1.op (st + k)) ⟨pushL om.1.dst v loc, [], h, .no, ⟨i, st + k, obj⟩ :: pend, ⟨i, st + k, obj⟩ :: al, sn, rs'⟩
                | none => none
              | _ => none
            | .read =>
              match execA P X (evA X loc tm) (commitAll pend h) 0 om.1.op with
              | some (.val v _) => (compDraw P X call false ops tl).f tm (Nat.succ i) (nextRid P om.1.op (st + k)) ⟨pushL om.1.dst v loc, [], h, .no, pend, al, sn, ⟨i, om.2, om.1.op, loc, v⟩ :: rs'⟩
              | _ => none
            | .eff =>
              match lastEff om.2 sn with
              | false => none
              | true =>
                match operA P X call false (evA X loc tm) [] (commit om.2 pend h) .no (st + k) om.1.op with
                | some (.ok v ds h2 um) => (compDraw P X call false ops tl).f tm (Nat.succ i) (nextRid P om.1.op (st + k)) ⟨pushL om.1.dst v loc, ds, h2, um, keep om.2 pend, al, ⟨i, om.2, h⟩ :: sn, rs'⟩
                | some (.pan v ds h2 um) =>
                  match panOk P X ops tm i om.2 tl (nextRid P om.1.op (st + k)) ⟨loc, [], h, .no, pend, al, sn, rs'⟩ with
                  | true => some (.pan v ds h2 um)
                  | false => none
                | none => none) := by
        unfold dStep
        cases clsOf P om.1.op with
        | pure =>
          show ROk mask tm (bO .bad (dPure om.1.dst _ call tm st vs h pend al sn rs) ((vOf (kOp P X e om.1.op)).f vs tm h)) _
          cases hv : (vOf (kOp P X e om.1.op)).f vs tm h with
          | none => trivial
          | some v =>
            obtain ⟨h', he⟩ := vOf_ok hop h v hv
            simp only [he]
            exact ih v h pend al sn rs rs' hr
        | alloc =>
          show ROk mask tm (bO .bad (dAlloc om.1.dst i (st + k) _ call tm st vs h pend al sn rs) ((aOf (kOp P X e om.1.op)).f vs tm h (st + k))) _
          cases hv : (aOf (kOp P X e om.1.op)).f vs tm h (st + k) with
          | none => trivial
          | some p =>
            obtain ⟨v, h'⟩ := p
            have he := aOf_ok hop h h' (st + k) v hv
            simp only [he]
            show ROk mask tm (bO .bad (dAlloc2 om.1.dst i (st + k) _ call tm st vs h pend al sn rs v) (getO h' (st + k))) _
            rw [getO_eq]
            cases h'.get (st + k) with
            | none => trivial
            | some obj => exact ih v h _ _ sn rs rs' hr
        | read =>
          show ROk mask tm (bO .bad (dRead om.1.dst i om.2 (vOf (kOp P X e om.1.op)) _ call tm st vs h pend al sn rs) ((vOf (kOp P X e om.1.op)).f vs tm (commitAllF pend h))) _
          rw [commitAllF_eq]
          cases hv : (vOf (kOp P X e om.1.op)).f vs tm (commitAll pend h) with
          | none => trivial
          | some v =>
            obtain ⟨h', he⟩ := vOf_ok hop _ v hv
            simp only [he]
            exact ih v h pend al sn _ _ ⟨⟨rfl, rfl, rfl, fun h2 v2 hv2 => vOf_ok hop h2 v2 hv2⟩, hr⟩
        | eff =>
          refine dEff_ok (P := P) (X := X) hr hop (F := fun v ds h2 um => (compDraw P X call false ops tl).f tm (Nat.succ i) (nextRid P om.1.op (st + k)) ⟨pushL om.1.dst v loc, ds, h2, um, keep om.2 pend, al, ⟨i, om.2, h⟩ :: sn, rs'⟩) ?_
          intro v h'
          rw [keepF_eq]
          exact ih v h' _ al _ rs rs' hr
      unfold dStepO
      split
      · rename_i hg
        rw [wanted_none hg]
        exact hrun
      · rename_i j want hg
        split
        · rename_i d hd
          rcases guard_ok (β := Unit) hE hg hd (fun _ => True) ((dStep (kOp P X e om.1.op) (clsOf P om.1.op) om.1.dst i om.2 k tl ((dOps P X mask ops tl).f (e.push om.1.dst) (Nat.succ i) (nextK P om.1.op k))).f call tm st vs h pend al sn rs)
            ((dSkip om.1.dst ((dOps P X mask ops tl).f (e.push om.1.dst) (Nat.succ i) (nextK P om.1.op k))).f call tm st vs h pend al sn rs) (fun _ => True) (fun _ => True) (fun _ => True) with ⟨h1, h2⟩ | ⟨h1, h2⟩ | h2
          · show ROk mask tm (onBool _ _ _ _) _
            rw [h2, h1]; exact hrun
          · show ROk mask tm (onBool _ _ _ _) _
            rw [h2, h1]; exact dSkip_ok (ih undefA h pend al sn rs rs' hr)
          · show ROk mask tm (onBool _ _ _ _) _
            rw [h2]; trivial
        · trivial

end
end Go.Eng
