/- The engine, part Y4: the compiled evaluator is the evaluator: regions. -/
import Derived.Test.YtpnkohfmpdehaaaGreatDoorEngY3
set_option linter.unusedSimpArgs false
set_option linter.unusedSectionVars false
set_option linter.unusedVariables false
namespace Go.Eng

section
variable {P : Program} {X : Cx}

/-- Is a region left so by the evaluator? -/
def ROk (mask : Nat) (tm : T AVal) : CR → Option RRes → Prop
  | .bad, _ => True
  | .norm tm' h, old => ∃ loc, old = some (.ok loc [] h .no) ∧ flush loc mask tm = tm'
  | .pan v h, old => old = some (.pan v [] h .no)
  | .ret _ _, _ => False
  | .exit _ _ _, _ => False

section
variable {call : CallF} {mask : Nat} {tm : T AVal} {ev : Operand → Option AVal}

theorem afterR_ok {dst : Option Nat} {ih : RF} {st : Nat} {vs : Vs} {x : Option (AEnd × AHeap)} {F : AVal → List ADefd → AHeap → UM → Option RRes}
    (hih : ∀ v h', ROk mask tm (ih.f call tm st (pushK dst v vs) h') (F v [] h' .no)) :
    ROk mask tm (bO .bad (afterR dst ih call tm st vs) x) (match (match x with | some (.ret v, h'') => some (ORes.ok v [] h'' .no) | some (.pan v, h'') => some (.pan v [] h'' .no) | none => none) with
      | some (.ok v ds' h' um') => F v ds' h' um'
      | some (.pan v ds' h' um') => some (.pan v ds' h' um')
      | none => none) := by
  cases x with
  | none => trivial
  | some p =>
    obtain ⟨e, h'⟩ := p
    cases e with
    | ret v => exact hih v h'
    | pan v => rfl

/-- An operation, then the rest. -/
theorem stepK_ok {o : OpK} {op : Op} {dst : Option Nat} {k st : Nat} {ih : RF} {vs : Vs} {h : AHeap} (hop : OpOk P X o op ev vs tm) {F : AVal → List ADefd → AHeap → UM → Option RRes}
    (hih : ∀ v h', ROk mask tm (ih.f call tm st (pushK dst v vs) h') (F v [] h' .no)) :
    ROk mask tm ((stepK o dst k ih).f call tm st vs h) (match operA P X call false ev [] h .no (st + k) op with
      | some (.ok v ds' h' um') => F v ds' h' um'
      | some (.pan v ds' h' um') => some (.pan v ds' h' um')
      | none => none) := by
  cases o with
  | v g =>
    have hop' : ∀ h rid v, g.f vs tm h = some v → execA P X ev h rid op = some (.val v h) := hop
    cases hg : g.f vs tm h with
    | none => cases dst <;> (show ROk mask tm (bO .bad _ (g.f vs tm h)) _; rw [hg]; trivial)
    | some v =>
      have he := hop' h (st + k) v hg
      unfold operA
      rw [he]
      cases dst with
      | none => show ROk mask tm (bO .bad (okVn ih call tm st vs h) (g.f vs tm h)) _; rw [hg]; exact hih v h
      | some d => show ROk mask tm (bO .bad (okV ih call tm st vs h) (g.f vs tm h)) _; rw [hg]; exact hih v h
  | a g =>
    have hop' : ∀ h rid v h', g.f vs tm h rid = some (v, h') → execA P X ev h rid op = some (.val v h') := hop
    cases hg : g.f vs tm h (st + k) with
    | none =>
      cases dst with
      | none => show ROk mask tm (bO .bad (okAn ih call tm st vs) (g.f vs tm h (st + k))) _; rw [hg]; trivial
      | some d => show ROk mask tm (bO .bad (okA ih call tm st vs) (g.f vs tm h (st + k))) _; rw [hg]; trivial
    | some p =>
      obtain ⟨v, h'⟩ := p
      have he := hop' h (st + k) v h' hg
      unfold operA
      rw [he]
      cases dst with
      | none => show ROk mask tm (bO .bad (okAn ih call tm st vs) (g.f vs tm h (st + k))) _; rw [hg]; exact hih v h'
      | some d => show ROk mask tm (bO .bad (okA ih call tm st vs) (g.f vs tm h (st + k))) _; rw [hg]; exact hih v h'
  | s g =>
    have hop' : ∀ h rid h', g.f vs tm h = some h' → execA P X ev h rid op = some (.val undefA h') := hop
    cases hg : g.f vs tm h with
    | none =>
      cases dst with
      | none => show ROk mask tm (bO .bad (okH ih call tm st vs) (g.f vs tm h)) _; rw [hg]; trivial
      | some d => show ROk mask tm (bO .bad (okH ih call tm st (.cons undefA vs)) (g.f vs tm h)) _; rw [hg]; trivial
    | some h' =>
      have he := hop' h (st + k) h' hg
      unfold operA
      rw [he]
      cases dst with
      | none => show ROk mask tm (bO .bad (okH ih call tm st vs) (g.f vs tm h)) _; rw [hg]; exact hih undefA h'
      | some d => show ROk mask tm (bO .bad (okH ih call tm st (.cons undefA vs)) (g.f vs tm h)) _; rw [hg]; exact hih undefA h'
  | call f g =>
    have he : execA P X ev h (st + k) op = some (.enter (.fn f) (g.f vs tm) h) := hop h (st + k)
    unfold operA
    rw [he]
    exact afterR_ok hih
  | g g =>
    have he : g.f vs tm h (st + k) = execA P X ev h (st + k) op := hop h (st + k)
    show ROk mask tm (bO .bad (goG dst ih call tm st vs) (g.f vs tm h (st + k))) _
    unfold operA
    rw [he]
    cases execA P X ev h (st + k) op with
    | none => trivial
    | some n =>
      cases n with
      | val v h' => exact hih v h'
      | enter t args h' => exact afterR_ok hih
      | pan v h' => rfl
      | dfr d h' => trivial
      | recover h' => trivial

theorem skipK_ok {dst : Option Nat} {st : Nat} {ih : RF} {vs : Vs} {h : AHeap} {old : Option RRes} (hih : ROk mask tm (ih.f call tm st (pushK dst undefA vs) h) old) : ROk mask tm ((skipK dst ih).f call tm st vs h) old := by
  cases dst with
  | none => exact hih
  | some d => exact hih
end

/-- Another name leaves all as it is. -/
theorem aliasOf_ok {e e' : Env} {vs : Vs} {tm : T AVal} {loc : Loc} (hE : EnvRel e vs tm loc) {o : Oper} (ha : aliasOf X e o = some e') :
    o.guard = none ∧ (o.op = .move (match o.op with | .move x => x | .assign x => x | _ => .const undef) ∨ o.op = .assign (match o.op with | .move x => x | .assign x => x | _ => .const undef)) ∧
    ∃ x v, (o.op = .move x ∨ o.op = .assign x) ∧ evA X loc tm x = some v ∧ EnvRel e' vs tm (pushL o.dst v loc) := by
  unfold aliasOf at ha
  split at ha
  · rename_i d x hg hd ho
    split at ha
    · rename_i s hs
      cases ha
      have hsv := hE.src (X := X) x
      rw [hs] at hsv
      refine ⟨hg, .inl (by rw [ho]), x, _, .inl ho, hsv.1, ?_⟩
      rw [hd]; exact hE.alias d hs hsv.1
    · cases ha
  · rename_i d x hg hd ho
    split at ha
    · rename_i s hs
      cases ha
      have hsv := hE.src (X := X) x
      rw [hs] at hsv
      refine ⟨hg, .inr (by rw [ho]), x, _, .inr ho, hsv.1, ?_⟩
      rw [hd]; exact hE.alias d hs hsv.1
    · cases ha
  · cases ha

theorem wanted_none {ops : Array Oper} {loc : Loc} {tm : T AVal} {o : Oper} (h : o.guard = none) : wantedA ops loc tm o = some true := by unfold wantedA; rw [h]

theorem nextK_eq (op : Op) (st k : Nat) : nextRid P op (st + k) = st + nextK P op k := by
  unfold nextRid nextK
  cases mayAlloc P op <;> rfl

theorem cOps_cons (mask : Nat) (ops : Array Oper) (o : Oper) (l : List Oper) (e : Env) (k : Nat) : (cOps P X mask ops (o :: l)).f e k = (match aliasOf X e o with
      | some e' => (cOps P X mask ops l).f e' k
      | none => stepO P X ops o e k ((cOps P X mask ops l).f (e.push o.dst) (nextK P o.op k))) := rfl

/-- A guard. -/
theorem guard_ok {β : Type} {e : Env} {vs : Vs} {tm : T AVal} {loc : Loc} (hE : EnvRel e vs tm loc) {ops : Array Oper} {o : Oper} {j d : Nat} {want : Bool} (hg : o.guard = some (j, want)) (hd : dstOf ops j = some d) (R : β → Prop) (run skip : CR) (tr sk bad : β → Prop)
    : (wantedA ops loc tm o = some true ∧ onBool (guardB want run skip) (isNilL skip .bad) .bad ((acSrc e.n (e.find d)).f vs tm) = run) ∨
      (wantedA ops loc tm o = some false ∧ onBool (guardB want run skip) (isNilL skip .bad) .bad ((acSrc e.n (e.find d)).f vs tm) = skip) ∨
      onBool (guardB want run skip) (isNilL skip .bad) .bad ((acSrc e.n (e.find d)).f vs tm) = .bad := by
  have h1 := (hE.find d).1
  rw [← h1, onBool_eq]
  unfold wantedA
  rw [hg]
  simp only [hd]
  cases hl : lookL loc d tm with
  | none => exact .inr (.inr rfl)
  | some v =>
    cases v <;> try exact .inr (.inr rfl)
    · rename_i b
      show (some (b == want) = some true ∧ guardB want run skip b = run) ∨ (some (b == want) = some false ∧ guardB want run skip b = skip) ∨ _
      unfold guardB
      cases hb : (b == want) with
      | true => exact .inl ⟨rfl, rfl⟩
      | false => exact .inr (.inl ⟨rfl, rfl⟩)
    · rename_i l
      cases l with
      | nil => exact .inr (.inl ⟨rfl, rfl⟩)
      | cons => exact .inr (.inr rfl)

variable (hn : plainNames P = true)
include hn

/-- A region's operations in their order. -/
theorem cOps_ok {call : CallF} {mask : Nat} {ops : Array Oper} {tm : T AVal} {st : Nat} : ∀ (l : List Oper) (e : Env) (k : Nat) (vs : Vs) (loc : Loc) (h : AHeap), EnvRel e vs tm loc →
    ROk mask tm (((cOps P X mask ops l).f e k).f call tm st vs h) ((compOps P X call false ops l).f tm (st + k) loc [] h .no)
  | [], e, k, vs, loc, h, hE => ⟨loc, rfl, (flushC_eq mask hE.loc).symm⟩
  | o :: l, e, k, vs, loc, h, hE => by
    rw [compOps_cons, cOps_cons]
    cases ha : aliasOf X e o with
    | some e' =>
      obtain ⟨hg, _, x, v, hop, hv, hE'⟩ := aliasOf_ok hE ha
      rw [wanted_none hg]
      have hex : operA P X call false (evA X loc tm) [] h .no (st + k) o.op = some (.ok v [] h .no) := by
        unfold operA
        have : execA P X (evA X loc tm) h (st + k) o.op = some (.val v h) := by
          rcases hop with hop | hop <;> (rw [hop]; show v1 h (evA X loc tm x) = _; rw [hv]; rfl)
        rw [this]
      have hnx : nextRid P o.op (st + k) = st + k := by rcases hop with hop | hop <;> (rw [hop]; rfl)
      simp only [hex, hnx]
      exact cOps_ok l e' k vs _ h hE'
    | none =>
      have ih : ∀ v h', ROk mask tm (((cOps P X mask ops l).f (e.push o.dst) (nextK P o.op k)).f call tm st (pushK o.dst v vs) h') ((compOps P X call false ops l).f tm (nextRid P o.op (st + k)) (pushL o.dst v loc) [] h' .no) := by
        intro v h'
        rw [nextK_eq]
        exact cOps_ok l _ _ _ _ h' (hE.push o.dst v)
      have hrun := stepK_ok (P := P) (X := X) (call := call) (mask := mask) (st := st) (k := k) (dst := o.dst) (h := h) (kOp_ok hE hn o.op) (F := fun v ds' h' um' => (compOps P X call false ops l).f tm (nextRid P o.op (st + k)) (pushL o.dst v loc) ds' h' um') ih
      show ROk mask tm ((stepO P X ops o e k ((cOps P X mask ops l).f (e.push o.dst) (nextK P o.op k))).f call tm st vs h) _
      unfold stepO
      split
      · rename_i hg
        rw [wanted_none hg]
        exact hrun
      · rename_i j want hg
        split
        · rename_i d hd
          rcases guard_ok (β := Unit) hE hg hd (fun _ => True) ((stepK (kOp P X e o.op) o.dst k ((cOps P X mask ops l).f (e.push o.dst) (nextK P o.op k))).f call tm st vs h) ((skipK o.dst ((cOps P X mask ops l).f (e.push o.dst) (nextK P o.op k))).f call tm st vs h)
            (fun _ => True) (fun _ => True) (fun _ => True) with ⟨h1, h2⟩ | ⟨h1, h2⟩ | h2
          · show ROk mask tm (onBool _ _ _ _) _
            rw [h2, h1]; exact hrun
          · show ROk mask tm (onBool _ _ _ _) _
            rw [h2, h1]; exact skipK_ok (ih undefA h)
          · show ROk mask tm (onBool _ _ _ _) _
            rw [h2]; trivial
        · trivial

end
end Go.Eng
