/- The engine, part Y5: the compiled evaluator is the evaluator: regions whose order is open. -/
import Derived.Test.YtpnkohfmpdehaaaGreatDoorEngY4
set_option linter.unusedSimpArgs false
set_option linter.unusedSectionVars false
set_option linter.unusedVariables false
namespace Go.Eng

theorem eqCap_refl (c : Cap) : eqCap c c = true := by cases c <;> simp [eqCap]
mutual
theorem beqV_refl : ∀ v : AVal, beqV v v = true
  | .bool _ => by simp [beqV]
  | .int k n => by simp [beqV, eqI_eq]
  | .str _ _ => by simp [beqV]
  | .ptr _ _ => by simp [beqV]
  | .nptr => rfl
  | .slc _ _ _ c => by simp [beqV, eqCap_refl c]
  | .nslc => rfl
  | .map _ => by simp [beqV]
  | .nmap => rfl
  | .func f a c => by simp [beqV, beqVs_refl a, beqVs_refl c]
  | .yield _ => by simp [beqV]
  | .nfunc => rfl
  | .iface t v => by simp [beqV, beqV_refl v]
  | .niface => rfl
  | .agg l => by simp [beqV, beqVs_refl l]
  | .tup l => by simp [beqV, beqVs_refl l]
  | .sym _ => by simp [beqV]
  | .any => rfl
theorem beqVs_refl : ∀ l : List AVal, beqVs l l = true
  | [] => rfl
  | v :: l => by simp [beqVs, beqV_refl v, beqVs_refl l]
end

section
variable {P : Program} {X : Cx}

/-! ### Regions that only read -/
set_option maxHeartbeats 1000000 in
theorem read_rid {ev : Operand → Option AVal} {op : Op} {h : AHeap} (hc : clsOf P op = .read) (rid rid2 : Nat) : execA P X ev h rid op = execA P X ev h rid2 op := by
  unfold execA
  cases op
  case load t a => rfl
  case lookup t x k ok => rfl
  case convert s d x =>
    show (match ev x with | some a => vh (convA P X.facts h rid s d a) | none => none) = (match ev x with | some a => vh (convA P X.facts h rid2 s d a) | none => none)
    have hd : ∀ el, P.underlying d ≠ some (.slice el) := by
      intro el hel
      simp only [clsOf] at hc
      rw [hel] at hc
      split at hc <;> simp_all
    cases ev x with
    | none => rfl
    | some a =>
      show vh (convA P X.facts h rid s d a) = vh (convA P X.facts h rid2 s d a)
      congr 1
      cases a <;> try rfl
      unfold convA
      simp only
      split
      · rfl
      · rename_i hel; exact absurd hel (hd _)
      · rfl
  case call c =>
    obtain ⟨callee, args, argTypes⟩ := c
    cases callee with
    | builtin b =>
      cases b <;> simp [clsOf] at hc
      show callA P X ev h rid _ = callA P X ev h rid2 _
      unfold callA
      cases evs ev args.toList with
      | none => rfl
      | some l =>
        show builtinA P X h rid .len argTypes.toList l = builtinA P X h rid2 .len argTypes.toList l
        cases argTypes.toList with
        | nil => rfl
        | cons t ts =>
          match l with
          | [] => rfl
          | [x] => rfl
          | x :: y :: r => rfl
    | _ => simp [clsOf] at hc
  all_goals (simp [clsOf] at hc)

/-- An operation that only reads: whatever the next block's number is. -/
theorem quiet_exec {ev : Operand → Option AVal} {op : Op} {h : AHeap} {rid : Nat} {n : ANext} (hq : clsOf P op = .pure ∨ clsOf P op = .read) (hx : execA P X ev h rid op = some n) (hv : ∃ v h', n = .val v h') :
    ∃ v, n = .val v h ∧ ∀ rid2, execA P X ev h rid2 op = some (.val v h) := by
  obtain ⟨v, h', rfl⟩ := hv
  rcases hq with hq | hq
  · have h0 := pure_any hq hx h rid
    rw [hx] at h0
    cases h0
    exact ⟨v, rfl, fun rid2 => pure_any hq hx h rid2⟩
  · obtain ⟨w, hw⟩ := read_heap hq hx
    cases hw
    exact ⟨v, rfl, fun rid2 => by rw [read_rid hq rid2 rid]; exact hx⟩

theorem quiet_noalloc {op : Op} (hq : clsOf P op = .pure ∨ clsOf P op = .read) : mayAlloc P op = false := cls_noalloc hq

/-- An operation that only reads, then the rest. -/
theorem stepQ_ok {call : CallF} {mask : Nat} {tm : T AVal} {ev : Operand → Option AVal} {o : OpK} {op : Op} {dst : Option Nat} {k st : Nat} {ih : RF} {vs : Vs} {h : AHeap} (hop : OpOk P X o op ev vs tm) (hq : clsOf P op = .pure ∨ clsOf P op = .read)
    (hnp : ∀ n, execA P X ev h (st + k) op = some n → ∃ v h', n = .val v h') {old : Option RRes}
    (hih : ∀ v, (∀ rid, execA P X ev h rid op = some (.val v h)) → ROk mask tm (ih.f call tm st (pushK dst v vs) h) old) :
    ROk mask tm ((stepK o dst k ih).f call tm st vs h) old := by
  cases o with
  | v g =>
    have hop' : ∀ h rid v, g.f vs tm h = some v → execA P X ev h rid op = some (.val v h) := hop
    cases hg : g.f vs tm h with
    | none => cases dst <;> (show ROk mask tm (bO .bad _ (g.f vs tm h)) _; rw [hg]; trivial)
    | some v =>
      have he := fun rid => hop' h rid v hg
      cases dst with
      | none => show ROk mask tm (bO .bad (okVn ih call tm st vs h) (g.f vs tm h)) _; rw [hg]; exact hih v he
      | some d => show ROk mask tm (bO .bad (okV ih call tm st vs h) (g.f vs tm h)) _; rw [hg]; exact hih v he
  | a g =>
    have hop' : ∀ h rid v h', g.f vs tm h rid = some (v, h') → execA P X ev h rid op = some (.val v h') := hop
    cases hg : g.f vs tm h (st + k) with
    | none =>
      cases dst with
      | none => show ROk mask tm (bO .bad (okAn ih call tm st vs) (g.f vs tm h (st + k))) _; rw [hg]; trivial
      | some d => show ROk mask tm (bO .bad (okA ih call tm st vs) (g.f vs tm h (st + k))) _; rw [hg]; trivial
    | some p =>
      obtain ⟨v, h'⟩ := p
      have he := hop' h (st + k) v h' hg
      obtain ⟨w, h1, h2⟩ := quiet_exec hq he ⟨v, h', rfl⟩
      cases h1
      cases dst with
      | none => show ROk mask tm (bO .bad (okAn ih call tm st vs) (g.f vs tm h (st + k))) _; rw [hg]; exact hih v h2
      | some d => show ROk mask tm (bO .bad (okA ih call tm st vs) (g.f vs tm h (st + k))) _; rw [hg]; exact hih v h2
  | s g =>
    have hop' : ∀ h rid h', g.f vs tm h = some h' → execA P X ev h rid op = some (.val undefA h') := hop
    cases hg : g.f vs tm h with
    | none =>
      cases dst with
      | none => show ROk mask tm (bO .bad (okH ih call tm st vs) (g.f vs tm h)) _; rw [hg]; trivial
      | some d => show ROk mask tm (bO .bad (okH ih call tm st (.cons undefA vs)) (g.f vs tm h)) _; rw [hg]; trivial
    | some h' =>
      have he := hop' h (st + k) h' hg
      obtain ⟨w, h1, h2⟩ := quiet_exec hq he ⟨_, h', rfl⟩
      cases h1
      cases dst with
      | none => show ROk mask tm (bO .bad (okH ih call tm st vs) (g.f vs tm h)) _; rw [hg]; exact hih undefA h2
      | some d => show ROk mask tm (bO .bad (okH ih call tm st (.cons undefA vs)) (g.f vs tm h)) _; rw [hg]; exact hih undefA h2
  | call f g =>
    have he : execA P X ev h (st + k) op = some (.enter (.fn f) (g.f vs tm) h) := hop h (st + k)
    obtain ⟨v, h', h1⟩ := hnp _ he
    cases h1
  | g g =>
    have he : g.f vs tm h (st + k) = execA P X ev h (st + k) op := hop h (st + k)
    show ROk mask tm (bO .bad (goG dst ih call tm st vs) (g.f vs tm h (st + k))) _
    rw [he]
    cases hx : execA P X ev h (st + k) op with
    | none => trivial
    | some n =>
      obtain ⟨w, h', h1⟩ := hnp n hx
      obtain ⟨v, h2, h3⟩ := quiet_exec hq hx ⟨w, h', h1⟩
      subst h2
      exact hih v h3

set_option maxHeartbeats 1000000 in
/-- What only reads neither calls nor panics. -/
theorem quiet_val {ev : Operand → Option AVal} {op : Op} {h : AHeap} {rid : Nat} {n : ANext} (hq : clsOf P op = .pure ∨ clsOf P op = .read) (hx : execA P X ev h rid op = some n) : ∃ v h', n = .val v h' := by
  rcases hq with hq | hq
  · unfold execA at hx
    have hv1 : ∀ {a : Option AVal}, v1 h a = some n → ∃ v h', n = .val v h' := fun {a} h1 => by obtain ⟨v, _, h2⟩ := v1_of h1; exact ⟨v, h, h2⟩
    have hvh : ∀ {a : Option (AVal × AHeap)}, vh a = some n → ∃ v h', n = .val v h' := fun {a} h1 => by obtain ⟨v, h', _, h2⟩ := vh_of h1; exact ⟨v, h', h2⟩
    cases op
    case nilCheck x =>
      simp only [compOp] at hx
      split at hx <;> first | (cases hx; exact ⟨_, _, rfl⟩) | cases hx
    case makeInterface t x =>
      simp only [compOp] at hx
      split at hx <;> first | (cases hx; exact ⟨_, _, rfl⟩) | cases hx
    case makeFunc f a c =>
      cases f <;> simp only [compOp] at hx
      · split at hx <;> first | (cases hx; exact ⟨_, _, rfl⟩) | cases hx
      all_goals cases hx
    case call c =>
      obtain ⟨callee, args, argTypes⟩ := c
      cases callee with
      | builtin b =>
        simp only [compOp] at hx
        unfold callA at hx
        split at hx
        · cases hx
        · simp only at hx
          unfold builtinA at hx
          cases b <;> simp [clsOf] at hq <;> split at hx <;> first | contradiction | exact hv1 hx | exact hvh hx | (cases hx; done) | simp_all
      | _ => simp [clsOf] at hq
    all_goals (try (simp [clsOf] at hq; done))
    all_goals (simp only [compOp] at hx)
    all_goals (first | exact hv1 hx | (split at hx <;> first | exact hv1 hx | exact hvh hx | cases hx))
  · obtain ⟨v, h1⟩ := read_heap hq hx
    exact ⟨v, h, h1⟩

variable (hn : plainNames P = true)
include hn

theorem quiet_ok {call : CallF} {mask : Nat} {ops : Array Oper} {tm : T AVal} {st : Nat} : ∀ (l : List (Oper × Nat)) (e : Env) (i k : Nat) (vs : Vs) (loc : Loc) (h : AHeap) (rs : List Rd), (l.map (·.1)).all (quietOp P) = true → EnvRel e vs tm loc →
    (∀ r ∈ rs, readsAs P X tm h r = true) →
    ROk mask tm (((cOps P X mask ops (l.map (·.1))).f e k).f call tm st vs h) ((compDraw P X call false ops l).f tm i (st + k) ⟨loc, [], h, .no, [], [], [], rs⟩)
  | [], e, i, k, vs, loc, h, rs, hq, hE, hrs => by
    have hend : (compDraw P X call false ops []).f tm i (st + k) ⟨loc, [], h, .no, [], [], [], rs⟩ = some (.ok loc [] h .no) := by
      show endDraw P X tm ⟨loc, [], h, .no, [], [], [], rs⟩ = _
      unfold endDraw
      have h1 : ∀ rs : List Rd, (∀ r ∈ rs, readsAs P X tm h r = true) → readsOk P X tm (commitAll (openAt [] []) h) none [] rs = true := by
        intro rs
        induction rs with
        | nil => intro _; rfl
        | cons r rs ih =>
          intro hr
          have h2 : readsAs P X tm h r = true := hr r (by simp)
          have h3 := ih (fun q hq => hr q (by simp [hq]))
          show ((false || ahead r [] || readsAs P X tm (commitAll (openAt [] []) h) r) && readsOk P X tm (commitAll (openAt [] []) h) none [] rs) = true
          rw [h3]
          have h4 : readsAs P X tm (commitAll (openAt [] []) h) r = true := h2
          rw [h4]; simp
      have h2 := h1 rs hrs
      simp only
      rw [h2]
      rfl
    show ROk mask tm (.norm ((flushC mask e.n e.E).f vs tm) h) _
    rw [hend]
    exact ⟨loc, rfl, (flushC_eq mask hE.loc).symm⟩
  | om :: l, e, i, k, vs, loc, h, rs, hq, hE, hrs => by
    rw [compDraw_cons]
    have hq' : (quietOp P om.1 && (l.map (·.1)).all (quietOp P)) = true := by simpa using hq
    rw [Bool.and_eq_true] at hq'
    obtain ⟨hq1, hq2⟩ := hq'
    have hcls : clsOf P om.1.op = .pure ∨ clsOf P om.1.op = .read := by
      unfold quietOp at hq1
      split at hq1
      · rename_i hc; exact .inl hc
      · rename_i hc; exact .inr hc
      · cases hq1
    have hnx : nextRid P om.1.op (st + k) = st + nextK P om.1.op k := nextK_eq _ _ _
    show ROk mask tm (((cOps P X mask ops (om.1 :: l.map (·.1))).f e k).f call tm st vs h) _
    rw [cOps_cons]
    -- on behind an operation
    have on : ∀ v, (∀ rid, execA P X (evA X loc tm) h rid om.1.op = some (.val v h)) → ∀ (e' : Env) (k' : Nat) (vs' : Vs), EnvRel e' vs' tm (pushL om.1.dst v loc) → st + k' = nextRid P om.1.op (st + k) →
        ROk mask tm (((cOps P X mask ops (l.map (·.1))).f e' k').f call tm st vs' h) (match clsOf P om.1.op with
          | .pure =>
            match execA P X (evA X loc tm) h 0 om.1.op with
            | some (.val v _) => (compDraw P X call false ops l).f tm (Nat.succ i) (nextRid P om.1.op (st + k)) ⟨pushL om.1.dst v loc, [], h, .no, [], [], [], rs⟩
            | _ => none
          | .alloc =>
            match execA P X (evA X loc tm) h (st + k) om.1.op with
            | some (.val v h') =>
              match h'.get (st + k) with
              | some obj => (compDraw P X call false ops l).f tm (Nat.succ i) (nextRid P om.1.op (st + k)) ⟨pushL om.1.dst v loc, [], h, .no, [⟨i, st + k, obj⟩], [⟨i, st + k, obj⟩], [], rs⟩
              | none => none
            | _ => none
          | .read =>
            match execA P X (evA X loc tm) (commitAll [] h) 0 om.1.op with
            | some (.val v _) => (compDraw P X call false ops l).f tm (Nat.succ i) (nextRid P om.1.op (st + k)) ⟨pushL om.1.dst v loc, [], h, .no, [], [], [], ⟨i, om.2, om.1.op, loc, v⟩ :: rs⟩
            | _ => none
          | .eff =>
            match lastEff om.2 [] with
            | false => none
            | true =>
              match operA P X call false (evA X loc tm) [] (commit om.2 [] h) .no (st + k) om.1.op with
              | some (.ok v ds h2 um) => (compDraw P X call false ops l).f tm (Nat.succ i) (nextRid P om.1.op (st + k)) ⟨pushL om.1.dst v loc, ds, h2, um, keep om.2 [], [], [⟨i, om.2, h⟩], rs⟩
              | some (.pan v ds h2 um) =>
                match panOk P X ops tm i om.2 l (nextRid P om.1.op (st + k)) ⟨loc, [], h, .no, [], [], [], rs⟩ with
                | true => some (.pan v ds h2 um)
                | false => none
              | none => none) := by
      intro v hv e' k' vs' hE' hk'
      rw [← hk']
      rcases hcls with hc | hc
      · rw [hc]
        simp only [hv 0]
        exact quiet_ok l e' (i + 1) k' vs' _ h rs hq2 hE' hrs
      · rw [hc]
        have hv0 : execA P X (evA X loc tm) (commitAll [] h) 0 om.1.op = some (.val v h) := hv 0
        simp only [hv0]
        refine quiet_ok l e' (i + 1) k' vs' _ h _ hq2 hE' ?_
        intro r hr
        rcases List.mem_cons.1 hr with rfl | hr
        · unfold readsAs
          rw [hv 0]; exact beqV_refl v
        · exact hrs r hr
    cases ha : aliasOf X e om.1 with
    | some e' =>
      obtain ⟨hg, _, x, v, hop, hv, hE'⟩ := aliasOf_ok hE ha
      rw [wanted_none hg]
      have hv' : ∀ rid, execA P X (evA X loc tm) h rid om.1.op = some (.val v h) := by
        intro rid
        rcases hop with hop | hop <;> (rw [hop]; show v1 h (evA X loc tm x) = _; rw [hv]; rfl)
      exact on v hv' e' k vs hE' (by rcases hop with hop | hop <;> (rw [hop]; rfl))
    | none =>
      show ROk mask tm ((stepO P X ops om.1 e k ((cOps P X mask ops (l.map (·.1))).f (e.push om.1.dst) (nextK P om.1.op k))).f call tm st vs h) _
      have hrun := fun (old : Option RRes) hih => stepQ_ok (P := P) (X := X) (call := call) (mask := mask) (st := st) (k := k) (dst := om.1.dst) (ih := (cOps P X mask ops (l.map (·.1))).f (e.push om.1.dst) (nextK P om.1.op k)) (h := h) (kOp_ok hE hn om.1.op) hcls (fun n hx => quiet_val hcls hx) (old := old) hih
      have hskip : ROk mask tm ((skipK om.1.dst ((cOps P X mask ops (l.map (·.1))).f (e.push om.1.dst) (nextK P om.1.op k))).f call tm st vs h) ((compDraw P X call false ops l).f tm (Nat.succ i) (nextRid P om.1.op (st + k)) ⟨pushL om.1.dst undefA loc, [], h, .no, [], [], [], rs⟩) := by
        rw [hnx]
        exact skipK_ok (quiet_ok l _ (i + 1) _ _ _ h rs hq2 (hE.push om.1.dst undefA) hrs)
      unfold stepO
      split
      · rename_i hg
        rw [wanted_none hg]
        exact hrun _ (fun v hv => on v hv _ _ _ (hE.push om.1.dst v) hnx.symm)
      · rename_i j want hg
        split
        · rename_i d hd
          rcases guard_ok (β := Unit) hE hg hd (fun _ => True) ((stepK (kOp P X e om.1.op) om.1.dst k ((cOps P X mask ops (l.map (·.1))).f (e.push om.1.dst) (nextK P om.1.op k))).f call tm st vs h) ((skipK om.1.dst ((cOps P X mask ops (l.map (·.1))).f (e.push om.1.dst) (nextK P om.1.op k))).f call tm st vs h)
            (fun _ => True) (fun _ => True) (fun _ => True) with ⟨h1, h2⟩ | ⟨h1, h2⟩ | h2
          · show ROk mask tm (onBool _ _ _ _) _
            rw [h2, h1]; exact hrun _ (fun v hv => on v hv _ _ _ (hE.push om.1.dst v) hnx.symm)
          · show ROk mask tm (onBool _ _ _ _) _
            rw [h2, h1]; exact hskip
          · show ROk mask tm (onBool _ _ _ _) _
            rw [h2]; trivial
        · trivial

end
end Go.Eng
