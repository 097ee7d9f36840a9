/- The engine, part Y7: the compiled evaluator is the evaluator: code, functions, calls. -/
import Derived.Test.YtpnkohfmpdehaaaGreatDoorEngY6
set_option linter.unusedSimpArgs false
set_option linter.unusedSectionVars false
set_option linter.unusedVariables false
namespace Go.Eng

section
variable {P : Program} {X : Cx}

theorem cntOps_eq : ∀ (l : List Oper) (n k : Nat), ridsOf P l (n + k) = n + cntOps P l k
  | [], n, k => rfl
  | o :: l, n, k => by
    show ridsOf P l (nextRid P o.op (n + k)) = n + cntOps P l (nextK P o.op k)
    rw [nextK_eq, cntOps_eq l]

theorem planFrom_map : ∀ (l : List Oper) (i : Nat) (t : T Nat), (planFrom l i t).map (·.1) = l
  | [], _, _ => rfl
  | o :: l, i, t => by
    show o :: (planFrom l _ _).map (·.1) = _
    rw [planFrom_map l]

/-- Is a part of code left so by the evaluator? -/
def CROk : CR → Option (AExit × St) → Prop
  | .bad, _ => True
  | .norm tm h, old => old = some (.normal, ⟨tm, [], h, .no⟩)
  | .ret tm h, old => old = some (.ret, ⟨tm, [], h, .no⟩)
  | .exit id tm h, old => old = some (.exit id, ⟨tm, [], h, .no⟩)
  | .pan v h, old => ∃ tm, old = some (.pan v, ⟨tm, [], h, .no⟩)

theorem ROk.code {mask : Nat} {ops : Array Oper} {tm : T AVal} {r : CR} {old : Option RRes} (h : ROk mask tm r old) : CROk r (endRegion mask ops tm old) := by
  cases r with
  | bad => trivial
  | norm tm' h' => obtain ⟨loc, h1, h2⟩ := h; rw [h1]; show some (AExit.normal, _) = _; rw [h2]
  | ret _ _ => exact h.elim
  | exit _ _ _ => exact h.elim
  | pan v h' =>
    have h1 : old = some (.pan v [] h' .no) := h
    rw [h1]; exact ⟨_, rfl⟩

variable (hn : plainNames P = true)
include hn

theorem cRegion_ok {call : CallF} {mask : Nat} {ops : Array Oper} {draw : Bool} (tm : T AVal) (h : AHeap) : CROk ((cRegion P X mask ops draw).f call tm h) ((regionA P X call false mask ops draw).f ⟨tm, [], h, .no⟩) := by
  have hcnt : ridsOf P ops.toList h.next = h.next + cntOps P ops.toList 0 := cntOps_eq ops.toList h.next 0
  unfold cRegion
  cases draw with
  | false =>
    show CROk (((cOps P X mask ops ops.toList).f ⟨[], 0, 0⟩ 0).f call tm h.next .nil ⟨h.next + cntOps P ops.toList 0, h.tr⟩) (endRegion mask ops tm ((compOps P X call false ops ops.toList).f tm h.next .nil [] ⟨ridsOf P ops.toList h.next, h.tr⟩ .no))
    rw [hcnt]
    exact (cOps_ok hn ops.toList ⟨[], 0, 0⟩ 0 .nil .nil _ (.start tm)).code
  | true =>
    have hold : (regionA P X call false mask ops true).f ⟨tm, [], h, .no⟩ = endRegion mask ops tm ((compDraw P X call false ops (plan ops)).f tm 0 h.next ⟨.nil, [], ⟨ridsOf P ops.toList h.next, h.tr⟩, .no, [], [], [], []⟩) := rfl
    rw [hold, hcnt]
    cases hq : ops.toList.all (quietOp P) with
    | true =>
      show CROk (((cOps P X mask ops ops.toList).f ⟨[], 0, 0⟩ 0).f call tm h.next .nil ⟨h.next + cntOps P ops.toList 0, h.tr⟩) _
      have hmap : (plan ops).map (·.1) = ops.toList := planFrom_map _ _ _
      have := quiet_ok (P := P) (X := X) hn (call := call) (mask := mask) (ops := ops) (tm := tm) (st := h.next) (plan ops) ⟨[], 0, 0⟩ 0 0 .nil .nil ⟨h.next + cntOps P ops.toList 0, h.tr⟩ [] (by rw [hmap]; exact hq) (.start tm) (fun r hr => by cases hr)
      rw [hmap] at this
      exact this.code
    | false =>
      show CROk (((dOps P X mask ops (plan ops)).f ⟨[], 0, 0⟩ 0 0).f call tm h.next .nil ⟨h.next + cntOps P ops.toList 0, h.tr⟩ [] [] [] []) _
      exact (dOps_ok hn (plan ops) ⟨[], 0, 0⟩ 0 0 .nil .nil _ [] [] [] [] [] (.start tm) trivial).code

omit hn in
theorem iterF_ok {c : CF} {F : St → Option (AExit × St)} {call : CallF} (hc : ∀ tm h, CROk (c.f call tm h) (F ⟨tm, [], h, .no⟩)) : ∀ (k : Nat) (tm : T AVal) (h : AHeap), CROk ((iterF c k).f call tm h) (iterA F k ⟨tm, [], h, .no⟩)
  | 0, tm, h => hc tm h
  | k + 1, tm, h => by
    have ih := iterF_ok hc k
    show CROk (itK (iterF c k) call ((iterF c k).f call tm h)) (match iterA F k ⟨tm, [], h, .no⟩ with | some (.normal, s') => iterA F k s' | r => r)
    have h1 := ih tm h
    cases hr : (iterF c k).f call tm h with
    | bad => trivial
    | norm tm' h' => rw [hr] at h1; rw [show iterA F k ⟨tm, [], h, .no⟩ = _ from h1]; exact ih tm' h'
    | ret tm' h' => rw [hr] at h1; rw [show iterA F k ⟨tm, [], h, .no⟩ = _ from h1]; rfl
    | exit id tm' h' => rw [hr] at h1; rw [show iterA F k ⟨tm, [], h, .no⟩ = _ from h1]; rfl
    | pan v h' => rw [hr] at h1; obtain ⟨tm', h2⟩ := h1; rw [h2]; exact ⟨tm', rfl⟩

/-- Code. -/
theorem cCode_ok {call : CallF} {mask : Nat} {fn : FuncId} (c : Code) : ∀ (tm : T AVal) (h : AHeap), CROk ((cCode P X mask c).f call tm h) ((compC P X call none mask fn c).f ⟨tm, [], h, .no⟩) := by
  induction c with
  | skip => intro tm h; rfl
  | region id ops draw => intro tm h; exact cRegion_ok hn tm h
  | seq a b iha ihb =>
    intro tm h
    show CROk (seqK (cCode P X mask b) call ((cCode P X mask a).f call tm h)) (match (compC P X call none mask fn a).f ⟨tm, [], h, .no⟩ with | some (.normal, s') => (compC P X call none mask fn b).f s' | r => r)
    have h1 := iha tm h
    cases hr : (cCode P X mask a).f call tm h with
    | bad => trivial
    | norm tm' h' => rw [hr] at h1; rw [show (compC P X call none mask fn a).f ⟨tm, [], h, .no⟩ = _ from h1]; exact ihb tm' h'
    | ret tm' h' => rw [hr] at h1; rw [show (compC P X call none mask fn a).f ⟨tm, [], h, .no⟩ = _ from h1]; rfl
    | exit id tm' h' => rw [hr] at h1; rw [show (compC P X call none mask fn a).f ⟨tm, [], h, .no⟩ = _ from h1]; rfl
    | pan v h' => rw [hr] at h1; obtain ⟨tm', h2⟩ := h1; rw [h2]; exact ⟨tm', rfl⟩
  | cond g a b iha ihb =>
    intro tm h
    show CROk ((match accOf X ⟨[], 0, 0⟩ g with | some x => (⟨fun call tm h => onBool (condK (cCode P X mask a) (cCode P X mask b) call tm h) badL .bad (x.f .nil tm)⟩ : CF) | none => badC).f call tm h)
      (match evA X .nil tm g with | some (.bool true) => (compC P X call none mask fn a).f ⟨tm, [], h, .no⟩ | some (.bool false) => (compC P X call none mask fn b).f ⟨tm, [], h, .no⟩ | _ => none)
    cases hx : accOf X ⟨[], 0, 0⟩ g with
    | none => trivial
    | some x =>
      rw [(EnvRel.start tm).acc hx]
      show CROk (onBool (condK (cCode P X mask a) (cCode P X mask b) call tm h) badL .bad (x.f .nil tm)) _
      rw [onBool_eq]
      cases x.f .nil tm <;> try trivial
      rename_i t
      cases t with
      | true => exact iha tm h
      | false => exact ihb tm h
  | block id c ih =>
    intro tm h
    show CROk (blockK id ((cCode P X mask c).f call tm h)) (blockA id ((compC P X call none mask fn c).f ⟨tm, [], h, .no⟩))
    have h1 := ih tm h
    cases hr : (cCode P X mask c).f call tm h with
    | bad => trivial
    | norm tm' h' => rw [hr] at h1; rw [show (compC P X call none mask fn c).f ⟨tm, [], h, .no⟩ = _ from h1]; rfl
    | ret tm' h' => rw [hr] at h1; rw [show (compC P X call none mask fn c).f ⟨tm, [], h, .no⟩ = _ from h1]; rfl
    | exit id' tm' h' =>
      rw [hr] at h1; rw [show (compC P X call none mask fn c).f ⟨tm, [], h, .no⟩ = _ from h1]
      show CROk (bB (.exit id' tm' h') (.norm tm' h') (Nat.beq id' id)) (match Nat.beq id' id with | true => some (.normal, ⟨tm', [], h', .no⟩) | false => some (.exit id', ⟨tm', [], h', .no⟩))
      cases Nat.beq id' id <;> rfl
    | pan v h' => rw [hr] at h1; obtain ⟨tm', h2⟩ := h1; rw [h2]; exact ⟨tm', rfl⟩
  | loop c ih =>
    intro tm h
    show CROk (endLoopK ((iterF (cCode P X mask c) 20).f call tm h)) (loopA (iterA (compC P X call none mask fn c).f 20 ⟨tm, [], h, .no⟩))
    have h1 := iterF_ok (F := (compC P X call none mask fn c).f) (call := call) ih 20 tm h
    cases hr : (iterF (cCode P X mask c) 20).f call tm h with
    | bad => trivial
    | norm tm' h' => trivial
    | ret tm' h' => rw [hr] at h1; rw [show iterA (compC P X call none mask fn c).f 20 ⟨tm, [], h, .no⟩ = _ from h1]; rfl
    | exit id tm' h' => rw [hr] at h1; rw [show iterA (compC P X call none mask fn c).f 20 ⟨tm, [], h, .no⟩ = _ from h1]; rfl
    | pan v h' => rw [hr] at h1; obtain ⟨tm', h2⟩ := h1; rw [h2]; exact ⟨tm', rfl⟩
  | rangeFunc g ps a b iha ihb => intro tm h; trivial
  | exit id => intro tm h; rfl
  | scope c ih => intro tm h; exact ih tm h
  | label l => intro tm h; rfl
  | goto l => intro tm h; trivial
  | ret => intro tm h; rfl
  | refuse why => intro tm h; trivial

/-! ### Masks -/
omit hn
theorem callL_eq (c : Call) : callL c = c.operands.toList := by
  unfold callL Call.operands
  cases c.callee <;> simp

theorem opL_eq (op : Op) : opL op = op.operands.toList := by
  cases op <;> first | rfl | exact callL_eq _

def bitsOf (w : List Nat) (W : Nat) : Prop := ∀ t, w.contains t = bitOf W t

theorem bitsOf.cons {w : List Nat} {W : Nat} (h : bitsOf w W) (d : Nat) : bitsOf (d :: w) (Nat.lor W (Nat.pow 2 d)) := by
  intro t
  rw [bitOf_lor, bitOf_pow, ← h t, List.contains_cons]
  by_cases hd : d = t
  · subst hd; simp
  · have : (t == d) = false := by simp; exact fun e => hd e.symm
    simp [this, hd]

theorem rdK_eq {w : List Nat} {W : Nat} (h : bitsOf w W) (x : Operand) (l : List Operand) (m : Nat) : readsOf (x :: l) w m = readsOf l w (rdK x W m) := by
  cases x with
  | tmp t =>
    show (if w.contains t then readsOf l w m else readsOf l w (Nat.lor m (Nat.pow 2 t))) = readsOf l w (bB (Nat.lor m (Nat.pow 2 t)) m (bitOf W t))
    rw [h t]
    cases bitOf W t <;> rfl
  | _ => rfl

theorem readsK_eq {w : List Nat} {W : Nat} (h : bitsOf w W) : ∀ (l : List Operand) (m : Nat), readsOf l w m = readsK l W m
  | [], m => rfl
  | x :: l, m => by
    rw [rdK_eq h, readsK_eq h l]; rfl

theorem maskOpsK_eq : ∀ (l : List Oper) (w : List Nat) (W m : Nat), bitsOf w W → maskOps l w m = maskOpsK l W m
  | [], _, _, _, _ => rfl
  | o :: l, w, W, m, h => by
    show maskOps l (match o.dst with | some d => d :: w | none => w) (readsOf o.op.operands.toList w m) = maskOpsK l (dstK o.dst W) (readsK (opL o.op) W m)
    rw [readsK_eq h, opL_eq]
    cases o.dst with
    | none => exact maskOpsK_eq l w W _ h
    | some d => exact maskOpsK_eq l (d :: w) _ _ (h.cons d)

theorem bitsOf_nil : bitsOf [] 0 := fun t => by rw [bitOf_zero]; rfl

theorem maskK_eq (c : Code) : ∀ m, maskOf c m = maskK c m := by
  induction c with
  | region id ops draw => intro m; exact maskOpsK_eq ops.toList [] 0 m bitsOf_nil
  | seq a b iha ihb => intro m; show maskOf b (maskOf a m) = maskK b (maskK a m); rw [iha, ihb]
  | cond g a b iha ihb =>
    intro m
    show maskOf b (maskOf a (readsOf [g] [] m)) = maskK b (maskK a (rdK g 0 m))
    rw [rdK_eq bitsOf_nil, iha, ihb]; rfl
  | block id c ih => intro m; exact ih m
  | loop c ih => intro m; exact ih m
  | scope c ih => intro m; exact ih m
  | rangeFunc g ps a b iha ihb =>
    intro m
    show maskOf b (maskOf a (readsOf [g] [] m)) = maskK b (maskK a (rdK g 0 m))
    rw [rdK_eq bitsOf_nil, iha, ihb]; rfl
  | _ => intro m; rfl

theorem maskFK_eq (fn : Func) (c : Code) : maskFK fn c = maskF fn c := by
  unfold maskFK maskF; rw [maskK_eq]

/-! ### Functions -/
theorem parF_eq (m : Nat) : ∀ (l : List AVal) (i : Nat) (tm : T AVal), parF m l i tm = paramsA l i m tm
  | [], _, _ => rfl
  | v :: l, i, tm => by
    show bB (parF m l (i + 1) tm) (parF m l (i + 1) (setV v tm i)) (bitOf m i) = (match bitOf m i with | true => paramsA l (i + 1) m (T.set v tm i) | false => paramsA l (i + 1) m tm)
    rw [setV_eq, parF_eq m l, parF_eq m l]
    cases bitOf m i <;> rfl

theorem resC_ok (h : AHeap) (tm : T AVal) : ∀ (l : List ResultVar) (vs : List AVal), (resC P l).f h tm = some vs → resultsA P h tm l = some vs
  | [], vs, hx => hx
  | .cell a t :: l, vs, hx => hx
  | .tmp t :: l, vs, hx => by
    have hx' : bO none (resTmp (resC P l) h tm) ((pgT t).f tm) = some vs := hx
    rw [pgT_eq, bO_some] at hx'
    split at hx'
    rotate_left
    · cases hx'
    rename_i v hv
    unfold resTmp at hx'
    rw [bO_some] at hx'
    split at hx'
    rotate_left
    · cases hx'
    rename_i r hr
    cases hx'
    have ih := resC_ok h tm l r hr
    show (match tm.get t, resultsA P h tm l with | some v, some r => some (v :: r) | _, _ => none) = _
    rw [hv, ih]

include hn

theorem cFn_ok {call : CallF} {f : FuncId} {args : List AVal} {h : AHeap} {r : AEnd × AHeap} (hx : (cFn P X f).f call args h = some r) : (compF P X call f).f args h = some r := by
  unfold cFn at hx
  rw [bodyK_eq hn] at hx
  unfold compF
  cases hb : bodyOf P f with
  | none => rw [hb] at hx; cases hx
  | some fc =>
    obtain ⟨fn, c⟩ := fc
    rw [hb] at hx
    have hx' : bB none (endK (resC P fn.results.toList) ((cCode P X (maskFK fn c) c).f call (parF (maskFK fn c) args 0 .leaf) h)) (fits args fn.ntmps) = some r := hx
    rw [maskFK_eq, parF_eq, bB_eq] at hx'
    show (match fits args fn.ntmps with | true => endBody P X call fn (execC P X call none (maskF fn c) f c ⟨paramsA args 0 (maskF fn c) .leaf, [], h, .no⟩) | false => none) = some r
    split at hx'
    rotate_left
    · cases hx'
    rename_i hf
    rw [hf]
    have hc := cCode_ok (P := P) (X := X) hn (call := call) (mask := maskF fn c) (fn := f) c (paramsA args 0 (maskF fn c) .leaf) h
    simp only
    have hdone : ∀ tm' h', doneK (resC P fn.results.toList) tm' h' = some r → Eng.unwind P call (callD P X call) fn tm' [] .ret h' = some r := by
      intro tm' h' hd
      unfold doneK at hd
      rw [bO_some] at hd
      split at hd
      rotate_left
      · cases hd
      rename_i l hl
      have := resC_ok h' tm' _ l hl
      unfold Eng.unwind
      rw [this]; exact hd
    cases hr : (cCode P X (maskF fn c) c).f call (paramsA args 0 (maskF fn c) .leaf) h with
    | bad => rw [hr] at hx'; cases hx'
    | norm tm' h' =>
      rw [hr] at hx' hc
      unfold execC
      rw [show (compC P X call none (maskF fn c) f c).f ⟨paramsA args 0 (maskF fn c) .leaf, [], h, .no⟩ = _ from hc]
      exact hdone tm' h' hx'
    | ret tm' h' =>
      rw [hr] at hx' hc
      unfold execC
      rw [show (compC P X call none (maskF fn c) f c).f ⟨paramsA args 0 (maskF fn c) .leaf, [], h, .no⟩ = _ from hc]
      exact hdone tm' h' hx'
    | exit id tm' h' => rw [hr] at hx'; cases hx'
    | pan v h' =>
      rw [hr] at hx' hc
      obtain ⟨tm', hc⟩ := hc
      unfold execC
      rw [hc]
      have hx2 : some (AEnd.pan v, h') = some r := hx'
      exact hx2

variable {env : Nat → Value} (he : EnvOk env) (hF : ∀ f ∈ X.facts, FactOk P env f) (hmix : P.follows .mixedOrders = true) (hp : progOk P = true)
include he hF hmix hp

/-- The compiled evaluator's calls. -/
theorem callF_ok {ext : CallF} (hext : CallOk P env (okcP P) X.nglob ext) : ∀ n, CallOk P env (okcP P) X.nglob (callF P X ext n)
  | 0 => hext
  | n + 1 => by
    have ih := callF_ok hext n
    refine ⟨?_, ?_⟩
    · intro ρ h w hr hg f args e h' hx hb args' ha cs
      have hx' : bO (bO ((compF P X (callF P X ext n) f).f args h) some ((cFn P X f).f (callF P X ext n) args h)) some (ext (.fn f) args h) = some (e, h') := hx
      rw [bO_some] at hx'
      split at hx'
      · rename_i r hr'
        cases hx'
        exact hext.fn ρ h w hr hg f args e h' hr' hb args' ha cs
      · rw [bO_some] at hx'
        have hc : (compF P X (callF P X ext n) f).f args h = some (e, h') := by
          split at hx'
          · rename_i r hr'
            cases hx'
            exact cFn_ok hn hr'
          · exact hx'
        exact compF_sound he hF hmix hp ih hr hg hc ha cs
    · intro ρ h w hr hg b i args e h' hx hi args' ha
      have hx' : roundA P X (callF P X ext n) b args h = some (e, h') := hx
      exact round_sound he hF hmix hp ih hr hg hi ha hx'

end
end Go.Eng
