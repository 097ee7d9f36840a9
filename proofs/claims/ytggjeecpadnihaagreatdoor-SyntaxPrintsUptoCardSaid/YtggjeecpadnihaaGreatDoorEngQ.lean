/- The engine, part Q: code. -/
import Derived.Test.YtggjeecpadnihaaGreatDoorEngP9
import Derived.RangeFuncIn
set_option linter.unusedVariables false
set_option linter.unusedSimpArgs false
set_option linter.unusedSectionVars false
namespace Go.Eng

/-! ### What is asked of code -/
noncomputable def codeOk (n : Nat) : Code → Bool
  | .region _ ops true => drawOk n ops
  | .region _ ops false => dstsOk n ops.toList
  | .seq a b => codeOk n a && codeOk n b
  | .cond _ a b => codeOk n a && codeOk n b
  | .block _ c => codeOk n c
  | .loop c => codeOk n c
  | .scope c => codeOk n c
  | .rangeFunc _ _ a b => codeOk n a && codeOk n b
  | _ => true

noncomputable def okcP (P : Program) (f : FuncId) (c : Code) : Bool :=
  match bodyOf P f with
  | some (fn, _) => codeOk fn.ntmps c
  | none => false

/-- Is all the program's code such? -/
noncomputable def progOk (P : Program) : Bool := P.funcs.toList.all fun fn => match fn.body with | some c => codeOk fn.ntmps c | none => true

def RdOk (ρ : Rho) (b : Frame) : Option Nat → Prop
  | none => b.roundOf = none
  | some l => ∃ i, ρ l = some i ∧ b.roundOf = some i.blk

/-- Where a part of code leads. -/
def Arr (P : Program) (env : Nat → Value) (b : Frame) (cfn : FrameMode → List Frame) (k : List Item) (M : Machine) (ρ : Rho) (a : Act) (m : FrameMode) (w : World) : AExit → Prop
  | .normal => Steps P M (lone (b.atR a k) (cfn m) w)
  | .exit id => ∃ k1, exitTo id k1 = exitTo id k ∧ Steps P M (lone (b.atR a (.code (.exit id) :: k1)) (cfn m) w)
  | .ret => ∃ k1, Steps P M (lone (b.atR a (.code .ret :: k1)) (cfn m) w)
  | .pan v => ∃ todo x, VRel ρ env v x ∧ Steps P M (lone { b.atR a todo with mode := .panicking [{ v := x, recovered := false }] } (cfn m) w)

section
variable {P : Program} {env : Nat → Value} {okc : FuncId → Code → Bool} {ρ ρ' : Rho} {h : AHeap} {w w' : World} {X : Cx}

structure CSt (P : Program) (env : Nat → Value) (okc : FuncId → Code → Bool) (n mask : Nat) (ρ : Rho) (s : St) (a : Act) (m : FrameMode) (w : World) : Prop where
  tms : TmRel env ρ mask s.tm a.tmps
  size : a.tmps.size = n
  defs : DefsRel env ρ s.ds a.defers
  heap : HRel P env okc ρ s.h w
  mode : ModeRel env ρ s.um m

theorem RdOk.mono (hs : ρ.sub ρ') {b : Frame} {rd : Option Nat} (h : RdOk ρ b rd) : RdOk ρ' b rd := by
  cases rd with
  | none => exact h
  | some l => obtain ⟨i, h1, h2⟩ := h; exact ⟨i, hs _ _ h1, h2⟩

theorem TmRel.slots {mask : Nat} {tm : T AVal} {a : Act} (h : TmRel env ρ mask tm a.tmps) (t : Nat) (v : AVal) (hl : lookL .nil t tm = some v) : ∃ x, a.tmps[t]? = some x ∧ VRel ρ env v x := (h t v hl).2

theorem stepR_scope {b : Frame} {a : Act} {k : List Item} {cs : List Frame} {c : Code} :
    step P (lone (b.atR a (.code (.scope c) :: k)) cs w) = .next (lone (b.atR a (.code c :: .inScope c :: k)) cs w) :=
  step_lone_go (by simp [stepG, stepG.exec, Frame.atR])
theorem stepR_inScope {b : Frame} {a : Act} {k : List Item} {cs : List Frame} {c : Code} :
    step P (lone (b.atR a (.inScope c :: k)) cs w) = .next (lone (b.atR a k) cs w) :=
  step_lone_go (by simp [stepG, stepG.exec, Frame.atR])

/-- On behind an item that no exit stops at. -/
theorem Arr.pass {b : Frame} {cfn : FrameMode → List Frame} {k : List Item} {M : Machine} {a : Act} {m : FrameMode} {x : AExit} {it : Item} (hn : x ≠ .normal) (hx : ∀ id, exitTo id (it :: k) = exitTo id k)
    (h : Arr P env b cfn (it :: k) M ρ a m w x) : Arr P env b cfn k M ρ a m w x := by
  cases x with
  | normal => exact absurd rfl hn
  | exit id => obtain ⟨k1, h1, h2⟩ := h; exact ⟨k1, h1.trans (hx id), h2⟩
  | ret => exact h
  | pan v => exact h

theorem Arr.steps {b : Frame} {cfn : FrameMode → List Frame} {k : List Item} {M M' : Machine} {a : Act} {m : FrameMode} {x : AExit} (hs : Steps P M M') (h : Arr P env b cfn k M' ρ a m w x) : Arr P env b cfn k M ρ a m w x := by
  cases x with
  | normal => exact Steps.trans hs h
  | exit id => obtain ⟨k1, h1, h2⟩ := h; exact ⟨k1, h1, Steps.trans hs h2⟩
  | ret => obtain ⟨k1, h2⟩ := h; exact ⟨k1, Steps.trans hs h2⟩
  | pan v => obtain ⟨todo, x, h1, h2⟩ := h; exact ⟨todo, x, h1, Steps.trans hs h2⟩

/-- What a part of code does in a frame. -/
def CodeSound (P : Program) (env : Nat → Value) (okc : FuncId → Code → Bool) (X : Cx) (n mask : Nat) (rd : Option Nat) (b : Frame) (cfn : FrameMode → List Frame) (F : CodeF) (st : List Item → List Item) : Prop :=
  ∀ (k : List Item) (s : St) (x : AExit) (s' : St) (ρ : Rho) (a : Act) (m : FrameMode) (w : World), F.f s = some (x, s') → CSt P env okc n mask ρ s a m w → GlobOk ρ X.nglob → CsOk b cfn s.um → RdOk ρ b rd →
    ∃ ρ' a' m' w', Arr P env b cfn k (lone (b.atR a (st k)) (cfn m) w) ρ' a' m' w' x ∧ CSt P env okc n mask ρ' s' a' m' w' ∧ Go' P env okc (fun y => s.h.next ≤ y) ρ s.h w ρ' s'.h w' ∧ CsOk b cfn s'.um

variable (he : EnvOk env) (hF : ∀ f ∈ X.facts, FactOk P env f)

/-- A region's end. -/
theorem end_region {n mask : Nat} {ops : Array Oper} (hops : dstsOk n ops.toList = true) {b : Frame} {cfn : FrameMode → List Frame} {k : List Item} {s s' : St} {x : AExit} {r : Option RRes} {a : Act} {m : FrameMode} {R : Nat} {M : Machine}
    (hx : endRegion mask ops s.tm r = some (x, s')) (hst : CSt P env okc n mask ρ s a m w) (hR : s.h.next ≤ R)
    (hr : ∀ r', r = some r' → RegOk P env okc n s.tm (fun y => s.h.next ≤ y) ρ ⟨R, s.h.tr⟩ b cfn a w ops k M r') :
    ∃ ρ' a' m' w', Arr P env b cfn k M ρ' a' m' w' x ∧ CSt P env okc n mask ρ' s' a' m' w' ∧ Go' P env okc (fun y => s.h.next ≤ y) ρ s.h w ρ' s'.h w' ∧ CsOk b cfn s'.um := by
  unfold endRegion at hx
  split at hx
  · rename_i loc ds h' um
    cases hx
    obtain ⟨ρ', a', m', w', q1, q2, q3, q4⟩ := hr _ rfl
    refine ⟨ρ', a', m', w', q1, ⟨?_, q2.size, q2.defs, q2.heap, q2.mode⟩, (Go'.bump hst.heap hR).trans q3, q4⟩
    intro t v hg
    rw [flush_get] at hg
    split at hg
    · rename_i hb
      exact ⟨hb, q2.slots t v hg⟩
    · rename_i hb
      have := (hst.tms t v hg).1
      exact absurd this hb
  · rename_i v ds h' um
    cases hx
    obtain ⟨ρ', y, a', m', w', todo, q1, q2, q3, q4, q5, q6, q7, q8⟩ := hr _ rfl
    refine ⟨ρ', a', m', w', ⟨todo, y, q2, q1⟩, ⟨?_, q4, q5, q7.rel, q6⟩, (Go'.bump hst.heap hR).trans q7, q8⟩
    intro t v' hg
    rcases poison_get mask s.tm t v' ops.toList hg with ⟨rfl, h2, o, h3, h4⟩ | ⟨h1, h2⟩
    · have hlt := dstsOk_mem hops o h3 t h4
      rw [← q4] at hlt
      exact ⟨h2, a'.tmps[t], Array.getElem?_eq_getElem hlt, .any _⟩
    · obtain ⟨g1, z, g2, g3⟩ := hst.tms t v' h1
      refine ⟨g1, z, ?_, g3.mono ((Go'.bump (N := fun y => s.h.next ≤ y) hst.heap hR).trans q7).sub⟩
      rw [q3 t (fun o ho hd => by have := h2 o ho hd; rw [g1] at this; cases this)]; exact g2
  · cases hx

include he hF

/-- A region. -/
theorem region_sound {call : CallF} (hc : CallOk P env okc X.nglob call) (hmix : P.follows .mixedOrders = true) {n mask : Nat} {rd : Option Nat} {b : Frame} {cfn : FrameMode → List Frame} {id : Nat} {ops : Array Oper} {draw : Bool}
    (hok : codeOk n (.region id ops draw) = true) : CodeSound P env okc X n mask rd b cfn (regionA P X call rd.isSome mask ops draw) (fun k => .code (.region id ops draw) :: k) := by
  intro k s x s' ρ a m w hx hst hg hcs hrd
  have hrd' : rd.isSome = false → b.roundOf = none := fun h => by
    cases rd with
    | none => exact hrd
    | some l => cases h
  have hle := ridsOf_le (P := P) ops.toList s.h.next
  have hb := Go'.bump (N := fun y => s.h.next ≤ y) hst.heap hle
  cases draw with
  | false =>
    have hops : dstsOk n ops.toList = true := hok
    have hx' : endRegion mask ops s.tm (runOps P X call rd.isSome ops s.tm ops.toList s.h.next .nil s.ds ⟨ridsOf P ops.toList s.h.next, s.h.tr⟩ s.um) = some (x, s') := hx
    refine end_region (M := lone (b.atR a (.code (.region id ops false) :: k)) (cfn m) w) hops hx' hst hle (fun r' hr' => ?_)
    have := ops_sound he hF hc (rd := rd.isSome) (b := b) (cfn := cfn) hrd' (n := n) hops (tm := s.tm) (k := k) (start := s.h.next) (R := ridsOf P ops.toList s.h.next) ops.toList 0 (by simp) s.h.next .nil s.ds
      ⟨ridsOf P ops.toList s.h.next, s.h.tr⟩ s.um r' ρ a m w hr' ⟨fun t v hl => hst.tms.slots t v hl, hst.size, hst.defs, hb.rel, hst.mode⟩ hg hcs (Nat.le_refl _) rfl (Nat.le_refl _)
      (fun y hy _ => hst.heap.next y hy)
    have hstep := stepR_region (P := P) (b := b) (a := a) (k := k) (cs := cfn m) (w := w) (ops := ops) (id := id)
    have hrange : List.range' 0 ops.toList.length = List.range ops.size := by rw [List.range_eq_range']; simp
    rw [hrange] at this
    cases r' with
    | ok loc ds h2 um2 => obtain ⟨ρ2, a2, m2, w2, p1, p2, p3, p4⟩ := this; exact ⟨ρ2, a2, m2, w2, .head hstep p1, p2, p3, p4⟩
    | pan v ds h2 um2 => obtain ⟨ρ2, x2, a2, m2, w2, todo, p1, p2⟩ := this; exact ⟨ρ2, x2, a2, m2, w2, todo, .head hstep p1, p2⟩
  | true =>
    have hd : drawOk n ops = true := hok
    have hops : dstsOk n ops.toList = true := by
      unfold drawOk at hd; rw [Bool.and_eq_true] at hd; exact hd.1
    have hx' : endRegion mask ops s.tm (runDraw P X call rd.isSome ops s.tm (plan ops) 0 s.h.next ⟨.nil, s.ds, ⟨ridsOf P ops.toList s.h.next, s.h.tr⟩, s.um, [], [], [], []⟩) = some (x, s') := hx
    refine end_region (M := lone (b.atR a (.code (.region id ops true) :: k)) (cfn m) w) hops hx' hst hle (fun r' hr' => ?_)
    have hstep := stepR_region_draw (P := P) (b := b) (a := a) (k := k) (cs := cfn m) (w := w) (ops := ops) (id := id)
    have hsch : ∀ t, Region.schedule (P.follows .mixedOrders) ops t = Region.linearise .any ops t := fun t => by simp [Region.schedule, hmix]
    rw [hsch] at hstep
    have hdr : Go' P env okc (fun y => s.h.next ≤ y) ρ ⟨ridsOf P ops.toList s.h.next, s.h.tr⟩ w ρ ⟨ridsOf P ops.toList s.h.next, s.h.tr⟩ { w with drawn := w.drawn + 1 } := Go'.drew hb.rel
    have := draw_sound he hF hc hrd' hd (k := k) hr' ⟨fun t v hl => hst.tms.slots t v hl, hst.size, hst.defs, hdr.rel, hst.mode⟩ hg hcs rfl (fun y hy => hst.heap.next y hy) (fun y hy => hst.heap.clean y hy)
      (w.tape w.drawn (.order b.fn id))
    cases r' with
    | ok loc ds h2 um2 => obtain ⟨ρ2, a2, m2, w2, p1, p2, p3, p4⟩ := this; exact ⟨ρ2, a2, m2, w2, .head hstep p1, p2, hdr.trans p3, p4⟩
    | pan v ds h2 um2 =>
      obtain ⟨ρ2, x2, a2, m2, w2, todo, p1, p2, p3, p4, p5, p6, p7, p8⟩ := this
      exact ⟨ρ2, x2, a2, m2, w2, todo, .head hstep p1, p2, p3, p4, p5, p6, hdr.trans p7, p8⟩

end
end Go.Eng
