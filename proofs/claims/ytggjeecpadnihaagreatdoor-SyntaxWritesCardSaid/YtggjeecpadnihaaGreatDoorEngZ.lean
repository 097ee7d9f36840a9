/- The engine, part Z: a call whose closed run is known, inside another run: over the blocks that it asks for, whatever else the heap holds. -/
import Derived.Test.YtggjeecpadnihaaGreatDoorEngW
set_option linter.unusedSimpArgs false
set_option linter.unusedSectionVars false
set_option linter.unusedVariables false
noncomputable section
namespace Go.Eng
open Go.RowKit

/-- A block of which no more is known. -/
def weaker : AObj → AObj → Prop
  | .row e n op ro cs, x => ∃ cs', x = .row e n op ro cs' ∧ ∀ j v, cs.get j = some v → cs'.get j = some v
  | o, x => x = o

theorem weaker.dead {o x : AObj} (h : weaker o x) : o.isDead = x.isDead := by
  cases o with
  | row => obtain ⟨cs', rfl, _⟩ := h; rfl
  | _ => cases h; rfl
theorem weaker.ro {o x : AObj} (h : weaker o x) : o.isRo = x.isRo := by
  cases o with
  | row => obtain ⟨cs', rfl, _⟩ := h; rfl
  | _ => cases h; rfl

section
variable {P : Program} {env : Nat → Value} {okc : FuncId → Code → Bool} {ρ ρ' : Rho} {h h0 h1 h2 : AHeap} {w w' : World} {hv : Value}

theorem weaker.rel {i : BI} {o x : AObj} {ob : Obj} (h : weaker o x) (hr : ObjRel P env okc ρ i x ob) : ObjRel P env okc ρ i o ob := by
  cases o with
  | row e n op ro cs =>
    obtain ⟨cs', rfl, h⟩ := h
    obtain ⟨c, frz, a1, a2, a3, a4, a5⟩ := hr
    exact ⟨c, frz, a1, a2, a3, fun j v hv => a4 j v (h j v hv), a5⟩
  | _ => cases h; exact hr

theorem live_of {a b : Option AObj} (h : ∀ o, a = some o → ∃ o', b = some o' ∧ weaker o o') (hl : liveW a) : liveW b := by
  cases a with
  | none => exact hl.elim
  | some o => obtain ⟨o', rfl, hw⟩ := h o rfl; exact ⟨hw.dead ▸ hl.1, hw.ro ▸ hl.2⟩

theorem known_of {a b : Option AObj} (h : ∀ o, a = some o → ∃ o', b = some o' ∧ weaker o o') (hl : ∃ o, a = some o ∧ o.isDead = false) : ∃ o, b = some o ∧ o.isDead = false := by
  obtain ⟨o, rfl, hd⟩ := hl
  obtain ⟨o', rfl, hw⟩ := h o rfl
  exact ⟨o', rfl, hw.dead ▸ hd⟩

/-- A heap of which less is known. -/
theorem HRel.weak (hr : HRel P env okc ρ h w) (hn : h0.next = h.next) (hs : ∀ b o, h0.get b = some o → ∃ o', h.get b = some o' ∧ weaker o o') : HRel P env okc ρ h0 w := by
  refine ⟨?_, hr.bound, ?_, fun b hb => hr.next b (hn ▸ hb), ?_⟩
  · intro b o i hb hd hi
    obtain ⟨o', h1, h2⟩ := hs b o hb
    obtain ⟨ob, h3, h4⟩ := hr.obj b o' i h1 (h2.dead ▸ hd) hi
    exact ⟨ob, h3, h2.rel h4⟩
  · intro b b' i i' hne hi hi' hl hd
    exact hr.inj b b' i i' hne hi hi' (live_of (hs b) hl) (known_of (hs b') hd)
  · intro b hb
    cases hx : h0.get b with
    | none => rfl
    | some o =>
      obtain ⟨o', h1, _⟩ := hs b o hx
      rw [hr.clean b (hn ▸ hb)] at h1; cases h1

/-- Whatever else the heap holds is as it was. -/
theorem Go'.around (hr : HRel P env okc ρ h w) (run : Go' P env okc (fun b => h0.next ≤ b) ρ h0 w ρ' h1 w') (hn : h0.next = h.next) (hn2 : h2.next = h1.next)
    (hs : ∀ b o, h0.get b = some o → ∃ o', h.get b = some o' ∧ weaker o o')
    (K : ∀ b, h2.get b = none ∨ (∃ o o1, h2.get b = some o ∧ h1.get b = some o1 ∧ weaker o o1) ∨ ((h0.get b = none ∨ ¬ liveW (h.get b)) ∧ b < h.next ∧ h2.get b = h.get b)) :
    Go' P env okc (fun b => h.next ≤ b) ρ h w ρ' h2 w' := by
  -- a block that is not asked for lies where nothing that is asked for may be written
  have funt : ∀ b i, (h0.get b = none ∨ ¬ liveW (h.get b)) → ρ b = some i → (∃ o, h.get b = some o ∧ o.isDead = false) → Unt ρ h0 i.blk := by
    intro b i hb hi hd b2 i2 hi2 he hl
    have hne : b2 ≠ b := fun e => by
      subst e
      rcases hb with hb | hb
      · rw [hb] at hl; exact hl
      · exact hb (live_of (hs b2) hl)
    exact hr.inj b2 b i2 i hne hi2 hi (live_of (hs b2) hl) hd he
  have funtp : ∀ b i, h0.get b = none → ρ b = some i → liveW (h.get b) → UntP ρ h0 i.blk := by
    intro b i hb hi hl b2 i2 hi2 he hd
    have hne : b ≠ b2 := fun e => by subst e; obtain ⟨o, h1, _⟩ := hd; rw [hb] at h1; cases h1
    exact hr.inj b b2 i i2 hne hi hi2 hl (known_of (hs b2) hd) he.symm
  have hold : ∀ b i, b < h.next → ρ' b = some i → ρ b = some i := by
    intro b i hb hi
    rw [← run.new b (by simp only [hn]; omega)]; exact hi
  have hlk : ∀ {o : Option AObj}, liveW o → ∃ x, o = some x ∧ x.isDead = false := by
    intro o hl
    cases o with
    | none => exact hl.elim
    | some x => exact ⟨x, rfl, hl.1⟩
  have up : ∀ b o o1, h2.get b = some o → h1.get b = some o1 → weaker o o1 → ∀ o', h2.get b = some o' → ∃ o'', h1.get b = some o'' ∧ weaker o' o'' := by
    intro b o o1 e1 e2 e3 o' e4
    rw [e1] at e4; cases e4; exact ⟨o1, e2, e3⟩
  refine ⟨run.sub, fun b hb => run.new b (by simp only [hn]; exact hb), ⟨?_, run.rel.bound, ?_, ?_, ?_⟩, ?_, run.size, run.os, run.tape, run.output, ?_, ?_, ?_⟩
  · -- objects
    intro b o i hb hd hi
    rcases K b with k | ⟨o', o1, k1, k2, k3⟩ | ⟨k1, k2, k3⟩
    · rw [k] at hb; cases hb
    · rw [k1] at hb; cases hb
      obtain ⟨ob, q1, q2⟩ := run.rel.obj b o1 i k2 (k3.dead ▸ hd) hi
      exact ⟨ob, q1, k3.rel q2⟩
    · rw [k3] at hb
      have hi0 := hold b i k2 hi
      obtain ⟨ob, q1, q2⟩ := hr.obj b o i hb hd hi0
      have hw := (run.unt i.blk (hr.bound b i hi0) (funt b i k1 hi0 ⟨o, hb, hd⟩)).1
      exact ⟨ob, by rw [hw]; exact q1, q2.mono run.sub⟩
  · -- apart
    intro b b' i i' hne hi hi' hl hd
    rcases K b with k | ⟨o, o1, k1, k2, k3⟩ | ⟨k1, k2, k3⟩
    · rw [k] at hl; exact hl.elim
    · have hl1 : liveW (h1.get b) := live_of (up b o o1 k1 k2 k3) hl
      rcases K b' with m | ⟨o', o1', m1, m2, m3⟩ | ⟨m1, m2, m3⟩
      · obtain ⟨x, hx, _⟩ := hd; rw [m] at hx; cases hx
      · exact run.rel.inj b b' i i' hne hi hi' hl1 (known_of (up b' o' o1' m1 m2 m3) hd)
      · rw [m3] at hd
        have hi0 := hold b' i' m2 hi'
        have hu := (run.unt i'.blk (hr.bound b' i' hi0) (funt b' i' m1 hi0 hd)).2
        exact fun e => hu b i hi e hl1
    · rw [k3] at hl
      have hi0 := hold b i k2 hi
      rcases K b' with m | ⟨o', o1', m1, m2, m3⟩ | ⟨m1, m2, m3⟩
      · obtain ⟨x, hx, _⟩ := hd; rw [m] at hx; cases hx
      · have hu := run.untp i.blk (hr.bound b i hi0) (funtp b i (k1.resolve_right (fun k => k hl)) hi0 hl)
        exact fun e => hu b' i' hi' e.symm (known_of (up b' o' o1' m1 m2 m3) hd)
      · rw [m3] at hd
        exact hr.inj b b' i i' hne hi0 (hold b' i' m2 hi') hl hd
  · intro b hb; exact run.rel.next b (by rw [← hn2]; exact hb)
  · intro b hb
    have hb1 : h1.next ≤ b := by rw [← hn2]; exact hb
    rcases K b with k | ⟨o, o1, k1, k2, k3⟩ | ⟨k1, k2, k3⟩
    · exact k
    · rw [run.rel.clean b hb1] at k2; cases k2
    · have := run.next; rw [hn] at this; omega
  · -- where nothing may be written
    intro B hB hu
    have hu0 : Unt ρ h0 B := fun b i hi he hl => hu b i hi he (live_of (hs b) hl)
    obtain ⟨q1, q2⟩ := run.unt B hB hu0
    refine ⟨q1, fun b i hi he hl => ?_⟩
    rcases K b with k | ⟨o, o1, k1, k2, k3⟩ | ⟨k1, k2, k3⟩
    · rw [k] at hl; exact hl
    · exact q2 b i hi he (live_of (up b o o1 k1 k2 k3) hl)
    · rw [k3] at hl; exact hu b i (hold b i k2 hi) he hl
  · rw [hn2, ← hn]; exact run.next
  · intro b hb hg
    have hb0 : h0.get b = none := by
      cases hx : h0.get b with
      | none => rfl
      | some o => obtain ⟨o', q, _⟩ := hs b o hx; rw [hg] at q; cases q
    have hb1 := run.keep b (by simp only [hn]; exact hb) hb0
    rcases K b with k | ⟨o, o1, k1, k2, k3⟩ | ⟨k1, k2, k3⟩
    · exact k
    · rw [hb1] at k2; cases k2
    · rw [k3]; exact hg
  · intro B hB hu
    have hu0 : UntP ρ h0 B := fun b i hi he hd => hu b i hi he (known_of (hs b) hd)
    have q := run.untp B hB hu0
    intro b i hi he hd
    rcases K b with k | ⟨o, o1, k1, k2, k3⟩ | ⟨k1, k2, k3⟩
    · obtain ⟨x, hx, _⟩ := hd; rw [k] at hx; cases hx
    · exact q b i hi he (known_of (up b o o1 k1 k2 k3) hd)
    · rw [k3] at hd; exact hu b i (hold b i k2 hi) he hd

/-! ### Blocks that are written out -/
/-- A block, written out; a cell '.any': nothing is known of it. -/
inductive LO where
  | row (e : TypeId) (op ro : Bool) (l : List AVal)
  | map (es : List (AVal × AVal × Nat)) (clock : Nat)
  | dead

def setNA (v : AVal) (t : T AVal) (o : Nat) : T AVal := match v with | .any => t | v => T.set v t o

def litCells : List AVal → Nat → T AVal → T AVal
  | [], _, t => t
  | v :: l, o, t => litCells l (Nat.succ o) (setNA v t o)

def LO.obj : LO → AObj
  | .row e op ro l => .row e l.length op ro (litCells l 0 .leaf)
  | .map es c => .map es c
  | .dead => .dead

def cellsFit (cs : T AVal) : List AVal → Nat → Bool
  | [], _ => true
  | .any :: l, j => cellsFit cs l (Nat.succ j)
  | v :: l, j => match cs.get j with
    | some u => (match beqV u v with | true => cellsFit cs l (Nat.succ j) | false => false)
    | none => false

def beqEs : List (AVal × AVal × Nat) → List (AVal × AVal × Nat) → Bool
  | [], [] => true
  | a :: l, b :: l' => beqV a.1 b.1 && beqV a.2.1 b.2.1 && Nat.beq a.2.2 b.2.2 && beqEs l l'
  | _, _ => false

/-- Is as much known of a block as is written out? -/
def LO.fits (x : Option AObj) : LO → Bool
  | .row e op ro l => (match x with
    | some (.row e' n op' ro' cs) => Nat.beq e e' && (op == op') && (ro == ro') && Nat.beq n l.length && cellsFit cs l 0
    | _ => false)
  | .map es c => (match x with | some (.map es' c') => beqEs es' es && Nat.beq c' c | _ => false)
  | .dead => (match x with | some .dead => true | _ => false)

theorem litCells_get : ∀ (l : List AVal) (o : Nat) (t : T AVal) (j : Nat) (v : AVal), (litCells l o t).get j = some v → (∃ k, j = o + k ∧ l[k]? = some v ∧ v ≠ .any) ∨ t.get j = some v
  | [], _, _, _, _, h => .inr h
  | x :: l, o, t, j, v, h => by
    have h' : (litCells l (o + 1) (setNA x t o)).get j = some v := h
    rcases litCells_get l (o + 1) _ j v h' with ⟨k, h1, h2, h3⟩ | h1
    · exact .inl ⟨k + 1, by omega, by simpa using h2, h3⟩
    · by_cases hx : x = .any
      · subst hx; exact .inr h1
      · have e : setNA x t o = T.set x t o := by cases x <;> first | rfl | exact absurd rfl hx
        rw [e, T.get_set] at h1
        split at h1
        · rename_i e2; cases h1; exact .inl ⟨0, by omega, rfl, hx⟩
        · exact .inr h1

theorem cellsFit_get {cs : T AVal} : ∀ (l : List AVal) (j : Nat), cellsFit cs l j = true → ∀ k v, l[k]? = some v → v ≠ .any → cs.get (j + k) = some v
  | [], _, _, k, v, h, _ => by simp at h
  | x :: l, j, hf, k, v, h, hv => by
    by_cases hx : x = .any
    · subst hx
      cases k with
      | zero => simp at h; exact absurd h.symm hv
      | succ k => have := cellsFit_get l (j + 1) hf k v (by simpa using h) hv; rw [← this]; congr 1; omega
    · have hf' : (match cs.get j with | some u => (match beqV u x with | true => cellsFit cs l (j + 1) | false => false) | none => false) = true := by
        cases x <;> first | exact hf | exact absurd rfl hx
      split at hf'
      rotate_left
      · cases hf'
      rename_i u hu
      split at hf'
      rotate_left
      · cases hf'
      rename_i hb
      have := beqV_eq _ _ hb
      subst this
      cases k with
      | zero => simp at h; subst h; simpa using hu
      | succ k => have := cellsFit_get l (j + 1) hf' k v (by simpa using h) hv; rw [← this]; congr 1; omega

theorem beqEs_eq : ∀ (a b : List (AVal × AVal × Nat)), beqEs a b = true → a = b
  | [], [], _ => rfl
  | [], _ :: _, h => by cases h
  | _ :: _, [], h => by cases h
  | (a, b, c) :: l, (a', b', c') :: l', h => by
    unfold beqEs at h
    simp only [Bool.and_eq_true] at h
    obtain ⟨⟨⟨h1, h2⟩, h3⟩, h4⟩ := h
    have h1 := beqV_eq _ _ h1
    have h2 := beqV_eq _ _ h2
    have h3 := Nat.eq_of_beq_eq_true h3
    have h4 := beqEs_eq _ _ h4
    subst h1; subst h2; subst h3; subst h4; rfl

theorem LO.fits_weaker {x : Option AObj} {o : LO} (h : o.fits x = true) : ∃ y, x = some y ∧ weaker o.obj y := by
  cases o with
  | row e op ro l =>
    unfold LO.fits at h
    simp only at h
    split at h
    rotate_left
    · cases h
    rename_i e' n op' ro' cs
    simp only [Bool.and_eq_true, beq_iff_eq] at h
    obtain ⟨⟨⟨⟨h1, rfl⟩, rfl⟩, h4⟩, h5⟩ := h
    have h1 := Nat.eq_of_beq_eq_true h1
    have h4 := Nat.eq_of_beq_eq_true h4
    subst h1; subst h4
    refine ⟨_, rfl, cs, rfl, fun j v hv => ?_⟩
    rcases litCells_get l 0 .leaf j v hv with ⟨k, k1, k2, k3⟩ | k
    · have := cellsFit_get l 0 h5 k v k2 k3
      rw [k1]; exact this
    · cases k
  | map es c =>
    unfold LO.fits at h
    simp only at h
    split at h
    rotate_left
    · cases h
    rename_i es' c'
    rw [Bool.and_eq_true] at h
    have h1 := beqEs_eq _ _ h.1
    have h2 := Nat.eq_of_beq_eq_true h.2
    subst h1; subst h2
    exact ⟨_, rfl, rfl⟩
  | dead =>
    unfold LO.fits at h
    simp only at h
    split at h
    · exact ⟨_, rfl, rfl⟩
    · cases h

/-! Numbers from 0 on. -/
def ni8 (n : Nat) : AVal := .int .i8 (.ofNat n)
def ni16 (n : Nat) : AVal := .int .i16 (.ofNat n)
def ni32 (n : Nat) : AVal := .int .i32 (.ofNat n)
def ni64 (n : Nat) : AVal := .int .i64 (.ofNat n)
def nu8 (n : Nat) : AVal := .int .u8 (.ofNat n)
def nu16 (n : Nat) : AVal := .int .u16 (.ofNat n)
def nu32 (n : Nat) : AVal := .int .u32 (.ofNat n)
def nu64 (n : Nat) : AVal := .int .u64 (.ofNat n)

/-! ### A call with its blocks written out -/
structure Sum where
  f : FuncId
  args : List AVal
  next : Nat
  hin : List (Nat × LO)
  ret : AVal
  next' : Nat
  hout : List (Nat × LO)

def putLO : List (Nat × LO) → T AObj → T AObj
  | [], t => t
  | x :: l, t => putLO l (T.set x.2.obj t x.1)

def allFit (h : AHeap) : List (Nat × LO) → Bool
  | [] => true
  | x :: l => match x.2.fits (h.get x.1) with | true => allFit h l | false => false

def keyIn (b : Nat) : List (Nat × LO) → Bool
  | [] => false
  | x :: l => match Nat.beq x.1 b with | true => true | false => keyIn b l

def keysIn (l' : List (Nat × LO)) : List (Nat × LO) → Bool
  | [] => true
  | x :: l => match keyIn x.1 l' with | true => keysIn l' l | false => false

/-- The heap that a call asks for. -/
def Sum.inH (ng : Nat) (es : Nat → TypeId) (gl : List (Nat × List AVal)) (s : Sum) : AHeap := ⟨s.next, putLO s.hin (globH ng es gl).tr⟩

/-- Does a run come to what is written out? -/
def Sum.ok (s : Sum) : Option (AEnd × AHeap) → Nat
  | some (.ret v, h) => (match beqV v s.ret && Nat.beq h.next s.next' && allFit h s.hout && keysIn s.hout s.hin with | true => 1 | false => 0)
  | _ => 0

def sumExt (gl : List (Nat × List AVal)) (l : List Sum) : CallF := fun t args h =>
  match t with
  | .fn g => List.rec (motive := fun _ => Option (AEnd × AHeap)) none (fun s _ ih =>
      match Nat.beq s.next h.next with
      | false => ih
      | true => (match Nat.beq s.f g && beqVs args s.args && chkG h gl && allFit h s.hin with
        | true => some (.ret s.ret, ⟨s.next', putLO s.hout h.tr⟩)
        | false => ih)) l
  | _ => none

def orExt (a b : CallF) : CallF := fun t args h => match a t args h with | some r => some r | none => b t args h

theorem orExt_ok {ng : Nat} {a b : CallF} (ha : CallOk P env okc ng a) (hb : CallOk P env okc ng b) : CallOk P env okc ng (orExt a b) := by
  refine ⟨?_, ?_⟩
  · intro ρ h w hr hg f args e h' hx hbd args' hv cs
    unfold orExt at hx
    split at hx
    · rename_i r hr1; cases hx; exact ha.fn ρ h w hr hg f args e h' hr1 hbd args' hv cs
    · exact hb.fn ρ h w hr hg f args e h' hx hbd args' hv cs
  · intro ρ h w hr hg b' i args e h' hx hi args' hv
    unfold orExt at hx
    split at hx
    · rename_i r hr1; cases hx; exact ha.round ρ h w hr hg b' i args e h' hr1 hi args' hv
    · exact hb.round ρ h w hr hg b' i args e h' hx hi args' hv

theorem putLO_get : ∀ (l : List (Nat × LO)) (t : T AObj) (b : Nat), (∃ o, (b, o) ∈ l ∧ (putLO l t).get b = some o.obj) ∨ (keyIn b l = false ∧ (putLO l t).get b = t.get b)
  | [], t, b => .inr ⟨rfl, rfl⟩
  | x :: l, t, b => by
    rcases putLO_get l (T.set x.2.obj t x.1) b with ⟨o, h1, h2⟩ | ⟨h1, h2⟩
    · exact .inl ⟨o, by simp [h1], h2⟩
    · have e : (putLO (x :: l) t).get b = (T.set x.2.obj t x.1).get b := h2
      rw [T.get_set] at e
      split at e
      · rename_i hb; subst hb; exact .inl ⟨x.2, by simp, e⟩
      · rename_i hb
        refine .inr ⟨?_, e⟩
        unfold keyIn
        cases hx : Nat.beq x.1 b with
        | true => exact absurd (Nat.eq_of_beq_eq_true hx) hb
        | false => exact h1

theorem allFit_mem {h : AHeap} : ∀ {l : List (Nat × LO)}, allFit h l = true → ∀ b o, (b, o) ∈ l → o.fits (h.get b) = true
  | [], _, b, o, hm => by cases hm
  | x :: l, hf, b, o, hm => by
    unfold allFit at hf
    split at hf
    rotate_left
    · cases hf
    rename_i h1
    rcases List.mem_cons.1 hm with e | hm
    · cases e; exact h1
    · exact allFit_mem hf b o hm

theorem keyIn_mem : ∀ {l : List (Nat × LO)} {b : Nat}, keyIn b l = true → ∃ o, (b, o) ∈ l
  | [], b, h => by cases h
  | x :: l, b, h => by
    unfold keyIn at h
    split at h
    · rename_i hb
      have := Nat.eq_of_beq_eq_true hb
      subst this; exact ⟨x.2, by simp⟩
    · obtain ⟨o, ho⟩ := keyIn_mem h; exact ⟨o, by simp [ho]⟩

theorem mem_keyIn : ∀ {l : List (Nat × LO)} {b : Nat} {o : LO}, (b, o) ∈ l → keyIn b l = true
  | [], b, o, h => by cases h
  | x :: l, b, o, h => by
    unfold keyIn
    rcases List.mem_cons.1 h with e | h
    · cases e; rw [Nat.beq_refl]
    · cases Nat.beq x.1 b with
      | true => rfl
      | false => exact mem_keyIn h

theorem keysIn_mem {l' : List (Nat × LO)} : ∀ {l : List (Nat × LO)}, keysIn l' l = true → ∀ b o, (b, o) ∈ l → keyIn b l' = true
  | [], _, b, o, h => by cases h
  | x :: l, hk, b, o, h => by
    unfold keysIn at hk
    split at hk
    rotate_left
    · cases hk
    rename_i h1
    rcases List.mem_cons.1 h with e | h
    · cases e; exact h1
    · exact keysIn_mem hk b o h

/-- The tables, as far as they are written out, are known. -/
theorem chkG_weaker {ng : Nat} (hr : HRel P env okc ρ h w) (hg : GlobOk ρ ng) : ∀ {gl : List (Nat × List AVal)}, (∀ x ∈ gl, x.1 < ng) → chkG h gl = true → ∀ b l, (b, l) ∈ gl →
    ∃ o', h.get b = some o' ∧ ¬ liveW (some o') ∧ weaker (.row (globElem w b) l.length false true (rowOf l)) o'
  | [], _, _, b, l, hm => by cases hm
  | x :: gl, hlt, hc, b, l, hm => by
    unfold chkG at hc
    rw [Bool.and_eq_true] at hc
    rcases List.mem_cons.1 hm with e | hm
    rotate_left
    · exact chkG_weaker hr hg (fun y hy => hlt y (by simp [hy])) hc.2 b l hm
    cases e
    have h1 := hc.1
    split at h1
    rotate_left
    · cases h1
    rename_i e n cs hget
    rw [Bool.and_eq_true] at h1
    obtain ⟨hn, h2⟩ := h1
    have hn := Nat.eq_of_beq_eq_true hn
    split at h2
    rotate_left
    · cases h2
    rename_i r hrd
    have hrx := beqVs_eq _ _ h2
    simp only at hget hn hrx
    subst hrx
    obtain ⟨i, hi, hblk, hsh⟩ := hg b (hlt (b, r) (by simp))
    obtain ⟨ob, ho, c, frz, rfl, c2, c3, c4, c5, c6, c7⟩ := hr.obj b _ i hget rfl hi
    have he : globElem w b = e := by unfold globElem; rw [← hblk, ho]
    obtain ⟨k1, k2⟩ := readCells_spec n 0 cs r hrd
    refine ⟨_, hget, ?_, cs, ?_, ?_⟩
    · rintro ⟨_, hh⟩; cases hh
    · rw [he, hn]
    · intro j v hv
      rw [rowOf_get] at hv
      have hj : j < n := by
        rcases Nat.lt_or_ge j r.length with h | h
        · omega
        · rw [List.getElem?_eq_none h] at hv; cases hv
      have := k2 j hj
      rw [Nat.zero_add] at this
      rw [this]; exact hv

/-- One after the other. -/
theorem all_cons {α : Type} {p : α → Prop} {a : α} {l : List α} (h : p a) (hl : ∀ s ∈ l, p s) : ∀ s ∈ a :: l, p s := by
  intro s hs
  rcases List.mem_cons.1 hs with e | hs
  · rw [e]; exact h
  · exact hl s hs
theorem all_nil {α : Type} {p : α → Prop} : ∀ s ∈ ([] : List α), p s := fun _ h => by cases h

theorem Sum.ok_spec {s : Sum} {r : Option (AEnd × AHeap)} (h : s.ok r = 1) : ∃ h1, r = some (.ret s.ret, h1) ∧ h1.next = s.next' ∧ allFit h1 s.hout = true ∧ keysIn s.hout s.hin = true := by
  unfold Sum.ok at h
  split at h
  rotate_left
  · cases h
  rename_i v h1
  split at h
  rotate_left
  · cases h
  rename_i hc
  simp only [Bool.and_eq_true] at hc
  obtain ⟨⟨⟨a1, a2⟩, a3⟩, a4⟩ := hc
  have a1 := beqV_eq _ _ a1
  subst a1
  exact ⟨h1, rfl, Nat.eq_of_beq_eq_true a2, a3, a4⟩

theorem sumExt_ok {ng : Nat} {gl : List (Nat × List AVal)} (hlt : ∀ x ∈ gl, x.1 < ng) : ∀ {l : List Sum}, (∀ s ∈ l, ∀ es, ∃ call, CallOk P env okc ng call ∧ s.ok (call (.fn s.f) s.args (s.inH ng es gl)) = 1) → CallOk P env okc ng (sumExt gl l)
  | [], _ => ⟨fun _ _ _ _ _ _ _ _ _ h => (by cases h), fun _ _ _ _ _ _ _ _ _ _ h => (by cases h)⟩
  | s :: l, hall => by
    have ih := sumExt_ok hlt (l := l) (fun t ht => hall t (by simp [ht]))
    refine ⟨?_, fun _ _ _ _ _ _ _ _ _ _ h => (by cases h)⟩
    intro ρ h w hr hg f args e h' hx hbd args' hv cs
    have hx' : (match Nat.beq s.next h.next with
      | false => sumExt gl l (.fn f) args h
      | true => (match Nat.beq s.f f && beqVs args s.args && chkG h gl && allFit h s.hin with
        | true => some (.ret s.ret, ⟨s.next', putLO s.hout h.tr⟩)
        | false => sumExt gl l (.fn f) args h)) = some (e, h') := hx
    split at hx'
    · exact ih.fn ρ h w hr hg f args e h' hx' hbd args' hv cs
    rename_i hnx
    split at hx'
    rotate_left
    · exact ih.fn ρ h w hr hg f args e h' hx' hbd args' hv cs
    rename_i hc
    cases hx'
    have hnx := Nat.eq_of_beq_eq_true hnx
    simp only [Bool.and_eq_true] at hc
    obtain ⟨⟨⟨c1, c2⟩, c3⟩, c4⟩ := hc
    have c1 := Nat.eq_of_beq_eq_true c1
    have c2 := beqVs_eq _ _ c2
    subst c1; subst c2
    obtain ⟨call, hcall, hok⟩ := hall s (by simp) (globElem w)
    obtain ⟨h1, hrun, hn1, hfit, hkeys⟩ := Sum.ok_spec hok
    have hn0 : (s.inH ng (globElem w) gl).next = h.next := hnx
    have hsub : ∀ b o, (s.inH ng (globElem w) gl).get b = some o → ∃ o', h.get b = some o' ∧ weaker o o' := by
      intro b o hb
      rcases putLO_get s.hin (globH ng (globElem w) gl).tr b with ⟨o', q1, q2⟩ | ⟨_, q2⟩
      · have : (s.inH ng (globElem w) gl).get b = some o'.obj := q2
        rw [this] at hb; cases hb
        obtain ⟨y, y1, y2⟩ := LO.fits_weaker (allFit_mem c4 b o' q1)
        exact ⟨y, y1, y2⟩
      · have : (globH ng (globElem w) gl).get b = some o := q2.symm.trans hb
        obtain ⟨l', m1, rfl⟩ := globH_get this
        obtain ⟨o', m2, _, m3⟩ := chkG_weaker hr hg hlt c3 b l' m1
        exact ⟨o', m2, m3⟩
    have hr0 := hr.weak hn0 hsub
    obtain ⟨ρ', w', fr, x, q1, q2, q3, q4, q5⟩ := hcall.fn ρ _ w hr0 hg s.f s.args _ h1 hrun hbd args' hv cs
    refine ⟨ρ', w', fr, x, q1, q2, q3, ?_, q5⟩
    refine Go'.around hr q4 hn0 (by simp only; exact hn1.symm) hsub (fun b => ?_)
    rcases putLO_get s.hout h.tr b with ⟨o, m1, m2⟩ | ⟨m1, m2⟩
    · obtain ⟨y, y1, y2⟩ := LO.fits_weaker (allFit_mem hfit b o m1)
      exact .inr (.inl ⟨o.obj, y, m2, y1, y2⟩)
    · -- a block of the rest
      have hget : (⟨s.next', putLO s.hout h.tr⟩ : AHeap).get b = h.get b := m2
      cases hhb : h.get b with
      | none => exact .inl (by rw [hget, hhb])
      | some ob =>
        have hlt' : b < h.next := by
          rcases Nat.lt_or_ge b h.next with k | k
          · exact k
          · rw [hr.clean b k] at hhb; cases hhb
        refine .inr (.inr ⟨?_, hlt', by rw [hget, hhb]⟩)
        rcases putLO_get s.hin (globH ng (globElem w) gl).tr b with ⟨o', q1', q2'⟩ | ⟨_, q2'⟩
        · rw [keysIn_mem hkeys b o' q1'] at m1; cases m1
        · cases hgb : (globH ng (globElem w) gl).get b with
          | none => exact .inl (q2'.trans hgb)
          | some o =>
            obtain ⟨l', n1, rfl⟩ := globH_get hgb
            obtain ⟨o', n2, n3, _⟩ := chkG_weaker hr hg hlt c3 b l' n1
            rw [hhb] at n2; cases n2
            exact .inr n3

/-! ### Comparisons that are known -/
def holdsC (op : BinOp) (a b : Int) : Prop :=
  match op with
  | .eql => a = b
  | .neq => a ≠ b
  | .lss => a < b
  | .leq => a ≤ b
  | .gtr => b < a
  | .geq => b ≤ a
  | _ => False
theorem cmp_t {op : BinOp} {a b : Int} (h : holdsC op a b) : cmpB op a b = true := by
  cases op <;> simp only [holdsC] at h <;> simp only [cmpB, eqI_eq, leI_eq, ltI_eq] <;> first | exact h.elim | simpa using h
theorem cmp_f {op : BinOp} {a b : Int} (hc : isCmp op = true) (h : ¬ holdsC op a b) : cmpB op a b = false := by
  cases op <;> first | (exact absurd hc (by decide)) | (simp only [holdsC] at h; simp only [cmpB, eqI_eq, leI_eq, ltI_eq]; simpa using h)

/-! ### A run over the tables, where the first block has a number of one's own -/
def globN (st ng : Nat) (es : Nat → TypeId) (gl : List (Nat × List AVal)) : AHeap := ⟨st, (globH ng es gl).tr⟩

theorem true_callsN {ng st : Nat} {call : CallF} (hst : ng ≤ st) (hk : env KH = hv) (ho : Value.one hv = true) (hc : CallOk P env okc ng call) {f : FuncId} {args : List AVal} {gl : List (Nat × List AVal)} (hlt : ∀ x ∈ gl, x.1 < ng)
    (hx : isTrueR (call (.fn f) args (globN st ng (globElem w) gl)) = 1) (hb : (bodyOf P f).isSome = true) (hng : ng ≤ w.heap.size) (hgl : Globs hv w gl) {args' : List Value} (ha : VRels (globR ng w) env args args') :
    Calls P f ⟨args'⟩ w fun x w' => x = .returned (.bool true) ∧ Below w.heap.size w w' := by
  obtain ⟨h', hx'⟩ := isTrueR_of hx
  have hr := (Go'.bump (N := fun _ => True) (globH_rel (P := P) (okc := okc) hk ho hlt hng hgl) (n := st) (by rw [globH, globHeap_next]; exact hst)).rel
  refine (closed_calls hc hx' hb hr (globR_ok ng w) (globH_live ng _ gl) ha).mono ?_
  rintro e w' ⟨⟨y, ρ', rfl, hy⟩, hbw⟩
  exact ⟨by rw [hy.of_bool], hbw⟩
end
end Go.Eng
