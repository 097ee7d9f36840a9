/- The engine, part Q3: code, as a whole. -/
import Derived.Test.YtggjeecpadnihaaGreatDoorEngQ2
set_option linter.unusedVariables false
set_option linter.unusedSimpArgs false
set_option linter.unusedSectionVars false
namespace Go.Eng

section
variable {P : Program} {env : Nat → Value} {X : Cx}

theorem CodeSound.steps {okc : FuncId → Code → Bool} {n mask : Nat} {rd : Option Nat} {b : Frame} {cfn : FrameMode → List Frame} {F : CodeF} {st st' : List Item → List Item}
    (h : CodeSound P env okc X n mask rd b cfn F st) (hs : ∀ k a cs w, Steps P (lone (b.atR a (st' k)) cs w) (lone (b.atR a (st k)) cs w)) : CodeSound P env okc X n mask rd b cfn F st' := by
  intro k s x s' ρ a m w hx h1 h2 h3 h4
  obtain ⟨ρ', a', m', w', q1, q2⟩ := h k s x s' ρ a m w hx h1 h2 h3 h4
  exact ⟨ρ', a', m', w', .steps (hs k a (cfn m) w) q1, q2⟩

/-- A loop's rounds. -/
theorem iter_sound {okc : FuncId → Code → Bool} {n mask : Nat} {rd : Option Nat} {b : Frame} {cfn : FrameMode → List Frame} {F : CodeF} {c : Code}
    (h : CodeSound P env okc X n mask rd b cfn F (fun k => .code c :: k)) : ∀ (j : Nat) (k : List Item) (s : St) (x : AExit) (s' : St) (ρ : Rho) (a : Act) (m : FrameMode) (w : World), iterA F.f j s = some (x, s') →
      CSt P env okc n mask ρ s a m w → GlobOk ρ X.nglob → CsOk b cfn s.um → RdOk ρ b rd →
      ∃ ρ' a' m' w', (match x with
        | .normal => Steps P (lone (b.atR a (.code c :: .inLoop c :: k)) (cfn m) w) (lone (b.atR a' (.code c :: .inLoop c :: k)) (cfn m') w')
        | x => Arr P env b cfn k (lone (b.atR a (.code c :: .inLoop c :: k)) (cfn m) w) ρ' a' m' w' x) ∧
        CSt P env okc n mask ρ' s' a' m' w' ∧ Go' P env okc (fun y => s.h.next ≤ y) ρ s.h w ρ' s'.h w' ∧ CsOk b cfn s'.um := by
  intro j
  induction j with
  | zero =>
    intro k s x s' ρ a m w hx h1 h2 h3 h4
    obtain ⟨ρ', a', m', w', q1, q2⟩ := h (.inLoop c :: k) s x s' ρ a m w hx h1 h2 h3 h4
    refine ⟨ρ', a', m', w', ?_, q2⟩
    cases x with
    | normal => exact Steps.trans q1 (.one stepR_inLoop)
    | exit id => exact Arr.pass (by simp) (fun _ => rfl) q1
    | ret => exact Arr.pass (by simp) (fun _ => rfl) q1
    | pan v => exact Arr.pass (by simp) (fun _ => rfl) q1
  | succ j ih =>
    intro k s x s' ρ a m w hx h1 h2 h3 h4
    have hx' : (match iterA F.f j s with | some (.normal, s') => iterA F.f j s' | r => r) = some (x, s') := hx
    cases hr : iterA F.f j s with
    | none => rw [hr] at hx'; cases hx'
    | some r =>
      obtain ⟨y, s1⟩ := r
      rw [hr] at hx'
      obtain ⟨ρ1, a1, m1, w1, q1, q2, q3, q4⟩ := ih k s y s1 ρ a m w hr h1 h2 h3 h4
      cases y with
      | normal =>
        obtain ⟨ρ2, a2, m2, w2, r1, r2, r3, r4⟩ := ih k s1 x s' ρ1 a1 m1 w1 hx' q2 (h2.mono q3.sub) q4 (h4.mono q3.sub)
        have hn := q3.next
        refine ⟨ρ2, a2, m2, w2, ?_, r2, q3.trans (r3.mono (fun y hy => Nat.le_trans hn hy)), r4⟩
        cases x with
        | normal => exact Steps.trans q1 r1
        | exit id => exact Arr.steps q1 r1
        | ret => exact Arr.steps q1 r1
        | pan v => exact Arr.steps q1 r1
      | exit id => cases hx'; exact ⟨ρ1, a1, m1, w1, q1, q2, q3, q4⟩
      | ret => cases hx'; exact ⟨ρ1, a1, m1, w1, q1, q2, q3, q4⟩
      | pan v => cases hx'; exact ⟨ρ1, a1, m1, w1, q1, q2, q3, q4⟩

variable (he : EnvOk env) (hF : ∀ f ∈ X.facts, FactOk P env f)
include he hF

/-- Code does in the world what it does abstractly. -/
theorem code_sound {call : CallF} (hc : CallOk P env (okcP P) X.nglob call) (hmix : P.follows .mixedOrders = true) {n mask : Nat} {rd : Option Nat} {b : Frame} {cfn : FrameMode → List Frame} {fn : Func} {c0 : Code} (hfn : bodyOf P b.fn = some (fn, c0)) (hn : n = fn.ntmps)
    (hmask : mask = maskF fn c0) (c : Code) : codeOk n c = true → CodeSound P env (okcP P) X n mask rd b cfn (compC P X call rd mask b.fn c) (fun k => .code c :: k) := by
  induction c with
  | skip =>
    intro _ k s x s' ρ a m w hx h1 h2 h3 h4
    have hx' : some (AExit.normal, s) = some (x, s') := hx
    cases hx'
    exact ⟨ρ, a, m, w, .one stepR_skip, h1, .refl h1.heap, h3⟩
  | region id ops draw => intro hok; exact region_sound he hF hc hmix hok
  | seq x y ihx ihy =>
    intro hok k s e s' ρ a m w hx h1 h2 h3 h4
    have hok' : (codeOk n x && codeOk n y) = true := hok
    rw [Bool.and_eq_true] at hok'
    have hx' : (match (compC P X call rd mask b.fn x).f s with | some (.normal, s') => (compC P X call rd mask b.fn y).f s' | r => r) = some (e, s') := hx
    cases hr : (compC P X call rd mask b.fn x).f s with
    | none => rw [hr] at hx'; cases hx'
    | some r =>
      obtain ⟨e1, s1⟩ := r
      rw [hr] at hx'
      obtain ⟨ρ1, a1, m1, w1, q1, q2, q3, q4⟩ := ihx hok'.1 (.code y :: k) s e1 s1 ρ a m w hr h1 h2 h3 h4
      have hseq : Steps P (lone (b.atR a (.code (.seq x y) :: k)) (cfn m) w) (lone (b.atR a (.code x :: .code y :: k)) (cfn m) w) := .one stepR_seq
      cases e1 with
      | normal =>
        obtain ⟨ρ2, a2, m2, w2, r1, r2, r3, r4⟩ := ihy hok'.2 k s1 e s' ρ1 a1 m1 w1 hx' q2 (h2.mono q3.sub) q4 (h4.mono q3.sub)
        have hnx := q3.next
        exact ⟨ρ2, a2, m2, w2, .steps (Steps.trans hseq q1) r1, r2, q3.trans (r3.mono (fun y hy => Nat.le_trans hnx hy)), r4⟩
      | exit id => cases hx'; exact ⟨ρ1, a1, m1, w1, .steps hseq (Arr.pass (by simp) (fun _ => rfl) q1), q2, q3, q4⟩
      | ret => cases hx'; exact ⟨ρ1, a1, m1, w1, .steps hseq (Arr.pass (by simp) (fun _ => rfl) q1), q2, q3, q4⟩
      | pan v => cases hx'; exact ⟨ρ1, a1, m1, w1, .steps hseq (Arr.pass (by simp) (fun _ => rfl) q1), q2, q3, q4⟩
  | cond g x y ihx ihy =>
    intro hok k s e s' ρ a m w hx h1 h2 h3 h4
    have hok' : (codeOk n x && codeOk n y) = true := hok
    rw [Bool.and_eq_true] at hok'
    have hx' : (match evA X .nil s.tm g with | some (.bool true) => (compC P X call rd mask b.fn x).f s | some (.bool false) => (compC P X call rd mask b.fn y).f s | _ => none) = some (e, s') := hx
    split at hx'
    · rename_i hgv
      have hg' := (evA_rel h2 (fun t v hl => h1.tms.slots t v hl) g _ hgv).of_bool
      have hstep : Steps P (lone (b.atR a (.code (.cond g x y) :: k)) (cfn m) w) (lone (b.atR a (.code x :: k)) (cfn m) w) := .one (stepR_cond hg')
      obtain ⟨ρ1, a1, m1, w1, q1, q2⟩ := ihx hok'.1 k s e s' ρ a m w hx' h1 h2 h3 h4
      exact ⟨ρ1, a1, m1, w1, .steps hstep q1, q2⟩
    · rename_i hgv
      have hg' := (evA_rel h2 (fun t v hl => h1.tms.slots t v hl) g _ hgv).of_bool
      have hstep : Steps P (lone (b.atR a (.code (.cond g x y) :: k)) (cfn m) w) (lone (b.atR a (.code y :: k)) (cfn m) w) := .one (stepR_cond hg')
      obtain ⟨ρ1, a1, m1, w1, q1, q2⟩ := ihy hok'.2 k s e s' ρ a m w hx' h1 h2 h3 h4
      exact ⟨ρ1, a1, m1, w1, .steps hstep q1, q2⟩
    · cases hx'
  | block id c ih =>
    intro hok k s e s' ρ a m w hx h1 h2 h3 h4
    have hx' : blockA id ((compC P X call rd mask b.fn c).f s) = some (e, s') := hx
    cases hr : (compC P X call rd mask b.fn c).f s with
    | none => rw [hr] at hx'; cases hx'
    | some r =>
      obtain ⟨e1, s1⟩ := r
      rw [hr] at hx'
      have hstep : Steps P (lone (b.atR a (.code (.block id c) :: k)) (cfn m) w) (lone (b.atR a (.code c :: .inBlock id :: k)) (cfn m) w) := .one stepR_block
      obtain ⟨ρ1, a1, m1, w1, q1, q2⟩ := ih hok (.inBlock id :: k) s e1 s1 ρ a m w hr h1 h2 h3 h4
      unfold blockA at hx'
      cases e1 with
      | normal => cases hx'; exact ⟨ρ1, a1, m1, w1, Steps.trans hstep (Steps.trans q1 (.one stepR_inBlock)), q2⟩
      | exit id' =>
        simp only at hx'
        obtain ⟨k1, r1, r2⟩ := q1
        split at hx'
        · rename_i hb
          have := Nat.eq_of_beq_eq_true hb
          subst this
          cases hx'
          refine ⟨ρ1, a1, m1, w1, Steps.trans hstep (Steps.trans r2 (.one (stepR_exit ?_))), q2⟩
          rw [r1]; simp [exitTo]
        · rename_i hb
          cases hx'
          refine ⟨ρ1, a1, m1, w1, ⟨k1, ?_, Steps.trans hstep r2⟩, q2⟩
          rw [r1]
          have hne : ¬ id = id' := fun e => by subst e; rw [Nat.beq_refl] at hb; cases hb
          simp [exitTo, hne]
      | ret => cases hx'; exact ⟨ρ1, a1, m1, w1, .steps hstep q1, q2⟩
      | pan v => cases hx'; exact ⟨ρ1, a1, m1, w1, .steps hstep q1, q2⟩
  | loop c ih =>
    intro hok k s e s' ρ a m w hx h1 h2 h3 h4
    have hx' : loopA (iterA (compC P X call rd mask b.fn c).f 20 s) = some (e, s') := hx
    cases hr : iterA (compC P X call rd mask b.fn c).f 20 s with
    | none => rw [hr] at hx'; cases hx'
    | some r =>
      obtain ⟨e1, s1⟩ := r
      rw [hr] at hx'
      have hstep : Steps P (lone (b.atR a (.code (.loop c) :: k)) (cfn m) w) (lone (b.atR a (.code c :: .inLoop c :: k)) (cfn m) w) := .one stepR_loop
      obtain ⟨ρ1, a1, m1, w1, q1, q2⟩ := iter_sound (ih hok) 20 k s e1 s1 ρ a m w hr h1 h2 h3 h4
      unfold loopA at hx'
      cases e1 with
      | normal => cases hx'
      | exit id => cases hx'; exact ⟨ρ1, a1, m1, w1, .steps hstep q1, q2⟩
      | ret => cases hx'; exact ⟨ρ1, a1, m1, w1, .steps hstep q1, q2⟩
      | pan v => cases hx'; exact ⟨ρ1, a1, m1, w1, .steps hstep q1, q2⟩
  | rangeFunc g ps x y ihx ihy =>
    intro hok
    have hok' : (codeOk n x && codeOk n y) = true := hok
    rw [Bool.and_eq_true] at hok'
    have hoc : ∀ c, codeOk n c = true → okcP P b.fn c = true := fun c hcok => by unfold okcP; rw [hfn]; show codeOk fn.ntmps c = true; rw [← hn]; exact hcok
    exact range_sound hc hfn hn hmask (hoc x hok'.1) (hoc y hok'.2)
  | exit id =>
    intro _ k s x s' ρ a m w hx h1 h2 h3 h4
    have hx' : some (AExit.exit id, s) = some (x, s') := hx
    cases hx'
    exact ⟨ρ, a, m, w, ⟨k, rfl, Steps.refl P _⟩, h1, .refl h1.heap, h3⟩
  | scope c ih =>
    intro hok k s e s' ρ a m w hx h1 h2 h3 h4
    obtain ⟨ρ1, a1, m1, w1, q1, q2⟩ := ih hok (.inScope c :: k) s e s' ρ a m w hx h1 h2 h3 h4
    have hstep : Steps P (lone (b.atR a (.code (.scope c) :: k)) (cfn m) w) (lone (b.atR a (.code c :: .inScope c :: k)) (cfn m) w) := .one stepR_scope
    refine ⟨ρ1, a1, m1, w1, ?_, q2⟩
    cases e with
    | normal => exact Steps.trans hstep (Steps.trans q1 (.one stepR_inScope))
    | exit id => exact .steps hstep (Arr.pass (by simp) (fun _ => rfl) q1)
    | ret => exact .steps hstep (Arr.pass (by simp) (fun _ => rfl) q1)
    | pan v => exact .steps hstep (Arr.pass (by simp) (fun _ => rfl) q1)
  | label l =>
    intro _ k s x s' ρ a m w hx h1 h2 h3 h4
    have hx' : some (AExit.normal, s) = some (x, s') := hx
    cases hx'
    exact ⟨ρ, a, m, w, .one stepR_label, h1, .refl h1.heap, h3⟩
  | goto l => intro _ k s x s' ρ a m w hx; cases hx
  | ret =>
    intro _ k s x s' ρ a m w hx h1 h2 h3 h4
    have hx' : some (AExit.ret, s) = some (x, s') := hx
    cases hx'
    exact ⟨ρ, a, m, w, ⟨k, Steps.refl P _⟩, h1, .refl h1.heap, h3⟩
  | refuse why => intro _ k s x s' ρ a m w hx; cases hx

end
end Go.Eng
