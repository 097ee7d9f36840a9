/- The engine, part P2: heaps with blocks that an operation does not reach; what stands ahead of what. -/
import Derived.Test.YtggjeecpadnihaaGreatDoorEngP1
set_option linter.unusedSectionVars false
set_option linter.unusedVariables false
set_option linter.unusedSimpArgs false
namespace Go.Eng

section
variable {P : Program} {env : Nat → Value} {okc : FuncId → Code → Bool} {N : Nat → Prop} {ρ ρ' : Rho} {F F' h h' : AHeap} {w w' : World}

/-- A heap of which less is known. -/
theorem HRel.less (hr : HRel P env okc ρ F w) (hn : h.next = F.next) (hl : ∀ b i, ρ b = some i → h.get b = F.get b ∨ h.get b = none) (hc : ∀ b, h.next ≤ b → h.get b = none) : HRel P env okc ρ h w := by
  have hg : ∀ b i o, ρ b = some i → h.get b = some o → F.get b = some o := fun b i o hb ho => by
    rcases hl b i hb with e | e
    · rw [← e]; exact ho
    · rw [e] at ho; cases ho
  refine ⟨fun b o i h1 h2 h3 => hr.obj b o i (hg b i o h3 h1) h2 h3, hr.bound, ?_, fun b hb => hr.next b (by rw [← hn]; exact hb), hc⟩
  intro b b' i i' hne h1 h2 h3 ⟨o', h4, h5⟩
  refine hr.inj b b' i i' hne h1 h2 ?_ ⟨o', hg b' i' o' h2 h4, h5⟩
  cases ho : h.get b with
  | none => rw [ho] at h3; exact h3.elim
  | some o => rw [ho] at h3; rw [hg b i o h1 ho]; exact h3

theorem HRel.same (hr : HRel P env okc ρ F w) (hn : h.next = F.next) (hl : ∀ b, h.get b = F.get b) : HRel P env okc ρ h w :=
  hr.less hn (fun b _ _ => .inl (hl b)) (fun b hb => by rw [hl]; exact hr.clean b (by rw [← hn]; exact hb))

theorem Go'.same (hgo : Go' P env okc N ρ F w ρ' h' w') {h'' : AHeap} (hn : h''.next = h'.next) (hl : ∀ b, h''.get b = h'.get b) : Go' P env okc N ρ F w ρ' h'' w' where
  sub := hgo.sub
  new := hgo.new
  rel := hgo.rel.same hn hl
  unt := fun B hB hu => by
    obtain ⟨h1, h2⟩ := hgo.unt B hB hu
    exact ⟨h1, fun b i hb he => by rw [hl]; exact h2 b i hb he⟩
  size := hgo.size
  os := hgo.os
  tape := hgo.tape
  output := hgo.output
  next := by rw [hn]; exact hgo.next
  keep := fun b hb hg => by rw [hl]; exact hgo.keep b hb hg
  untp := fun B hB hu b i hb he => by rw [hl]; exact hgo.untp B hB hu b i hb he

/-- Blocks that are still to be made may be told of ahead. -/
theorem Go'.ahead (hr : HRel P env okc ρ h w) (hn : F.next = h.next) (hl : ∀ b, F.get b = h.get b ∨ (ρ b = none ∧ N b ∧ b < h.next)) : Go' P env okc N ρ h w ρ F w := by
  have hg : ∀ b i, ρ b = some i → F.get b = h.get b := fun b i hb => by
    rcases hl b with e | ⟨e, _⟩
    · exact e
    · rw [e] at hb; cases hb
  refine ⟨.refl _, fun _ _ => rfl, ?_, ?_, Nat.le_refl _, rfl, rfl, rfl, by rw [hn]; exact Nat.le_refl _, ?_, ?_⟩
  · refine hr.less hn (fun b i hb => .inl (hg b i hb)) (fun b hb => ?_)
    rcases hl b with e | ⟨_, _, e⟩
    · rw [e]; exact hr.clean b (by rw [← hn]; exact hb)
    · rw [hn] at hb; omega
  · intro B hB hu
    exact ⟨rfl, fun b i hb he => by rw [hg b i hb]; exact hu b i hb he⟩
  · intro b hb h1
    rcases hl b with e | ⟨_, e, _⟩
    · rw [e]; exact h1
    · exact absurd e hb
  · intro B hB hu b i hb he
    rw [hg b i hb]; exact hu b i hb he

/-- What an operation does not reach stays. -/
theorem Go'.frame (hr : HRel P env okc ρ F w) (hn : h.next = F.next) (hless : ∀ b, h.get b = F.get b ∨ h.get b = none) (hgo : Go' P env okc N ρ h w ρ' h' w') (hn' : F'.next = h'.next)
    (hF : ∀ b, F'.get b = h'.get b ∨ (∃ o, F.get b = some o ∧ F'.get b = some o ∧ liveW (some o) ∧ h.get b = none ∧ ¬ N b)) : Go' P env okc N ρ F w ρ' F' w' := by
  -- a block that is not reached
  have hU : ∀ b i o, ρ b = some i → F.get b = some o → liveW (some o) → h.get b = none → Unt ρ h i.blk ∧ UntP ρ h i.blk := by
    intro b i o hb hf hl hg
    have key : ∀ b1 i1, ρ b1 = some i1 → i1.blk = i.blk → ¬ (∃ o1, h.get b1 = some o1 ∧ o1.isDead = false) := by
      rintro b1 i1 h1 he ⟨o1, h2, h3⟩
      by_cases e : b = b1
      · subst e; rw [hg] at h2; cases h2
      · have h4 : F.get b1 = some o1 := by
          rcases hless b1 with e' | e'
          · rw [← e']; exact h2
          · rw [e'] at h2; cases h2
        exact hr.inj b b1 i i1 e hb h1 (by rw [hf]; exact hl) ⟨o1, h4, h3⟩ he.symm
    refine ⟨fun b1 i1 h1 he hlv => ?_, key⟩
    cases ho : h.get b1 with
    | none => rw [ho] at hlv; exact hlv
    | some o1 => rw [ho] at hlv; exact key b1 i1 h1 he ⟨o1, ho, hlv.1⟩
  have hρ : ∀ b i, ¬ N b → ρ' b = some i → ρ b = some i := fun b i hb h1 => by rw [← hgo.new b hb]; exact h1
  have hclean : ∀ b, F'.next ≤ b → F'.get b = none := by
    intro b hb
    rcases hF b with e | ⟨o, e1, _⟩
    · rw [e]; exact hgo.rel.clean b (by rw [← hn']; exact hb)
    · have := hr.clean b (by have := hgo.next; omega)
      rw [this] at e1; cases e1
  refine ⟨hgo.sub, hgo.new, ⟨?_, hgo.rel.bound, ?_, fun b hb => hgo.rel.next b (by rw [← hn']; exact hb), hclean⟩, ?_, hgo.size, hgo.os, hgo.tape, hgo.output, by rw [← hn, hn']; exact hgo.next, ?_, ?_⟩
  · intro b o i h1 h2 h3
    rcases hF b with e | ⟨o1, e1, e2, e3, e4, e5⟩
    · exact hgo.rel.obj b o i (by rw [← e]; exact h1) h2 h3
    · rw [e2] at h1; cases h1
      have hb := hρ b i e5 h3
      obtain ⟨ob, q1, q2⟩ := hr.obj b o i e1 h2 hb
      obtain ⟨u1, u2⟩ := hU b i o hb e1 e3 e4
      refine ⟨ob, ?_, q2.mono hgo.sub⟩
      rw [(hgo.unt i.blk (hr.bound b i hb) u1).1]; exact q1
  · intro b1 b2 i1 i2 hne h1 h2 h3 ⟨o2, h4, h5⟩
    rcases hF b1 with e | ⟨o1, e1, e2, e3, e4, e5⟩
    · rcases hF b2 with f | ⟨o2', f1, f2, f3, f4, f5⟩
      · exact hgo.rel.inj b1 b2 i1 i2 hne h1 h2 (by rw [← e]; exact h3) ⟨o2, by rw [← f]; exact h4, h5⟩
      · have hb2 := hρ b2 i2 f5 h2
        obtain ⟨u1, u2⟩ := hU b2 i2 o2' hb2 f1 f3 f4
        have := hgo.untp i2.blk (hr.bound b2 i2 hb2) u2 b1 i1 h1
        intro he
        refine this he ?_
        rw [e] at h3
        cases ho : h'.get b1 with
        | none => rw [ho] at h3; exact h3.elim
        | some o => rw [ho] at h3; exact ⟨o, rfl, h3.1⟩
    · have hb1 := hρ b1 i1 e5 h1
      obtain ⟨u1, u2⟩ := hU b1 i1 o1 hb1 e1 e3 e4
      rcases hF b2 with f | ⟨o2', f1, f2, f3, f4, f5⟩
      · have := hgo.untp i1.blk (hr.bound b1 i1 hb1) u2 b2 i2 h2
        intro he
        exact this he.symm ⟨o2, by rw [← f]; exact h4, h5⟩
      · have hb2 := hρ b2 i2 f5 h2
        exact hr.inj b1 b2 i1 i2 hne hb1 hb2 (by rw [e1]; exact e3) ⟨o2', f1, f3.1⟩
  · intro B hB hu
    have hu' : Unt ρ h B := fun b i hb he hlv => by
      rcases hless b with e | e
      · rw [e] at hlv; exact hu b i hb he hlv
      · rw [e] at hlv; exact hlv
    obtain ⟨h1, h2⟩ := hgo.unt B hB hu'
    refine ⟨h1, fun b i hb he => ?_⟩
    rcases hF b with e | ⟨o, e1, e2, e3, e4, e5⟩
    · rw [e]; exact h2 b i hb he
    · intro _
      exact hu b i (hρ b i e5 hb) he (by rw [e1]; exact e3)
  · intro b hb h1
    have h2 : h.get b = none := by
      rcases hless b with e | e
      · rw [e]; exact h1
      · exact e
    rcases hF b with e | ⟨o, e1, _⟩
    · rw [e]; exact hgo.keep b hb h2
    · rw [h1] at e1; cases e1
  · intro B hB hu b i hb he
    have hu' : UntP ρ h B := fun b i hb he ⟨o, h1, h2⟩ => by
      rcases hless b with e | e
      · rw [e] at h1; exact hu b i hb he ⟨o, h1, h2⟩
      · rw [e] at h1; cases h1
    rcases hF b with e | ⟨o, e1, e2, e3, e4, e5⟩
    · rw [e]; exact hgo.untp B hB hu' b i hb he
    · intro _
      exact hu b i (hρ b i e5 hb) he ⟨o, e1, e3.1⟩
end

/-! ### Bits -/
theorem bitOf_eq (m i : Nat) : bitOf m i = m.testBit i := by
  unfold bitOf
  show (match (m >>> i) &&& 1 with | 0 => false | _ => true) = _
  rw [Nat.testBit, Nat.and_comm]
  cases 1 &&& (m >>> i) <;> rfl

theorem bitOf_lor (a b i : Nat) : bitOf (Nat.lor a b) i = (bitOf a i || bitOf b i) := by
  simp only [bitOf_eq]
  exact Nat.testBit_or a b i
theorem bitOf_pow (k i : Nat) : bitOf (Nat.pow 2 k) i = decide (k = i) := by
  rw [bitOf_eq]
  exact Nat.testBit_two_pow
theorem bitOf_zero (i : Nat) : bitOf 0 i = false := by rw [bitOf_eq]; exact Nat.zero_testBit i

/-! ### What stands ahead of what -/
/-- A set of operations with all that stand ahead of them. -/
def Closed (ops : Array Oper) (S : Nat → Prop) : Prop := ∀ i o, S i → ops[i]? = some o → ∀ e ∈ o.after, Region.binds .any e = true → S e.on

/-- What a mask promises of an operation. -/
def MaskOk (ops : Array Oper) (m i : Nat) : Prop := ∀ S, Closed ops S → (∀ o, ops[i]? = some o → ∀ e ∈ o.after, Region.binds .any e = true → S e.on) → ∀ j, bitOf m j = true → S j

theorem edgeMask_bit (T' : T Nat) (j : Nat) : ∀ es : List Edge, bitOf (edgeMask T' es) j = true → ∃ e ∈ es, Region.binds .any e = true ∧ (e.on = j ∨ ∃ m, T'.get e.on = some m ∧ bitOf m j = true)
  | [], h => by rw [show edgeMask T' [] = 0 from rfl, bitOf_zero] at h; cases h
  | e :: es, h => by
    unfold edgeMask at h
    split at h
    · rename_i hb
      rw [bitOf_lor, bitOf_lor, bitOf_pow] at h
      simp only [Bool.or_eq_true, decide_eq_true_eq] at h
      rcases h with (h | h) | h
      · exact ⟨e, by simp, hb, .inl h⟩
      · cases hm : T'.get e.on with
        | none => rw [hm, Option.getD_none, bitOf_zero] at h; cases h
        | some m => rw [hm, Option.getD_some] at h; exact ⟨e, by simp, hb, .inr ⟨m, hm, h⟩⟩
      · obtain ⟨e', h1, h2⟩ := edgeMask_bit T' j es h
        exact ⟨e', by simp [h1], h2⟩
    · obtain ⟨e', h1, h2⟩ := edgeMask_bit T' j es h
      exact ⟨e', by simp [h1], h2⟩

theorem planFrom_ok {ops : Array Oper} : ∀ (l : List Oper) (i : Nat) (t : T Nat), ops.toList.drop i = l → (∀ j m, t.get j = some m → MaskOk ops m j) →
    (planFrom l i t).map (·.1) = l ∧ ∀ (j : Nat) om, (planFrom l i t)[j]? = some om → MaskOk ops om.2 (i + j)
  | [], i, t, hl, ht => ⟨rfl, by simp [planFrom]⟩
  | o :: l, i, t, hl, ht => by
    have hoi : ops[i]? = some o := by
      have : ops.toList[i]? = some o := by
        rw [← List.head?_drop, hl]; rfl
      simpa using this
    have hl' : ops.toList.drop (i + 1) = l := by rw [← List.drop_drop, hl]; rfl
    have hm : MaskOk ops (edgeMask t o.after.toList) i := by
      intro S hS hp j hj
      obtain ⟨e, h1, h2, h3⟩ := edgeMask_bit t j _ hj
      have he : S e.on := hp o hoi e (by simpa using h1) h2
      rcases h3 with rfl | ⟨m, h4, h5⟩
      · exact he
      · exact ht e.on m h4 S hS (fun o' ho' e' he' hb' => hS e.on o' he ho' e' he' hb') j h5
    obtain ⟨q1, q2⟩ := planFrom_ok l (i + 1) (T.set (edgeMask t o.after.toList) t i) hl' (fun j m hj => by
      rw [T.get_set] at hj
      split at hj
      · rename_i e; subst e; cases hj; exact hm
      · exact ht j m hj)
    refine ⟨by show o :: _ = _; exact congrArg (o :: ·) q1, fun j om hj => ?_⟩
    cases j with
    | zero =>
      have : om = (o, edgeMask t o.after.toList) := by
        have hj' : ((o, edgeMask t o.after.toList) :: planFrom l (Nat.succ i) (T.set (edgeMask t o.after.toList) t i))[0]? = some om := hj
        simpa using hj'.symm
      rw [this]; exact hm
    | succ j =>
      have hj' : (planFrom l (i + 1) (T.set (edgeMask t o.after.toList) t i))[j]? = some om := hj
      have := q2 j om hj'
      rwa [show i + (j + 1) = i + 1 + j by omega]

theorem plan_ok (ops : Array Oper) : (plan ops).map (·.1) = ops.toList ∧ ∀ (j : Nat) om, (plan ops)[j]? = some om → MaskOk ops om.2 j := by
  obtain ⟨h1, h2⟩ := planFrom_ok (ops := ops) ops.toList 0 .leaf (by simp) (by simp)
  exact ⟨h1, fun j om hj => by have := h2 j om hj; simpa using this⟩

/-! ### Blocks that are laid in -/
theorem commitAll_next (l : List Pd) (h : AHeap) : (commitAll l h).next = h.next := by
  induction l with
  | nil => rfl
  | cons p l ih => exact ih
theorem commit_next (m : Nat) (l : List Pd) (h : AHeap) : (commit m l h).next = h.next := by
  induction l with
  | nil => rfl
  | cons p l ih =>
    unfold commit
    cases bitOf m p.i <;> exact ih

theorem commitAll_get (h : AHeap) (b : Nat) : ∀ l : List Pd, (∀ p ∈ l, p.rid ≠ b) → (commitAll l h).get b = h.get b
  | [], _ => rfl
  | p :: l, hl => by
    unfold commitAll
    rw [AHeap.get_put, if_neg (hl p (by simp))]
    exact commitAll_get h b l (fun q hq => hl q (by simp [hq]))
theorem commitAll_mem (h : AHeap) : ∀ (l : List Pd), l.Pairwise (fun p q => p.rid ≠ q.rid) → ∀ p ∈ l, (commitAll l h).get p.rid = some p.obj
  | [], _, p, hp => by simp at hp
  | q :: l, hd, p, hp => by
    rw [List.pairwise_cons] at hd
    unfold commitAll
    rw [AHeap.get_put]
    rcases List.mem_cons.1 hp with rfl | hp
    · rw [if_pos rfl]
    · rw [if_neg (hd.1 p hp)]
      exact commitAll_mem h l hd.2 p hp

theorem commit_get (m : Nat) (h : AHeap) (b : Nat) : ∀ l : List Pd, (∀ p ∈ l, bitOf m p.i = true → p.rid ≠ b) → (commit m l h).get b = h.get b
  | [], _ => rfl
  | p :: l, hl => by
    have ih := commit_get m h b l (fun q hq => hl q (by simp [hq]))
    unfold commit
    cases hb : bitOf m p.i with
    | true => simp only []; rw [AHeap.get_put, if_neg (hl p (by simp) hb)]; exact ih
    | false => exact ih
theorem commit_mem (m : Nat) (h : AHeap) : ∀ (l : List Pd), l.Pairwise (fun p q => p.rid ≠ q.rid) → ∀ p ∈ l, bitOf m p.i = true → (commit m l h).get p.rid = some p.obj
  | [], _, p, hp, _ => by simp at hp
  | q :: l, hd, p, hp, hm => by
    rw [List.pairwise_cons] at hd
    unfold commit
    rcases List.mem_cons.1 hp with rfl | hp
    · rw [hm]; simp only []; rw [AHeap.get_put, if_pos rfl]
    · cases hb : bitOf m q.i with
      | true => simp only []; rw [AHeap.get_put, if_neg (hd.1 p hp)]; exact commit_mem m h l hd.2 p hp hm
      | false => exact commit_mem m h l hd.2 p hp hm

theorem mem_keep (m : Nat) (p : Pd) : ∀ l : List Pd, p ∈ keep m l ↔ p ∈ l ∧ bitOf m p.i = false
  | [] => by simp [keep]
  | q :: l => by
    unfold keep
    cases hb : bitOf m q.i with
    | true =>
      simp only []
      rw [mem_keep m p l, List.mem_cons]
      constructor
      · rintro ⟨h1, h2⟩; exact ⟨.inr h1, h2⟩
      · rintro ⟨rfl | h1, h2⟩
        · rw [hb] at h2; cases h2
        · exact ⟨h1, h2⟩
    | false =>
      simp only []
      rw [List.mem_cons, List.mem_cons, mem_keep m p l]
      constructor
      · rintro (rfl | ⟨h1, h2⟩)
        · exact ⟨.inl rfl, hb⟩
        · exact ⟨.inr h1, h2⟩
      · rintro ⟨rfl | h1, h2⟩
        · exact .inl rfl
        · exact .inr ⟨h1, h2⟩
theorem keep_sub (m : Nat) : ∀ l : List Pd, (keep m l).Sublist l
  | [] => .slnil
  | q :: l => by
    unfold keep
    cases bitOf m q.i with
    | true => exact (keep_sub m l).cons q
    | false => exact (keep_sub m l).cons_cons q

theorem openAt_cons (s : Sn) (l : List Sn) (al : List Pd) : openAt (s :: l) al = keep s.m (openAt l al) := rfl
theorem mem_openAt (p : Pd) (al : List Pd) : ∀ l : List Sn, p ∈ openAt l al ↔ p ∈ al ∧ ∀ s ∈ l, bitOf s.m p.i = false
  | [] => by show p ∈ al ↔ _; simp
  | s :: l => by
    rw [openAt_cons, mem_keep, mem_openAt p al l]
    constructor
    · rintro ⟨⟨h1, h2⟩, h3⟩
      refine ⟨h1, fun t ht => ?_⟩
      rcases List.mem_cons.1 ht with rfl | ht
      · exact h3
      · exact h2 t ht
    · rintro ⟨h1, h2⟩
      exact ⟨⟨h1, fun t ht => h2 t (by simp [ht])⟩, h2 s (by simp)⟩
theorem openAt_sub (al : List Pd) : ∀ l : List Sn, (openAt l al).Sublist al
  | [] => List.Sublist.refl _
  | s :: l => by rw [openAt_cons]; exact (keep_sub _ _).trans (openAt_sub al l)
end Go.Eng
