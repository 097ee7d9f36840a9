/- The engine, part P6: one operation of a region whose order is open. -/
import Derived.Test.YtpnkohfmpdehaaaGreatDoorEngP5
set_option linter.unusedVariables false
set_option linter.unusedSimpArgs false
set_option linter.unusedSectionVars false
namespace Go.Eng

section
variable {P : Program} {env : Nat → Value} {okc : FuncId → Code → Bool} {X : Cx} {call : CallF} {rd : Bool} {ops : Array Oper} {tm : T AVal} {n : Nat}
  {its : List It} {pz : Option Nat} {start R : Nat} {s0 fin : DS} {b : Frame} {cfn : FrameMode → List Frame}

variable (hR : Run P X call rd ops tm n its pz start R s0 fin)
include hR

theorem split_at {i : Nat} {t : It} (ht : its[i]? = some t) : its = its.take i ++ t :: its.drop (i + 1) := by
  obtain ⟨h, rfl⟩ := List.getElem?_eq_some_iff.1 ht
  rw [List.getElem_cons_drop, List.take_append_drop]

theorem mem_take {i : Nat} {it : It} (h : it ∈ its.take i) : ∃ j, j < i ∧ its[j]? = some it := by
  obtain ⟨j, hj⟩ := List.getElem?_of_mem h
  rw [List.getElem?_take] at hj
  split at hj
  · rename_i hlt; exact ⟨j, hlt, hj⟩
  · cases hj
theorem mem_drop {i : Nat} {it : It} (h : it ∈ its.drop (i + 1)) : ∃ j, i < j ∧ its[j]? = some it := by
  obtain ⟨j, hj⟩ := List.getElem?_of_mem h
  rw [List.getElem?_drop] at hj
  exact ⟨i + 1 + j, by omega, hj⟩

variable {S : Nat → Bool} (hS : Closed ops (fun i => S i = true)) {i : Nat} {t : It} (ht : its[i]? = some t) (hi : S i = false) (hp : ∀ e ∈ t.o.after, Region.binds .any e = true → S e.on = true)
include hS ht hi hp

theorem Run.maskS (k : Nat) (hk : bitOf t.m k = true) : S k = true :=
  hR.ready hS (hR.it ht).1 (fun o ho e he hb => by rw [(hR.it ht).2.1] at ho; cases ho; exact hp e he hb) k hk

/-- A later operation that is done was not asked to wait for this one. -/
theorem Run.later {j : Nat} {it : It} (hj : its[j]? = some it) (hij : i < j) (hd : S j = true) : t.o.apart ops it.o = true := by
  rcases (hR.mask (hR.it hj).1).2.2 i (t.o, t.m) hij (hR.it ht).1 with h | h
  · have := hR.ahead hS (hR.it hj).1 hd i h
    rw [hi] at this; cases this
  · exact h
theorem Run.earlier {j : Nat} {it : It} (hj : its[j]? = some it) (hij : j < i) (hd : it.o.apart ops t.o = false) : S j = true := by
  rcases (hR.mask (hR.it ht).1).2.2 j (it.o, it.m) hij (hR.it hj).1 with h | h
  · exact hR.maskS hS ht hi hp j h
  · rw [hd] at h; cases h

theorem Run.slot_eq (hdn : ∀ (j : Nat) t, its[j]? = some t → S j = true → t.kd ≠ .hole) {x : Nat} (hx : x ∈ t.o.looksAt ops) : lookL t.s.loc x tm = looks S tm its x := by
  have hlt : i < its.length := (List.getElem?_eq_some_iff.1 ht).1
  have h1 := loc_looks hR.chain hR.loc x i (by omega)
  rw [stAt_of ht] at h1
  rw [h1]
  unfold looks
  conv => rhs; rw [split_at hR ht]
  rw [List.foldl_append, List.foldl_cons]
  have hself : ¬ (S t.i = true ∧ t.o.dst = some x) := by rw [(hR.it ht).2.2.1, hi]; simp
  rw [if_neg hself, looks_none (its.drop (i + 1))]
  · refine looks_congr (S := alive its) (S' := S) (t := x) (its.take i) (fun it hit hd => ?_) (tm.get x)
    obtain ⟨j, hj, hjt⟩ := mem_take hR hit
    rw [(hR.it hjt).2.2.1]
    have hSj : S j = true := by
      refine hR.earlier hS ht hi hp hjt hj ?_
      cases hap : it.o.apart ops t.o with
      | false => rfl
      | true => exact absurd hx ((Oper.apart_spec hap).1 x hd)
    rw [hSj]
    unfold alive
    rw [hjt]
    have := hdn j it hjt hSj
    show (!isHole it.kd) = true
    cases hk : it.kd <;> first | rfl | exact absurd hk this
  · intro it hit hd
    obtain ⟨j, hj, hjt⟩ := mem_drop hR hit
    rw [(hR.it hjt).2.2.1]
    cases hSj : S j with
    | false => rfl
    | true =>
      have := hR.later hS ht hi hp hjt hj hSj
      exact absurd hx ((Oper.apart_spec this).2.2 x hd)

theorem Run.slot_after (x : Nat) : looks (fun j => S j || decide (j = i)) tm its x = if t.o.dst = some x then some t.v else looks S tm its x := by
  by_cases hd : t.o.dst = some x
  · rw [if_pos hd]
    unfold looks
    conv => lhs; rw [split_at hR ht]
    rw [List.foldl_append, List.foldl_cons]
    rw [if_pos ⟨by simp [(hR.it ht).2.2.1], hd⟩]
    refine looks_none (S := fun j => S j || decide (j = i)) (t := x) (its.drop (i + 1)) ?_ _
    intro it hit hd'
    obtain ⟨j, hj, hjt⟩ := mem_drop hR hit
    simp only [(hR.it hjt).2.2.1]
    have hne : ¬ j = i := by omega
    simp only [hne, decide_false, Bool.or_false]
    cases hSj : S j with
    | false => rfl
    | true =>
      have := hR.later hS ht hi hp hjt hj hSj
      exact absurd hd' ((Oper.apart_spec this).2.1 x hd)
  · rw [if_neg hd]
    unfold looks
    refine looks_congr (S := fun j => S j || decide (j = i)) (S' := S) (t := x) its (fun it hit hd' => ?_) (tm.get x)
    obtain ⟨j, hj⟩ := List.getElem?_of_mem hit
    rw [(hR.it hj).2.2.1]
    have hne : ¬ j = i := by
      intro e; subst e
      rw [ht] at hj; cases hj
      exact hd hd'
    simp [hne]

omit hp hi hS in
theorem Run.dst_ok {a : Act} (hn : a.tmps.size = n) : ∀ d, t.o.dst = some d → d < a.tmps.size := by
  intro d hd
  have hdr := hR.draw
  unfold drawOk at hdr
  rw [Bool.and_eq_true] at hdr
  rw [hn]
  refine dstsOk_mem hdr.1 t.o ?_ d hd
  have := (hR.it ht).2.1
  have h2 : ops.toList[i]? = some t.o := by simpa using this
  exact List.mem_of_getElem? h2

omit hS in
/-- An operation is done. -/
theorem Inv.move {sn sn' : List Sn} {ds ds' : List ADefd} {h h' : AHeap} {um um' : UM} {ρ ρ' : Rho} {a : Act} {m m' : FrameMode} {w w' : World} (inv : Inv P env okc X ops tm n its start R fin b cfn S sn ds h um ρ a m w)
    {x : Value} {d' : List Deferred} (hnh : t.kd ≠ .hole) (hsub : ρ.sub ρ') (hnew : ∀ y, ¬ ((mayAlloc P t.o.op = true ∧ y = t.rid) ∨ h.next ≤ y) → ρ' y = ρ y) (hv : VRel ρ' env t.v x)
    (suf : ∃ pre, fin.snaps = pre ++ sn')
    (effs : ∀ (j : Nat) t ds' h' um', its[j]? = some t → t.kd = .eff ds' h' um' → ((S j || decide (j = i)) = true ↔ ∃ s ∈ sn', s.e = j))
    (cur : ∀ j, j ≤ its.length → (stAt its fin j).snaps = sn' → (stAt its fin j).h = h' ∧ (stAt its fin j).ds = ds' ∧ (stAt its fin j).um = um')
    (defs : DefsRel env ρ' ds' d') (mode : ModeRel env ρ' um' m') (heap : HRel P env okc ρ' (commitAll (openAt sn' fin.al) h') w') (hole : ∀ p ∈ openAt sn' fin.al, h'.get p.rid = none) (room : R ≤ h'.next)
    (cs : CsOk b cfn um') : Inv P env okc X ops tm n its start R fin b cfn (fun j => S j || decide (j = i)) sn' ds' h' um' ρ' ({ a with defers := d' }.put t.o.dst x) m' w' := by
  have hS := inv.closed
  obtain ⟨t1, t2, t3, t4⟩ := hR.it ht
  refine ⟨?_, ?_, ?_, suf, effs, cur, ?_, by rw [put_size]; exact inv.size, by rw [put_defs]; exact defs, mode, heap, hole, ?_, room, inv.glob.mono hsub, cs⟩
  · intro j o hj ho e he hb
    simp only [Bool.or_eq_true, decide_eq_true_eq] at hj ⊢
    rcases hj with hj | rfl
    · exact .inl (hS j o hj ho e he hb)
    · rw [t2] at ho; cases ho
      exact .inl (hp e he hb)
  · intro j hj
    simp only [Bool.or_eq_true, decide_eq_true_eq] at hj
    rcases hj with hj | rfl
    · exact inv.inb j hj
    · exact (List.getElem?_eq_some_iff.1 ht).1
  · intro j u hu hj
    simp only [Bool.or_eq_true, decide_eq_true_eq] at hj
    rcases hj with hj | rfl
    · exact inv.done j u hu hj
    · rw [ht] at hu; cases hu; exact hnh
  · intro x' v hl
    rw [hR.slot_after inv.closed ht hi hp] at hl
    rw [put_get { a with defers := d' } _ _ _ (hR.dst_ok ht inv.size)]
    by_cases hd : t.o.dst = some x'
    · rw [if_pos hd] at hl ⊢
      cases hl
      exact ⟨x, rfl, hv⟩
    · rw [if_neg hd] at hl ⊢
      obtain ⟨y, q1, q2⟩ := inv.slots x' v hl
      exact ⟨y, q1, q2.mono hsub⟩
  · intro j o ho hj hm
    simp only [Bool.or_eq_false_iff, decide_eq_false_iff_not] at hj
    rw [hnew]
    · exact inv.fresh j o ho hj.1 hm
    · rintro (⟨hm', he⟩ | hle)
      · rw [t4] at he
        exact hR.rid_ne ho hm t2 hm' hj.2 he
      · have := hR.rid_room ho hm
        have := inv.room
        omega

/-- No effect that is done stands behind the operation. -/
theorem Run.notAhead {sn : List Sn} (hsn : ∀ s ∈ sn, ∃ j t', its[j]? = some t' ∧ s.e = j ∧ s.m = t'.m ∧ S j = true) (s : Sn) (hs : s ∈ sn) : bitOf s.m i = false := by
  obtain ⟨j, t', q1, q2, q3, q4⟩ := hsn s hs
  cases hb : bitOf s.m i with
  | false => rfl
  | true =>
    rw [q3] at hb
    have := hR.ahead hS (hR.it q1).1 q4 i hb
    rw [hi] at this; cases this

end

section
variable {P : Program} {env : Nat → Value} {okc : FuncId → Code → Bool} {X : Cx} {call : CallF} {rd : Bool} {ops : Array Oper} {tm : T AVal} {n : Nat}
  {its : List It} {pz : Option Nat} {start R : Nat} {s0 fin : DS} {b : Frame} {cfn : FrameMode → List Frame}
  {S : Nat → Bool} {sn : List Sn} {ds : List ADefd} {h : AHeap} {um : UM} {ρ : Rho} {a : Act} {m : FrameMode} {w : World}
variable (hR : Run P X call rd ops tm n its pz start R s0 fin)
variable (inv : Inv P env okc X ops tm n its start R fin b cfn S sn ds h um ρ a m w)
include hR inv

/-- The effects that are done are operations of the trace. -/
theorem Inv.sn_it (s : Sn) (hs : s ∈ sn) : ∃ j t', its[j]? = some t' ∧ s.e = j ∧ s.m = t'.m ∧ S j = true := by
  obtain ⟨pre, hpre⟩ := inv.suf
  obtain ⟨l1, l2, hl⟩ := List.append_of_mem hs
  have hf : (stAt its fin its.length).snaps = (pre ++ l1) ++ s :: l2 := by rw [stAt_end, hpre, hl, List.append_assoc]
  obtain ⟨j', t', ds', h', um', q1, q2, q3, q4, q5⟩ := snaps_items hR.chain hR.snaps its.length (Nat.le_refl _) _ _ _ hf
  refine ⟨j', t', q2, by rw [q4], by rw [q4], ?_⟩
  exact (inv.effs j' t' ds' h' um' q2 q3).2 ⟨s, hs, by rw [q4]⟩

/-- No two effects have the same number. -/
theorem Run.apart_snaps : fin.snaps.Pairwise (fun a b => a.e ≠ b.e) := by
  have := snaps_apart hR.chain hR.snaps its.length (Nat.le_refl _)
  rwa [stAt_end] at this

/-- Where the effects of a tail are all done, and no more: it is the tail that is done. -/
theorem Inv.tail_eq {l pre : List Sn} (hl : fin.snaps = pre ++ l) (hdone : ∀ s ∈ l, S s.e = true) (hmore : ∀ s ∈ pre, S s.e = false) : l = sn := by
  obtain ⟨pre', hpre'⟩ := inv.suf
  have hap := hR.apart_snaps inv
  have hdone' : ∀ s ∈ sn, S s.e = true := fun s hs => by
    obtain ⟨j, t', q1, q2, q3, q4⟩ := inv.sn_it hR s hs
    rw [q2]; exact q4
  have hin : ∀ s ∈ fin.snaps, S s.e = true → ∃ s' ∈ sn, s'.e = s.e := fun s hs hd => by
    obtain ⟨l1, l2, hl⟩ := List.append_of_mem hs
    have hf : (stAt its fin its.length).snaps = l1 ++ s :: l2 := by rw [stAt_end, hl]
    obtain ⟨j', t', ds', h', um', q1, q2, q3, q4, q5⟩ := snaps_items hR.chain hR.snaps its.length (Nat.le_refl _) _ _ _ hf
    have he : s.e = j' := by rw [q4]
    obtain ⟨s', h1, h2⟩ := (inv.effs j' t' ds' h' um' q2 q3).1 (by rw [← he]; exact hd)
    exact ⟨s', h1, by rw [h2, he]⟩
  -- both are tails of one list
  have hs1 : l <:+ fin.snaps := ⟨pre, hl.symm⟩
  have hs2 : sn <:+ fin.snaps := ⟨pre', hpre'.symm⟩
  rcases List.suffix_or_suffix_of_suffix hs1 hs2 with ⟨q, hq⟩ | ⟨q, hq⟩
  · -- sn = q ++ l
    cases q with
    | nil => simpa using hq
    | cons c q =>
      exfalso
      have hc : c ∈ sn := by rw [← hq]; simp
      have hcS := hdone' c hc
      have hpc : pre = pre' ++ (c :: q) := by
        have : pre ++ l = (pre' ++ (c :: q)) ++ l := by rw [← hl, hpre', ← hq, List.append_assoc]
        exact List.append_cancel_right this
      have := hmore c (by rw [hpc]; simp)
      rw [this] at hcS; cases hcS
  · -- l = q ++ sn
    cases q with
    | nil => simpa using hq.symm
    | cons c q =>
      exfalso
      have hc : c ∈ l := by rw [← hq]; simp
      have hcf : c ∈ fin.snaps := by rw [hl]; simp [hc]
      obtain ⟨s', h1, h2⟩ := hin c hcf (hdone c hc)
      have hf : fin.snaps = (pre ++ [c]) ++ (q ++ sn) := by rw [hl, ← hq]; simp
      rw [hf, List.pairwise_append] at hap
      exact hap.2.2 c (by simp) s' (by simp [h1]) h2.symm

end
end Go.Eng
