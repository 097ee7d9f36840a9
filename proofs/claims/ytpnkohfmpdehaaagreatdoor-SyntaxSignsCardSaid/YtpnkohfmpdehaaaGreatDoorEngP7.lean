/- The engine, part P7: every operation of a region whose order is open. -/
import Derived.Test.YtpnkohfmpdehaaaGreatDoorEngP6
set_option linter.unusedVariables false
set_option linter.unusedSimpArgs false
set_option linter.unusedSectionVars false
namespace Go.Eng

section
variable {P : Program} {env : Nat → Value} {okc : FuncId → Code → Bool} {X : Cx} {call : CallF} {rd : Bool} {ops : Array Oper} {tm : T AVal} {n : Nat}
  {its : List It} {pz : Option Nat} {start R : Nat} {s0 fin : DS} {b : Frame} {cfn : FrameMode → List Frame}
  {S : Nat → Bool} {sn : List Sn} {ds : List ADefd} {h : AHeap} {um : UM} {ρ : Rho} {a : Act} {m : FrameMode} {w : World}
variable (hR : Run P X call rd ops tm n its pz start R s0 fin)
variable (inv : Inv P env okc X ops tm n its start R fin b cfn S sn ds h um ρ a m w)

/-- The heap of a run: with the blocks that no effect has reached. -/
noncomputable def full (fin : DS) (sn : List Sn) (h : AHeap) : AHeap := commitAll (openAt sn fin.al) h

theorem full_next (fin : DS) (sn : List Sn) (h : AHeap) : (full fin sn h).next = h.next := commitAll_next _ _

include hR

theorem Run.open_apart (l : List Sn) : (openAt l fin.al).Pairwise (fun p q => p.rid ≠ q.rid) := List.Pairwise.sublist (openAt_sub _ _) hR.al_apart

theorem Run.full_mem {p : Pd} (hp : p ∈ openAt sn fin.al) : (full fin sn h).get p.rid = some p.obj := commitAll_mem h _ (hR.open_apart sn) p hp
omit hR in
theorem full_get {c : Nat} (hc : ∀ p ∈ openAt sn fin.al, p.rid ≠ c) : (full fin sn h).get c = h.get c := commitAll_get h c _ hc

/-- What the operands of an operation come to. -/
theorem Run.ev_rel (hg : GlobOk ρ X.nglob) (hsl : ∀ t v, looks S tm its t = some v → ∃ x, a.tmps[t]? = some x ∧ VRel ρ env v x) {o : Oper} {loc : Loc} (heq : ∀ t ∈ o.looksAt ops, lookL loc t tm = looks S tm its t)
    (x : Operand) (v : AVal) (hx : within o.op.operands (evA X loc tm) x = some v) : VRel ρ env v (a.eval x) := by
  unfold within at hx
  split at hx
  rotate_left
  · cases hx
  rename_i hin
  cases x with
  | tmp t =>
    have hx' : some (orAny (lookL loc t tm)) = some v := hx
    rw [heq t (looksAt_tmp hin)] at hx'
    cases hl : looks S tm its t with
    | none => rw [hl] at hx'; cases hx'; exact .any _
    | some z =>
      rw [hl] at hx'; cases hx'
      obtain ⟨y, h1, h2⟩ := hsl t z hl
      have : a.eval (.tmp t) = y := by simp [Act.eval, Array.getD_eq_getD_getElem?, h1]
      rw [this]; exact h2
  | const c => exact ofConst_rel hx
  | global g =>
    have hx' : (match Nat.ble (g + 1) X.nglob with | true => some (AVal.ptr g 0) | false => none) = some v := hx
    split at hx'
    · rename_i hb
      cases hx'
      obtain ⟨i, h1, h2, h3⟩ := hg g (ble_le hb)
      have := VRel.ptr (env := env) 0 h1
      rw [h2, h3] at this; exact this
    · cases hx'
  | func f => cases hx; exact VRels.nil.func .nil

include inv

theorem Inv.done_closed (s : Sn) (hs : s ∈ fin.snaps) (hd : S s.e = true) : ∃ s' ∈ sn, s'.e = s.e := by
  obtain ⟨l1, l2, hl⟩ := List.append_of_mem hs
  have hf : (stAt its fin its.length).snaps = l1 ++ s :: l2 := by rw [stAt_end, hl]
  obtain ⟨j', t', ds', h', um', q1, q2, q3, q4, q5⟩ := snaps_items hR.chain hR.snaps its.length (Nat.le_refl _) _ _ _ hf
  have he : s.e = j' := by rw [q4]
  obtain ⟨s', h1, h2⟩ := (inv.effs j' t' ds' h' um' q2 q3).1 (by rw [← he]; exact hd)
  exact ⟨s', h1, by rw [h2, he]⟩

theorem Inv.sn_done (s : Sn) (hs : s ∈ sn) : S s.e = true := by
  obtain ⟨j, t', q1, q2, q3, q4⟩ := inv.sn_it hR s hs
  rw [q2]; exact q4

variable {i : Nat} {t : It} (ht : its[i]? = some t) (hi : S i = false) (hp : ∀ e ∈ t.o.after, Region.binds .any e = true → S e.on = true)
include ht hi hp

theorem Inv.notAhead (s : Sn) (hs : s ∈ sn) : bitOf s.m i = false := hR.notAhead inv.closed ht hi hp (inv.sn_it hR) s hs

/-- A read comes to the same where it is done. -/
theorem Inv.read_same (hk : t.kd = .read) : ∃ h', execA P X (evA X t.s.loc tm) (full fin sn h) 0 t.o.op = some (.val t.v h') := by
  have hlt : i < its.length := (List.getElem?_eq_some_iff.1 ht).1
  have hmem := items_reads hR.chain its.length (Nat.le_refl _) i t hlt ht hk
  rw [stAt_end] at hmem
  have hah : ahead ⟨i, t.m, t.o.op, t.s.loc, t.v⟩ sn ≠ true := by
    intro hc
    cases hsn : sn with
    | nil => rw [hsn] at hc; cases hc
    | cons s l =>
      rw [hsn] at hc
      have := inv.notAhead hR ht hi hp s (by rw [hsn]; simp)
      rw [show ahead ⟨i, t.m, t.o.op, t.s.loc, t.v⟩ (s :: l) = bitOf s.m i from rfl, this] at hc
      cases hc
  obtain ⟨pre, hpre⟩ := inv.suf
  have hcur : ∀ j, j ≤ its.length → (stAt its fin j).snaps = sn → (stAt its fin j).h = h := fun j hj he => (inv.cur j hj he).1
  rcases List.eq_nil_or_concat pre with rfl | ⟨pre', s, rfl⟩
  · -- all effects are done
    have hfin : fin.snaps = sn := by simpa using hpre
    have hh : fin.h = h := by
      have := hcur its.length (Nat.le_refl _) (by rw [stAt_end]; exact hfin)
      rwa [stAt_end] at this
    rcases hR.last _ hmem with ⟨p, h1, h2⟩ | h1 | h1
    · have hL := hR.maskS inv.closed ht hi hp p h2
      obtain ⟨u, hu, hk'⟩ := hR.pan p h1
      exact absurd hk' (inv.done p u hu hL)
    · rw [hfin] at h1; exact absurd h1 hah
    · rw [hfin, hh] at h1; exact readsAs_spec h1
  · have hpre' : fin.snaps = pre' ++ s :: sn := by rw [hpre]; simp
    -- the next effect
    have hf : (stAt its fin its.length).snaps = pre' ++ s :: sn := by rw [stAt_end, hpre']
    obtain ⟨j', t', ds', h', um', q1, q2, q3, q4, q5⟩ := snaps_items hR.chain hR.snaps its.length (Nat.le_refl _) _ _ _ hf
    have hh : s.h = h := by
      have := hcur j' (by omega) (by rw [stAt_of q2]; exact q5)
      rw [stAt_of q2] at this
      rw [q4]; exact this
    rcases hR.same _ hmem pre' s sn hpre' with h1 | h1 | h1
    · exfalso
      have hd := hR.maskS inv.closed ht hi hp s.e h1
      obtain ⟨s', k1, k2⟩ := inv.done_closed hR s (by rw [hpre']; simp) hd
      have hap := hR.apart_snaps inv
      rw [hpre', List.pairwise_append] at hap
      exact (List.pairwise_cons.1 hap.2.1).1 s' k1 k2.symm
    · exact absurd h1 hah
    · rw [hh] at h1; exact readsAs_spec h1

/-- An effect that is next finds the effects ahead of it done, and no more. -/
theorem Inv.eff_now {ds' : List ADefd} {h' : AHeap} {um' : UM} (hk : t.kd = .eff ds' h' um') : t.s.snaps = sn := by
  have hlt : i < its.length := (List.getElem?_eq_some_iff.1 ht).1
  have hg := (chain_split hR.chain i t ht).2.2.1
  unfold It.good at hg
  rw [hk] at hg
  have hnext := (chain_split hR.chain i t ht).2.2.2
  have hsuf := (snaps_suf hR.chain its.length (Nat.le_refl _) (i + 1) (by omega)).1
  rw [hnext, stAt_end] at hsuf
  have hns : t.next.snaps = ⟨t.i, t.m, t.s.h⟩ :: t.s.snaps := by unfold It.next; rw [hk]
  rw [hns] at hsuf
  obtain ⟨pre, hpre⟩ := hsuf
  have hti := (hR.it ht).2.2.1
  refine inv.tail_eq hR (l := t.s.snaps) (pre := pre ++ [⟨t.i, t.m, t.s.h⟩]) (by rw [← hpre]; simp) ?_ ?_
  · -- done
    cases hsn : t.s.snaps with
    | nil => simp
    | cons c l =>
      have hl := hg.2.1
      rw [hsn] at hl
      have hc : S c.e = true := hR.maskS inv.closed ht hi hp c.e hl
      have hcl := snaps_closed hR.chain (S := fun j => S j = true) (fun j t' ht' hj k hk' => hR.ahead inv.closed (hR.it ht').1 hj k hk') hR.snaps i (by omega) c l (by rw [stAt_of ht]; exact hsn) hc
      intro s hs
      rcases List.mem_cons.1 hs with rfl | hs
      · exact hc
      · exact hcl s hs
  · -- not more
    intro s hs
    cases hd : S s.e with
    | false => rfl
    | true =>
      exfalso
      rcases List.mem_append.1 hs with hs | hs
      · -- a later effect has this one ahead of it
        obtain ⟨l1, l2, hl⟩ := List.append_of_mem hs
        have hf : (stAt its fin its.length).snaps = l1 ++ s :: (l2 ++ ⟨t.i, t.m, t.s.h⟩ :: t.s.snaps) := by rw [stAt_end, ← hpre, hl]; simp
        obtain ⟨j', t', ds2, h2, um2, q1, q2, q3, q4, q5⟩ := snaps_items hR.chain hR.snaps its.length (Nat.le_refl _) _ _ _ hf
        have hg' := (chain_split hR.chain j' t' q2).2.2.1
        unfold It.good at hg'
        rw [q3] at hg'
        have hSj : S j' = true := by have : s.e = j' := by rw [q4]
                                     rw [← this]; exact hd
        have hall : ∀ c ∈ t'.s.snaps, S c.e = true := by
          cases hsn : t'.s.snaps with
          | nil => simp
          | cons c l =>
            have hl := hg'.2.1
            rw [hsn] at hl
            have hc : S c.e = true := hR.ahead inv.closed (hR.it q2).1 hSj c.e hl
            have hcl := snaps_closed hR.chain (S := fun j => S j = true) (fun j t' ht' hj k hk' => hR.ahead inv.closed (hR.it ht').1 hj k hk') hR.snaps j' (by omega) c l (by rw [stAt_of q2]; exact hsn) hc
            intro s hs
            rcases List.mem_cons.1 hs with rfl | hs
            · exact hc
            · exact hcl s hs
        have := hall ⟨t.i, t.m, t.s.h⟩ (by rw [q5]; simp)
        rw [show (⟨t.i, t.m, t.s.h⟩ : Sn).e = t.i from rfl, hti, hi] at this
        cases this
      · have : s = ⟨t.i, t.m, t.s.h⟩ := by simpa using hs
        rw [this, show (⟨t.i, t.m, t.s.h⟩ : Sn).e = t.i from rfl, hti, hi] at hd
        cases hd

end
end Go.Eng
