/- The engine, part P8: a step of a region whose order is open. -/
import Derived.Test.YtpnkohfmpdehaaaGreatDoorEngP7
set_option linter.unusedVariables false
set_option linter.unusedSimpArgs false
set_option linter.unusedSectionVars false
namespace Go.Eng

section
variable {P : Program} {env : Nat → Value} {okc : FuncId → Code → Bool} {X : Cx} {call : CallF} {rd : Bool} {ops : Array Oper} {tm : T AVal} {n : Nat}
  {its : List It} {pz : Option Nat} {start R : Nat} {s0 fin : DS} {b : Frame} {cfn : FrameMode → List Frame}
  {S : Nat → Bool} {sn : List Sn} {ds : List ADefd} {h : AHeap} {um : UM} {ρ : Rho} {a : Act} {m : FrameMode} {w : World}

theorem operA_val {ev : Operand → Option AVal} {rid : Nat} {op : Op} {v : AVal} {h' : AHeap} (hx : execA P X ev h rid op = some (.val v h')) : operA P X call rd ev ds h um rid op = some (.ok v ds h' um) := by
  unfold operA; rw [hx]

variable (he : EnvOk env) (hF : ∀ f ∈ X.facts, FactOk P env f) (hc : CallOk P env okc X.nglob call) (hrd : rd = false → b.roundOf = none)
variable (hR : Run P X call rd ops tm n its pz start R s0 fin)
variable (inv : Inv P env okc X ops tm n its start R fin b cfn S sn ds h um ρ a m w)
include he hF hc hrd hR inv

set_option maxHeartbeats 1000000 in
theorem Inv.step {i : Nat} {t : It} (ht : its[i]? = some t) (hnh : t.kd ≠ .hole) (hi : S i = false) (hp : ∀ e ∈ t.o.after, Region.binds .any e = true → S e.on = true) (k : List Item) (rest' : List Nat) :
    ∃ sn' ds' h' um' ρ' a' m' w', Inv P env okc X ops tm n its start R fin b cfn (fun j => S j || decide (j = i)) sn' ds' h' um' ρ' a' m' w' ∧
      Steps P (lone (b.atR a (.inRegion ops (i :: rest') :: k)) (cfn m) w) (lone (b.atR a' (.inRegion ops rest' :: k)) (cfn m') w') ∧
      Go' P env okc (fun x => start ≤ x) ρ (full fin sn h) w ρ' (full fin sn' h') w' ∧ (∃ x d', a' = ({ a with defers := d' }.put t.o.dst x : Act)) := by
  obtain ⟨t1, t2, t3, t4⟩ := hR.it ht
  have hlt : i < its.length := (List.getElem?_eq_some_iff.1 ht).1
  have hgood := (chain_split hR.chain i t ht).2.2.1
  have heq : ∀ x ∈ t.o.looksAt ops, lookL t.s.loc x tm = looks S tm its x := fun x hx => hR.slot_eq inv.closed ht hi hp inv.done hx
  have hev := hR.ev_rel (env := env) inv.glob inv.slots heq
  have hwant : ∀ r, wantedA ops t.s.loc tm t.o = some r → Region.wanted t.o (yielded ops a.tmps) = r := fun r hr =>
    wantedA_at (env := env) (ρ := ρ) (fun x hx v hl => inv.slots x v (by rw [← heq x hx]; exact hl)) hr
  have hstart : start ≤ R := by rw [← hR.rids]; exact ridsOf_le _ _
  have hridS : start ≤ t.rid := by rw [t4]; exact ridsOf_le _ _
  have hroom := inv.room
  have hfn : (full fin sn h).next = h.next := full_next _ _ _
  have hN : ∀ x, ((mayAlloc P t.o.op = true ∧ x = t.rid) ∨ (full fin sn h).next ≤ x) → start ≤ x := by
    rintro x (⟨_, rfl⟩ | hx)
    · exact hridS
    · rw [hfn] at hx; omega
  have hridf : mayAlloc P t.o.op = true → ρ t.rid = none ∧ t.rid < (full fin sn h).next := by
    intro hm
    rw [t4, hfn]
    exact ⟨inv.fresh i t.o t2 hi hm, Nat.lt_of_lt_of_le (hR.rid_room t2 hm) hroom⟩
  have heffs : (∀ ds h um, t.kd ≠ .eff ds h um) → ∀ (j : Nat) t' ds' h' um', its[j]? = some t' → t'.kd = .eff ds' h' um' → ((S j || decide (j = i)) = true ↔ ∃ s ∈ sn, s.e = j) := by
    intro hne j t' ds' h' um' hj hk
    have hji : j ≠ i := by
      intro e; subst e
      rw [ht] at hj; cases hj
      exact hne _ _ _ hk
    simp only [hji, decide_false, Bool.or_false]
    exact inv.effs j t' ds' h' um' hj hk
  -- an operation that leaves the heap as it was
  have plain : ∀ (rid : Nat), (∀ ds h um, t.kd ≠ .eff ds h um) → (mayAlloc P t.o.op = true → rid = t.rid) → ∀ h1 : AHeap, wantedA ops t.s.loc tm t.o = some true →
      execA P X (evA X t.s.loc tm) (full fin sn h) rid t.o.op = some (.val t.v h1) → (∀ c, h1.get c = (full fin sn h).get c) → h1.next = (full fin sn h).next →
      ∃ sn' ds' h' um' ρ' a' m' w', Inv P env okc X ops tm n its start R fin b cfn (fun j => S j || decide (j = i)) sn' ds' h' um' ρ' a' m' w' ∧
      Steps P (lone (b.atR a (.inRegion ops (i :: rest') :: k)) (cfn m) w) (lone (b.atR a' (.inRegion ops rest' :: k)) (cfn m') w') ∧
      Go' P env okc (fun x => start ≤ x) ρ (full fin sn h) w ρ' (full fin sn' h') w' ∧ (∃ x d', a' = ({ a with defers := d' }.put t.o.dst x : Act)) := by
    intro rid hne hrid h1 hw hx hsame hnext
    have hop : operA P X call rd (within t.o.op.operands (evA X t.s.loc tm)) ds (full fin sn h) um rid t.o.op = some (.ok t.v ds h1 um) := by
      rw [operA_within]; exact operA_val hx
    obtain ⟨ρ', x, d', m', w', q1, q2, q3, q4, q5, q6⟩ := operA_sound he hF hc inv.heap inv.glob hrd inv.cs inv.defs inv.mode hev (k := k) (rest := rest') (o := t.o) (rid := rid)
      (fun hm => by rw [hrid hm]; exact hridf hm) t2 (hwant true hw) hop
    have q2' := q2.same (h'' := full fin sn h) hnext.symm (fun c => (hsame c).symm)
    refine ⟨sn, ds, h, um, ρ', { a with defers := d' }.put t.o.dst x, m', w', ?_, q1, q2'.mono ?_, x, d', rfl⟩
    · refine Inv.move hR ht hi hp inv hnh q2.sub ?_ q3 inv.suf (heffs hne) inv.cur q4 q5 q2'.rel inv.hole inv.room q6
      intro y hy
      refine q2.new y ?_
      rintro (⟨hm, rfl⟩ | hy')
      · exact hy (.inl ⟨hm, hrid hm⟩)
      · rw [show (commitAll (openAt sn fin.al) h).next = h.next from hfn] at hy'
        exact hy (.inr hy')
    · rintro x (⟨hm, rfl⟩ | hx)
      · rw [hrid hm]; exact hridS
      · rw [show (commitAll (openAt sn fin.al) h).next = h.next from hfn] at hx
        omega
  cases hk : t.kd with
  | hole => exact absurd hk hnh
  | skip =>
    unfold It.good at hgood
    rw [hk] at hgood
    have hw := hwant false hgood.1
    have hskip := stepR_op_skip (P := P) (b := b) (a := a) (k := k) (cs := cfn m) (w := w) (ops := ops) (i := i) (rest := rest') (by simp [t2, hw])
    simp only [t2, Option.bind_some] at hskip
    refine ⟨sn, ds, h, um, ρ, a.put t.o.dst undef, m, w, ?_, .one hskip, .refl inv.heap, undef, a.defers, rfl⟩
    exact Inv.move hR ht hi hp inv (x := undef) (d' := a.defers) hnh (.refl _) (fun _ _ => rfl) (by rw [hgood.2]; exact .undef) inv.suf (heffs (by simp [hk])) inv.cur inv.defs inv.mode inv.heap inv.hole inv.room inv.cs
  | pure =>
    unfold It.good at hgood
    rw [hk] at hgood
    obtain ⟨g1, g2, h', g3⟩ := hgood
    exact plain 0 (by simp [hk]) (fun hm => by rw [cls_noalloc (.inl g2)] at hm; cases hm) _ g1 (pure_any g2 g3 _ 0) (fun _ => rfl) rfl
  | alloc obj =>
    unfold It.good at hgood
    rw [hk] at hgood
    obtain ⟨g1, g2, h', g3, g4⟩ := hgood
    have hmem := items_al hR.chain its.length (Nat.le_refl _) i t obj hlt ht hk
    rw [stAt_end] at hmem
    have hopen : (⟨i, t.rid, obj⟩ : Pd) ∈ openAt sn fin.al := (mem_openAt _ _ _).2 ⟨hmem, fun s hs => inv.notAhead hR ht hi hp s hs⟩
    have hget := hR.full_mem (h := h) hopen
    refine plain t.rid (by simp [hk]) (fun _ => rfl) _ g1 (alloc_any g2 g3 g4 _).1 (fun c => ?_) rfl
    rw [AHeap.get_put]
    split
    · rename_i e; rw [← e]; exact hget.symm
    · rfl
  | read =>
    obtain ⟨h', hx⟩ := inv.read_same hR ht hi hp hk
    unfold It.good at hgood
    rw [hk] at hgood
    obtain ⟨v', hv'⟩ := read_heap hgood.2 hx
    have e : h' = full fin sn h := by injection hv'
    rw [e] at hx
    exact plain 0 (by simp [hk]) (fun hm => by rw [cls_noalloc (.inr hgood.2)] at hm; cases hm) _ hgood.1 hx (fun _ => rfl) rfl
  | eff ds1 h1 um1 =>
    have hnow := inv.eff_now hR ht hi hp hk
    unfold It.good at hgood
    rw [hk] at hgood
    obtain ⟨g1, g2, g3⟩ := hgood
    obtain ⟨c1, c2, c3⟩ := inv.cur i (by omega) (by rw [stAt_of ht]; exact hnow)
    rw [stAt_of ht] at c1 c2 c3
    rw [c1, c2, c3] at g3
    have hpend := hR.pend_open ht
    -- the heap that the effect meets
    have hpm : ∀ p ∈ t.s.pend, p ∈ openAt sn fin.al := by
      intro p hpp
      rw [hpend, hnow] at hpp
      obtain ⟨q1, q2⟩ := (mem_openAt _ _ _).1 hpp
      refine (mem_openAt _ _ _).2 ⟨?_, q2⟩
      rw [← stAt_of (fin := fin) ht] at q1
      exact hR.al_sub (by omega) q1
    have hpa : t.s.pend.Pairwise (fun p q => p.rid ≠ q.rid) := by
      have hal : t.s.al.Pairwise (fun p q => p.rid ≠ q.rid) := by
        rw [List.pairwise_iff_getElem]
        intro x y hx hy hxy
        have hxf := hR.al_sub (j := i) (by omega) (p := t.s.al[x]) (by rw [stAt_of ht]; exact List.getElem_mem hx)
        -- the blocks so far stand at the end of all of them
        have hsufal : ∀ j, j ≤ its.length → ∀ j', j' ≤ j → (stAt its fin j').al <:+ (stAt its fin j).al := by
          intro j hj
          refine chain_ind hR.chain (fun j s => ∀ j', j' ≤ j → (stAt its fin j').al <:+ s.al) ?_ ?_ j hj
          · intro j' hj'
            obtain rfl : j' = 0 := by omega
            rw [chain_start hR.chain]
            exact List.suffix_refl _
          · intro j it hj ih j' hj'
            rcases Nat.lt_or_ge j' (j + 1) with hh | hh
            · have q1 := ih j' (by omega)
              unfold It.next
              cases hk : it.kd with
              | skip => exact q1
              | hole => exact q1
              | pure => exact q1
              | read => exact q1
              | alloc obj => exact q1.trans (List.suffix_cons _ _)
              | eff ds h um => exact q1
            · obtain rfl : j' = j + 1 := by omega
              rw [(chain_split hR.chain j it hj).2.2.2]
              exact List.suffix_refl _
        have hsuf := hsufal its.length (Nat.le_refl _) i (by omega)
        rw [stAt_end, stAt_of ht] at hsuf
        have hpw := List.Pairwise.sublist hsuf.sublist hR.al_apart
        exact (List.pairwise_iff_getElem.1 hpw) x y hx hy hxy
      rw [hpend]
      exact hal.sublist (openAt_sub _ _)
    have hless : ∀ c, (commit t.m t.s.pend h).get c = (full fin sn h).get c ∨ (commit t.m t.s.pend h).get c = none := by
      intro c
      by_cases hex : ∃ p ∈ t.s.pend, bitOf t.m p.i = true ∧ p.rid = c
      · obtain ⟨p, hp1, hp2, rfl⟩ := hex
        left
        rw [commit_mem t.m h _ hpa p hp1 hp2, hR.full_mem (hpm p hp1)]
      · have hcg : (commit t.m t.s.pend h).get c = h.get c := commit_get t.m h c _ (fun p hp1 hp2 hp3 => hex ⟨p, hp1, hp2, hp3⟩)
        by_cases hex2 : ∃ p ∈ openAt sn fin.al, p.rid = c
        · obtain ⟨p, hp1, rfl⟩ := hex2
          right
          rw [hcg]; exact inv.hole p hp1
        · left
          rw [hcg, full_get (fun p hp1 hp2 => hex2 ⟨p, hp1, hp2⟩)]
    have hcn : (commit t.m t.s.pend h).next = h.next := commit_next _ _ _
    have hheff : HRel P env okc ρ (commit t.m t.s.pend h) w := by
      refine inv.heap.less (by rw [hcn]; exact (full_next fin sn h).symm) (fun c _ _ => hless c) (fun c hcc => ?_)
      rcases hless c with e | e
      · rw [e]; exact inv.heap.clean c (by rw [hcn] at hcc; rw [show (commitAll (openAt sn fin.al) h).next = h.next from hfn]; exact hcc)
      · exact e
    have hop : operA P X call rd (within t.o.op.operands (evA X t.s.loc tm)) ds (commit t.m t.s.pend h) um t.rid t.o.op = some (.ok t.v ds1 h1 um1) := by
      rw [operA_within]; exact g3
    obtain ⟨ρ', x, d', m', w', q1, q2, q3, q4, q5, q6⟩ := operA_sound he hF hc hheff inv.glob hrd inv.cs inv.defs inv.mode hev (k := k) (rest := rest') (o := t.o) (rid := t.rid)
      (fun hm => by have := hridf hm; rw [hfn] at this; rw [hcn]; exact this) t2 (hwant true g1) hop
    -- blocks that the effect does not reach
    have hno : ∀ p ∈ openAt sn fin.al, ¬ ((mayAlloc P t.o.op = true ∧ p.rid = t.rid) ∨ (commit t.m t.s.pend h).next ≤ p.rid) := by
      intro p hpo
      have hpf := ((mem_openAt _ _ _).1 hpo).1
      obtain ⟨u, k1, k2, k3, k4, k5⟩ := hR.al_it hpf
      obtain ⟨b1, b2, b3, b4⟩ := hR.it k1
      rintro (⟨hm, hh⟩ | hh)
      · have hne : p.i ≠ i := by
          intro e
          rw [e, ht] at k1
          have hut : t = u := by injection k1
          rw [← hut, hk] at k2; cases k2
        rw [k3, b4, t4] at hh
        exact hR.rid_ne b2 k4 t2 hm hne hh
      · rw [hcn, k3, b4] at hh
        have := hR.rid_room b2 k4
        omega
    have hgone : ∀ p ∈ openAt sn fin.al, bitOf t.m p.i = false → (commit t.m t.s.pend h).get p.rid = none := by
      intro p hpo hb
      rw [commit_get t.m h p.rid]
      · exact inv.hole p hpo
      · intro q hq1 hq2 hq3
        have := hR.al_one (((mem_openAt _ _ _).1 (hpm q hq1)).1) (((mem_openAt _ _ _).1 hpo).1) hq3
        rw [this, hb] at hq2; cases hq2
    have hti := t3
    have hnextIt : t.next.snaps = ⟨i, t.m, h⟩ :: sn := by unfold It.next; rw [hk]; simp only [t3, c1, hnow]
    have hnextS := (chain_split hR.chain i t ht).2.2.2
    have hopen' : ∀ p, p ∈ openAt (⟨i, t.m, h⟩ :: sn) fin.al ↔ p ∈ openAt sn fin.al ∧ bitOf t.m p.i = false := fun p => by rw [openAt_cons]; exact mem_keep _ _ _
    have hframe : Go' P env okc (fun x => (mayAlloc P t.o.op = true ∧ x = t.rid) ∨ (commit t.m t.s.pend h).next ≤ x) ρ (full fin sn h) w ρ' (full fin (⟨i, t.m, h⟩ :: sn) h1) w' := by
      refine Go'.frame inv.heap (by rw [hcn]; exact (full_next fin sn h).symm) hless q2 (full_next _ _ _) (fun c => ?_)
      by_cases hex : ∃ p ∈ openAt (⟨i, t.m, h⟩ :: sn) fin.al, p.rid = c
      · obtain ⟨p, hp1, rfl⟩ := hex
        obtain ⟨hp2, hp3⟩ := (hopen' p).1 hp1
        right
        obtain ⟨u, k1, k2, k3, k4, k5⟩ := hR.al_it ((mem_openAt _ _ _).1 hp2).1
        exact ⟨p.obj, hR.full_mem hp2, hR.full_mem hp1, k5, hgone p hp2 hp3, hno p hp2⟩
      · left
        exact full_get (fun p hp1 hp2 => hex ⟨p, hp1, hp2⟩)
    refine ⟨⟨i, t.m, h⟩ :: sn, ds1, h1, um1, ρ', { a with defers := d' }.put t.o.dst x, m', w', ?_, q1, hframe.mono (fun x hx => hN x (by rw [hfn]; rw [hcn] at hx; exact hx)), x, d', rfl⟩
    refine Inv.move hR ht hi hp inv hnh q2.sub (fun y hy => q2.new y (by rw [hcn]; exact hy)) q3 ?_ ?_ ?_ q4 q5 hframe.rel ?_ ?_ q6
    · have hsuf := (snaps_suf hR.chain its.length (Nat.le_refl _) (i + 1) (by omega)).1
      rw [hnextS, hnextIt, stAt_end] at hsuf
      obtain ⟨pre, hpre⟩ := hsuf
      exact ⟨pre, hpre.symm⟩
    · intro j t' ds' h' um' hj hk'
      by_cases hji : j = i
      · subst hji
        simp
      · simp only [hji, decide_false, Bool.or_false]
        rw [inv.effs j t' ds' h' um' hj hk']
        constructor
        · rintro ⟨s, h2, h3⟩; exact ⟨s, by simp [h2], h3⟩
        · rintro ⟨s, h2, h3⟩
          rcases List.mem_cons.1 h2 with rfl | h2
          · exact absurd h3.symm hji
          · exact ⟨s, h2, h3⟩
    · intro j hj hjs
      have hst : (stAt its fin (i + 1)).snaps = ⟨i, t.m, h⟩ :: sn := by rw [hnextS, hnextIt]
      rcases Nat.lt_or_ge i j with hij | hij
      · have := (snaps_suf hR.chain j hj (i + 1) (by omega)).2 (by rw [hst, hjs])
        rw [hnextS] at this
        have hn1 : t.next.h = h1 ∧ t.next.ds = ds1 ∧ t.next.um = um1 := by unfold It.next; rw [hk]; exact ⟨rfl, rfl, rfl⟩
        rw [hn1.1, hn1.2.1, hn1.2.2] at this
        exact ⟨this.1.symm, this.2.1.symm, this.2.2.symm⟩
      · exfalso
        have := (snaps_suf hR.chain i (by omega) j hij).1.length_le
        rw [hjs, stAt_of ht, hnow] at this
        simp at this
        omega
    · intro p hpo
      obtain ⟨hp2, hp3⟩ := (hopen' p).1 hpo
      exact q2.keep p.rid (hno p hp2) (hgone p hp2 hp3)
    · have := q2.next
      rw [hcn] at this
      omega

end
end Go.Eng
