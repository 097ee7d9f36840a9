/- The engine, part P9: regions whose order is open. -/
import Derived.Test.YtpnkohfmpdehaaaGreatDoorEngP8
set_option linter.unusedVariables false
set_option linter.unusedSimpArgs false
set_option linter.unusedSectionVars false
namespace Go.Eng

theorem filter_less {p q : Nat → Bool} : ∀ (l : List Nat), (∀ x ∈ l, q x = true → p x = true) → (∃ x ∈ l, p x = true ∧ q x = false) → (l.filter q).length < (l.filter p).length
  | [], _, h => by obtain ⟨x, hx, _⟩ := h; simp at hx
  | y :: l, h1, h2 => by
    have hle : ∀ l' : List Nat, (∀ x ∈ l', q x = true → p x = true) → (l'.filter q).length ≤ (l'.filter p).length := by
      intro l'
      induction l' with
      | nil => intro _; exact Nat.le_refl _
      | cons z l' ih =>
        intro hz
        have ih := ih (fun x hx => hz x (by simp [hx]))
        simp only [List.filter_cons]
        cases hq : q z with
        | true => rw [hz z (by simp) hq]; simpa using ih
        | false => cases p z <;> simp <;> omega
    have hl := hle l (fun x hx => h1 x (by simp [hx]))
    simp only [List.filter_cons]
    obtain ⟨x, hx, hpx, hqx⟩ := h2
    rcases List.mem_cons.1 hx with rfl | hx
    · rw [hpx, hqx]; simp; omega
    · have ih := filter_less l (fun x hx => h1 x (by simp [hx])) ⟨x, hx, hpx, hqx⟩
      cases hq : q y with
      | true => rw [h1 y (by simp) hq]; simpa using ih
      | false => cases p y <;> simp <;> omega

section
variable {P : Program} {env : Nat → Value} {okc : FuncId → Code → Bool} {X : Cx} {call : CallF} {rd : Bool} {ops : Array Oper} {tm : T AVal} {n : Nat}
  {its : List It} {pz : Option Nat} {start R : Nat} {s0 fin : DS} {b : Frame} {cfn : FrameMode → List Frame}

variable (he : EnvOk env) (hF : ∀ f ∈ X.facts, FactOk P env f) (hc : CallOk P env okc X.nglob call) (hrd : rd = false → b.roundOf = none)
variable (hR : Run P X call rd ops tm n its pz start R s0 fin)
include he hF hc hrd hR

/-- All is done. -/
theorem Run.done {S : Nat → Bool} {sn : List Sn} {ds : List ADefd} {h : AHeap} {um : UM} {ρ : Rho} {a : Act} {m : FrameMode} {w : World} {r : RRes} {k : List Item}
    (hE : Ends P X call rd ops tm its fin r)
    (inv : Inv P env okc X ops tm n its start R fin b cfn S sn ds h um ρ a m w) (hall : ∀ i, i < ops.size → S i = true) :
    RegOk P env okc n tm (fun x => start ≤ x) ρ (full fin sn h) b cfn a w ops k (lone (b.atR a (.inRegion ops [] :: k)) (cfn m) w) r := by
  have hmap := (plan_ok ops).1
  have hsz : ops.size = its.length := by
    have : ops.toList.length = its.length := by rw [← hmap, hR.plan]; simp
    simpa using this
  rcases hE with ⟨hend, _⟩ | ⟨u, v, ds', h', um', u1, u2, _⟩
  · have hsn : fin.snaps = sn := by
      refine inv.tail_eq hR (l := fin.snaps) (pre := []) rfl (fun s hs => ?_) (by simp)
      obtain ⟨l1, l2, hl⟩ := List.append_of_mem hs
      have hf : (stAt its fin its.length).snaps = l1 ++ s :: l2 := by rw [stAt_end, hl]
      obtain ⟨j', t', ds', h', um', q1, q2, q3, q4, q5⟩ := snaps_items hR.chain hR.snaps its.length (Nat.le_refl _) _ _ _ hf
      rw [q4]
      refine hall j' ?_
      have := (List.getElem?_eq_some_iff.1 q2).1
      omega
    obtain ⟨c1, c2, c3⟩ := inv.cur its.length (Nat.le_refl _) (by rw [stAt_end]; exact hsn)
    rw [stAt_end] at c1 c2 c3
    unfold endDraw at hend
    split at hend
    rotate_left
    · cases hend
    cases hend
    have hpo := Go.Eng.pend_open hR.chain hR.pend hR.al hR.snaps hR.lowIt its.length (Nat.le_refl _)
    rw [stAt_end, hsn] at hpo
    have hfull : commitAll fin.pend fin.h = full fin sn h := by rw [hpo, c1]; rfl
    rw [hfull, c2, c3]
    refine ⟨ρ, a, m, w, .one (by simpa using stepR_region_end), ⟨?_, inv.size, inv.defs, inv.heap, inv.mode⟩, .refl inv.heap, inv.cs⟩
    intro t v hl
    refine inv.slots t v ?_
    have h1 := loc_looks hR.chain hR.loc t its.length (Nat.le_refl _)
    rw [stAt_end, List.take_length] at h1
    rw [← hl, h1]
    unfold looks
    refine looks_congr (S := S) (S' := alive its) (t := t) its (fun it hit _ => ?_) (tm.get t)
    obtain ⟨j, hj⟩ := List.getElem?_of_mem hit
    rw [(hR.it hj).2.2.1]
    have hSj : S j = true := by
      refine hall j ?_
      have := (List.getElem?_eq_some_iff.1 hj).1
      omega
    rw [hSj]
    unfold alive
    rw [hj]
    have := inv.done j it hj hSj
    show true = !isHole it.kd
    cases hk : it.kd <;> first | rfl | exact absurd hk this
  · exfalso
    obtain ⟨j, hj⟩ := List.getElem?_of_mem u1
    have hSj : S j = true := by
      refine hall j ?_
      have := (List.getElem?_eq_some_iff.1 hj).1
      omega
    exact inv.done j u hj hSj u2

/-- The blocks that the operations so far have made. -/
theorem Run.pend_apart {i : Nat} {t : It} (ht : its[i]? = some t) : t.s.pend.Pairwise (fun p q => p.rid ≠ q.rid) := by
  have hlt : i < its.length := (List.getElem?_eq_some_iff.1 ht).1
  have hpend := hR.pend_open ht
  have hsufal : ∀ j, j ≤ its.length → ∀ j', j' ≤ j → (stAt its fin j').al <:+ (stAt its fin j).al := by
    intro j hj
    refine chain_ind hR.chain (fun j s => ∀ j', j' ≤ j → (stAt its fin j').al <:+ s.al) ?_ ?_ j hj
    · intro j' hj'
      obtain rfl : j' = 0 := by omega
      rw [chain_start hR.chain]
      exact List.suffix_refl _
    · intro j it hj ih j' hj'
      rcases Nat.lt_or_ge j' (j + 1) with hh | hh
      · have q1 := ih j' (by omega)
        unfold It.next
        cases hk : it.kd with
        | skip => exact q1
        | pure => exact q1
        | read => exact q1
        | hole => exact q1
        | alloc obj => exact q1.trans (List.suffix_cons _ _)
        | eff ds h um => exact q1
      · obtain rfl : j' = j + 1 := by omega
        rw [(chain_split hR.chain j it hj).2.2.2]
        exact List.suffix_refl _
  have hsuf := hsufal its.length (Nat.le_refl _) i (by omega)
  rw [stAt_end, stAt_of ht] at hsuf
  rw [hpend]
  exact (List.Pairwise.sublist hsuf.sublist hR.al_apart).sublist (openAt_sub _ _)

/-- The operation that panics. -/
theorem Run.panics {S : Nat → Bool} {sn : List Sn} {ds : List ADefd} {h : AHeap} {um : UM} {ρ : Rho} {a : Act} {m : FrameMode} {w : World} {r : RRes} {k : List Item} {tl : List Nat}
    (hE : Ends P X call rd ops tm its fin r)
    (inv : Inv P env okc X ops tm n its start R fin b cfn S sn ds h um ρ a m w) {i : Nat} {t : It} (ht : its[i]? = some t) (hk : t.kd = .hole) (hp : ∀ e ∈ t.o.after, Region.binds .any e = true → S e.on = true) :
    RegOk P env okc n tm (fun x => start ≤ x) ρ (full fin sn h) b cfn a w ops k (lone (b.atR a (.inRegion ops (i :: tl) :: k)) (cfn m) w) r := by
  obtain ⟨t1, ho, t3, t4⟩ := hR.it ht
  have hlt : i < its.length := (List.getElem?_eq_some_iff.1 ht).1
  have hi : S i = false := by
    cases hS : S i with
    | false => rfl
    | true => exact absurd hk (inv.done i t ht hS)
  have hmask : ∀ j, bitOf t.m j = true → S j = true := fun j hj => hR.maskS inv.closed ht hi hp j hj
  rcases hE with ⟨_, hno⟩ | ⟨u, v, ds', h', um', u1, u2, rfl, g1, g2, g3, g4, g5, _⟩
  · exact absurd hk (hno t (List.mem_of_getElem? ht))
  · obtain ⟨ju, hu⟩ := List.getElem?_of_mem u1
    have hui := (hR.it hu).2.2.1
    have htu : u = t := by
      rcases g4 t (List.mem_of_getElem? ht) hk with e | e
      · rw [hui, t3] at e
        rw [← e, ht] at hu
        injection hu with hu
        exact hu.symm
      · exfalso
        have := hmask _ e
        rw [hui] at this
        exact inv.done ju u hu this u2
    subst htu
    have hall : ∀ s ∈ u.s.snaps, S s.e = true := by
      cases hsn : u.s.snaps with
      | nil => simp
      | cons c l =>
        rw [hsn] at g2
        have hcS : S c.e = true := hmask c.e g2
        have hcl := snaps_closed hR.chain (S := fun j => S j = true) (fun j t' ht' hj k hk' => hR.ahead inv.closed (hR.it ht').1 hj k hk') hR.snaps i (by omega) c l (by rw [stAt_of ht]; exact hsn) hcS
        intro s hs
        rcases List.mem_cons.1 hs with rfl | hs
        · exact hcS
        · exact hcl s hs
    have hsn : u.s.snaps = sn := inv.tail_eq hR (l := u.s.snaps) (pre := []) g5.symm hall (by simp)
    obtain ⟨c1, c2, c3⟩ := inv.cur i (by omega) (by rw [stAt_of ht]; exact hsn)
    rw [stAt_of ht] at c1 c2 c3
    rw [c1, c2, c3] at g3
    have hpend := hR.pend_open ht
    have hpm : ∀ p ∈ u.s.pend, p ∈ openAt sn fin.al := by
      intro p hpp
      rw [hpend, hsn] at hpp
      obtain ⟨q1, q2⟩ := (mem_openAt _ _ _).1 hpp
      refine (mem_openAt _ _ _).2 ⟨?_, q2⟩
      rw [← stAt_of (fin := fin) ht] at q1
      exact hR.al_sub (by omega) q1
    have hpa := hR.pend_apart he hF hc hrd ht
    have hless : ∀ c, (commit u.m u.s.pend h).get c = (full fin sn h).get c ∨ (commit u.m u.s.pend h).get c = none := by
      intro c
      by_cases hex : ∃ p ∈ u.s.pend, bitOf u.m p.i = true ∧ p.rid = c
      · obtain ⟨p, hp1, hp2, rfl⟩ := hex
        left
        rw [commit_mem u.m h _ hpa p hp1 hp2, hR.full_mem (hpm p hp1)]
      · have hcg : (commit u.m u.s.pend h).get c = h.get c := commit_get u.m h c _ (fun p hp1 hp2 hp3 => hex ⟨p, hp1, hp2, hp3⟩)
        by_cases hex2 : ∃ p ∈ openAt sn fin.al, p.rid = c
        · obtain ⟨p, hp1, rfl⟩ := hex2
          right
          rw [hcg]; exact inv.hole p hp1
        · left
          rw [hcg, full_get (fun p hp1 hp2 => hex2 ⟨p, hp1, hp2⟩)]
    have hcn : (commit u.m u.s.pend h).next = h.next := commit_next _ _ _
    have hfn : (full fin sn h).next = h.next := full_next _ _ _
    have hheff : HRel P env okc ρ (commit u.m u.s.pend h) w := by
      refine inv.heap.less (by rw [hcn]; exact (full_next fin sn h).symm) (fun c _ _ => hless c) (fun c hcc => ?_)
      rcases hless c with e | e
      · rw [e]; exact inv.heap.clean c (by rw [hcn] at hcc; rw [show (commitAll (openAt sn fin.al) h).next = h.next from hfn]; exact hcc)
      · exact e
    have heq : ∀ x ∈ u.o.looksAt ops, lookL u.s.loc x tm = looks S tm its x := fun x hx => hR.slot_eq inv.closed ht hi hp inv.done hx
    have hev := hR.ev_rel (env := env) inv.glob inv.slots heq
    have hop : operA P X call rd (within u.o.op.operands (evA X u.s.loc tm)) ds (commit u.m u.s.pend h) um u.rid u.o.op = some (.pan v ds' h' um') := by
      rw [operA_within]; exact g3
    have hw : Region.wanted u.o (yielded ops a.tmps) = true := wantedA_at (env := env) (ρ := ρ) (fun x hx v hl => inv.slots x v (by rw [← heq x hx]; exact hl)) g1
    obtain ⟨rfl, rfl, ρ', x, w', q1, q2, q3⟩ := operA_sound he hF hc hheff inv.glob hrd inv.cs inv.defs inv.mode hev (k := k) (rest := tl) (o := u.o)
      (rid := u.rid)
      (fun hm => by rw [hcn, t4]; exact ⟨inv.fresh _ u.o ho hi hm, Nat.lt_of_lt_of_le (hR.rid_room ho hm) inv.room⟩) ho hw hop
    have hstart : start ≤ R := by rw [← hR.rids]; exact ridsOf_le _ _
    have hroom := inv.room
    have hframe := Go'.frame inv.heap (by rw [hcn]; exact (full_next fin sn h).symm) hless q2 rfl (fun c => .inl rfl)
    refine ⟨ρ', x, a, m, w', _, q1, q3, fun _ _ => rfl, inv.size, inv.defs.mono q2.sub, inv.mode.mono q2.sub, hframe.mono ?_, inv.cs⟩
    rintro y (⟨_, rfl⟩ | hy)
    · rw [t4]; exact ridsOf_le _ _
    · rw [hcn] at hy; omega

theorem Run.sim {r : RRes} {k : List Item} (hE : Ends P X call rd ops tm its fin r) :
    ∀ (fuel tt : Nat) (listed : Array Bool) (sn : List Sn) (ds : List ADefd) (h : AHeap) (um : UM) (ρ : Rho) (a : Act) (m : FrameMode) (w : World), listed.size = ops.size →
      Inv P env okc X ops tm n its start R fin b cfn (fun j => listed.getD j false) sn ds h um ρ a m w → ((List.range ops.size).filter fun i => !listed.getD i false).length ≤ fuel →
      RegOk P env okc n tm (fun x => start ≤ x) ρ (full fin sn h) b cfn a w ops k (lone (b.atR a (.inRegion ops (Region.linearise.go .any ops fuel tt listed []) :: k)) (cfn m) w) r := by
  intro fuel
  have hall_of : ∀ (listed : Array Bool), listed.size = ops.size → ((List.range ops.size).filter fun i => !listed.getD i false) = [] → ∀ i, i < ops.size → listed.getD i false = true := by
    intro listed _ hnil i hi
    cases hl : listed.getD i false with
    | true => rfl
    | false =>
      have : i ∈ (List.range ops.size).filter fun i => !listed.getD i false := List.mem_filter.2 ⟨List.mem_range.2 hi, by rw [hl]; rfl⟩
      rw [hnil] at this; simp at this
  induction fuel with
  | zero =>
    intro tt listed sn ds h um ρ a m w hsz inv hcnt
    have hnil := List.length_eq_zero_iff.1 (Nat.le_zero.1 hcnt)
    exact hR.done he hF hc hrd hE inv (hall_of listed hsz hnil)
  | succ fuel ih =>
    intro tt listed sn ds h um ρ a m w hsz inv hcnt
    simp only [Region.linearise.go]
    change RegOk P env okc n tm _ ρ (full fin sn h) b cfn a w ops k (lone (b.atR a (.inRegion ops (match (Region.ready .any ops listed)[tt % (Region.ready .any ops listed).length]? with
      | some i => Region.linearise.go .any ops fuel (tt / (Region.ready .any ops listed).length) (listed.setIfInBounds i true) [i]
      | none => [].reverse) :: k)) (cfn m) w) r
    cases hi : (Region.ready .any ops listed)[tt % (Region.ready .any ops listed).length]? with
    | none =>
      have hnil : Region.ready .any ops listed = [] := by
        cases hr : Region.ready .any ops listed with
        | nil => rfl
        | cons x xs =>
          rw [hr] at hi
          have hlt : tt % (x :: xs).length < (x :: xs).length := Nat.mod_lt _ (by simp)
          simp at hi
          simp at hlt
          omega
      refine hR.done he hF hc hrd hE inv ?_
      -- otherwise the least that is not done could be done
      intro i
      induction i using Nat.strongRecOn with
      | ind i ihi =>
        intro hlt
        cases hl : listed.getD i false with
        | true => rfl
        | false =>
          exfalso
          have ho : ops[i]? = some ops[i] := Array.getElem?_eq_getElem hlt
          have hmem : i ∈ Region.ready .any ops listed := by
            refine mem_ready.2 ⟨?_, ops[i], ho, fun e he' hb => ?_⟩
            · have hil : i < listed.size := by omega
              simp [Array.getD_eq_getD_getElem?, hil] at hl ⊢; exact hl
            · obtain ⟨mm, hm⟩ := hR.plan_at ho
              have hlow := (hR.mask hm).2.1 e he' hb
              exact ihi e.on hlow (by omega)
          rw [hnil] at hmem
          simp at hmem
    | some i =>
      show RegOk P env okc n tm _ ρ (full fin sn h) b cfn a w ops k (lone (b.atR a (.inRegion ops (Region.linearise.go .any ops fuel (tt / (Region.ready .any ops listed).length) (listed.setIfInBounds i true) [i]) :: k)) (cfn m) w) r
      rw [linearise_go_acc, List.reverse_singleton, List.singleton_append]
      have hmem := List.mem_of_getElem? hi
      obtain ⟨hl0, o, ho, hpre⟩ := mem_ready.1 hmem
      have hlt : i < ops.size := (Array.getElem?_eq_some_iff.1 ho).1
      have hil : i < listed.size := by omega
      have hlf : listed.getD i false = false := by
        simp [Array.getD_eq_getD_getElem?, hil] at hl0 ⊢; exact hl0
      have hsz2 : ops.size = its.length := by
        have : ops.toList.length = its.length := by rw [← (plan_ok ops).1, hR.plan]; simp
        simpa using this
      have hlt' : i < its.length := by omega
      have ht : its[i]? = some its[i] := List.getElem?_eq_getElem hlt'
      by_cases hnh : its[i].kd = .hole
      · have hto := (hR.it ht).2.1
        rw [ho] at hto
        have hto : o = its[i].o := by injection hto
        exact hR.panics he hF hc hrd hE inv ht hnh (by rw [← hto]; exact hpre)
      · have hto := (hR.it ht).2.1
        rw [ho] at hto
        have hto : o = its[i].o := by injection hto
        obtain ⟨sn', ds', h', um', ρ', a', m', w', i1, i2, i3, x, d', rfl⟩ := inv.step he hF hc hrd hR ht hnh hlf (by rw [← hto]; exact hpre) k
          (Region.linearise.go .any ops fuel (tt / (Region.ready .any ops listed).length) (listed.setIfInBounds i true) [])
        have hSeq : (fun j => listed.getD j false || decide (j = i)) = fun j => (listed.setIfInBounds i true).getD j false := by
          funext j
          by_cases hj : j = i
          · subst hj; simp [Array.getD_eq_getD_getElem?, hil]
          · have : i ≠ j := fun e => hj e.symm
            simp [Array.getD_eq_getD_getElem?, Array.getElem?_setIfInBounds_ne this, hj]
        rw [hSeq] at i1
        have hcnt' : ((List.range ops.size).filter fun i' => !(listed.setIfInBounds i true).getD i' false).length ≤ fuel := by
          have : ((List.range ops.size).filter fun i' => !(listed.setIfInBounds i true).getD i' false).length < ((List.range ops.size).filter fun i' => !listed.getD i' false).length := by
            refine filter_less _ (fun x hx hq => ?_) ⟨i, List.mem_range.2 hlt, by rw [hlf]; rfl, ?_⟩
            · have this : (listed.getD x false || decide (x = i)) = (listed.setIfInBounds i true).getD x false := congrFun hSeq x
              rw [← this] at hq
              simp only [Bool.not_or, Bool.and_eq_true] at hq
              exact hq.1
            · have this : (listed.getD i false || decide (i = i)) = (listed.setIfInBounds i true).getD i false := congrFun hSeq i
              rw [← this]; simp
          omega
        have hrec := ih (tt / (Region.ready .any ops listed).length) (listed.setIfInBounds i true) sn' ds' h' um' ρ' _ m' w' (by simpa using hsz) i1 hcnt'
        cases r with
        | ok loc2 ds2 h2 um2 =>
          obtain ⟨ρ2, a2, m2, w2, p1, p2, p3, p4⟩ := hrec
          exact ⟨ρ2, a2, m2, w2, Steps.trans i2 p1, p2, i3.trans p3, p4⟩
        | pan v2 ds2 h2 um2 =>
          obtain ⟨ρ2, x2, a2, m2, w2, todo, p1, p2, p3, p4, p5, p6, p7, p8⟩ := hrec
          refine ⟨ρ2, x2, a2, m2, w2, todo, Steps.trans i2 p1, p2, fun t htt => ?_, p4, p5, p6, i3.trans p7, p8⟩
          rw [p3 t htt, put_get { a with defers := d' } _ _ _ (hR.dst_ok ht inv.size), if_neg]
          refine htt _ ?_
          have h2 : ops.toList[i]? = some its[i].o := by rw [← hto]; simpa using ho
          exact List.mem_of_getElem? h2

end

section
variable {P : Program} {env : Nat → Value} {okc : FuncId → Code → Bool} {X : Cx} {call : CallF} {rd : Bool} {ops : Array Oper} {tm : T AVal} {n : Nat} {b : Frame} {cfn : FrameMode → List Frame}

/-- A region whose order is open. -/
theorem draw_sound (he : EnvOk env) (hF : ∀ f ∈ X.facts, FactOk P env f) (hc : CallOk P env okc X.nglob call) (hrd : rd = false → b.roundOf = none) (hdraw : drawOk n ops = true)
    {start : Nat} {h : AHeap} {ds : List ADefd} {um : UM} {ρ : Rho} {a : Act} {m : FrameMode} {w : World} {r : RRes} {k : List Item}
    (hx : runDraw P X call rd ops tm (plan ops) 0 start ⟨.nil, ds, h, um, [], [], [], []⟩ = some r) (hst : RSt P env okc n tm ρ .nil ds h um a m w) (hg : GlobOk ρ X.nglob) (hcs : CsOk b cfn um)
    (hnext : h.next = ridsOf P ops.toList start) (hfr : ∀ x, start ≤ x → ρ x = none) (hcl : ∀ x, start ≤ x → h.get x = none) (tt : Nat) :
    RegOk P env okc n tm (fun x => start ≤ x) ρ h b cfn a w ops k (lone (b.atR a (.inRegion ops (Region.linearise .any ops tt) :: k)) (cfn m) w) r := by
  obtain ⟨its, fin, h1, h2, h3⟩ := draw_trace P X call rd ops tm (plan ops) 0 start _ r hx
  have hz : ∃ pz : Option Nat, (∀ (j : Nat) t, its[j]? = some t → t.kd = .hole → ∃ p, pz = some p ∧ (j = p ∨ bitOf t.m p = true)) ∧ (∀ p, pz = some p → ∃ t, its[p]? = some t ∧ t.kd = .hole) ∧
      ∀ r ∈ fin.reads, (∃ p, pz = some p ∧ bitOf r.m p = true) ∨ ahead r fin.snaps = true ∨ readsAs P X tm (commitAll (openAt fin.snaps fin.al) fin.h) r = true := by
    rcases h3 with ⟨hend, hno⟩ | ⟨u, v, ds', h', um', u1, u2, _, _, _, _, g4, g5, hso⟩
    · refine ⟨none, fun j t ht hk => absurd hk (hno t (List.mem_of_getElem? ht)), fun p hp => (by cases hp), fun q hq => ?_⟩
      unfold endDraw at hend
      split at hend
      rotate_left
      · cases hend
      rename_i hb
      rw [Bool.and_eq_true] at hb
      rcases readsOk_mem hb.1 q hq with ⟨k, hk, _⟩ | hb | hb
      · cases hk
      · exact .inr (.inl hb)
      · exact .inr (.inr hb)
    · obtain ⟨ju, hu⟩ := List.getElem?_of_mem u1
      have hui := it_i h2 hu
      have hlt : ju < its.length := (List.getElem?_eq_some_iff.1 hu).1
      refine ⟨some ju, fun j t ht hk => ⟨ju, rfl, ?_⟩, fun p hp => (by cases hp; exact ⟨u, hu, u2⟩), fun q hq => ?_⟩
      · rcases g4 t (List.mem_of_getElem? ht) hk with e | e
        · left; rw [← hui, ← e]; exact (it_i h2 ht).symm
        · right; rw [← hui]; exact e
      · have hh : u.s.h = fin.h := by
          have := (snaps_suf h2 its.length (Nat.le_refl _) ju (by omega)).2 (by rw [stAt_end, stAt_of hu, g5])
          rw [stAt_end, stAt_of hu] at this
          exact this.1
        rcases readsOk_mem (snapsOk_mem [] hso) q hq with ⟨k, hk, hb⟩ | hb | hb
        · cases hk; exact .inl ⟨ju, rfl, by rw [← hui]; exact hb⟩
        · exact .inr (.inl hb)
        · exact .inr (.inr (by rw [← hh]; exact hb))
  obtain ⟨pz, hz1, hz2, hz3⟩ := hz
  have hR : Run P X call rd ops tm n its pz start (ridsOf P ops.toList start) ⟨.nil, ds, h, um, [], [], [], []⟩ fin := by
    refine ⟨hdraw, h2, h1, hz1, hz2, rfl, rfl, rfl, rfl, rfl, rfl, ?_, hz3⟩
    intro q hq pre s sn hpre
    rcases h3 with ⟨hend, _⟩ | ⟨u, v, ds', h', um', _, _, _, _, _, _, _, _, hso⟩
    · unfold endDraw at hend
      split at hend
      rotate_left
      · cases hend
      rename_i hb
      rw [Bool.and_eq_true] at hb
      have hso := hb.2
      rw [hpre] at hso
      rcases readsOk_mem (snapsOk_mem pre hso) q hq with ⟨k, hk, hb⟩ | hb | hb
      · cases hk; exact .inl hb
      · exact .inr (.inl hb)
      · exact .inr (.inr hb)
    · rw [hpre] at hso
      rcases readsOk_mem (snapsOk_mem (_ :: pre) hso) q hq with ⟨k, hk, hb⟩ | hb | hb
      · cases hk; exact .inl hb
      · exact .inr (.inl hb)
      · exact .inr (.inr hb)
  have hal : ∀ p ∈ fin.al, ρ p.rid = none ∧ start ≤ p.rid ∧ p.rid < h.next := by
    intro p hp
    obtain ⟨t, k1, k2, k3, k4, k5⟩ := hR.al_it hp
    obtain ⟨b1, b2, b3, b4⟩ := hR.it k1
    have hge : start ≤ p.rid := by rw [k3, b4]; exact ridsOf_le _ _
    exact ⟨hfr _ hge, hge, by rw [hnext, k3, b4]; exact hR.rid_room b2 k4⟩
  have hfull : Go' P env okc (fun x => start ≤ x) ρ h w ρ (full fin [] h) w := by
    refine Go'.ahead hst.heap (full_next _ _ _) (fun c => ?_)
    by_cases hex : ∃ p ∈ openAt [] fin.al, p.rid = c
    · obtain ⟨p, hp1, rfl⟩ := hex
      exact .inr (hal p hp1)
    · exact .inl (full_get (fun p hp1 hp2 => hex ⟨p, hp1, hp2⟩))
  have hS : (fun j => (Array.replicate ops.size false).getD j false) = fun _ => false := by
    funext j
    by_cases hj : j < ops.size <;> simp [Array.getD_eq_getD_getElem?, hj]
  have inv : Inv P env okc X ops tm n its start (ridsOf P ops.toList start) fin b cfn (fun j => (Array.replicate ops.size false).getD j false) [] ds h um ρ a m w := by
    rw [hS]
    refine ⟨fun i o hi => by simp at hi, fun i hi => by simp at hi, fun j t _ hj => by simp at hj, ⟨fin.snaps, by simp⟩, by simp, ?_, ?_, hst.size, hst.defs, hst.mode, hfull.rel, ?_, ?_, by rw [hnext]; exact Nat.le_refl _, hg, hcs⟩
    · intro j hj hjs
      have := (snaps_suf hR.chain j hj 0 (Nat.zero_le _)).2 (by rw [hjs, chain_start hR.chain])
      rw [chain_start hR.chain] at this
      exact ⟨this.1.symm, this.2.1.symm, this.2.2.symm⟩
    · intro t v hl
      unfold looks at hl
      rw [looks_none (S := fun _ => false) (t := t) its (fun _ _ _ => rfl) (tm.get t)] at hl
      exact hst.slots t v hl
    · intro p hp
      exact hcl _ (hal p hp).2.1
    · intro j o ho _ hm
      exact hfr _ (ridsOf_le _ _)
  have := hR.sim (k := k) he hF hc hrd h3 ops.size tt (Array.replicate ops.size false) [] ds h um ρ a m w (by simp) inv (by
    have := List.length_filter_le (fun i => !(Array.replicate ops.size false).getD i false) (List.range ops.size)
    simpa using this)
  unfold Region.linearise
  cases r with
  | ok loc2 ds2 h2 um2 =>
    obtain ⟨ρ2, a2, m2, w2, p1, p2, p3, p4⟩ := this
    exact ⟨ρ2, a2, m2, w2, p1, p2, hfull.trans p3, p4⟩
  | pan v2 ds2 h2 um2 =>
    obtain ⟨ρ2, x2, a2, m2, w2, todo, p1, p2, p3, p4, p5, p6, p7, p8⟩ := this
    exact ⟨ρ2, x2, a2, m2, w2, todo, p1, p2, p3, p4, p5, p6, hfull.trans p7, p8⟩
end
end Go.Eng
