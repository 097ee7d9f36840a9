/- The engine, part P5: a region whose order is open, in whatever order. -/
import Derived.Test.YtpnkohfmpdehaaaGreatDoorEngP4
set_option linter.unusedVariables false
set_option linter.unusedSimpArgs false
set_option linter.unusedSectionVars false
namespace Go.Eng

/-! ### Slots, by the operations that were done -/
theorem looks_congr {S S' : Nat → Bool} {t : Nat} : ∀ (l : List It) , (∀ it ∈ l, it.o.dst = some t → S it.i = S' it.i) → ∀ z : Option AVal,
    l.foldl (fun acc it => if S it.i = true ∧ it.o.dst = some t then some it.v else acc) z = l.foldl (fun acc it => if S' it.i = true ∧ it.o.dst = some t then some it.v else acc) z
  | [], _, z => rfl
  | it :: l, h, z => by
    simp only [List.foldl_cons]
    have e : (if S it.i = true ∧ it.o.dst = some t then some it.v else z) = (if S' it.i = true ∧ it.o.dst = some t then some it.v else z) := by
      by_cases hd : it.o.dst = some t
      · rw [h it (by simp) hd]
      · simp [hd]
    rw [e]
    exact looks_congr l (fun it' h' => h it' (by simp [h'])) _

theorem looks_none {S : Nat → Bool} {t : Nat} : ∀ (l : List It), (∀ it ∈ l, it.o.dst = some t → S it.i = false) → ∀ z : Option AVal,
    l.foldl (fun acc it => if S it.i = true ∧ it.o.dst = some t then some it.v else acc) z = z
  | [], _, z => rfl
  | it :: l, h, z => by
    simp only [List.foldl_cons]
    have e : (if S it.i = true ∧ it.o.dst = some t then some it.v else z) = z := by
      by_cases hd : it.o.dst = some t
      · rw [h it (by simp) hd]; simp
      · simp [hd]
    rw [e]
    exact looks_none l (fun it' h' => h it' (by simp [h'])) _

/-- An operand that an operation does not have is not looked at. -/
noncomputable def within (l : Array Operand) (ev : Operand → Option AVal) (x : Operand) : Option AVal := open Classical in if x ∈ l then ev x else none

theorem operA_within {P : Program} {X : Cx} {call : CallF} {rd : Bool} {ev : Operand → Option AVal} {ds : List ADefd} {h : AHeap} {um : UM} {rid : Nat} {op : Op} :
    operA P X call rd (within op.operands ev) ds h um rid op = operA P X call rd ev ds h um rid op := by
  unfold operA
  rw [execA_congr op (ev := within op.operands ev) (ev' := ev) (fun x hx => by unfold within; rw [if_pos hx])]

theorem wantedA_at {env : Nat → Value} {ρ : Rho} {ops : Array Oper} {loc : Loc} {tm : T AVal} {a : Act} {o : Oper} {r : Bool} (hs : ∀ t ∈ o.looksAt ops, ∀ v, lookL loc t tm = some v → ∃ x, a.tmps[t]? = some x ∧ VRel ρ env v x)
    (hw : wantedA ops loc tm o = some r) : Region.wanted o (yielded ops a.tmps) = r := by
  -- only the guard's slot is looked at
  unfold wantedA at hw
  unfold Region.wanted
  split at hw
  · rename_i hg
    cases hw; rw [hg]
  · rename_i j want hg
    rw [hg]; simp only
    cases hd : dstOf ops j with
    | none => rw [hd] at hw; cases hw
    | some d =>
      rw [hd] at hw; simp only at hw
      have hy : (ops[j]?).bind (·.dst) = some d := by
        unfold dstOf at hd
        cases ho : ops[j]? with
        | none => rw [ho] at hd; cases hd
        | some o' => rw [ho] at hd; simpa using hd
      have hin : d ∈ o.looksAt ops := by
        unfold Oper.looksAt
        rw [hg]
        refine List.mem_append_right _ ?_
        simp [hy]
      unfold yielded
      rw [hy]
      simp only [Option.bind_some]
      split at hw
      · rename_i b hl
        cases hw
        obtain ⟨x, h1, h2⟩ := hs d hin _ hl
        rw [h1, h2.of_bool]
        cases b <;> cases want <;> rfl
      · rename_i hl
        cases hw
        obtain ⟨x, h1, h2⟩ := hs d hin _ hl
        obtain ⟨l', rfl, h3⟩ := h2.of_tup
        rw [h1]
        rfl
      · cases hw

theorem looksAt_tmp {ops : Array Oper} {o : Oper} {t : Nat} (h : Operand.tmp t ∈ o.op.operands) : t ∈ o.looksAt ops := by
  unfold Oper.looksAt
  refine List.mem_append_left _ (List.mem_filterMap.2 ⟨.tmp t, by simpa using h, rfl⟩)

/-! ### The run in the world -/
section
variable {P : Program} {env : Nat → Value} {okc : FuncId → Code → Bool} {X : Cx} {call : CallF} {rd : Bool} {ops : Array Oper} {tm : T AVal} {n : Nat}
  {its : List It} {pz : Option Nat} {start R : Nat} {s0 fin : DS} {b : Frame} {cfn : FrameMode → List Frame}

/-- Where a run in the world stands: which operations are done, and which effects. -/
structure Inv (P : Program) (env : Nat → Value) (okc : FuncId → Code → Bool) (X : Cx) (ops : Array Oper) (tm : T AVal) (n : Nat) (its : List It) (start R : Nat) (fin : DS) (b : Frame) (cfn : FrameMode → List Frame)
    (S : Nat → Bool) (sn : List Sn) (ds : List ADefd) (h : AHeap) (um : UM) (ρ : Rho) (a : Act) (m : FrameMode) (w : World) : Prop where
  closed : Closed ops (fun i => S i = true)
  inb : ∀ i, S i = true → i < its.length
  done : ∀ (j : Nat) t, its[j]? = some t → S j = true → t.kd ≠ .hole
  suf : ∃ pre, fin.snaps = pre ++ sn
  effs : ∀ (j : Nat) t ds' h' um', its[j]? = some t → t.kd = .eff ds' h' um' → (S j = true ↔ ∃ s ∈ sn, s.e = j)
  cur : ∀ j, j ≤ its.length → (stAt its fin j).snaps = sn → (stAt its fin j).h = h ∧ (stAt its fin j).ds = ds ∧ (stAt its fin j).um = um
  slots : ∀ t v, looks S tm its t = some v → ∃ x, a.tmps[t]? = some x ∧ VRel ρ env v x
  size : a.tmps.size = n
  defs : DefsRel env ρ ds a.defers
  mode : ModeRel env ρ um m
  heap : HRel P env okc ρ (commitAll (openAt sn fin.al) h) w
  hole : ∀ p ∈ openAt sn fin.al, h.get p.rid = none
  fresh : ∀ (j : Nat) o, ops[j]? = some o → S j = false → mayAlloc P o.op = true → ρ (ridsOf P (ops.toList.take j) start) = none
  room : R ≤ h.next
  glob : GlobOk ρ X.nglob
  cs : CsOk b cfn um

/-- What is given of a run. -/
structure Run (P : Program) (X : Cx) (call : CallF) (rd : Bool) (ops : Array Oper) (tm : T AVal) (n : Nat) (its : List It) (pz : Option Nat) (start R : Nat) (s0 fin : DS) : Prop where
  draw : drawOk n ops = true
  chain : Chain P X call rd ops tm 0 start s0 its fin
  plan : plan ops = its.map (fun t => (t.o, t.m))
  /-- what is not done: the operation that panics, and those that wait for it -/
  holes : ∀ (j : Nat) t, its[j]? = some t → t.kd = .hole → ∃ p, pz = some p ∧ (j = p ∨ bitOf t.m p = true)
  pan : ∀ p, pz = some p → ∃ t, its[p]? = some t ∧ t.kd = .hole
  loc : s0.loc = .nil
  pend : s0.pend = []
  al : s0.al = []
  snaps : s0.snaps = []
  reads : s0.reads = []
  rids : ridsOf P ops.toList start = R
  /-- the reads come to the same wherever they may stand -/
  same : ∀ r ∈ fin.reads, ∀ (pre : List Sn) (s : Sn) (sn : List Sn), fin.snaps = pre ++ s :: sn → bitOf r.m s.e = true ∨ ahead r sn = true ∨ readsAs P X tm (commitAll (openAt sn fin.al) s.h) r = true
  last : ∀ r ∈ fin.reads, (∃ p, pz = some p ∧ bitOf r.m p = true) ∨ ahead r fin.snaps = true ∨ readsAs P X tm (commitAll (openAt fin.snaps fin.al) fin.h) r = true

variable (hR : Run P X call rd ops tm n its pz start R s0 fin)
include hR

theorem Run.it {j : Nat} {t : It} (ht : its[j]? = some t) : (Go.Eng.plan ops)[j]? = some (t.o, t.m) ∧ ops[j]? = some t.o ∧ t.i = j ∧ t.rid = ridsOf P (ops.toList.take j) start := by
  have hlt : j < its.length := (List.getElem?_eq_some_iff.1 ht).1
  have h1 : (Go.Eng.plan ops)[j]? = some (t.o, t.m) := by
    rw [hR.plan, List.getElem?_map, ht]; rfl
  have hmap := (plan_ok ops).1
  have h2 : ops.toList[j]? = some t.o := by rw [← hmap, List.getElem?_map, h1]; rfl
  obtain ⟨q1, q2, _, _⟩ := chain_split hR.chain j t ht
  refine ⟨h1, by simpa using h2, by omega, ?_⟩
  rw [q2]
  congr 1
  rw [← hmap, hR.plan, List.map_map, ← List.map_take]
  rfl

/-- A region's operation with its mask. -/
theorem Run.mask {j : Nat} {om : Oper × Nat} (ho : (Go.Eng.plan ops)[j]? = some om) : MaskOk ops om.2 j ∧ (∀ e ∈ om.1.after, Region.binds .any e = true → e.on < j) ∧
    ∀ k' om', k' < j → (Go.Eng.plan ops)[k']? = some om' → bitOf om.2 k' = true ∨ om'.1.apart ops om.1 = true := by
  have hd := hR.draw
  unfold drawOk at hd
  rw [Bool.and_eq_true] at hd
  obtain ⟨q1, _, q3⟩ := ordFrom_spec _ 0 [] hd.2 j om ho
  refine ⟨(plan_ok ops).2 j om ho, fun e he hb => by have := q1 e he hb; omega, fun k' om' hk ho' => ?_⟩
  have := q3 k' om' hk ho'
  rwa [Nat.zero_add] at this

theorem Run.plan_at {j : Nat} {o : Oper} (ho : ops[j]? = some o) : ∃ m, (Go.Eng.plan ops)[j]? = some (o, m) := by
  have hmap := (plan_ok ops).1
  have h2 : ops.toList[j]? = some o := by simpa using ho
  rw [← hmap, List.getElem?_map] at h2
  cases h3 : (Go.Eng.plan ops)[j]? with
  | none => rw [h3] at h2; cases h2
  | some om => rw [h3] at h2; simp at h2; exact ⟨om.2, by rw [← h2]⟩

/-- A mask tells of lower numbers only. -/
theorem Run.low {j : Nat} {om : Oper × Nat} (ho : (Go.Eng.plan ops)[j]? = some om) (k : Nat) (hk : bitOf om.2 k = true) : k < j := by
  obtain ⟨h1, h2, _⟩ := hR.mask ho
  refine h1 (fun i => i < j) ?_ ?_ k hk
  · intro i o hi ho' e he hb
    obtain ⟨m, hm⟩ := hR.plan_at ho'
    have := (hR.mask hm).2.1 e he hb
    omega
  · intro o ho' e he hb
    obtain ⟨m, hm⟩ := hR.plan_at ho'
    exact (hR.mask hm).2.1 e he hb

theorem Run.lowIt (j : Nat) (t : It) (ht : its[j]? = some t) (k : Nat) (hk : bitOf t.m k = true) : k < j := hR.low (hR.it ht).1 k hk

/-- What is done holds all that stands ahead of it. -/
theorem Run.ahead {S : Nat → Bool} (hS : Closed ops (fun i => S i = true)) {j : Nat} {om : Oper × Nat} (ho : (Go.Eng.plan ops)[j]? = some om) (hj : S j = true) (k : Nat) (hk : bitOf om.2 k = true) : S k = true :=
  (hR.mask ho).1 (fun i => S i = true) hS (fun o ho' e he hb => hS j o hj ho' e he hb) k hk

/-- What may be done next has all that stands ahead of it done. -/
theorem Run.ready {S : Nat → Bool} (hS : Closed ops (fun i => S i = true)) {j : Nat} {om : Oper × Nat} (ho : (Go.Eng.plan ops)[j]? = some om)
    (hj : ∀ o, ops[j]? = some o → ∀ e ∈ o.after, Region.binds .any e = true → S e.on = true) (k : Nat) (hk : bitOf om.2 k = true) : S k = true :=
  (hR.mask ho).1 (fun i => S i = true) hS hj k hk

/-! Numbers of blocks. -/
theorem Run.rid_lt {i j : Nat} {o : Oper} (ho : ops[i]? = some o) (hm : mayAlloc P o.op = true) (hij : i < j) : ridsOf P (ops.toList.take i) start < ridsOf P (ops.toList.take j) start := by
  have step : ∀ k, ridsOf P (ops.toList.take k) start ≤ ridsOf P (ops.toList.take (k + 1)) start := by
    intro k
    have happ : ∀ (l l' : List Oper) (x : Nat), ridsOf P (l ++ l') x = ridsOf P l' (ridsOf P l x) := by
      intro l
      induction l with
      | nil => intro l' x; rfl
      | cons o l ih => intro l' x; rw [List.cons_append, ridsOf_cons, ridsOf_cons, ih]
    rw [List.take_add_one, happ]
    exact ridsOf_le _ _
  have mono : ∀ d, ridsOf P (ops.toList.take (i + 1)) start ≤ ridsOf P (ops.toList.take (i + 1 + d)) start := by
    intro d
    induction d with
    | zero => exact Nat.le_refl _
    | succ d ih => exact Nat.le_trans ih (step _)
  have h1 : ridsOf P (ops.toList.take (i + 1)) start = ridsOf P (ops.toList.take i) start + 1 := by
    have happ : ∀ (l l' : List Oper) (x : Nat), ridsOf P (l ++ l') x = ridsOf P l' (ridsOf P l x) := by
      intro l
      induction l with
      | nil => intro l' x; rfl
      | cons o l ih => intro l' x; rw [List.cons_append, ridsOf_cons, ridsOf_cons, ih]
    have h2 : ops.toList[i]? = some o := by simpa using ho
    rw [List.take_add_one, happ, h2]
    show nextRid P o.op _ = _
    rw [nextRid_eq, if_pos hm]
  have := mono (j - (i + 1))
  rw [show i + 1 + (j - (i + 1)) = j by omega] at this
  omega

theorem Run.rid_room {i : Nat} {o : Oper} (ho : ops[i]? = some o) (hm : mayAlloc P o.op = true) : ridsOf P (ops.toList.take i) start < R := by
  have hlt : i < ops.toList.length := by simpa using (Array.getElem?_eq_some_iff.1 ho).1
  have := hR.rid_lt ho hm hlt
  rw [List.take_length, hR.rids] at this
  exact this

theorem Run.rid_ne {i j : Nat} {o o' : Oper} (ho : ops[i]? = some o) (hm : mayAlloc P o.op = true) (ho' : ops[j]? = some o') (hm' : mayAlloc P o'.op = true) (hij : i ≠ j) :
    ridsOf P (ops.toList.take i) start ≠ ridsOf P (ops.toList.take j) start := by
  rcases Nat.lt_or_ge i j with h | h
  · have := hR.rid_lt ho hm h; omega
  · have := hR.rid_lt ho' hm' (show j < i by omega); omega

/-- The blocks that are made: by which operation. -/
theorem Run.al_it {p : Pd} (hp : p ∈ fin.al) : ∃ t, its[p.i]? = some t ∧ t.kd = .alloc p.obj ∧ p.rid = t.rid ∧ mayAlloc P t.o.op = true ∧ liveW (some p.obj) := by
  rw [← stAt_end (its := its) (fin := fin)] at hp
  obtain ⟨j', t, obj, h1, h2, h3, rfl⟩ := al_items hR.chain hR.al its.length (Nat.le_refl _) p hp
  have hg := (chain_split hR.chain j' t h2).2.2.1
  unfold It.good at hg
  rw [h3] at hg
  obtain ⟨g1, g2, h', g3, g4⟩ := hg
  exact ⟨t, h2, h3, rfl, cls_alloc g2, (alloc_any g2 g3 g4 t.s.h).2⟩

theorem Run.al_apart : fin.al.Pairwise (fun p q => p.rid ≠ q.rid) := by
  have h := chain_ind hR.chain (fun j s => j ≤ its.length → s.al.Pairwise (fun p q => p.rid ≠ q.rid)) (by rw [hR.al]; simp) ?_ its.length (Nat.le_refl _) (Nat.le_refl _)
  · rwa [stAt_end] at h
  · intro j it hj ih hle
    have ih := ih (by omega)
    unfold It.next
    cases hk : it.kd with
    | skip => exact ih
    | hole => exact ih
    | pure => exact ih
    | read => exact ih
    | eff ds h um => exact ih
    | alloc obj =>
      refine List.pairwise_cons.2 ⟨fun q hq => ?_, ih⟩
      rw [← stAt_of (fin := fin) hj] at hq
      obtain ⟨j', t, obj', h1, h2, h3, rfl⟩ := al_items hR.chain hR.al j (by omega) q hq
      have hg := (chain_split hR.chain j it hj).2.2.1
      have hg' := (chain_split hR.chain j' t h2).2.2.1
      unfold It.good at hg hg'
      rw [hk] at hg
      rw [h3] at hg'
      obtain ⟨a1, a2, a3, a4⟩ := hR.it hj
      obtain ⟨b1, b2, b3, b4⟩ := hR.it h2
      show it.rid ≠ t.rid
      rw [a4, b4]
      exact hR.rid_ne a2 (cls_alloc hg.2.1) b2 (cls_alloc hg'.2.1) (by omega)

theorem Run.al_one {p q : Pd} (hp : p ∈ fin.al) (hq : q ∈ fin.al) (he : p.rid = q.rid) : p = q := by
  obtain ⟨t, h1, h2, h3, h4, _⟩ := hR.al_it hp
  obtain ⟨u, k1, k2, k3, k4, _⟩ := hR.al_it hq
  obtain ⟨a1, a2, a3, a4⟩ := hR.it h1
  obtain ⟨b1, b2, b3, b4⟩ := hR.it k1
  by_cases hi : p.i = q.i
  · rw [hi, k1] at h1; cases h1
    rw [k2] at h2
    have ho : q.obj = p.obj := by injection h2
    obtain ⟨pi, pr, po⟩ := p
    obtain ⟨qi, qr, qo⟩ := q
    simp only at hi he ho
    subst hi; subst he; subst ho; rfl
  · exact absurd (by rw [← a4, ← b4, ← h3, ← k3]; exact he) (hR.rid_ne a2 h4 b2 k4 hi)

theorem Run.pend_open {j : Nat} {t : It} (ht : its[j]? = some t) : t.s.pend = openAt t.s.snaps t.s.al := by
  have hlt : j < its.length := (List.getElem?_eq_some_iff.1 ht).1
  have := Go.Eng.pend_open hR.chain hR.pend hR.al hR.snaps hR.lowIt j (by omega)
  rwa [stAt_of ht] at this

theorem Run.al_sub {j : Nat} (hj : j ≤ its.length) {p : Pd} (hp : p ∈ (stAt its fin j).al) : p ∈ fin.al := by
  obtain ⟨j', t, obj, h1, h2, h3, rfl⟩ := al_items hR.chain hR.al j hj p hp
  have := items_al hR.chain its.length (Nat.le_refl _) j' t obj (by omega) h2 h3
  rwa [stAt_end] at this

end
end Go.Eng
