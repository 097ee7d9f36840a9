/- The engine, part P4: facts of a trace. -/
import Derived.Test.YtpnkohfmpdehaaaGreatDoorEngP3
set_option linter.unusedSectionVars false
set_option linter.unusedVariables false
set_option linter.unusedSimpArgs false
namespace Go.Eng

/-! ### What is asked of a region whose order is open -/
def edgesOk (j : Nat) : List Edge → Bool
  | [] => true
  | e :: l => (!Region.binds .any e || Nat.ble (Nat.succ e.on) j) && edgesOk j l

def apartAll (ops : Array Oper) (o : Oper) (m : Nat) : List (Nat × Oper) → Bool
  | [] => true
  | p :: l => (bitOf m p.1 || p.2.apart ops o) && apartAll ops o m l

def ordFrom (ops : Array Oper) : List (Oper × Nat) → Nat → List (Nat × Oper) → Bool
  | [], _, _ => true
  | om :: l, j, acc => edgesOk j om.1.after.toList && apartAll ops om.1 om.2 acc && ordFrom ops l (Nat.succ j) ((j, om.1) :: acc)

noncomputable def drawOk (n : Nat) (ops : Array Oper) : Bool := dstsOk n ops.toList && ordFrom ops (plan ops) 0 []

theorem edgesOk_mem {j : Nat} : ∀ {l : List Edge}, edgesOk j l = true → ∀ e ∈ l, Region.binds .any e = true → e.on < j
  | [], _, e, he => by simp at he
  | e :: l, h, e', he' => by
    simp only [edgesOk, Bool.and_eq_true] at h
    rcases List.mem_cons.1 he' with rfl | he'
    · intro hb
      rw [hb] at h
      exact ble_le (by simpa using h.1)
    · exact edgesOk_mem h.2 e' he'
theorem apartAll_mem {ops : Array Oper} {o : Oper} {m : Nat} : ∀ {l : List (Nat × Oper)}, apartAll ops o m l = true → ∀ p ∈ l, bitOf m p.1 = true ∨ p.2.apart ops o = true
  | [], _, p, hp => by simp at hp
  | q :: l, h, p, hp => by
    simp only [apartAll, Bool.and_eq_true, Bool.or_eq_true] at h
    rcases List.mem_cons.1 hp with rfl | hp
    · exact h.1
    · exact apartAll_mem h.2 p hp
theorem ordFrom_spec {ops : Array Oper} : ∀ (l : List (Oper × Nat)) (j : Nat) (acc : List (Nat × Oper)), ordFrom ops l j acc = true → ∀ (k : Nat) om, l[k]? = some om →
    (∀ e ∈ om.1.after, Region.binds .any e = true → e.on < j + k) ∧ (∀ p ∈ acc, bitOf om.2 p.1 = true ∨ p.2.apart ops om.1 = true) ∧
    ∀ k' om', k' < k → l[k']? = some om' → bitOf om.2 (j + k') = true ∨ om'.1.apart ops om.1 = true
  | [], _, _, _, k, om, hk => by simp at hk
  | o :: l, j, acc, h, k, om, hk => by
    simp only [ordFrom, Bool.and_eq_true] at h
    obtain ⟨⟨h1, h2⟩, h3⟩ := h
    cases k with
    | zero =>
      simp at hk; subst hk
      exact ⟨fun e he => edgesOk_mem h1 e (by simpa using he), apartAll_mem h2, fun k' om' hk' => by omega⟩
    | succ k =>
      have hk' : l[k]? = some om := by simpa using hk
      obtain ⟨q1, q2, q3⟩ := ordFrom_spec l (j + 1) ((j, o.1) :: acc) h3 k om hk'
      refine ⟨fun e he hb => by have := q1 e he hb; omega, fun p hp => q2 p (by simp [hp]), fun k2 om' hk2 hl => ?_⟩
      cases k2 with
      | zero => simp at hl; subst hl; exact q2 (j, o.1) (by simp)
      | succ k2 =>
        have := q3 k2 om' (by omega) (by simpa using hl)
        rwa [show j + (k2 + 1) = j + 1 + k2 by omega]

/-! ### Abstract values that are the same -/
theorem eqCap_eq {a b : Cap} (h : eqCap a b = true) : a = b := by
  cases a <;> cases b <;> simp only [eqCap] at h <;> first | cases h | (have := Nat.eq_of_beq_eq_true h; subst this; rfl)

mutual
theorem beqV_eq : ∀ (a b : AVal), beqV a b = true → a = b
  | .bool a, b, h => by cases b <;> simp only [beqV, beq_iff_eq] at h <;> first | (subst h; rfl) | cases h
  | .int k n, b, h => by
    cases b <;> simp only [beqV, Bool.and_eq_true, decide_eq_true_eq, eqI_eq, beq_iff_eq] at h <;> first | (obtain ⟨rfl, rfl⟩ := h; rfl) | cases h
  | .str l m, b, h => by
    cases b <;> simp only [beqV, Bool.and_eq_true, Nat.beq_eq] at h <;> first | (obtain ⟨rfl, rfl⟩ := h; rfl) | cases h
  | .ptr c o, b, h => by
    cases b <;> simp only [beqV, Bool.and_eq_true, Nat.beq_eq] at h <;> first | (obtain ⟨rfl, rfl⟩ := h; rfl) | cases h
  | .nptr, b, h => by cases b <;> simp only [beqV] at h <;> first | rfl | cases h
  | .slc c o n k, b, h => by
    cases b <;> simp only [beqV, Bool.and_eq_true, Nat.beq_eq] at h <;> first | (obtain ⟨⟨⟨rfl, rfl⟩, rfl⟩, hk⟩ := h; rw [eqCap_eq hk]) | cases h
  | .nslc, b, h => by cases b <;> simp only [beqV] at h <;> first | rfl | cases h
  | .map c, b, h => by cases b <;> simp only [beqV, Nat.beq_eq] at h <;> first | (subst h; rfl) | cases h
  | .nmap, b, h => by cases b <;> simp only [beqV] at h <;> first | rfl | cases h
  | .func f a c, b, h => by
    cases b <;> simp only [beqV, Bool.and_eq_true, Nat.beq_eq] at h <;>
      first | (obtain ⟨⟨rfl, h1⟩, h2⟩ := h; rw [beqVs_eq _ _ h1, beqVs_eq _ _ h2]) | cases h
  | .yield c, b, h => by cases b <;> simp only [beqV, Nat.beq_eq] at h <;> first | (subst h; rfl) | cases h
  | .nfunc, b, h => by cases b <;> simp only [beqV] at h <;> first | rfl | cases h
  | .iface t v, b, h => by
    cases b <;> simp only [beqV, Bool.and_eq_true, Nat.beq_eq] at h <;> first | (obtain ⟨rfl, h1⟩ := h; rw [beqV_eq _ _ h1]) | cases h
  | .niface, b, h => by cases b <;> simp only [beqV] at h <;> first | rfl | cases h
  | .agg l, b, h => by cases b <;> simp only [beqV] at h <;> first | rw [beqVs_eq _ _ h] | cases h
  | .tup l, b, h => by cases b <;> simp only [beqV] at h <;> first | rw [beqVs_eq _ _ h] | cases h
  | .sym i, b, h => by cases b <;> simp only [beqV, Nat.beq_eq] at h <;> first | (subst h; rfl) | cases h
  | .any, b, h => by cases b <;> simp only [beqV] at h <;> first | rfl | cases h
theorem beqVs_eq : ∀ (a b : List AVal), beqVs a b = true → a = b
  | [], b, h => by cases b <;> simp only [beqVs] at h <;> first | rfl | cases h
  | x :: l, b, h => by
    cases b with
    | nil => simp only [beqVs] at h; cases h
    | cons y l' =>
      simp only [beqVs, Bool.and_eq_true] at h
      rw [beqV_eq x y h.1, beqVs_eq l l' h.2]
end

section
variable {P : Program} {X : Cx} {call : CallF} {rd : Bool} {ops : Array Oper} {tm : T AVal}

theorem readsOk_mem {h : AHeap} {e : Option Nat} {l : List Sn} : ∀ {rs : List Rd}, readsOk P X tm h e l rs = true → ∀ r ∈ rs,
    (∃ k, e = some k ∧ bitOf r.m k = true) ∨ ahead r l = true ∨ readsAs P X tm h r = true
  | [], _, r, hr => by simp at hr
  | q :: rs, hh, r, hr => by
    simp only [readsOk, Bool.and_eq_true, Bool.or_eq_true] at hh
    rcases List.mem_cons.1 hr with rfl | hr
    · rcases hh.1 with (h1 | h1) | h1
      · cases e with
        | none => cases h1
        | some k => exact .inl ⟨k, rfl, h1⟩
      · exact .inr (.inl h1)
      · exact .inr (.inr h1)
    · exact readsOk_mem hh.2 r hr

theorem snapsOk_mem {al : List Pd} {rs : List Rd} {s : Sn} {sn : List Sn} : ∀ (pre : List Sn), snapsOk P X tm al rs (pre ++ s :: sn) = true →
    readsOk P X tm (commitAll (openAt sn al) s.h) (some s.e) sn rs = true
  | [], h => by
    simp only [List.nil_append, snapsOk, Bool.and_eq_true] at h
    exact h.1
  | p :: pre, h => by
    simp only [List.cons_append, snapsOk, Bool.and_eq_true] at h
    exact snapsOk_mem pre h.2

theorem readsAs_spec {h : AHeap} {r : Rd} (hr : readsAs P X tm h r = true) : ∃ h', execA P X (evA X r.loc tm) h 0 r.op = some (.val r.v h') := by
  unfold readsAs at hr
  split at hr
  · rename_i v h' he
    rw [he, beqV_eq _ _ hr]; exact ⟨h', rfl⟩
  · cases hr

/-! ### What is laid down on the way -/
section
variable {its : List It} {start : Nat} {s fin : DS}

theorem stAt_of {j : Nat} {t : It} (ht : its[j]? = some t) : stAt its fin j = t.s := by unfold stAt; rw [ht]
theorem stAt_end : stAt its fin its.length = fin := by unfold stAt; rw [List.getElem?_eq_none (Nat.le_refl _)]

variable (hch : Chain P X call rd ops tm 0 start s its fin) (h0 : s.loc = .nil) (h1 : s.pend = []) (h2 : s.al = []) (h3 : s.snaps = []) (h4 : s.reads = [])
include hch

theorem it_i {j : Nat} {t : It} (ht : its[j]? = some t) : t.i = j := by have := (chain_split hch j t ht).1; omega

/-- The values in the slots, of a list of operations. -/
noncomputable def looks (S : Nat → Bool) (tm : T AVal) (l : List It) (t : Nat) : Option AVal :=
  l.foldl (fun acc it => if S it.i = true ∧ it.o.dst = some t then some it.v else acc) (tm.get t)

/-- Is an operation of a trace done? -/
def isHole : Kd → Bool
  | .hole => true
  | _ => false
def alive (its : List It) (j : Nat) : Bool := match its[j]? with | some t => !isHole t.kd | none => true

include h0 in
theorem loc_looks (t : Nat) : ∀ j, j ≤ its.length → lookL (stAt its fin j).loc t tm = looks (alive its) tm (its.take j) t := by
  refine chain_ind hch (fun j s => lookL s.loc t tm = looks (alive its) tm (its.take j) t) (by rw [h0]; rfl) ?_
  intro j it hj ih
  have e : its.take (j + 1) = its.take j ++ [it] := by rw [List.take_add_one, hj]; rfl
  rw [e]
  unfold looks at ih ⊢
  rw [List.foldl_append, ← ih]
  have ha : alive its it.i = !isHole it.kd := by unfold alive; rw [it_i hch hj, hj]
  simp only [List.foldl_cons, List.foldl_nil, ha]
  cases hk : isHole it.kd with
  | true =>
    have hn : it.next.loc = it.s.loc := by
      unfold It.next
      cases hkd : it.kd <;> rw [hkd] at hk <;> first | rfl | cases hk
    rw [hn]
    simp
  | false =>
    have hn : it.next.loc = pushL it.o.dst it.v it.s.loc := by
      unfold It.next
      cases hkd : it.kd <;> rw [hkd] at hk <;> first | rfl | cases hk
    rw [hn]
    simp only [Bool.not_false, true_and]
    cases hd : it.o.dst with
    | none => simp [pushL]
    | some d =>
      show lookL (.cons d it.v it.s.loc) t tm = _
      rw [lookL_cons]
      simp

include h2 in
theorem al_items : ∀ j, j ≤ its.length → ∀ p ∈ (stAt its fin j).al, ∃ j' t obj, j' < j ∧ its[j']? = some t ∧ t.kd = .alloc obj ∧ p = ⟨j', t.rid, obj⟩ := by
  refine chain_ind hch (fun j s => ∀ p ∈ s.al, ∃ j' t obj, j' < j ∧ its[j']? = some t ∧ t.kd = .alloc obj ∧ p = ⟨j', t.rid, obj⟩) (by rw [h2]; simp) ?_
  intro j it hj ih p hp
  have old : p ∈ it.s.al → ∃ j' t obj, j' < j + 1 ∧ its[j']? = some t ∧ t.kd = .alloc obj ∧ p = ⟨j', t.rid, obj⟩ := fun h => by
    obtain ⟨j', t, obj, q1, q2⟩ := ih p h
    exact ⟨j', t, obj, by omega, q2⟩
  unfold It.next at hp
  cases hk : it.kd with
  | skip => rw [hk] at hp; exact old hp
  | hole => rw [hk] at hp; exact old hp
  | pure => rw [hk] at hp; exact old hp
  | read => rw [hk] at hp; exact old hp
  | eff _ _ _ => rw [hk] at hp; exact old hp
  | alloc obj =>
    rw [hk] at hp
    rcases List.mem_cons.1 hp with rfl | hp
    · exact ⟨j, it, obj, by omega, hj, hk, by rw [it_i hch hj]⟩
    · exact old hp

theorem items_al : ∀ j, j ≤ its.length → ∀ j' t obj, j' < j → its[j']? = some t → t.kd = .alloc obj → (⟨j', t.rid, obj⟩ : Pd) ∈ (stAt its fin j).al := by
  refine chain_ind hch (fun j s => ∀ j' t obj, j' < j → its[j']? = some t → t.kd = .alloc obj → (⟨j', t.rid, obj⟩ : Pd) ∈ s.al) (fun _ _ _ h => by omega) ?_
  intro j it hj ih j' t obj hlt ht hk
  have sub : ∀ p, p ∈ it.s.al → p ∈ it.next.al := by
    intro p hp
    unfold It.next
    cases it.kd <;> first | exact hp | exact List.mem_cons_of_mem _ hp
  rcases Nat.lt_or_ge j' j with h | h
  · exact sub _ (ih j' t obj h ht hk)
  · obtain rfl : j' = j := by omega
    rw [hj] at ht; cases ht
    unfold It.next
    rw [hk]
    rw [it_i hch hj]
    exact List.mem_cons_self

theorem items_reads : ∀ j, j ≤ its.length → ∀ j' t, j' < j → its[j']? = some t → t.kd = .read → (⟨j', t.m, t.o.op, t.s.loc, t.v⟩ : Rd) ∈ (stAt its fin j).reads := by
  refine chain_ind hch (fun j s => ∀ j' t, j' < j → its[j']? = some t → t.kd = .read → (⟨j', t.m, t.o.op, t.s.loc, t.v⟩ : Rd) ∈ s.reads) (fun _ _ h => by omega) ?_
  intro j it hj ih j' t hlt ht hk
  have sub : ∀ p, p ∈ it.s.reads → p ∈ it.next.reads := by
    intro p hp
    unfold It.next
    cases it.kd <;> first | exact hp | exact List.mem_cons_of_mem _ hp
  rcases Nat.lt_or_ge j' j with h | h
  · exact sub _ (ih j' t h ht hk)
  · obtain rfl : j' = j := by omega
    rw [hj] at ht; cases ht
    unfold It.next
    rw [hk]
    rw [it_i hch hj]
    exact List.mem_cons_self

include h3 in
theorem snaps_items : ∀ j, j ≤ its.length → ∀ pre sn l, (stAt its fin j).snaps = pre ++ sn :: l → ∃ j' t ds h um, j' < j ∧ its[j']? = some t ∧ t.kd = .eff ds h um ∧ sn = ⟨j', t.m, t.s.h⟩ ∧ t.s.snaps = l := by
  refine chain_ind hch (fun j s => ∀ pre sn l, s.snaps = pre ++ sn :: l → ∃ j' t ds h um, j' < j ∧ its[j']? = some t ∧ t.kd = .eff ds h um ∧ sn = ⟨j', t.m, t.s.h⟩ ∧ t.s.snaps = l)
    (by rw [h3]; intro pre sn l h; simp at h) ?_
  intro j it hj ih pre sn l hs
  have old : it.s.snaps = pre ++ sn :: l → ∃ j' t ds h um, j' < j + 1 ∧ its[j']? = some t ∧ t.kd = .eff ds h um ∧ sn = ⟨j', t.m, t.s.h⟩ ∧ t.s.snaps = l := fun h => by
    obtain ⟨j', t, ds, hh, um, q1, q2⟩ := ih pre sn l h
    exact ⟨j', t, ds, hh, um, by omega, q2⟩
  unfold It.next at hs
  cases hk : it.kd with
  | skip => rw [hk] at hs; exact old hs
  | hole => rw [hk] at hs; exact old hs
  | pure => rw [hk] at hs; exact old hs
  | read => rw [hk] at hs; exact old hs
  | alloc obj => rw [hk] at hs; exact old hs
  | eff ds h um =>
    rw [hk] at hs
    simp only at hs
    cases pre with
    | nil =>
      simp only [List.nil_append, List.cons.injEq] at hs
      exact ⟨j, it, ds, h, um, by omega, hj, hk, by rw [← hs.1, it_i hch hj], hs.2⟩
    | cons p pre =>
      simp only [List.cons_append, List.cons.injEq] at hs
      obtain ⟨j', t, ds', h', um', q1, q2, q3, q4, q5⟩ := ih pre sn l hs.2
      exact ⟨j', t, ds', h', um', by omega, q2, q3, q4, q5⟩

/-- The effects so far stand at the end of those later. -/
theorem snaps_suf : ∀ j, j ≤ its.length → ∀ j', j' ≤ j → (stAt its fin j').snaps <:+ (stAt its fin j).snaps ∧
    ((stAt its fin j').snaps.length = (stAt its fin j).snaps.length → (stAt its fin j').h = (stAt its fin j).h ∧ (stAt its fin j').ds = (stAt its fin j).ds ∧ (stAt its fin j').um = (stAt its fin j).um) := by
  intro j hj
  refine chain_ind hch (fun j s => ∀ j', j' ≤ j → (stAt its fin j').snaps <:+ s.snaps ∧ ((stAt its fin j').snaps.length = s.snaps.length → (stAt its fin j').h = s.h ∧ (stAt its fin j').ds = s.ds ∧ (stAt its fin j').um = s.um)) ?_ ?_ j hj
  · intro j' hj'
    obtain rfl : j' = 0 := by omega
    rw [chain_start hch]
    exact ⟨List.suffix_refl _, fun _ => ⟨rfl, rfl, rfl⟩⟩
  · intro j it hj ih j' hj'
    rcases Nat.lt_or_ge j' (j + 1) with h | h
    · obtain ⟨q1, q2⟩ := ih j' (by omega)
      unfold It.next
      cases hk : it.kd with
      | skip => exact ⟨q1, q2⟩
      | hole => exact ⟨q1, q2⟩
      | pure => exact ⟨q1, q2⟩
      | read => exact ⟨q1, q2⟩
      | alloc obj => exact ⟨q1, q2⟩
      | eff ds h um =>
        refine ⟨q1.trans (List.suffix_cons _ _), fun hlen => ?_⟩
        have := q1.length_le
        simp only [List.length_cons] at hlen
        omega
    · obtain rfl : j' = j + 1 := by omega
      rw [(chain_split hch j it hj).2.2.2]
      exact ⟨List.suffix_refl _, fun _ => ⟨rfl, rfl, rfl⟩⟩

include h3 in
theorem snaps_apart : ∀ j, j ≤ its.length → (stAt its fin j).snaps.Pairwise (fun a b => a.e ≠ b.e) := by
  intro j hj
  have := chain_ind hch (fun j s => j ≤ its.length → s.snaps.Pairwise (fun a b => a.e ≠ b.e)) (by rw [h3]; simp) ?_ j hj hj
  · exact this
  · intro j it hj ih hle
    have ih := ih (by omega)
    unfold It.next
    cases hk : it.kd with
    | skip => exact ih
    | hole => exact ih
    | pure => exact ih
    | read => exact ih
    | alloc obj => exact ih
    | eff ds h um =>
      refine List.pairwise_cons.2 ⟨fun b hb => ?_, ih⟩
      rw [← stAt_of (fin := fin) hj] at hb
      obtain ⟨pre, l, hs⟩ := List.append_of_mem hb
      obtain ⟨j', t, ds', h', um', q1, q2, q3, q4, q5⟩ := snaps_items hch h3 j (by omega) pre b l hs
      rw [q4]
      show it.i ≠ j'
      rw [it_i hch hj]; omega

/-- Of an effect all the earlier ones stand ahead. -/
theorem snaps_closed {S : Nat → Prop} (hS : ∀ j t, its[j]? = some t → S j → ∀ k, bitOf t.m k = true → S k) (h3 : s.snaps = []) :
    ∀ j, j ≤ its.length → ∀ a l, (stAt its fin j).snaps = a :: l → S a.e → ∀ b ∈ l, S b.e := by
  refine chain_ind hch (fun j s => ∀ a l, s.snaps = a :: l → S a.e → ∀ b ∈ l, S b.e) (by rw [h3]; intro a l h; cases h) ?_
  intro j it hj ih a l hs ha b hb
  unfold It.next at hs
  cases hk : it.kd with
  | skip => rw [hk] at hs; exact ih a l hs ha b hb
  | hole => rw [hk] at hs; exact ih a l hs ha b hb
  | pure => rw [hk] at hs; exact ih a l hs ha b hb
  | read => rw [hk] at hs; exact ih a l hs ha b hb
  | alloc obj => rw [hk] at hs; exact ih a l hs ha b hb
  | eff ds h um =>
    rw [hk] at hs
    simp only [List.cons.injEq] at hs
    obtain ⟨rfl, rfl⟩ := hs
    have hgood := (chain_split hch j it hj).2.2.1
    unfold It.good at hgood
    rw [hk] at hgood
    have ha' : S j := by rw [← it_i hch hj]; exact ha
    cases hsn : it.s.snaps with
    | nil => rw [hsn] at hb; simp at hb
    | cons c l =>
      have hl := hgood.2.1
      rw [hsn] at hl hb
      have hc : S c.e := hS j it hj ha' c.e hl
      rcases List.mem_cons.1 hb with rfl | hb
      · exact hc
      · exact ih c l hsn hc b hb

include h1 h2 h3 in
theorem pend_open (hlow : ∀ j t, its[j]? = some t → ∀ k, bitOf t.m k = true → k < j) : ∀ j, j ≤ its.length → (stAt its fin j).pend = openAt (stAt its fin j).snaps (stAt its fin j).al := by
  intro j hj
  have := chain_ind hch (fun j s => j ≤ its.length → s.pend = openAt s.snaps s.al) (by rw [h1, h2, h3]; intro _; rfl) ?_ j hj hj
  · exact this
  · intro j it hj ih hle
    have ih := ih (by omega)
    unfold It.next
    cases hk : it.kd with
    | skip => exact ih
    | hole => exact ih
    | pure => exact ih
    | read => exact ih
    | alloc obj =>
      simp only
      rw [ih]
      -- the new block is reached by no effect so far
      have hno : ∀ sn ∈ it.s.snaps, bitOf sn.m it.i = false := by
        intro sn hsn
        rw [← stAt_of (fin := fin) hj] at hsn
        obtain ⟨pre, l, hs⟩ := List.append_of_mem hsn
        obtain ⟨j', t, ds', h', um', q1, q2, q3, q4, q5⟩ := snaps_items hch h3 j (by omega) pre sn l hs
        rw [q4]
        show bitOf t.m it.i = false
        rw [it_i hch hj]
        cases hb : bitOf t.m j with
        | false => rfl
        | true => have := hlow j' t q2 j hb; omega
      generalize hp : (⟨it.i, it.rid, obj⟩ : Pd) = p
      have hpi : p.i = it.i := by rw [← hp]
      have : ∀ l : List Sn, (∀ sn ∈ l, bitOf sn.m it.i = false) → p :: openAt l it.s.al = openAt l (p :: it.s.al) := by
        intro l
        induction l with
        | nil => intro _; rfl
        | cons a l ihl =>
          intro hl
          rw [openAt_cons, openAt_cons, ← ihl (fun sn hsn => hl sn (by simp [hsn]))]
          have := hl a (by simp)
          show _ = keep a.m (p :: openAt l it.s.al)
          unfold keep
          rw [hpi, this]
          cases hopen : openAt l it.s.al with
          | nil => rfl
          | cons q r => rfl
      exact this it.s.snaps hno
    | eff ds h um =>
      simp only
      rw [openAt_cons, ih]

end
end
end Go.Eng
