/- The engine, parts P3 to P9: regions whose order is open. -/
import Derived.Test.YtggjeecpadnihaaGreatDoorEngP2
/- The engine, part P3: what a run over a region whose order is open has looked at. -/
set_option linter.unusedSectionVars false
set_option linter.unusedVariables false
set_option linter.unusedSimpArgs false
namespace Go.Eng

/-- What was done at an operation. -/
inductive Kd where
  | skip
  | pure
  | alloc (obj : AObj)
  | read
  | eff (ds : List ADefd) (h : AHeap) (um : UM)
  /-- not done: it panics, or waits for the one that panics -/
  | hole

/-- An operation of a run: it, what stands ahead of it, its number and its block's, the state ahead of it, its value. -/
structure It where
  o : Oper
  m : Nat
  i : Nat
  rid : Nat
  s : DS
  v : AVal
  kd : Kd

def It.next (t : It) : DS :=
  match t.kd with
  | .skip => { t.s with loc := pushL t.o.dst t.v t.s.loc }
  | .pure => { t.s with loc := pushL t.o.dst t.v t.s.loc }
  | .alloc obj => { t.s with loc := pushL t.o.dst t.v t.s.loc, pend := ⟨t.i, t.rid, obj⟩ :: t.s.pend, al := ⟨t.i, t.rid, obj⟩ :: t.s.al }
  | .read => { t.s with loc := pushL t.o.dst t.v t.s.loc, reads := ⟨t.i, t.m, t.o.op, t.s.loc, t.v⟩ :: t.s.reads }
  | .eff ds h um => { loc := pushL t.o.dst t.v t.s.loc, ds, h, um, pend := keep t.m t.s.pend, al := t.s.al, snaps := ⟨t.i, t.m, t.s.h⟩ :: t.s.snaps, reads := t.s.reads }
  | .hole => t.s

section
variable (P : Program) (X : Cx) (call : CallF) (rd : Bool) (ops : Array Oper) (tm : T AVal)

/-- Did it go as it should? -/
def It.good (t : It) : Prop :=
  match t.kd with
  | .skip => wantedA ops t.s.loc tm t.o = some false ∧ t.v = undefA
  | .pure => wantedA ops t.s.loc tm t.o = some true ∧ clsOf P t.o.op = .pure ∧ ∃ h', execA P X (evA X t.s.loc tm) t.s.h 0 t.o.op = some (.val t.v h')
  | .alloc obj => wantedA ops t.s.loc tm t.o = some true ∧ clsOf P t.o.op = .alloc ∧ ∃ h', execA P X (evA X t.s.loc tm) t.s.h t.rid t.o.op = some (.val t.v h') ∧ h'.get t.rid = some obj
  | .read => wantedA ops t.s.loc tm t.o = some true ∧ clsOf P t.o.op = .read
  | .eff ds h um => wantedA ops t.s.loc tm t.o = some true ∧ lastEff t.m t.s.snaps = true ∧
      operA P X call rd (evA X t.s.loc tm) t.s.ds (commit t.m t.s.pend t.s.h) t.s.um t.rid t.o.op = some (.ok t.v ds h um)
  | .hole => True

/-- A run from one operation on. -/
def Chain : Nat → Nat → DS → List It → DS → Prop
  | _, _, s, [], fin => fin = s
  | i, rid, s, t :: l, fin => t.s = s ∧ t.i = i ∧ t.rid = rid ∧ It.good P X call rd ops tm t ∧ Chain (i + 1) (nextRid P t.o.op rid) t.next l fin

/-- How a run ends. -/
def Ends (its : List It) (fin : DS) (r : RRes) : Prop :=
  (endDraw P X tm fin = some r ∧ ∀ t ∈ its, t.kd ≠ .hole) ∨
  (∃ t v ds h um, t ∈ its ∧ t.kd = .hole ∧ r = .pan v ds h um ∧ wantedA ops t.s.loc tm t.o = some true ∧ lastEff t.m t.s.snaps = true ∧
    operA P X call rd (evA X t.s.loc tm) t.s.ds (commit t.m t.s.pend t.s.h) t.s.um t.rid t.o.op = some (.pan v ds h um) ∧
    (∀ t' ∈ its, t'.kd = .hole → t'.i = t.i ∨ bitOf t'.m t.i = true) ∧ t.s.snaps = fin.snaps ∧ snapsOk P X tm fin.al fin.reads (⟨t.i, t.m, t.s.h⟩ :: fin.snaps) = true)

theorem compTail_cons (p : Nat) (om : Oper × Nat) (tl : List (Oper × Nat)) (i rid : Nat) (s : DS) :
    (compTail P X ops p (om :: tl)).f tm i rid s = (match bitOf om.2 p with
    | true => (compTail P X ops p tl).f tm (Nat.succ i) (nextRid P om.1.op rid) s
    | false =>
      match wantedA ops s.loc tm om.1 with
      | some false => (compTail P X ops p tl).f tm (Nat.succ i) (nextRid P om.1.op rid) { s with loc := pushL om.1.dst undefA s.loc }
      | none => none
      | some true =>
        match clsOf P om.1.op with
        | .pure =>
          match execA P X (evA X s.loc tm) s.h 0 om.1.op with
          | some (.val v _) => (compTail P X ops p tl).f tm (Nat.succ i) (nextRid P om.1.op rid) { s with loc := pushL om.1.dst v s.loc }
          | _ => none
        | .alloc =>
          match execA P X (evA X s.loc tm) s.h rid om.1.op with
          | some (.val v h') =>
            match h'.get rid with
            | some obj => (compTail P X ops p tl).f tm (Nat.succ i) (nextRid P om.1.op rid) { s with loc := pushL om.1.dst v s.loc, pend := ⟨i, rid, obj⟩ :: s.pend, al := ⟨i, rid, obj⟩ :: s.al }
            | none => none
          | _ => none
        | .read =>
          match execA P X (evA X s.loc tm) (commitAll s.pend s.h) 0 om.1.op with
          | some (.val v _) => (compTail P X ops p tl).f tm (Nat.succ i) (nextRid P om.1.op rid) { s with loc := pushL om.1.dst v s.loc, reads := ⟨i, om.2, om.1.op, s.loc, v⟩ :: s.reads }
          | _ => none
        | .eff => none) := rfl

theorem tail_after (p : Nat) : ∀ (l : List (Oper × Nat)) (i rid : Nat) (s : DS), allAfter p l = true → (compTail P X ops p l).f tm i rid s = some s
  | [], _, _, _, _ => rfl
  | om :: l, i, rid, s, h => by
    simp only [allAfter, Bool.and_eq_true] at h
    rw [compTail_cons, h.1]
    exact tail_after p l _ _ s h.2

theorem panOk_after {i m rid : Nat} {tl : List (Oper × Nat)} {s : DS} (h : allAfter i tl = true) (h2 : snapsOk P X tm s.al s.reads (⟨i, m, s.h⟩ :: s.snaps) = true) : panOk P X ops tm i m tl rid s = true := by
  unfold panOk
  rw [tail_after P X ops tm i tl _ _ s h]
  exact h2

/-- The operations behind one that panics leave a trace. -/
theorem tail_trace (p : Nat) : ∀ (l : List (Oper × Nat)) (i rid : Nat) (s s' : DS), (compTail P X ops p l).f tm i rid s = some s' →
    ∃ its, l = its.map (fun t => (t.o, t.m)) ∧ Chain P X call rd ops tm i rid s its s' ∧ (∀ t ∈ its, t.kd = .hole → bitOf t.m p = true) ∧ s'.snaps = s.snaps
  | [], i, rid, s, s', hx => by cases hx; exact ⟨[], rfl, rfl, by simp, rfl⟩
  | om :: tl, i, rid, s, s', hx => by
    have step : ∀ (v : AVal) (kd : Kd), It.good P X call rd ops tm ⟨om.1, om.2, i, rid, s, v, kd⟩ → (kd = .hole → bitOf om.2 p = true) → (It.next ⟨om.1, om.2, i, rid, s, v, kd⟩).snaps = s.snaps →
        (compTail P X ops p tl).f tm (i + 1) (nextRid P om.1.op rid) (It.next ⟨om.1, om.2, i, rid, s, v, kd⟩) = some s' →
        ∃ its, om :: tl = its.map (fun t => (t.o, t.m)) ∧ Chain P X call rd ops tm i rid s its s' ∧ (∀ t ∈ its, t.kd = .hole → bitOf t.m p = true) ∧ s'.snaps = s.snaps := by
      intro v kd hg hh hs hx'
      obtain ⟨its, h1, h2, h3, h4⟩ := tail_trace p tl (i + 1) (nextRid P om.1.op rid) _ s' hx'
      refine ⟨⟨om.1, om.2, i, rid, s, v, kd⟩ :: its, by rw [List.map_cons, ← h1], ⟨rfl, rfl, rfl, hg, h2⟩, ?_, by rw [h4, hs]⟩
      intro t ht hk
      rcases List.mem_cons.1 ht with rfl | ht
      · exact hh hk
      · exact h3 t ht hk
    rw [compTail_cons] at hx
    split at hx
    · rename_i hb
      exact step undefA .hole trivial (fun _ => hb) rfl hx
    · split at hx
      · rename_i hw
        exact step undefA .skip ⟨hw, rfl⟩ (by simp) rfl hx
      · cases hx
      · rename_i hw
        split at hx
        · rename_i hc
          split at hx
          · rename_i v h' he
            exact step v .pure ⟨hw, hc, h', he⟩ (by simp) rfl hx
          · cases hx
        · rename_i hc
          split at hx
          · rename_i v h' he
            split at hx
            · rename_i obj ho
              exact step v (.alloc obj) ⟨hw, hc, h', he, ho⟩ (by simp) rfl hx
            · cases hx
          · cases hx
        · rename_i hc
          split at hx
          · rename_i v h' he
            exact step v .read ⟨hw, hc⟩ (by simp) rfl hx
          · cases hx
        · cases hx

theorem compDraw_cons (om : Oper × Nat) (tl : List (Oper × Nat)) (i rid : Nat) (s : DS) :
    (compDraw P X call rd ops (om :: tl)).f tm i rid s = (match wantedA ops s.loc tm om.1 with
    | some false => (compDraw P X call rd ops tl).f tm (Nat.succ i) (nextRid P om.1.op rid) { s with loc := pushL om.1.dst undefA s.loc }
    | none => none
    | some true =>
      match clsOf P om.1.op with
      | .pure =>
        match execA P X (evA X s.loc tm) s.h 0 om.1.op with
        | some (.val v _) => (compDraw P X call rd ops tl).f tm (Nat.succ i) (nextRid P om.1.op rid) { s with loc := pushL om.1.dst v s.loc }
        | _ => none
      | .alloc =>
        match execA P X (evA X s.loc tm) s.h rid om.1.op with
        | some (.val v h') =>
          match h'.get rid with
          | some obj => (compDraw P X call rd ops tl).f tm (Nat.succ i) (nextRid P om.1.op rid) { s with loc := pushL om.1.dst v s.loc, pend := ⟨i, rid, obj⟩ :: s.pend, al := ⟨i, rid, obj⟩ :: s.al }
          | none => none
        | _ => none
      | .read =>
        match execA P X (evA X s.loc tm) (commitAll s.pend s.h) 0 om.1.op with
        | some (.val v _) => (compDraw P X call rd ops tl).f tm (Nat.succ i) (nextRid P om.1.op rid) { s with loc := pushL om.1.dst v s.loc, reads := ⟨i, om.2, om.1.op, s.loc, v⟩ :: s.reads }
        | _ => none
      | .eff =>
        match lastEff om.2 s.snaps with
        | false => none
        | true =>
          match operA P X call rd (evA X s.loc tm) s.ds (commit om.2 s.pend s.h) s.um rid om.1.op with
          | some (.ok v ds h um) =>
            (compDraw P X call rd ops tl).f tm (Nat.succ i) (nextRid P om.1.op rid) { loc := pushL om.1.dst v s.loc, ds, h, um, pend := keep om.2 s.pend, al := s.al, snaps := ⟨i, om.2, s.h⟩ :: s.snaps, reads := s.reads }
          | some (.pan v ds h um) =>
            match panOk P X ops tm i om.2 tl (nextRid P om.1.op rid) s with
            | true => some (.pan v ds h um)
            | false => none
          | none => none) := rfl

/-- A run leaves a trace. -/
theorem draw_trace : ∀ (l : List (Oper × Nat)) (i rid : Nat) (s : DS) (r : RRes), (compDraw P X call rd ops l).f tm i rid s = some r →
    ∃ its fin, l = its.map (fun t => (t.o, t.m)) ∧ Chain P X call rd ops tm i rid s its fin ∧ Ends P X call rd ops tm its fin r
  | [], i, rid, s, r, hx => ⟨[], s, rfl, rfl, .inl ⟨hx, by simp⟩⟩
  | om :: tl, i, rid, s, r, hx => by
    have step : ∀ (v : AVal) (kd : Kd), It.good P X call rd ops tm ⟨om.1, om.2, i, rid, s, v, kd⟩ → kd ≠ .hole →
        (compDraw P X call rd ops tl).f tm (i + 1) (nextRid P om.1.op rid) (It.next ⟨om.1, om.2, i, rid, s, v, kd⟩) = some r →
        ∃ its fin, om :: tl = its.map (fun t => (t.o, t.m)) ∧ Chain P X call rd ops tm i rid s its fin ∧ Ends P X call rd ops tm its fin r := by
      intro v kd hg hne hx'
      obtain ⟨its, fin, h1, h2, h3⟩ := draw_trace tl (i + 1) (nextRid P om.1.op rid) _ r hx'
      refine ⟨⟨om.1, om.2, i, rid, s, v, kd⟩ :: its, fin, by rw [List.map_cons, ← h1], ⟨rfl, rfl, rfl, hg, h2⟩, ?_⟩
      rcases h3 with ⟨e1, e2⟩ | ⟨t, v', ds, h, um, k1, k2, k3, k4, k5, k6, k7, k8, k9⟩
      · refine .inl ⟨e1, fun t ht => ?_⟩
        rcases List.mem_cons.1 ht with rfl | ht
        · exact hne
        · exact e2 t ht
      · refine .inr ⟨t, v', ds, h, um, List.mem_cons_of_mem _ k1, k2, k3, k4, k5, k6, fun t' ht' hk => ?_, k8, k9⟩
        rcases List.mem_cons.1 ht' with rfl | ht'
        · exact absurd hk hne
        · exact k7 t' ht' hk
    rw [compDraw_cons] at hx
    split at hx
    · rename_i hw
      exact step undefA .skip ⟨hw, rfl⟩ (by simp) hx
    · cases hx
    · rename_i hw
      split at hx
      · rename_i hc
        split at hx
        · rename_i v h' he
          exact step v .pure ⟨hw, hc, h', he⟩ (by simp) hx
        · cases hx
      · rename_i hc
        split at hx
        · rename_i v h' he
          split at hx
          · rename_i obj ho
            exact step v (.alloc obj) ⟨hw, hc, h', he, ho⟩ (by simp) hx
          · cases hx
        · cases hx
      · rename_i hc
        split at hx
        · rename_i v h' he
          exact step v .read ⟨hw, hc⟩ (by simp) hx
        · cases hx
      · rename_i hc
        split at hx
        · cases hx
        · rename_i hl
          split at hx
          · rename_i v ds h um hop
            exact step v (.eff ds h um) ⟨hw, hl, hop⟩ (by simp) hx
          · rename_i v ds h um hop
            split at hx
            · rename_i hb
              cases hx
              unfold panOk at hb
              split at hb
              · rename_i s' hs'
                obtain ⟨its, h1, h2, h3, h4⟩ := tail_trace P X call rd ops tm i tl _ _ _ _ hs'
                refine ⟨⟨om.1, om.2, i, rid, s, undefA, .hole⟩ :: its, s', by rw [List.map_cons, ← h1], ⟨rfl, rfl, rfl, trivial, h2⟩, .inr ⟨⟨om.1, om.2, i, rid, s, undefA, .hole⟩, v, ds, h, um, List.mem_cons_self, rfl, rfl, hw, hl, hop, ?_, h4.symm, by rw [h4]; exact hb⟩⟩
                intro t ht hk
                rcases List.mem_cons.1 ht with rfl | ht
                · exact .inl rfl
                · exact .inr (h3 t ht hk)
              · cases hb
            · cases hx
          · cases hx

end

/-! ### What a trace says -/
section
variable {P : Program} {X : Cx} {call : CallF} {rd : Bool} {ops : Array Oper} {tm : T AVal}

/-- The state ahead of an operation of a trace, or at its end. -/
def stAt (its : List It) (fin : DS) (j : Nat) : DS := match its[j]? with | some t => t.s | none => fin

theorem chain_split : ∀ {its : List It} {i rid : Nat} {s fin : DS}, Chain P X call rd ops tm i rid s its fin → ∀ (j : Nat) (t : It), its[j]? = some t →
    t.i = i + j ∧ t.rid = ridsOf P ((its.take j).map (·.o)) rid ∧ It.good P X call rd ops tm t ∧ stAt its fin (j + 1) = t.next
  | [], i, rid, s, fin, h, j, t, ht => by simp at ht
  | t0 :: l, i, rid, s, fin, h, j, t, ht => by
    obtain ⟨h1, h2, h3, h4, h5⟩ := h
    cases j with
    | zero =>
      simp at ht
      subst ht
      refine ⟨h2, h3, h4, ?_⟩
      unfold stAt
      cases l with
      | nil => have : fin = t0.next := h5; simpa using this
      | cons t1 l => have := h5.1; simpa using this
    | succ j =>
      have ht' : l[j]? = some t := by simpa using ht
      obtain ⟨q1, q2, q3, q4⟩ := chain_split h5 j t ht'
      refine ⟨by omega, q2, q3, ?_⟩
      unfold stAt at q4 ⊢
      simpa using q4

theorem chain_start {its : List It} {i rid : Nat} {s fin : DS} (h : Chain P X call rd ops tm i rid s its fin) : stAt its fin 0 = s := by
  cases its with
  | nil => exact h
  | cons t l => exact h.1

/-- By the steps of a trace. -/
theorem chain_ind {its : List It} {i rid : Nat} {s fin : DS} (h : Chain P X call rd ops tm i rid s its fin) (Q : Nat → DS → Prop) (h0 : Q 0 s)
    (hs : ∀ j t, its[j]? = some t → Q j t.s → Q (j + 1) t.next) : ∀ j, j ≤ its.length → Q j (stAt its fin j) := by
  intro j
  induction j with
  | zero => intro _; rw [chain_start h]; exact h0
  | succ j ih =>
    intro hj
    have hlt : j < its.length := by omega
    have ht : its[j]? = some its[j] := List.getElem?_eq_getElem hlt
    have := ih (by omega)
    have hst : stAt its fin j = its[j].s := by unfold stAt; rw [ht]
    rw [hst] at this
    rw [(chain_split h j _ ht).2.2.2]
    exact hs j _ ht this

end
end Go.Eng

/- The engine, part P4: facts of a trace. -/
set_option linter.unusedSectionVars false
set_option linter.unusedVariables false
set_option linter.unusedSimpArgs false
namespace Go.Eng

/-! ### What is asked of a region whose order is open -/
def edgesOk (j : Nat) : List Edge → Bool
  | [] => true
  | e :: l => (!Region.binds .any e || Nat.ble (Nat.succ e.on) j) && edgesOk j l

def apartAll (ops : Array Oper) (o : Oper) (m : Nat) : List (Nat × Oper) → Bool
  | [] => true
  | p :: l => (bitOf m p.1 || p.2.apart ops o) && apartAll ops o m l

def ordFrom (ops : Array Oper) : List (Oper × Nat) → Nat → List (Nat × Oper) → Bool
  | [], _, _ => true
  | om :: l, j, acc => edgesOk j om.1.after.toList && apartAll ops om.1 om.2 acc && ordFrom ops l (Nat.succ j) ((j, om.1) :: acc)

noncomputable def drawOk (n : Nat) (ops : Array Oper) : Bool := dstsOk n ops.toList && ordFrom ops (plan ops) 0 []

theorem edgesOk_mem {j : Nat} : ∀ {l : List Edge}, edgesOk j l = true → ∀ e ∈ l, Region.binds .any e = true → e.on < j
  | [], _, e, he => by simp at he
  | e :: l, h, e', he' => by
    simp only [edgesOk, Bool.and_eq_true] at h
    rcases List.mem_cons.1 he' with rfl | he'
    · intro hb
      rw [hb] at h
      exact ble_le (by simpa using h.1)
    · exact edgesOk_mem h.2 e' he'
theorem apartAll_mem {ops : Array Oper} {o : Oper} {m : Nat} : ∀ {l : List (Nat × Oper)}, apartAll ops o m l = true → ∀ p ∈ l, bitOf m p.1 = true ∨ p.2.apart ops o = true
  | [], _, p, hp => by simp at hp
  | q :: l, h, p, hp => by
    simp only [apartAll, Bool.and_eq_true, Bool.or_eq_true] at h
    rcases List.mem_cons.1 hp with rfl | hp
    · exact h.1
    · exact apartAll_mem h.2 p hp
theorem ordFrom_spec {ops : Array Oper} : ∀ (l : List (Oper × Nat)) (j : Nat) (acc : List (Nat × Oper)), ordFrom ops l j acc = true → ∀ (k : Nat) om, l[k]? = some om →
    (∀ e ∈ om.1.after, Region.binds .any e = true → e.on < j + k) ∧ (∀ p ∈ acc, bitOf om.2 p.1 = true ∨ p.2.apart ops om.1 = true) ∧
    ∀ k' om', k' < k → l[k']? = some om' → bitOf om.2 (j + k') = true ∨ om'.1.apart ops om.1 = true
  | [], _, _, _, k, om, hk => by simp at hk
  | o :: l, j, acc, h, k, om, hk => by
    simp only [ordFrom, Bool.and_eq_true] at h
    obtain ⟨⟨h1, h2⟩, h3⟩ := h
    cases k with
    | zero =>
      simp at hk; subst hk
      exact ⟨fun e he => edgesOk_mem h1 e (by simpa using he), apartAll_mem h2, fun k' om' hk' => by omega⟩
    | succ k =>
      have hk' : l[k]? = some om := by simpa using hk
      obtain ⟨q1, q2, q3⟩ := ordFrom_spec l (j + 1) ((j, o.1) :: acc) h3 k om hk'
      refine ⟨fun e he hb => by have := q1 e he hb; omega, fun p hp => q2 p (by simp [hp]), fun k2 om' hk2 hl => ?_⟩
      cases k2 with
      | zero => simp at hl; subst hl; exact q2 (j, o.1) (by simp)
      | succ k2 =>
        have := q3 k2 om' (by omega) (by simpa using hl)
        rwa [show j + (k2 + 1) = j + 1 + k2 by omega]

/-! ### Abstract values that are the same -/
theorem eqCap_eq {a b : Cap} (h : eqCap a b = true) : a = b := by
  cases a with
  | kn a =>
    cases b with
    | kn b => have := Nat.eq_of_beq_eq_true h; subst this; rfl
    | op _ _ => cases h
  | op a l =>
    cases b with
    | kn _ => cases h
    | op b l' =>
      simp only [eqCap] at h
      split at h
      · rename_i hb
        have := Nat.eq_of_beq_eq_true hb; subst this
        have := Nat.eq_of_beq_eq_true h; subst this; rfl
      · cases h

mutual
theorem beqV_eq : ∀ (a b : AVal), beqV a b = true → a = b
  | .bool a, b, h => by cases b <;> simp only [beqV, beq_iff_eq] at h <;> first | (subst h; rfl) | cases h
  | .int k n, b, h => by
    cases b <;> simp only [beqV, Bool.and_eq_true, decide_eq_true_eq, eqI_eq, beq_iff_eq] at h <;> first | (obtain ⟨rfl, rfl⟩ := h; rfl) | cases h
  | .str l m, b, h => by
    cases b <;> simp only [beqV, Bool.and_eq_true, Nat.beq_eq] at h <;> first | (obtain ⟨rfl, rfl⟩ := h; rfl) | cases h
  | .ptr c o, b, h => by
    cases b <;> simp only [beqV, Bool.and_eq_true, Nat.beq_eq] at h <;> first | (obtain ⟨rfl, rfl⟩ := h; rfl) | cases h
  | .nptr, b, h => by cases b <;> simp only [beqV] at h <;> first | rfl | cases h
  | .slc c o n k, b, h => by
    cases b <;> simp only [beqV, Bool.and_eq_true, Nat.beq_eq] at h <;> first | (obtain ⟨⟨⟨rfl, rfl⟩, rfl⟩, hk⟩ := h; rw [eqCap_eq hk]) | cases h
  | .nslc, b, h => by cases b <;> simp only [beqV] at h <;> first | rfl | cases h
  | .map c, b, h => by cases b <;> simp only [beqV, Nat.beq_eq] at h <;> first | (subst h; rfl) | cases h
  | .nmap, b, h => by cases b <;> simp only [beqV] at h <;> first | rfl | cases h
  | .func f a c, b, h => by
    cases b <;> simp only [beqV, Bool.and_eq_true, Nat.beq_eq] at h <;>
      first | (obtain ⟨⟨rfl, h1⟩, h2⟩ := h; rw [beqVs_eq _ _ h1, beqVs_eq _ _ h2]) | cases h
  | .yield c, b, h => by cases b <;> simp only [beqV, Nat.beq_eq] at h <;> first | (subst h; rfl) | cases h
  | .nfunc, b, h => by cases b <;> simp only [beqV] at h <;> first | rfl | cases h
  | .iface t v, b, h => by
    cases b <;> simp only [beqV, Bool.and_eq_true, Nat.beq_eq] at h <;> first | (obtain ⟨rfl, h1⟩ := h; rw [beqV_eq _ _ h1]) | cases h
  | .niface, b, h => by cases b <;> simp only [beqV] at h <;> first | rfl | cases h
  | .agg l, b, h => by cases b <;> simp only [beqV] at h <;> first | rw [beqVs_eq _ _ h] | cases h
  | .tup l, b, h => by cases b <;> simp only [beqV] at h <;> first | rw [beqVs_eq _ _ h] | cases h
  | .sym i, b, h => by cases b <;> simp only [beqV, Nat.beq_eq] at h <;> first | (subst h; rfl) | cases h
  | .any, b, h => by cases b <;> simp only [beqV] at h <;> first | rfl | cases h
theorem beqVs_eq : ∀ (a b : List AVal), beqVs a b = true → a = b
  | [], b, h => by cases b <;> simp only [beqVs] at h <;> first | rfl | cases h
  | x :: l, b, h => by
    cases b with
    | nil => simp only [beqVs] at h; cases h
    | cons y l' =>
      simp only [beqVs, Bool.and_eq_true] at h
      rw [beqV_eq x y h.1, beqVs_eq l l' h.2]
end

section
variable {P : Program} {X : Cx} {call : CallF} {rd : Bool} {ops : Array Oper} {tm : T AVal}

theorem readsOk_mem {h : AHeap} {e : Option Nat} {l : List Sn} : ∀ {rs : List Rd}, readsOk P X tm h e l rs = true → ∀ r ∈ rs,
    (∃ k, e = some k ∧ bitOf r.m k = true) ∨ ahead r l = true ∨ readsAs P X tm h r = true
  | [], _, r, hr => by simp at hr
  | q :: rs, hh, r, hr => by
    simp only [readsOk, Bool.and_eq_true, Bool.or_eq_true] at hh
    rcases List.mem_cons.1 hr with rfl | hr
    · rcases hh.1 with (h1 | h1) | h1
      · cases e with
        | none => cases h1
        | some k => exact .inl ⟨k, rfl, h1⟩
      · exact .inr (.inl h1)
      · exact .inr (.inr h1)
    · exact readsOk_mem hh.2 r hr

theorem snapsOk_mem {al : List Pd} {rs : List Rd} {s : Sn} {sn : List Sn} : ∀ (pre : List Sn), snapsOk P X tm al rs (pre ++ s :: sn) = true →
    readsOk P X tm (commitAll (openAt sn al) s.h) (some s.e) sn rs = true
  | [], h => by
    simp only [List.nil_append, snapsOk, Bool.and_eq_true] at h
    exact h.1
  | p :: pre, h => by
    simp only [List.cons_append, snapsOk, Bool.and_eq_true] at h
    exact snapsOk_mem pre h.2

theorem readsAs_spec {h : AHeap} {r : Rd} (hr : readsAs P X tm h r = true) : ∃ h', execA P X (evA X r.loc tm) h 0 r.op = some (.val r.v h') := by
  unfold readsAs at hr
  split at hr
  · rename_i v h' he
    rw [he, beqV_eq _ _ hr]; exact ⟨h', rfl⟩
  · cases hr

/-! ### What is laid down on the way -/
section
variable {its : List It} {start : Nat} {s fin : DS}

theorem stAt_of {j : Nat} {t : It} (ht : its[j]? = some t) : stAt its fin j = t.s := by unfold stAt; rw [ht]
theorem stAt_end : stAt its fin its.length = fin := by unfold stAt; rw [List.getElem?_eq_none (Nat.le_refl _)]

variable (hch : Chain P X call rd ops tm 0 start s its fin) (h0 : s.loc = .nil) (h1 : s.pend = []) (h2 : s.al = []) (h3 : s.snaps = []) (h4 : s.reads = [])
include hch

theorem it_i {j : Nat} {t : It} (ht : its[j]? = some t) : t.i = j := by have := (chain_split hch j t ht).1; omega

/-- The values in the slots, of a list of operations. -/
noncomputable def looks (S : Nat → Bool) (tm : T AVal) (l : List It) (t : Nat) : Option AVal :=
  l.foldl (fun acc it => if S it.i = true ∧ it.o.dst = some t then some it.v else acc) (tm.get t)

/-- Is an operation of a trace done? -/
def isHole : Kd → Bool
  | .hole => true
  | _ => false
def alive (its : List It) (j : Nat) : Bool := match its[j]? with | some t => !isHole t.kd | none => true

include h0 in
theorem loc_looks (t : Nat) : ∀ j, j ≤ its.length → lookL (stAt its fin j).loc t tm = looks (alive its) tm (its.take j) t := by
  refine chain_ind hch (fun j s => lookL s.loc t tm = looks (alive its) tm (its.take j) t) (by rw [h0]; rfl) ?_
  intro j it hj ih
  have e : its.take (j + 1) = its.take j ++ [it] := by rw [List.take_add_one, hj]; rfl
  rw [e]
  unfold looks at ih ⊢
  rw [List.foldl_append, ← ih]
  have ha : alive its it.i = !isHole it.kd := by unfold alive; rw [it_i hch hj, hj]
  simp only [List.foldl_cons, List.foldl_nil, ha]
  cases hk : isHole it.kd with
  | true =>
    have hn : it.next.loc = it.s.loc := by
      unfold It.next
      cases hkd : it.kd <;> rw [hkd] at hk <;> first | rfl | cases hk
    rw [hn]
    simp
  | false =>
    have hn : it.next.loc = pushL it.o.dst it.v it.s.loc := by
      unfold It.next
      cases hkd : it.kd <;> rw [hkd] at hk <;> first | rfl | cases hk
    rw [hn]
    simp only [Bool.not_false, true_and]
    cases hd : it.o.dst with
    | none => simp [pushL]
    | some d =>
      show lookL (.cons d it.v it.s.loc) t tm = _
      rw [lookL_cons]
      simp

include h2 in
theorem al_items : ∀ j, j ≤ its.length → ∀ p ∈ (stAt its fin j).al, ∃ j' t obj, j' < j ∧ its[j']? = some t ∧ t.kd = .alloc obj ∧ p = ⟨j', t.rid, obj⟩ := by
  refine chain_ind hch (fun j s => ∀ p ∈ s.al, ∃ j' t obj, j' < j ∧ its[j']? = some t ∧ t.kd = .alloc obj ∧ p = ⟨j', t.rid, obj⟩) (by rw [h2]; simp) ?_
  intro j it hj ih p hp
  have old : p ∈ it.s.al → ∃ j' t obj, j' < j + 1 ∧ its[j']? = some t ∧ t.kd = .alloc obj ∧ p = ⟨j', t.rid, obj⟩ := fun h => by
    obtain ⟨j', t, obj, q1, q2⟩ := ih p h
    exact ⟨j', t, obj, by omega, q2⟩
  unfold It.next at hp
  cases hk : it.kd with
  | skip => rw [hk] at hp; exact old hp
  | hole => rw [hk] at hp; exact old hp
  | pure => rw [hk] at hp; exact old hp
  | read => rw [hk] at hp; exact old hp
  | eff _ _ _ => rw [hk] at hp; exact old hp
  | alloc obj =>
    rw [hk] at hp
    rcases List.mem_cons.1 hp with rfl | hp
    · exact ⟨j, it, obj, by omega, hj, hk, by rw [it_i hch hj]⟩
    · exact old hp

theorem items_al : ∀ j, j ≤ its.length → ∀ j' t obj, j' < j → its[j']? = some t → t.kd = .alloc obj → (⟨j', t.rid, obj⟩ : Pd) ∈ (stAt its fin j).al := by
  refine chain_ind hch (fun j s => ∀ j' t obj, j' < j → its[j']? = some t → t.kd = .alloc obj → (⟨j', t.rid, obj⟩ : Pd) ∈ s.al) (fun _ _ _ h => by omega) ?_
  intro j it hj ih j' t obj hlt ht hk
  have sub : ∀ p, p ∈ it.s.al → p ∈ it.next.al := by
    intro p hp
    unfold It.next
    cases it.kd <;> first | exact hp | exact List.mem_cons_of_mem _ hp
  rcases Nat.lt_or_ge j' j with h | h
  · exact sub _ (ih j' t obj h ht hk)
  · obtain rfl : j' = j := by omega
    rw [hj] at ht; cases ht
    unfold It.next
    rw [hk]
    rw [it_i hch hj]
    exact List.mem_cons_self

theorem items_reads : ∀ j, j ≤ its.length → ∀ j' t, j' < j → its[j']? = some t → t.kd = .read → (⟨j', t.m, t.o.op, t.s.loc, t.v⟩ : Rd) ∈ (stAt its fin j).reads := by
  refine chain_ind hch (fun j s => ∀ j' t, j' < j → its[j']? = some t → t.kd = .read → (⟨j', t.m, t.o.op, t.s.loc, t.v⟩ : Rd) ∈ s.reads) (fun _ _ h => by omega) ?_
  intro j it hj ih j' t hlt ht hk
  have sub : ∀ p, p ∈ it.s.reads → p ∈ it.next.reads := by
    intro p hp
    unfold It.next
    cases it.kd <;> first | exact hp | exact List.mem_cons_of_mem _ hp
  rcases Nat.lt_or_ge j' j with h | h
  · exact sub _ (ih j' t h ht hk)
  · obtain rfl : j' = j := by omega
    rw [hj] at ht; cases ht
    unfold It.next
    rw [hk]
    rw [it_i hch hj]
    exact List.mem_cons_self

include h3 in
theorem snaps_items : ∀ j, j ≤ its.length → ∀ pre sn l, (stAt its fin j).snaps = pre ++ sn :: l → ∃ j' t ds h um, j' < j ∧ its[j']? = some t ∧ t.kd = .eff ds h um ∧ sn = ⟨j', t.m, t.s.h⟩ ∧ t.s.snaps = l := by
  refine chain_ind hch (fun j s => ∀ pre sn l, s.snaps = pre ++ sn :: l → ∃ j' t ds h um, j' < j ∧ its[j']? = some t ∧ t.kd = .eff ds h um ∧ sn = ⟨j', t.m, t.s.h⟩ ∧ t.s.snaps = l)
    (by rw [h3]; intro pre sn l h; simp at h) ?_
  intro j it hj ih pre sn l hs
  have old : it.s.snaps = pre ++ sn :: l → ∃ j' t ds h um, j' < j + 1 ∧ its[j']? = some t ∧ t.kd = .eff ds h um ∧ sn = ⟨j', t.m, t.s.h⟩ ∧ t.s.snaps = l := fun h => by
    obtain ⟨j', t, ds, hh, um, q1, q2⟩ := ih pre sn l h
    exact ⟨j', t, ds, hh, um, by omega, q2⟩
  unfold It.next at hs
  cases hk : it.kd with
  | skip => rw [hk] at hs; exact old hs
  | hole => rw [hk] at hs; exact old hs
  | pure => rw [hk] at hs; exact old hs
  | read => rw [hk] at hs; exact old hs
  | alloc obj => rw [hk] at hs; exact old hs
  | eff ds h um =>
    rw [hk] at hs
    simp only at hs
    cases pre with
    | nil =>
      simp only [List.nil_append, List.cons.injEq] at hs
      exact ⟨j, it, ds, h, um, by omega, hj, hk, by rw [← hs.1, it_i hch hj], hs.2⟩
    | cons p pre =>
      simp only [List.cons_append, List.cons.injEq] at hs
      obtain ⟨j', t, ds', h', um', q1, q2, q3, q4, q5⟩ := ih pre sn l hs.2
      exact ⟨j', t, ds', h', um', by omega, q2, q3, q4, q5⟩

/-- The effects so far stand at the end of those later. -/
theorem snaps_suf : ∀ j, j ≤ its.length → ∀ j', j' ≤ j → (stAt its fin j').snaps <:+ (stAt its fin j).snaps ∧
    ((stAt its fin j').snaps.length = (stAt its fin j).snaps.length → (stAt its fin j').h = (stAt its fin j).h ∧ (stAt its fin j').ds = (stAt its fin j).ds ∧ (stAt its fin j').um = (stAt its fin j).um) := by
  intro j hj
  refine chain_ind hch (fun j s => ∀ j', j' ≤ j → (stAt its fin j').snaps <:+ s.snaps ∧ ((stAt its fin j').snaps.length = s.snaps.length → (stAt its fin j').h = s.h ∧ (stAt its fin j').ds = s.ds ∧ (stAt its fin j').um = s.um)) ?_ ?_ j hj
  · intro j' hj'
    obtain rfl : j' = 0 := by omega
    rw [chain_start hch]
    exact ⟨List.suffix_refl _, fun _ => ⟨rfl, rfl, rfl⟩⟩
  · intro j it hj ih j' hj'
    rcases Nat.lt_or_ge j' (j + 1) with h | h
    · obtain ⟨q1, q2⟩ := ih j' (by omega)
      unfold It.next
      cases hk : it.kd with
      | skip => exact ⟨q1, q2⟩
      | hole => exact ⟨q1, q2⟩
      | pure => exact ⟨q1, q2⟩
      | read => exact ⟨q1, q2⟩
      | alloc obj => exact ⟨q1, q2⟩
      | eff ds h um =>
        refine ⟨q1.trans (List.suffix_cons _ _), fun hlen => ?_⟩
        have := q1.length_le
        simp only [List.length_cons] at hlen
        omega
    · obtain rfl : j' = j + 1 := by omega
      rw [(chain_split hch j it hj).2.2.2]
      exact ⟨List.suffix_refl _, fun _ => ⟨rfl, rfl, rfl⟩⟩

include h3 in
theorem snaps_apart : ∀ j, j ≤ its.length → (stAt its fin j).snaps.Pairwise (fun a b => a.e ≠ b.e) := by
  intro j hj
  have := chain_ind hch (fun j s => j ≤ its.length → s.snaps.Pairwise (fun a b => a.e ≠ b.e)) (by rw [h3]; simp) ?_ j hj hj
  · exact this
  · intro j it hj ih hle
    have ih := ih (by omega)
    unfold It.next
    cases hk : it.kd with
    | skip => exact ih
    | hole => exact ih
    | pure => exact ih
    | read => exact ih
    | alloc obj => exact ih
    | eff ds h um =>
      refine List.pairwise_cons.2 ⟨fun b hb => ?_, ih⟩
      rw [← stAt_of (fin := fin) hj] at hb
      obtain ⟨pre, l, hs⟩ := List.append_of_mem hb
      obtain ⟨j', t, ds', h', um', q1, q2, q3, q4, q5⟩ := snaps_items hch h3 j (by omega) pre b l hs
      rw [q4]
      show it.i ≠ j'
      rw [it_i hch hj]; omega

/-- Of an effect all the earlier ones stand ahead. -/
theorem snaps_closed {S : Nat → Prop} (hS : ∀ j t, its[j]? = some t → S j → ∀ k, bitOf t.m k = true → S k) (h3 : s.snaps = []) :
    ∀ j, j ≤ its.length → ∀ a l, (stAt its fin j).snaps = a :: l → S a.e → ∀ b ∈ l, S b.e := by
  refine chain_ind hch (fun j s => ∀ a l, s.snaps = a :: l → S a.e → ∀ b ∈ l, S b.e) (by rw [h3]; intro a l h; cases h) ?_
  intro j it hj ih a l hs ha b hb
  unfold It.next at hs
  cases hk : it.kd with
  | skip => rw [hk] at hs; exact ih a l hs ha b hb
  | hole => rw [hk] at hs; exact ih a l hs ha b hb
  | pure => rw [hk] at hs; exact ih a l hs ha b hb
  | read => rw [hk] at hs; exact ih a l hs ha b hb
  | alloc obj => rw [hk] at hs; exact ih a l hs ha b hb
  | eff ds h um =>
    rw [hk] at hs
    simp only [List.cons.injEq] at hs
    obtain ⟨rfl, rfl⟩ := hs
    have hgood := (chain_split hch j it hj).2.2.1
    unfold It.good at hgood
    rw [hk] at hgood
    have ha' : S j := by rw [← it_i hch hj]; exact ha
    cases hsn : it.s.snaps with
    | nil => rw [hsn] at hb; simp at hb
    | cons c l =>
      have hl := hgood.2.1
      rw [hsn] at hl hb
      have hc : S c.e := hS j it hj ha' c.e hl
      rcases List.mem_cons.1 hb with rfl | hb
      · exact hc
      · exact ih c l hsn hc b hb

include h1 h2 h3 in
theorem pend_open (hlow : ∀ j t, its[j]? = some t → ∀ k, bitOf t.m k = true → k < j) : ∀ j, j ≤ its.length → (stAt its fin j).pend = openAt (stAt its fin j).snaps (stAt its fin j).al := by
  intro j hj
  have := chain_ind hch (fun j s => j ≤ its.length → s.pend = openAt s.snaps s.al) (by rw [h1, h2, h3]; intro _; rfl) ?_ j hj hj
  · exact this
  · intro j it hj ih hle
    have ih := ih (by omega)
    unfold It.next
    cases hk : it.kd with
    | skip => exact ih
    | hole => exact ih
    | pure => exact ih
    | read => exact ih
    | alloc obj =>
      simp only
      rw [ih]
      -- the new block is reached by no effect so far
      have hno : ∀ sn ∈ it.s.snaps, bitOf sn.m it.i = false := by
        intro sn hsn
        rw [← stAt_of (fin := fin) hj] at hsn
        obtain ⟨pre, l, hs⟩ := List.append_of_mem hsn
        obtain ⟨j', t, ds', h', um', q1, q2, q3, q4, q5⟩ := snaps_items hch h3 j (by omega) pre sn l hs
        rw [q4]
        show bitOf t.m it.i = false
        rw [it_i hch hj]
        cases hb : bitOf t.m j with
        | false => rfl
        | true => have := hlow j' t q2 j hb; omega
      generalize hp : (⟨it.i, it.rid, obj⟩ : Pd) = p
      have hpi : p.i = it.i := by rw [← hp]
      have : ∀ l : List Sn, (∀ sn ∈ l, bitOf sn.m it.i = false) → p :: openAt l it.s.al = openAt l (p :: it.s.al) := by
        intro l
        induction l with
        | nil => intro _; rfl
        | cons a l ihl =>
          intro hl
          rw [openAt_cons, openAt_cons, ← ihl (fun sn hsn => hl sn (by simp [hsn]))]
          have := hl a (by simp)
          show _ = keep a.m (p :: openAt l it.s.al)
          unfold keep
          rw [hpi, this]
          cases hopen : openAt l it.s.al with
          | nil => rfl
          | cons q r => rfl
      exact this it.s.snaps hno
    | eff ds h um =>
      simp only
      rw [openAt_cons, ih]

end
end
end Go.Eng

/- The engine, part P5: a region whose order is open, in whatever order. -/
set_option linter.unusedVariables false
set_option linter.unusedSimpArgs false
set_option linter.unusedSectionVars false
namespace Go.Eng

/-! ### Slots, by the operations that were done -/
theorem looks_congr {S S' : Nat → Bool} {t : Nat} : ∀ (l : List It) , (∀ it ∈ l, it.o.dst = some t → S it.i = S' it.i) → ∀ z : Option AVal,
    l.foldl (fun acc it => if S it.i = true ∧ it.o.dst = some t then some it.v else acc) z = l.foldl (fun acc it => if S' it.i = true ∧ it.o.dst = some t then some it.v else acc) z
  | [], _, z => rfl
  | it :: l, h, z => by
    simp only [List.foldl_cons]
    have e : (if S it.i = true ∧ it.o.dst = some t then some it.v else z) = (if S' it.i = true ∧ it.o.dst = some t then some it.v else z) := by
      by_cases hd : it.o.dst = some t
      · rw [h it (by simp) hd]
      · simp [hd]
    rw [e]
    exact looks_congr l (fun it' h' => h it' (by simp [h'])) _

theorem looks_none {S : Nat → Bool} {t : Nat} : ∀ (l : List It), (∀ it ∈ l, it.o.dst = some t → S it.i = false) → ∀ z : Option AVal,
    l.foldl (fun acc it => if S it.i = true ∧ it.o.dst = some t then some it.v else acc) z = z
  | [], _, z => rfl
  | it :: l, h, z => by
    simp only [List.foldl_cons]
    have e : (if S it.i = true ∧ it.o.dst = some t then some it.v else z) = z := by
      by_cases hd : it.o.dst = some t
      · rw [h it (by simp) hd]; simp
      · simp [hd]
    rw [e]
    exact looks_none l (fun it' h' => h it' (by simp [h'])) _

/-- An operand that an operation does not have is not looked at. -/
noncomputable def within (l : Array Operand) (ev : Operand → Option AVal) (x : Operand) : Option AVal := open Classical in if x ∈ l then ev x else none

theorem operA_within {P : Program} {X : Cx} {call : CallF} {rd : Bool} {ev : Operand → Option AVal} {ds : List ADefd} {h : AHeap} {um : UM} {rid : Nat} {op : Op} :
    operA P X call rd (within op.operands ev) ds h um rid op = operA P X call rd ev ds h um rid op := by
  unfold operA
  rw [execA_congr op (ev := within op.operands ev) (ev' := ev) (fun x hx => by unfold within; rw [if_pos hx])]

theorem wantedA_at {env : Nat → Value} {ρ : Rho} {ops : Array Oper} {loc : Loc} {tm : T AVal} {a : Act} {o : Oper} {r : Bool} (hs : ∀ t ∈ o.looksAt ops, ∀ v, lookL loc t tm = some v → ∃ x, a.tmps[t]? = some x ∧ VRel ρ env v x)
    (hw : wantedA ops loc tm o = some r) : Region.wanted o (yielded ops a.tmps) = r := by
  -- only the guard's slot is looked at
  unfold wantedA at hw
  unfold Region.wanted
  split at hw
  · rename_i hg
    cases hw; rw [hg]
  · rename_i j want hg
    rw [hg]; simp only
    cases hd : dstOf ops j with
    | none => rw [hd] at hw; cases hw
    | some d =>
      rw [hd] at hw; simp only at hw
      have hy : (ops[j]?).bind (·.dst) = some d := by
        unfold dstOf at hd
        cases ho : ops[j]? with
        | none => rw [ho] at hd; cases hd
        | some o' => rw [ho] at hd; simpa using hd
      have hin : d ∈ o.looksAt ops := by
        unfold Oper.looksAt
        rw [hg]
        refine List.mem_append_right _ ?_
        simp [hy]
      unfold yielded
      rw [hy]
      simp only [Option.bind_some]
      split at hw
      · rename_i b hl
        cases hw
        obtain ⟨x, h1, h2⟩ := hs d hin _ hl
        rw [h1, h2.of_bool]
        cases b <;> cases want <;> rfl
      · rename_i hl
        cases hw
        obtain ⟨x, h1, h2⟩ := hs d hin _ hl
        obtain ⟨l', rfl, h3⟩ := h2.of_tup
        rw [h1]
        rfl
      · cases hw

theorem looksAt_tmp {ops : Array Oper} {o : Oper} {t : Nat} (h : Operand.tmp t ∈ o.op.operands) : t ∈ o.looksAt ops := by
  unfold Oper.looksAt
  refine List.mem_append_left _ (List.mem_filterMap.2 ⟨.tmp t, by simpa using h, rfl⟩)

/-! ### The run in the world -/
section
variable {P : Program} {env : Nat → Value} {okc : FuncId → Code → Bool} {X : Cx} {call : CallF} {rd : Bool} {ops : Array Oper} {tm : T AVal} {n : Nat}
  {its : List It} {pz : Option Nat} {start R : Nat} {s0 fin : DS} {b : Frame} {cfn : FrameMode → List Frame}

/-- Where a run in the world stands: which operations are done, and which effects. -/
structure Inv (P : Program) (env : Nat → Value) (okc : FuncId → Code → Bool) (X : Cx) (ops : Array Oper) (tm : T AVal) (n : Nat) (its : List It) (start R : Nat) (fin : DS) (b : Frame) (cfn : FrameMode → List Frame)
    (S : Nat → Bool) (sn : List Sn) (ds : List ADefd) (h : AHeap) (um : UM) (ρ : Rho) (a : Act) (m : FrameMode) (w : World) : Prop where
  closed : Closed ops (fun i => S i = true)
  inb : ∀ i, S i = true → i < its.length
  done : ∀ (j : Nat) t, its[j]? = some t → S j = true → t.kd ≠ .hole
  suf : ∃ pre, fin.snaps = pre ++ sn
  effs : ∀ (j : Nat) t ds' h' um', its[j]? = some t → t.kd = .eff ds' h' um' → (S j = true ↔ ∃ s ∈ sn, s.e = j)
  cur : ∀ j, j ≤ its.length → (stAt its fin j).snaps = sn → (stAt its fin j).h = h ∧ (stAt its fin j).ds = ds ∧ (stAt its fin j).um = um
  slots : ∀ t v, looks S tm its t = some v → ∃ x, a.tmps[t]? = some x ∧ VRel ρ env v x
  size : a.tmps.size = n
  defs : DefsRel env ρ ds a.defers
  mode : ModeRel env ρ um m
  heap : HRel P env okc ρ (commitAll (openAt sn fin.al) h) w
  hole : ∀ p ∈ openAt sn fin.al, h.get p.rid = none
  fresh : ∀ (j : Nat) o, ops[j]? = some o → S j = false → mayAlloc P o.op = true → ρ (ridsOf P (ops.toList.take j) start) = none
  room : R ≤ h.next
  glob : GlobOk ρ X.nglob
  cs : CsOk b cfn um

/-- What is given of a run. -/
structure Run (P : Program) (X : Cx) (call : CallF) (rd : Bool) (ops : Array Oper) (tm : T AVal) (n : Nat) (its : List It) (pz : Option Nat) (start R : Nat) (s0 fin : DS) : Prop where
  draw : drawOk n ops = true
  chain : Chain P X call rd ops tm 0 start s0 its fin
  plan : plan ops = its.map (fun t => (t.o, t.m))
  /-- what is not done: the operation that panics, and those that wait for it -/
  holes : ∀ (j : Nat) t, its[j]? = some t → t.kd = .hole → ∃ p, pz = some p ∧ (j = p ∨ bitOf t.m p = true)
  pan : ∀ p, pz = some p → ∃ t, its[p]? = some t ∧ t.kd = .hole
  loc : s0.loc = .nil
  pend : s0.pend = []
  al : s0.al = []
  snaps : s0.snaps = []
  reads : s0.reads = []
  rids : ridsOf P ops.toList start = R
  /-- the reads come to the same wherever they may stand -/
  same : ∀ r ∈ fin.reads, ∀ (pre : List Sn) (s : Sn) (sn : List Sn), fin.snaps = pre ++ s :: sn → bitOf r.m s.e = true ∨ ahead r sn = true ∨ readsAs P X tm (commitAll (openAt sn fin.al) s.h) r = true
  last : ∀ r ∈ fin.reads, (∃ p, pz = some p ∧ bitOf r.m p = true) ∨ ahead r fin.snaps = true ∨ readsAs P X tm (commitAll (openAt fin.snaps fin.al) fin.h) r = true

variable (hR : Run P X call rd ops tm n its pz start R s0 fin)
include hR

theorem Run.it {j : Nat} {t : It} (ht : its[j]? = some t) : (Go.Eng.plan ops)[j]? = some (t.o, t.m) ∧ ops[j]? = some t.o ∧ t.i = j ∧ t.rid = ridsOf P (ops.toList.take j) start := by
  have hlt : j < its.length := (List.getElem?_eq_some_iff.1 ht).1
  have h1 : (Go.Eng.plan ops)[j]? = some (t.o, t.m) := by
    rw [hR.plan, List.getElem?_map, ht]; rfl
  have hmap := (plan_ok ops).1
  have h2 : ops.toList[j]? = some t.o := by rw [← hmap, List.getElem?_map, h1]; rfl
  obtain ⟨q1, q2, _, _⟩ := chain_split hR.chain j t ht
  refine ⟨h1, by simpa using h2, by omega, ?_⟩
  rw [q2]
  congr 1
  rw [← hmap, hR.plan, List.map_map, ← List.map_take]
  rfl

/-- A region's operation with its mask. -/
theorem Run.mask {j : Nat} {om : Oper × Nat} (ho : (Go.Eng.plan ops)[j]? = some om) : MaskOk ops om.2 j ∧ (∀ e ∈ om.1.after, Region.binds .any e = true → e.on < j) ∧
    ∀ k' om', k' < j → (Go.Eng.plan ops)[k']? = some om' → bitOf om.2 k' = true ∨ om'.1.apart ops om.1 = true := by
  have hd := hR.draw
  unfold drawOk at hd
  rw [Bool.and_eq_true] at hd
  obtain ⟨q1, _, q3⟩ := ordFrom_spec _ 0 [] hd.2 j om ho
  refine ⟨(plan_ok ops).2 j om ho, fun e he hb => by have := q1 e he hb; omega, fun k' om' hk ho' => ?_⟩
  have := q3 k' om' hk ho'
  rwa [Nat.zero_add] at this

theorem Run.plan_at {j : Nat} {o : Oper} (ho : ops[j]? = some o) : ∃ m, (Go.Eng.plan ops)[j]? = some (o, m) := by
  have hmap := (plan_ok ops).1
  have h2 : ops.toList[j]? = some o := by simpa using ho
  rw [← hmap, List.getElem?_map] at h2
  cases h3 : (Go.Eng.plan ops)[j]? with
  | none => rw [h3] at h2; cases h2
  | some om => rw [h3] at h2; simp at h2; exact ⟨om.2, by rw [← h2]⟩

/-- A mask tells of lower numbers only. -/
theorem Run.low {j : Nat} {om : Oper × Nat} (ho : (Go.Eng.plan ops)[j]? = some om) (k : Nat) (hk : bitOf om.2 k = true) : k < j := by
  obtain ⟨h1, h2, _⟩ := hR.mask ho
  refine h1 (fun i => i < j) ?_ ?_ k hk
  · intro i o hi ho' e he hb
    obtain ⟨m, hm⟩ := hR.plan_at ho'
    have := (hR.mask hm).2.1 e he hb
    omega
  · intro o ho' e he hb
    obtain ⟨m, hm⟩ := hR.plan_at ho'
    exact (hR.mask hm).2.1 e he hb

theorem Run.lowIt (j : Nat) (t : It) (ht : its[j]? = some t) (k : Nat) (hk : bitOf t.m k = true) : k < j := hR.low (hR.it ht).1 k hk

/-- What is done holds all that stands ahead of it. -/
theorem Run.ahead {S : Nat → Bool} (hS : Closed ops (fun i => S i = true)) {j : Nat} {om : Oper × Nat} (ho : (Go.Eng.plan ops)[j]? = some om) (hj : S j = true) (k : Nat) (hk : bitOf om.2 k = true) : S k = true :=
  (hR.mask ho).1 (fun i => S i = true) hS (fun o ho' e he hb => hS j o hj ho' e he hb) k hk

/-- What may be done next has all that stands ahead of it done. -/
theorem Run.ready {S : Nat → Bool} (hS : Closed ops (fun i => S i = true)) {j : Nat} {om : Oper × Nat} (ho : (Go.Eng.plan ops)[j]? = some om)
    (hj : ∀ o, ops[j]? = some o → ∀ e ∈ o.after, Region.binds .any e = true → S e.on = true) (k : Nat) (hk : bitOf om.2 k = true) : S k = true :=
  (hR.mask ho).1 (fun i => S i = true) hS hj k hk

/-! Numbers of blocks. -/
theorem Run.rid_lt {i j : Nat} {o : Oper} (ho : ops[i]? = some o) (hm : mayAlloc P o.op = true) (hij : i < j) : ridsOf P (ops.toList.take i) start < ridsOf P (ops.toList.take j) start := by
  have step : ∀ k, ridsOf P (ops.toList.take k) start ≤ ridsOf P (ops.toList.take (k + 1)) start := by
    intro k
    have happ : ∀ (l l' : List Oper) (x : Nat), ridsOf P (l ++ l') x = ridsOf P l' (ridsOf P l x) := by
      intro l
      induction l with
      | nil => intro l' x; rfl
      | cons o l ih => intro l' x; rw [List.cons_append, ridsOf_cons, ridsOf_cons, ih]
    rw [List.take_add_one, happ]
    exact ridsOf_le _ _
  have mono : ∀ d, ridsOf P (ops.toList.take (i + 1)) start ≤ ridsOf P (ops.toList.take (i + 1 + d)) start := by
    intro d
    induction d with
    | zero => exact Nat.le_refl _
    | succ d ih => exact Nat.le_trans ih (step _)
  have h1 : ridsOf P (ops.toList.take (i + 1)) start = ridsOf P (ops.toList.take i) start + 1 := by
    have happ : ∀ (l l' : List Oper) (x : Nat), ridsOf P (l ++ l') x = ridsOf P l' (ridsOf P l x) := by
      intro l
      induction l with
      | nil => intro l' x; rfl
      | cons o l ih => intro l' x; rw [List.cons_append, ridsOf_cons, ridsOf_cons, ih]
    have h2 : ops.toList[i]? = some o := by simpa using ho
    rw [List.take_add_one, happ, h2]
    show nextRid P o.op _ = _
    rw [nextRid_eq, if_pos hm]
  have := mono (j - (i + 1))
  rw [show i + 1 + (j - (i + 1)) = j by omega] at this
  omega

theorem Run.rid_room {i : Nat} {o : Oper} (ho : ops[i]? = some o) (hm : mayAlloc P o.op = true) : ridsOf P (ops.toList.take i) start < R := by
  have hlt : i < ops.toList.length := by simpa using (Array.getElem?_eq_some_iff.1 ho).1
  have := hR.rid_lt ho hm hlt
  rw [List.take_length, hR.rids] at this
  exact this

theorem Run.rid_ne {i j : Nat} {o o' : Oper} (ho : ops[i]? = some o) (hm : mayAlloc P o.op = true) (ho' : ops[j]? = some o') (hm' : mayAlloc P o'.op = true) (hij : i ≠ j) :
    ridsOf P (ops.toList.take i) start ≠ ridsOf P (ops.toList.take j) start := by
  rcases Nat.lt_or_ge i j with h | h
  · have := hR.rid_lt ho hm h; omega
  · have := hR.rid_lt ho' hm' (show j < i by omega); omega

/-- The blocks that are made: by which operation. -/
theorem Run.al_it {p : Pd} (hp : p ∈ fin.al) : ∃ t, its[p.i]? = some t ∧ t.kd = .alloc p.obj ∧ p.rid = t.rid ∧ mayAlloc P t.o.op = true ∧ liveW (some p.obj) := by
  rw [← stAt_end (its := its) (fin := fin)] at hp
  obtain ⟨j', t, obj, h1, h2, h3, rfl⟩ := al_items hR.chain hR.al its.length (Nat.le_refl _) p hp
  have hg := (chain_split hR.chain j' t h2).2.2.1
  unfold It.good at hg
  rw [h3] at hg
  obtain ⟨g1, g2, h', g3, g4⟩ := hg
  exact ⟨t, h2, h3, rfl, cls_alloc g2, (alloc_any g2 g3 g4 t.s.h).2⟩

theorem Run.al_apart : fin.al.Pairwise (fun p q => p.rid ≠ q.rid) := by
  have h := chain_ind hR.chain (fun j s => j ≤ its.length → s.al.Pairwise (fun p q => p.rid ≠ q.rid)) (by rw [hR.al]; simp) ?_ its.length (Nat.le_refl _) (Nat.le_refl _)
  · rwa [stAt_end] at h
  · intro j it hj ih hle
    have ih := ih (by omega)
    unfold It.next
    cases hk : it.kd with
    | skip => exact ih
    | hole => exact ih
    | pure => exact ih
    | read => exact ih
    | eff ds h um => exact ih
    | alloc obj =>
      refine List.pairwise_cons.2 ⟨fun q hq => ?_, ih⟩
      rw [← stAt_of (fin := fin) hj] at hq
      obtain ⟨j', t, obj', h1, h2, h3, rfl⟩ := al_items hR.chain hR.al j (by omega) q hq
      have hg := (chain_split hR.chain j it hj).2.2.1
      have hg' := (chain_split hR.chain j' t h2).2.2.1
      unfold It.good at hg hg'
      rw [hk] at hg
      rw [h3] at hg'
      obtain ⟨a1, a2, a3, a4⟩ := hR.it hj
      obtain ⟨b1, b2, b3, b4⟩ := hR.it h2
      show it.rid ≠ t.rid
      rw [a4, b4]
      exact hR.rid_ne a2 (cls_alloc hg.2.1) b2 (cls_alloc hg'.2.1) (by omega)

theorem Run.al_one {p q : Pd} (hp : p ∈ fin.al) (hq : q ∈ fin.al) (he : p.rid = q.rid) : p = q := by
  obtain ⟨t, h1, h2, h3, h4, _⟩ := hR.al_it hp
  obtain ⟨u, k1, k2, k3, k4, _⟩ := hR.al_it hq
  obtain ⟨a1, a2, a3, a4⟩ := hR.it h1
  obtain ⟨b1, b2, b3, b4⟩ := hR.it k1
  by_cases hi : p.i = q.i
  · rw [hi, k1] at h1; cases h1
    rw [k2] at h2
    have ho : q.obj = p.obj := by injection h2
    obtain ⟨pi, pr, po⟩ := p
    obtain ⟨qi, qr, qo⟩ := q
    simp only at hi he ho
    subst hi; subst he; subst ho; rfl
  · exact absurd (by rw [← a4, ← b4, ← h3, ← k3]; exact he) (hR.rid_ne a2 h4 b2 k4 hi)

theorem Run.pend_open {j : Nat} {t : It} (ht : its[j]? = some t) : t.s.pend = openAt t.s.snaps t.s.al := by
  have hlt : j < its.length := (List.getElem?_eq_some_iff.1 ht).1
  have := Go.Eng.pend_open hR.chain hR.pend hR.al hR.snaps hR.lowIt j (by omega)
  rwa [stAt_of ht] at this

theorem Run.al_sub {j : Nat} (hj : j ≤ its.length) {p : Pd} (hp : p ∈ (stAt its fin j).al) : p ∈ fin.al := by
  obtain ⟨j', t, obj, h1, h2, h3, rfl⟩ := al_items hR.chain hR.al j hj p hp
  have := items_al hR.chain its.length (Nat.le_refl _) j' t obj (by omega) h2 h3
  rwa [stAt_end] at this

end
end Go.Eng

/- The engine, part P6: one operation of a region whose order is open. -/
set_option linter.unusedVariables false
set_option linter.unusedSimpArgs false
set_option linter.unusedSectionVars false
namespace Go.Eng

section
variable {P : Program} {env : Nat → Value} {okc : FuncId → Code → Bool} {X : Cx} {call : CallF} {rd : Bool} {ops : Array Oper} {tm : T AVal} {n : Nat}
  {its : List It} {pz : Option Nat} {start R : Nat} {s0 fin : DS} {b : Frame} {cfn : FrameMode → List Frame}

variable (hR : Run P X call rd ops tm n its pz start R s0 fin)
include hR

theorem split_at {i : Nat} {t : It} (ht : its[i]? = some t) : its = its.take i ++ t :: its.drop (i + 1) := by
  obtain ⟨h, rfl⟩ := List.getElem?_eq_some_iff.1 ht
  rw [List.getElem_cons_drop, List.take_append_drop]

theorem mem_take {i : Nat} {it : It} (h : it ∈ its.take i) : ∃ j, j < i ∧ its[j]? = some it := by
  obtain ⟨j, hj⟩ := List.getElem?_of_mem h
  rw [List.getElem?_take] at hj
  split at hj
  · rename_i hlt; exact ⟨j, hlt, hj⟩
  · cases hj
theorem mem_drop {i : Nat} {it : It} (h : it ∈ its.drop (i + 1)) : ∃ j, i < j ∧ its[j]? = some it := by
  obtain ⟨j, hj⟩ := List.getElem?_of_mem h
  rw [List.getElem?_drop] at hj
  exact ⟨i + 1 + j, by omega, hj⟩

variable {S : Nat → Bool} (hS : Closed ops (fun i => S i = true)) {i : Nat} {t : It} (ht : its[i]? = some t) (hi : S i = false) (hp : ∀ e ∈ t.o.after, Region.binds .any e = true → S e.on = true)
include hS ht hi hp

theorem Run.maskS (k : Nat) (hk : bitOf t.m k = true) : S k = true :=
  hR.ready hS (hR.it ht).1 (fun o ho e he hb => by rw [(hR.it ht).2.1] at ho; cases ho; exact hp e he hb) k hk

/-- A later operation that is done was not asked to wait for this one. -/
theorem Run.later {j : Nat} {it : It} (hj : its[j]? = some it) (hij : i < j) (hd : S j = true) : t.o.apart ops it.o = true := by
  rcases (hR.mask (hR.it hj).1).2.2 i (t.o, t.m) hij (hR.it ht).1 with h | h
  · have := hR.ahead hS (hR.it hj).1 hd i h
    rw [hi] at this; cases this
  · exact h
theorem Run.earlier {j : Nat} {it : It} (hj : its[j]? = some it) (hij : j < i) (hd : it.o.apart ops t.o = false) : S j = true := by
  rcases (hR.mask (hR.it ht).1).2.2 j (it.o, it.m) hij (hR.it hj).1 with h | h
  · exact hR.maskS hS ht hi hp j h
  · rw [hd] at h; cases h

theorem Run.slot_eq (hdn : ∀ (j : Nat) t, its[j]? = some t → S j = true → t.kd ≠ .hole) {x : Nat} (hx : x ∈ t.o.looksAt ops) : lookL t.s.loc x tm = looks S tm its x := by
  have hlt : i < its.length := (List.getElem?_eq_some_iff.1 ht).1
  have h1 := loc_looks hR.chain hR.loc x i (by omega)
  rw [stAt_of ht] at h1
  rw [h1]
  unfold looks
  conv => rhs; rw [split_at hR ht]
  rw [List.foldl_append, List.foldl_cons]
  have hself : ¬ (S t.i = true ∧ t.o.dst = some x) := by rw [(hR.it ht).2.2.1, hi]; simp
  rw [if_neg hself, looks_none (its.drop (i + 1))]
  · refine looks_congr (S := alive its) (S' := S) (t := x) (its.take i) (fun it hit hd => ?_) (tm.get x)
    obtain ⟨j, hj, hjt⟩ := mem_take hR hit
    rw [(hR.it hjt).2.2.1]
    have hSj : S j = true := by
      refine hR.earlier hS ht hi hp hjt hj ?_
      cases hap : it.o.apart ops t.o with
      | false => rfl
      | true => exact absurd hx ((Oper.apart_spec hap).1 x hd)
    rw [hSj]
    unfold alive
    rw [hjt]
    have := hdn j it hjt hSj
    show (!isHole it.kd) = true
    cases hk : it.kd <;> first | rfl | exact absurd hk this
  · intro it hit hd
    obtain ⟨j, hj, hjt⟩ := mem_drop hR hit
    rw [(hR.it hjt).2.2.1]
    cases hSj : S j with
    | false => rfl
    | true =>
      have := hR.later hS ht hi hp hjt hj hSj
      exact absurd hx ((Oper.apart_spec this).2.2 x hd)

theorem Run.slot_after (x : Nat) : looks (fun j => S j || decide (j = i)) tm its x = if t.o.dst = some x then some t.v else looks S tm its x := by
  by_cases hd : t.o.dst = some x
  · rw [if_pos hd]
    unfold looks
    conv => lhs; rw [split_at hR ht]
    rw [List.foldl_append, List.foldl_cons]
    rw [if_pos ⟨by simp [(hR.it ht).2.2.1], hd⟩]
    refine looks_none (S := fun j => S j || decide (j = i)) (t := x) (its.drop (i + 1)) ?_ _
    intro it hit hd'
    obtain ⟨j, hj, hjt⟩ := mem_drop hR hit
    simp only [(hR.it hjt).2.2.1]
    have hne : ¬ j = i := by omega
    simp only [hne, decide_false, Bool.or_false]
    cases hSj : S j with
    | false => rfl
    | true =>
      have := hR.later hS ht hi hp hjt hj hSj
      exact absurd hd' ((Oper.apart_spec this).2.1 x hd)
  · rw [if_neg hd]
    unfold looks
    refine looks_congr (S := fun j => S j || decide (j = i)) (S' := S) (t := x) its (fun it hit hd' => ?_) (tm.get x)
    obtain ⟨j, hj⟩ := List.getElem?_of_mem hit
    rw [(hR.it hj).2.2.1]
    have hne : ¬ j = i := by
      intro e; subst e
      rw [ht] at hj; cases hj
      exact hd hd'
    simp [hne]

omit hp hi hS in
theorem Run.dst_ok {a : Act} (hn : a.tmps.size = n) : ∀ d, t.o.dst = some d → d < a.tmps.size := by
  intro d hd
  have hdr := hR.draw
  unfold drawOk at hdr
  rw [Bool.and_eq_true] at hdr
  rw [hn]
  refine dstsOk_mem hdr.1 t.o ?_ d hd
  have := (hR.it ht).2.1
  have h2 : ops.toList[i]? = some t.o := by simpa using this
  exact List.mem_of_getElem? h2

omit hS in
/-- An operation is done. -/
theorem Inv.move {sn sn' : List Sn} {ds ds' : List ADefd} {h h' : AHeap} {um um' : UM} {ρ ρ' : Rho} {a : Act} {m m' : FrameMode} {w w' : World} (inv : Inv P env okc X ops tm n its start R fin b cfn S sn ds h um ρ a m w)
    {x : Value} {d' : List Deferred} (hnh : t.kd ≠ .hole) (hsub : ρ.sub ρ') (hnew : ∀ y, ¬ ((mayAlloc P t.o.op = true ∧ y = t.rid) ∨ h.next ≤ y) → ρ' y = ρ y) (hv : VRel ρ' env t.v x)
    (suf : ∃ pre, fin.snaps = pre ++ sn')
    (effs : ∀ (j : Nat) t ds' h' um', its[j]? = some t → t.kd = .eff ds' h' um' → ((S j || decide (j = i)) = true ↔ ∃ s ∈ sn', s.e = j))
    (cur : ∀ j, j ≤ its.length → (stAt its fin j).snaps = sn' → (stAt its fin j).h = h' ∧ (stAt its fin j).ds = ds' ∧ (stAt its fin j).um = um')
    (defs : DefsRel env ρ' ds' d') (mode : ModeRel env ρ' um' m') (heap : HRel P env okc ρ' (commitAll (openAt sn' fin.al) h') w') (hole : ∀ p ∈ openAt sn' fin.al, h'.get p.rid = none) (room : R ≤ h'.next)
    (cs : CsOk b cfn um') : Inv P env okc X ops tm n its start R fin b cfn (fun j => S j || decide (j = i)) sn' ds' h' um' ρ' ({ a with defers := d' }.put t.o.dst x) m' w' := by
  have hS := inv.closed
  obtain ⟨t1, t2, t3, t4⟩ := hR.it ht
  refine ⟨?_, ?_, ?_, suf, effs, cur, ?_, by rw [put_size]; exact inv.size, by rw [put_defs]; exact defs, mode, heap, hole, ?_, room, inv.glob.mono hsub, cs⟩
  · intro j o hj ho e he hb
    simp only [Bool.or_eq_true, decide_eq_true_eq] at hj ⊢
    rcases hj with hj | rfl
    · exact .inl (hS j o hj ho e he hb)
    · rw [t2] at ho; cases ho
      exact .inl (hp e he hb)
  · intro j hj
    simp only [Bool.or_eq_true, decide_eq_true_eq] at hj
    rcases hj with hj | rfl
    · exact inv.inb j hj
    · exact (List.getElem?_eq_some_iff.1 ht).1
  · intro j u hu hj
    simp only [Bool.or_eq_true, decide_eq_true_eq] at hj
    rcases hj with hj | rfl
    · exact inv.done j u hu hj
    · rw [ht] at hu; cases hu; exact hnh
  · intro x' v hl
    rw [hR.slot_after inv.closed ht hi hp] at hl
    rw [put_get { a with defers := d' } _ _ _ (hR.dst_ok ht inv.size)]
    by_cases hd : t.o.dst = some x'
    · rw [if_pos hd] at hl ⊢
      cases hl
      exact ⟨x, rfl, hv⟩
    · rw [if_neg hd] at hl ⊢
      obtain ⟨y, q1, q2⟩ := inv.slots x' v hl
      exact ⟨y, q1, q2.mono hsub⟩
  · intro j o ho hj hm
    simp only [Bool.or_eq_false_iff, decide_eq_false_iff_not] at hj
    rw [hnew]
    · exact inv.fresh j o ho hj.1 hm
    · rintro (⟨hm', he⟩ | hle)
      · rw [t4] at he
        exact hR.rid_ne ho hm t2 hm' hj.2 he
      · have := hR.rid_room ho hm
        have := inv.room
        omega

/-- No effect that is done stands behind the operation. -/
theorem Run.notAhead {sn : List Sn} (hsn : ∀ s ∈ sn, ∃ j t', its[j]? = some t' ∧ s.e = j ∧ s.m = t'.m ∧ S j = true) (s : Sn) (hs : s ∈ sn) : bitOf s.m i = false := by
  obtain ⟨j, t', q1, q2, q3, q4⟩ := hsn s hs
  cases hb : bitOf s.m i with
  | false => rfl
  | true =>
    rw [q3] at hb
    have := hR.ahead hS (hR.it q1).1 q4 i hb
    rw [hi] at this; cases this

end

section
variable {P : Program} {env : Nat → Value} {okc : FuncId → Code → Bool} {X : Cx} {call : CallF} {rd : Bool} {ops : Array Oper} {tm : T AVal} {n : Nat}
  {its : List It} {pz : Option Nat} {start R : Nat} {s0 fin : DS} {b : Frame} {cfn : FrameMode → List Frame}
  {S : Nat → Bool} {sn : List Sn} {ds : List ADefd} {h : AHeap} {um : UM} {ρ : Rho} {a : Act} {m : FrameMode} {w : World}
variable (hR : Run P X call rd ops tm n its pz start R s0 fin)
variable (inv : Inv P env okc X ops tm n its start R fin b cfn S sn ds h um ρ a m w)
include hR inv

/-- The effects that are done are operations of the trace. -/
theorem Inv.sn_it (s : Sn) (hs : s ∈ sn) : ∃ j t', its[j]? = some t' ∧ s.e = j ∧ s.m = t'.m ∧ S j = true := by
  obtain ⟨pre, hpre⟩ := inv.suf
  obtain ⟨l1, l2, hl⟩ := List.append_of_mem hs
  have hf : (stAt its fin its.length).snaps = (pre ++ l1) ++ s :: l2 := by rw [stAt_end, hpre, hl, List.append_assoc]
  obtain ⟨j', t', ds', h', um', q1, q2, q3, q4, q5⟩ := snaps_items hR.chain hR.snaps its.length (Nat.le_refl _) _ _ _ hf
  refine ⟨j', t', q2, by rw [q4], by rw [q4], ?_⟩
  exact (inv.effs j' t' ds' h' um' q2 q3).2 ⟨s, hs, by rw [q4]⟩

/-- No two effects have the same number. -/
theorem Run.apart_snaps : fin.snaps.Pairwise (fun a b => a.e ≠ b.e) := by
  have := snaps_apart hR.chain hR.snaps its.length (Nat.le_refl _)
  rwa [stAt_end] at this

/-- Where the effects of a tail are all done, and no more: it is the tail that is done. -/
theorem Inv.tail_eq {l pre : List Sn} (hl : fin.snaps = pre ++ l) (hdone : ∀ s ∈ l, S s.e = true) (hmore : ∀ s ∈ pre, S s.e = false) : l = sn := by
  obtain ⟨pre', hpre'⟩ := inv.suf
  have hap := hR.apart_snaps inv
  have hdone' : ∀ s ∈ sn, S s.e = true := fun s hs => by
    obtain ⟨j, t', q1, q2, q3, q4⟩ := inv.sn_it hR s hs
    rw [q2]; exact q4
  have hin : ∀ s ∈ fin.snaps, S s.e = true → ∃ s' ∈ sn, s'.e = s.e := fun s hs hd => by
    obtain ⟨l1, l2, hl⟩ := List.append_of_mem hs
    have hf : (stAt its fin its.length).snaps = l1 ++ s :: l2 := by rw [stAt_end, hl]
    obtain ⟨j', t', ds', h', um', q1, q2, q3, q4, q5⟩ := snaps_items hR.chain hR.snaps its.length (Nat.le_refl _) _ _ _ hf
    have he : s.e = j' := by rw [q4]
    obtain ⟨s', h1, h2⟩ := (inv.effs j' t' ds' h' um' q2 q3).1 (by rw [← he]; exact hd)
    exact ⟨s', h1, by rw [h2, he]⟩
  -- both are tails of one list
  have hs1 : l <:+ fin.snaps := ⟨pre, hl.symm⟩
  have hs2 : sn <:+ fin.snaps := ⟨pre', hpre'.symm⟩
  rcases List.suffix_or_suffix_of_suffix hs1 hs2 with ⟨q, hq⟩ | ⟨q, hq⟩
  · -- sn = q ++ l
    cases q with
    | nil => simpa using hq
    | cons c q =>
      exfalso
      have hc : c ∈ sn := by rw [← hq]; simp
      have hcS := hdone' c hc
      have hpc : pre = pre' ++ (c :: q) := by
        have : pre ++ l = (pre' ++ (c :: q)) ++ l := by rw [← hl, hpre', ← hq, List.append_assoc]
        exact List.append_cancel_right this
      have := hmore c (by rw [hpc]; simp)
      rw [this] at hcS; cases hcS
  · -- l = q ++ sn
    cases q with
    | nil => simpa using hq.symm
    | cons c q =>
      exfalso
      have hc : c ∈ l := by rw [← hq]; simp
      have hcf : c ∈ fin.snaps := by rw [hl]; simp [hc]
      obtain ⟨s', h1, h2⟩ := hin c hcf (hdone c hc)
      have hf : fin.snaps = (pre ++ [c]) ++ (q ++ sn) := by rw [hl, ← hq]; simp
      rw [hf, List.pairwise_append] at hap
      exact hap.2.2 c (by simp) s' (by simp [h1]) h2.symm

end
end Go.Eng

/- The engine, part P7: every operation of a region whose order is open. -/
set_option linter.unusedVariables false
set_option linter.unusedSimpArgs false
set_option linter.unusedSectionVars false
namespace Go.Eng

section
variable {P : Program} {env : Nat → Value} {okc : FuncId → Code → Bool} {X : Cx} {call : CallF} {rd : Bool} {ops : Array Oper} {tm : T AVal} {n : Nat}
  {its : List It} {pz : Option Nat} {start R : Nat} {s0 fin : DS} {b : Frame} {cfn : FrameMode → List Frame}
  {S : Nat → Bool} {sn : List Sn} {ds : List ADefd} {h : AHeap} {um : UM} {ρ : Rho} {a : Act} {m : FrameMode} {w : World}
variable (hR : Run P X call rd ops tm n its pz start R s0 fin)
variable (inv : Inv P env okc X ops tm n its start R fin b cfn S sn ds h um ρ a m w)

/-- The heap of a run: with the blocks that no effect has reached. -/
noncomputable def full (fin : DS) (sn : List Sn) (h : AHeap) : AHeap := commitAll (openAt sn fin.al) h

theorem full_next (fin : DS) (sn : List Sn) (h : AHeap) : (full fin sn h).next = h.next := commitAll_next _ _

include hR

theorem Run.open_apart (l : List Sn) : (openAt l fin.al).Pairwise (fun p q => p.rid ≠ q.rid) := List.Pairwise.sublist (openAt_sub _ _) hR.al_apart

theorem Run.full_mem {p : Pd} (hp : p ∈ openAt sn fin.al) : (full fin sn h).get p.rid = some p.obj := commitAll_mem h _ (hR.open_apart sn) p hp
omit hR in
theorem full_get {c : Nat} (hc : ∀ p ∈ openAt sn fin.al, p.rid ≠ c) : (full fin sn h).get c = h.get c := commitAll_get h c _ hc

/-- What the operands of an operation come to. -/
theorem Run.ev_rel (hg : GlobOk ρ X.nglob) (hsl : ∀ t v, looks S tm its t = some v → ∃ x, a.tmps[t]? = some x ∧ VRel ρ env v x) {o : Oper} {loc : Loc} (heq : ∀ t ∈ o.looksAt ops, lookL loc t tm = looks S tm its t)
    (x : Operand) (v : AVal) (hx : within o.op.operands (evA X loc tm) x = some v) : VRel ρ env v (a.eval x) := by
  unfold within at hx
  split at hx
  rotate_left
  · cases hx
  rename_i hin
  cases x with
  | tmp t =>
    have hx' : some (orAny (lookL loc t tm)) = some v := hx
    rw [heq t (looksAt_tmp hin)] at hx'
    cases hl : looks S tm its t with
    | none => rw [hl] at hx'; cases hx'; exact .any _
    | some z =>
      rw [hl] at hx'; cases hx'
      obtain ⟨y, h1, h2⟩ := hsl t z hl
      have : a.eval (.tmp t) = y := by simp [Act.eval, Array.getD_eq_getD_getElem?, h1]
      rw [this]; exact h2
  | const c => exact ofConst_rel hx
  | global g =>
    have hx' : (match Nat.ble (g + 1) X.nglob with | true => some (AVal.ptr g 0) | false => none) = some v := hx
    split at hx'
    · rename_i hb
      cases hx'
      obtain ⟨i, h1, h2, h3⟩ := hg g (ble_le hb)
      have := VRel.ptr (env := env) 0 h1
      rw [h2, h3] at this; exact this
    · cases hx'
  | func f => cases hx; exact VRels.nil.func .nil

include inv

theorem Inv.done_closed (s : Sn) (hs : s ∈ fin.snaps) (hd : S s.e = true) : ∃ s' ∈ sn, s'.e = s.e := by
  obtain ⟨l1, l2, hl⟩ := List.append_of_mem hs
  have hf : (stAt its fin its.length).snaps = l1 ++ s :: l2 := by rw [stAt_end, hl]
  obtain ⟨j', t', ds', h', um', q1, q2, q3, q4, q5⟩ := snaps_items hR.chain hR.snaps its.length (Nat.le_refl _) _ _ _ hf
  have he : s.e = j' := by rw [q4]
  obtain ⟨s', h1, h2⟩ := (inv.effs j' t' ds' h' um' q2 q3).1 (by rw [← he]; exact hd)
  exact ⟨s', h1, by rw [h2, he]⟩

theorem Inv.sn_done (s : Sn) (hs : s ∈ sn) : S s.e = true := by
  obtain ⟨j, t', q1, q2, q3, q4⟩ := inv.sn_it hR s hs
  rw [q2]; exact q4

variable {i : Nat} {t : It} (ht : its[i]? = some t) (hi : S i = false) (hp : ∀ e ∈ t.o.after, Region.binds .any e = true → S e.on = true)
include ht hi hp

theorem Inv.notAhead (s : Sn) (hs : s ∈ sn) : bitOf s.m i = false := hR.notAhead inv.closed ht hi hp (inv.sn_it hR) s hs

/-- A read comes to the same where it is done. -/
theorem Inv.read_same (hk : t.kd = .read) : ∃ h', execA P X (evA X t.s.loc tm) (full fin sn h) 0 t.o.op = some (.val t.v h') := by
  have hlt : i < its.length := (List.getElem?_eq_some_iff.1 ht).1
  have hmem := items_reads hR.chain its.length (Nat.le_refl _) i t hlt ht hk
  rw [stAt_end] at hmem
  have hah : ahead ⟨i, t.m, t.o.op, t.s.loc, t.v⟩ sn ≠ true := by
    intro hc
    cases hsn : sn with
    | nil => rw [hsn] at hc; cases hc
    | cons s l =>
      rw [hsn] at hc
      have := inv.notAhead hR ht hi hp s (by rw [hsn]; simp)
      rw [show ahead ⟨i, t.m, t.o.op, t.s.loc, t.v⟩ (s :: l) = bitOf s.m i from rfl, this] at hc
      cases hc
  obtain ⟨pre, hpre⟩ := inv.suf
  have hcur : ∀ j, j ≤ its.length → (stAt its fin j).snaps = sn → (stAt its fin j).h = h := fun j hj he => (inv.cur j hj he).1
  rcases List.eq_nil_or_concat pre with rfl | ⟨pre', s, rfl⟩
  · -- all effects are done
    have hfin : fin.snaps = sn := by simpa using hpre
    have hh : fin.h = h := by
      have := hcur its.length (Nat.le_refl _) (by rw [stAt_end]; exact hfin)
      rwa [stAt_end] at this
    rcases hR.last _ hmem with ⟨p, h1, h2⟩ | h1 | h1
    · have hL := hR.maskS inv.closed ht hi hp p h2
      obtain ⟨u, hu, hk'⟩ := hR.pan p h1
      exact absurd hk' (inv.done p u hu hL)
    · rw [hfin] at h1; exact absurd h1 hah
    · rw [hfin, hh] at h1; exact readsAs_spec h1
  · have hpre' : fin.snaps = pre' ++ s :: sn := by rw [hpre]; simp
    -- the next effect
    have hf : (stAt its fin its.length).snaps = pre' ++ s :: sn := by rw [stAt_end, hpre']
    obtain ⟨j', t', ds', h', um', q1, q2, q3, q4, q5⟩ := snaps_items hR.chain hR.snaps its.length (Nat.le_refl _) _ _ _ hf
    have hh : s.h = h := by
      have := hcur j' (by omega) (by rw [stAt_of q2]; exact q5)
      rw [stAt_of q2] at this
      rw [q4]; exact this
    rcases hR.same _ hmem pre' s sn hpre' with h1 | h1 | h1
    · exfalso
      have hd := hR.maskS inv.closed ht hi hp s.e h1
      obtain ⟨s', k1, k2⟩ := inv.done_closed hR s (by rw [hpre']; simp) hd
      have hap := hR.apart_snaps inv
      rw [hpre', List.pairwise_append] at hap
      exact (List.pairwise_cons.1 hap.2.1).1 s' k1 k2.symm
    · exact absurd h1 hah
    · rw [hh] at h1; exact readsAs_spec h1

/-- An effect that is next finds the effects ahead of it done, and no more. -/
theorem Inv.eff_now {ds' : List ADefd} {h' : AHeap} {um' : UM} (hk : t.kd = .eff ds' h' um') : t.s.snaps = sn := by
  have hlt : i < its.length := (List.getElem?_eq_some_iff.1 ht).1
  have hg := (chain_split hR.chain i t ht).2.2.1
  unfold It.good at hg
  rw [hk] at hg
  have hnext := (chain_split hR.chain i t ht).2.2.2
  have hsuf := (snaps_suf hR.chain its.length (Nat.le_refl _) (i + 1) (by omega)).1
  rw [hnext, stAt_end] at hsuf
  have hns : t.next.snaps = ⟨t.i, t.m, t.s.h⟩ :: t.s.snaps := by unfold It.next; rw [hk]
  rw [hns] at hsuf
  obtain ⟨pre, hpre⟩ := hsuf
  have hti := (hR.it ht).2.2.1
  refine inv.tail_eq hR (l := t.s.snaps) (pre := pre ++ [⟨t.i, t.m, t.s.h⟩]) (by rw [← hpre]; simp) ?_ ?_
  · -- done
    cases hsn : t.s.snaps with
    | nil => simp
    | cons c l =>
      have hl := hg.2.1
      rw [hsn] at hl
      have hc : S c.e = true := hR.maskS inv.closed ht hi hp c.e hl
      have hcl := snaps_closed hR.chain (S := fun j => S j = true) (fun j t' ht' hj k hk' => hR.ahead inv.closed (hR.it ht').1 hj k hk') hR.snaps i (by omega) c l (by rw [stAt_of ht]; exact hsn) hc
      intro s hs
      rcases List.mem_cons.1 hs with rfl | hs
      · exact hc
      · exact hcl s hs
  · -- not more
    intro s hs
    cases hd : S s.e with
    | false => rfl
    | true =>
      exfalso
      rcases List.mem_append.1 hs with hs | hs
      · -- a later effect has this one ahead of it
        obtain ⟨l1, l2, hl⟩ := List.append_of_mem hs
        have hf : (stAt its fin its.length).snaps = l1 ++ s :: (l2 ++ ⟨t.i, t.m, t.s.h⟩ :: t.s.snaps) := by rw [stAt_end, ← hpre, hl]; simp
        obtain ⟨j', t', ds2, h2, um2, q1, q2, q3, q4, q5⟩ := snaps_items hR.chain hR.snaps its.length (Nat.le_refl _) _ _ _ hf
        have hg' := (chain_split hR.chain j' t' q2).2.2.1
        unfold It.good at hg'
        rw [q3] at hg'
        have hSj : S j' = true := by have : s.e = j' := by rw [q4]
                                     rw [← this]; exact hd
        have hall : ∀ c ∈ t'.s.snaps, S c.e = true := by
          cases hsn : t'.s.snaps with
          | nil => simp
          | cons c l =>
            have hl := hg'.2.1
            rw [hsn] at hl
            have hc : S c.e = true := hR.ahead inv.closed (hR.it q2).1 hSj c.e hl
            have hcl := snaps_closed hR.chain (S := fun j => S j = true) (fun j t' ht' hj k hk' => hR.ahead inv.closed (hR.it ht').1 hj k hk') hR.snaps j' (by omega) c l (by rw [stAt_of q2]; exact hsn) hc
            intro s hs
            rcases List.mem_cons.1 hs with rfl | hs
            · exact hc
            · exact hcl s hs
        have := hall ⟨t.i, t.m, t.s.h⟩ (by rw [q5]; simp)
        rw [show (⟨t.i, t.m, t.s.h⟩ : Sn).e = t.i from rfl, hti, hi] at this
        cases this
      · have : s = ⟨t.i, t.m, t.s.h⟩ := by simpa using hs
        rw [this, show (⟨t.i, t.m, t.s.h⟩ : Sn).e = t.i from rfl, hti, hi] at hd
        cases hd

end
end Go.Eng

/- The engine, part P8: a step of a region whose order is open. -/
set_option linter.unusedVariables false
set_option linter.unusedSimpArgs false
set_option linter.unusedSectionVars false
namespace Go.Eng

section
variable {P : Program} {env : Nat → Value} {okc : FuncId → Code → Bool} {X : Cx} {call : CallF} {rd : Bool} {ops : Array Oper} {tm : T AVal} {n : Nat}
  {its : List It} {pz : Option Nat} {start R : Nat} {s0 fin : DS} {b : Frame} {cfn : FrameMode → List Frame}
  {S : Nat → Bool} {sn : List Sn} {ds : List ADefd} {h : AHeap} {um : UM} {ρ : Rho} {a : Act} {m : FrameMode} {w : World}

theorem operA_val {ev : Operand → Option AVal} {rid : Nat} {op : Op} {v : AVal} {h' : AHeap} (hx : execA P X ev h rid op = some (.val v h')) : operA P X call rd ev ds h um rid op = some (.ok v ds h' um) := by
  unfold operA; rw [hx]

variable (he : EnvOk env) (hF : ∀ f ∈ X.facts, FactOk P env f) (hc : CallOk P env okc X.nglob call) (hrd : rd = false → b.roundOf = none)
variable (hR : Run P X call rd ops tm n its pz start R s0 fin)
variable (inv : Inv P env okc X ops tm n its start R fin b cfn S sn ds h um ρ a m w)
include he hF hc hrd hR inv

set_option maxHeartbeats 1000000 in
theorem Inv.step {i : Nat} {t : It} (ht : its[i]? = some t) (hnh : t.kd ≠ .hole) (hi : S i = false) (hp : ∀ e ∈ t.o.after, Region.binds .any e = true → S e.on = true) (k : List Item) (rest' : List Nat) :
    ∃ sn' ds' h' um' ρ' a' m' w', Inv P env okc X ops tm n its start R fin b cfn (fun j => S j || decide (j = i)) sn' ds' h' um' ρ' a' m' w' ∧
      Steps P (lone (b.atR a (.inRegion ops (i :: rest') :: k)) (cfn m) w) (lone (b.atR a' (.inRegion ops rest' :: k)) (cfn m') w') ∧
      Go' P env okc (fun x => start ≤ x) ρ (full fin sn h) w ρ' (full fin sn' h') w' ∧ (∃ x d', a' = ({ a with defers := d' }.put t.o.dst x : Act)) := by
  obtain ⟨t1, t2, t3, t4⟩ := hR.it ht
  have hlt : i < its.length := (List.getElem?_eq_some_iff.1 ht).1
  have hgood := (chain_split hR.chain i t ht).2.2.1
  have heq : ∀ x ∈ t.o.looksAt ops, lookL t.s.loc x tm = looks S tm its x := fun x hx => hR.slot_eq inv.closed ht hi hp inv.done hx
  have hev := hR.ev_rel (env := env) inv.glob inv.slots heq
  have hwant : ∀ r, wantedA ops t.s.loc tm t.o = some r → Region.wanted t.o (yielded ops a.tmps) = r := fun r hr =>
    wantedA_at (env := env) (ρ := ρ) (fun x hx v hl => inv.slots x v (by rw [← heq x hx]; exact hl)) hr
  have hstart : start ≤ R := by rw [← hR.rids]; exact ridsOf_le _ _
  have hridS : start ≤ t.rid := by rw [t4]; exact ridsOf_le _ _
  have hroom := inv.room
  have hfn : (full fin sn h).next = h.next := full_next _ _ _
  have hN : ∀ x, ((mayAlloc P t.o.op = true ∧ x = t.rid) ∨ (full fin sn h).next ≤ x) → start ≤ x := by
    rintro x (⟨_, rfl⟩ | hx)
    · exact hridS
    · rw [hfn] at hx; omega
  have hridf : mayAlloc P t.o.op = true → ρ t.rid = none ∧ t.rid < (full fin sn h).next := by
    intro hm
    rw [t4, hfn]
    exact ⟨inv.fresh i t.o t2 hi hm, Nat.lt_of_lt_of_le (hR.rid_room t2 hm) hroom⟩
  have heffs : (∀ ds h um, t.kd ≠ .eff ds h um) → ∀ (j : Nat) t' ds' h' um', its[j]? = some t' → t'.kd = .eff ds' h' um' → ((S j || decide (j = i)) = true ↔ ∃ s ∈ sn, s.e = j) := by
    intro hne j t' ds' h' um' hj hk
    have hji : j ≠ i := by
      intro e; subst e
      rw [ht] at hj; cases hj
      exact hne _ _ _ hk
    simp only [hji, decide_false, Bool.or_false]
    exact inv.effs j t' ds' h' um' hj hk
  -- an operation that leaves the heap as it was
  have plain : ∀ (rid : Nat), (∀ ds h um, t.kd ≠ .eff ds h um) → (mayAlloc P t.o.op = true → rid = t.rid) → ∀ h1 : AHeap, wantedA ops t.s.loc tm t.o = some true →
      execA P X (evA X t.s.loc tm) (full fin sn h) rid t.o.op = some (.val t.v h1) → (∀ c, h1.get c = (full fin sn h).get c) → h1.next = (full fin sn h).next →
      ∃ sn' ds' h' um' ρ' a' m' w', Inv P env okc X ops tm n its start R fin b cfn (fun j => S j || decide (j = i)) sn' ds' h' um' ρ' a' m' w' ∧
      Steps P (lone (b.atR a (.inRegion ops (i :: rest') :: k)) (cfn m) w) (lone (b.atR a' (.inRegion ops rest' :: k)) (cfn m') w') ∧
      Go' P env okc (fun x => start ≤ x) ρ (full fin sn h) w ρ' (full fin sn' h') w' ∧ (∃ x d', a' = ({ a with defers := d' }.put t.o.dst x : Act)) := by
    intro rid hne hrid h1 hw hx hsame hnext
    have hop : operA P X call rd (within t.o.op.operands (evA X t.s.loc tm)) ds (full fin sn h) um rid t.o.op = some (.ok t.v ds h1 um) := by
      rw [operA_within]; exact operA_val hx
    obtain ⟨ρ', x, d', m', w', q1, q2, q3, q4, q5, q6⟩ := operA_sound he hF hc inv.heap inv.glob hrd inv.cs inv.defs inv.mode hev (k := k) (rest := rest') (o := t.o) (rid := rid)
      (fun hm => by rw [hrid hm]; exact hridf hm) t2 (hwant true hw) hop
    have q2' := q2.same (h'' := full fin sn h) hnext.symm (fun c => (hsame c).symm)
    refine ⟨sn, ds, h, um, ρ', { a with defers := d' }.put t.o.dst x, m', w', ?_, q1, q2'.mono ?_, x, d', rfl⟩
    · refine Inv.move hR ht hi hp inv hnh q2.sub ?_ q3 inv.suf (heffs hne) inv.cur q4 q5 q2'.rel inv.hole inv.room q6
      intro y hy
      refine q2.new y ?_
      rintro (⟨hm, rfl⟩ | hy')
      · exact hy (.inl ⟨hm, hrid hm⟩)
      · rw [show (commitAll (openAt sn fin.al) h).next = h.next from hfn] at hy'
        exact hy (.inr hy')
    · rintro x (⟨hm, rfl⟩ | hx)
      · rw [hrid hm]; exact hridS
      · rw [show (commitAll (openAt sn fin.al) h).next = h.next from hfn] at hx
        omega
  cases hk : t.kd with
  | hole => exact absurd hk hnh
  | skip =>
    unfold It.good at hgood
    rw [hk] at hgood
    have hw := hwant false hgood.1
    have hskip := stepR_op_skip (P := P) (b := b) (a := a) (k := k) (cs := cfn m) (w := w) (ops := ops) (i := i) (rest := rest') (by simp [t2, hw])
    simp only [t2, Option.bind_some] at hskip
    refine ⟨sn, ds, h, um, ρ, a.put t.o.dst undef, m, w, ?_, .one hskip, .refl inv.heap, undef, a.defers, rfl⟩
    exact Inv.move hR ht hi hp inv (x := undef) (d' := a.defers) hnh (.refl _) (fun _ _ => rfl) (by rw [hgood.2]; exact .undef) inv.suf (heffs (by simp [hk])) inv.cur inv.defs inv.mode inv.heap inv.hole inv.room inv.cs
  | pure =>
    unfold It.good at hgood
    rw [hk] at hgood
    obtain ⟨g1, g2, h', g3⟩ := hgood
    exact plain 0 (by simp [hk]) (fun hm => by rw [cls_noalloc (.inl g2)] at hm; cases hm) _ g1 (pure_any g2 g3 _ 0) (fun _ => rfl) rfl
  | alloc obj =>
    unfold It.good at hgood
    rw [hk] at hgood
    obtain ⟨g1, g2, h', g3, g4⟩ := hgood
    have hmem := items_al hR.chain its.length (Nat.le_refl _) i t obj hlt ht hk
    rw [stAt_end] at hmem
    have hopen : (⟨i, t.rid, obj⟩ : Pd) ∈ openAt sn fin.al := (mem_openAt _ _ _).2 ⟨hmem, fun s hs => inv.notAhead hR ht hi hp s hs⟩
    have hget := hR.full_mem (h := h) hopen
    refine plain t.rid (by simp [hk]) (fun _ => rfl) _ g1 (alloc_any g2 g3 g4 _).1 (fun c => ?_) rfl
    rw [AHeap.get_put]
    split
    · rename_i e; rw [← e]; exact hget.symm
    · rfl
  | read =>
    obtain ⟨h', hx⟩ := inv.read_same hR ht hi hp hk
    unfold It.good at hgood
    rw [hk] at hgood
    obtain ⟨v', hv'⟩ := read_heap hgood.2 hx
    have e : h' = full fin sn h := by injection hv'
    rw [e] at hx
    exact plain 0 (by simp [hk]) (fun hm => by rw [cls_noalloc (.inr hgood.2)] at hm; cases hm) _ hgood.1 hx (fun _ => rfl) rfl
  | eff ds1 h1 um1 =>
    have hnow := inv.eff_now hR ht hi hp hk
    unfold It.good at hgood
    rw [hk] at hgood
    obtain ⟨g1, g2, g3⟩ := hgood
    obtain ⟨c1, c2, c3⟩ := inv.cur i (by omega) (by rw [stAt_of ht]; exact hnow)
    rw [stAt_of ht] at c1 c2 c3
    rw [c1, c2, c3] at g3
    have hpend := hR.pend_open ht
    -- the heap that the effect meets
    have hpm : ∀ p ∈ t.s.pend, p ∈ openAt sn fin.al := by
      intro p hpp
      rw [hpend, hnow] at hpp
      obtain ⟨q1, q2⟩ := (mem_openAt _ _ _).1 hpp
      refine (mem_openAt _ _ _).2 ⟨?_, q2⟩
      rw [← stAt_of (fin := fin) ht] at q1
      exact hR.al_sub (by omega) q1
    have hpa : t.s.pend.Pairwise (fun p q => p.rid ≠ q.rid) := by
      have hal : t.s.al.Pairwise (fun p q => p.rid ≠ q.rid) := by
        rw [List.pairwise_iff_getElem]
        intro x y hx hy hxy
        have hxf := hR.al_sub (j := i) (by omega) (p := t.s.al[x]) (by rw [stAt_of ht]; exact List.getElem_mem hx)
        -- the blocks so far stand at the end of all of them
        have hsufal : ∀ j, j ≤ its.length → ∀ j', j' ≤ j → (stAt its fin j').al <:+ (stAt its fin j).al := by
          intro j hj
          refine chain_ind hR.chain (fun j s => ∀ j', j' ≤ j → (stAt its fin j').al <:+ s.al) ?_ ?_ j hj
          · intro j' hj'
            obtain rfl : j' = 0 := by omega
            rw [chain_start hR.chain]
            exact List.suffix_refl _
          · intro j it hj ih j' hj'
            rcases Nat.lt_or_ge j' (j + 1) with hh | hh
            · have q1 := ih j' (by omega)
              unfold It.next
              cases hk : it.kd with
              | skip => exact q1
              | hole => exact q1
              | pure => exact q1
              | read => exact q1
              | alloc obj => exact q1.trans (List.suffix_cons _ _)
              | eff ds h um => exact q1
            · obtain rfl : j' = j + 1 := by omega
              rw [(chain_split hR.chain j it hj).2.2.2]
              exact List.suffix_refl _
        have hsuf := hsufal its.length (Nat.le_refl _) i (by omega)
        rw [stAt_end, stAt_of ht] at hsuf
        have hpw := List.Pairwise.sublist hsuf.sublist hR.al_apart
        exact (List.pairwise_iff_getElem.1 hpw) x y hx hy hxy
      rw [hpend]
      exact hal.sublist (openAt_sub _ _)
    have hless : ∀ c, (commit t.m t.s.pend h).get c = (full fin sn h).get c ∨ (commit t.m t.s.pend h).get c = none := by
      intro c
      by_cases hex : ∃ p ∈ t.s.pend, bitOf t.m p.i = true ∧ p.rid = c
      · obtain ⟨p, hp1, hp2, rfl⟩ := hex
        left
        rw [commit_mem t.m h _ hpa p hp1 hp2, hR.full_mem (hpm p hp1)]
      · have hcg : (commit t.m t.s.pend h).get c = h.get c := commit_get t.m h c _ (fun p hp1 hp2 hp3 => hex ⟨p, hp1, hp2, hp3⟩)
        by_cases hex2 : ∃ p ∈ openAt sn fin.al, p.rid = c
        · obtain ⟨p, hp1, rfl⟩ := hex2
          right
          rw [hcg]; exact inv.hole p hp1
        · left
          rw [hcg, full_get (fun p hp1 hp2 => hex2 ⟨p, hp1, hp2⟩)]
    have hcn : (commit t.m t.s.pend h).next = h.next := commit_next _ _ _
    have hheff : HRel P env okc ρ (commit t.m t.s.pend h) w := by
      refine inv.heap.less (by rw [hcn]; exact (full_next fin sn h).symm) (fun c _ _ => hless c) (fun c hcc => ?_)
      rcases hless c with e | e
      · rw [e]; exact inv.heap.clean c (by rw [hcn] at hcc; rw [show (commitAll (openAt sn fin.al) h).next = h.next from hfn]; exact hcc)
      · exact e
    have hop : operA P X call rd (within t.o.op.operands (evA X t.s.loc tm)) ds (commit t.m t.s.pend h) um t.rid t.o.op = some (.ok t.v ds1 h1 um1) := by
      rw [operA_within]; exact g3
    obtain ⟨ρ', x, d', m', w', q1, q2, q3, q4, q5, q6⟩ := operA_sound he hF hc hheff inv.glob hrd inv.cs inv.defs inv.mode hev (k := k) (rest := rest') (o := t.o) (rid := t.rid)
      (fun hm => by have := hridf hm; rw [hfn] at this; rw [hcn]; exact this) t2 (hwant true g1) hop
    -- blocks that the effect does not reach
    have hno : ∀ p ∈ openAt sn fin.al, ¬ ((mayAlloc P t.o.op = true ∧ p.rid = t.rid) ∨ (commit t.m t.s.pend h).next ≤ p.rid) := by
      intro p hpo
      have hpf := ((mem_openAt _ _ _).1 hpo).1
      obtain ⟨u, k1, k2, k3, k4, k5⟩ := hR.al_it hpf
      obtain ⟨b1, b2, b3, b4⟩ := hR.it k1
      rintro (⟨hm, hh⟩ | hh)
      · have hne : p.i ≠ i := by
          intro e
          rw [e, ht] at k1
          have hut : t = u := by injection k1
          rw [← hut, hk] at k2; cases k2
        rw [k3, b4, t4] at hh
        exact hR.rid_ne b2 k4 t2 hm hne hh
      · rw [hcn, k3, b4] at hh
        have := hR.rid_room b2 k4
        omega
    have hgone : ∀ p ∈ openAt sn fin.al, bitOf t.m p.i = false → (commit t.m t.s.pend h).get p.rid = none := by
      intro p hpo hb
      rw [commit_get t.m h p.rid]
      · exact inv.hole p hpo
      · intro q hq1 hq2 hq3
        have := hR.al_one (((mem_openAt _ _ _).1 (hpm q hq1)).1) (((mem_openAt _ _ _).1 hpo).1) hq3
        rw [this, hb] at hq2; cases hq2
    have hti := t3
    have hnextIt : t.next.snaps = ⟨i, t.m, h⟩ :: sn := by unfold It.next; rw [hk]; simp only [t3, c1, hnow]
    have hnextS := (chain_split hR.chain i t ht).2.2.2
    have hopen' : ∀ p, p ∈ openAt (⟨i, t.m, h⟩ :: sn) fin.al ↔ p ∈ openAt sn fin.al ∧ bitOf t.m p.i = false := fun p => by rw [openAt_cons]; exact mem_keep _ _ _
    have hframe : Go' P env okc (fun x => (mayAlloc P t.o.op = true ∧ x = t.rid) ∨ (commit t.m t.s.pend h).next ≤ x) ρ (full fin sn h) w ρ' (full fin (⟨i, t.m, h⟩ :: sn) h1) w' := by
      refine Go'.frame inv.heap (by rw [hcn]; exact (full_next fin sn h).symm) hless q2 (full_next _ _ _) (fun c => ?_)
      by_cases hex : ∃ p ∈ openAt (⟨i, t.m, h⟩ :: sn) fin.al, p.rid = c
      · obtain ⟨p, hp1, rfl⟩ := hex
        obtain ⟨hp2, hp3⟩ := (hopen' p).1 hp1
        right
        obtain ⟨u, k1, k2, k3, k4, k5⟩ := hR.al_it ((mem_openAt _ _ _).1 hp2).1
        exact ⟨p.obj, hR.full_mem hp2, hR.full_mem hp1, k5, hgone p hp2 hp3, hno p hp2⟩
      · left
        exact full_get (fun p hp1 hp2 => hex ⟨p, hp1, hp2⟩)
    refine ⟨⟨i, t.m, h⟩ :: sn, ds1, h1, um1, ρ', { a with defers := d' }.put t.o.dst x, m', w', ?_, q1, hframe.mono (fun x hx => hN x (by rw [hfn]; rw [hcn] at hx; exact hx)), x, d', rfl⟩
    refine Inv.move hR ht hi hp inv hnh q2.sub (fun y hy => q2.new y (by rw [hcn]; exact hy)) q3 ?_ ?_ ?_ q4 q5 hframe.rel ?_ ?_ q6
    · have hsuf := (snaps_suf hR.chain its.length (Nat.le_refl _) (i + 1) (by omega)).1
      rw [hnextS, hnextIt, stAt_end] at hsuf
      obtain ⟨pre, hpre⟩ := hsuf
      exact ⟨pre, hpre.symm⟩
    · intro j t' ds' h' um' hj hk'
      by_cases hji : j = i
      · subst hji
        simp
      · simp only [hji, decide_false, Bool.or_false]
        rw [inv.effs j t' ds' h' um' hj hk']
        constructor
        · rintro ⟨s, h2, h3⟩; exact ⟨s, by simp [h2], h3⟩
        · rintro ⟨s, h2, h3⟩
          rcases List.mem_cons.1 h2 with rfl | h2
          · exact absurd h3.symm hji
          · exact ⟨s, h2, h3⟩
    · intro j hj hjs
      have hst : (stAt its fin (i + 1)).snaps = ⟨i, t.m, h⟩ :: sn := by rw [hnextS, hnextIt]
      rcases Nat.lt_or_ge i j with hij | hij
      · have := (snaps_suf hR.chain j hj (i + 1) (by omega)).2 (by rw [hst, hjs])
        rw [hnextS] at this
        have hn1 : t.next.h = h1 ∧ t.next.ds = ds1 ∧ t.next.um = um1 := by unfold It.next; rw [hk]; exact ⟨rfl, rfl, rfl⟩
        rw [hn1.1, hn1.2.1, hn1.2.2] at this
        exact ⟨this.1.symm, this.2.1.symm, this.2.2.symm⟩
      · exfalso
        have := (snaps_suf hR.chain i (by omega) j hij).1.length_le
        rw [hjs, stAt_of ht, hnow] at this
        simp at this
        omega
    · intro p hpo
      obtain ⟨hp2, hp3⟩ := (hopen' p).1 hpo
      exact q2.keep p.rid (hno p hp2) (hgone p hp2 hp3)
    · have := q2.next
      rw [hcn] at this
      omega

end
end Go.Eng

/- The engine, part P9: regions whose order is open. -/
set_option linter.unusedVariables false
set_option linter.unusedSimpArgs false
set_option linter.unusedSectionVars false
namespace Go.Eng

theorem filter_less {p q : Nat → Bool} : ∀ (l : List Nat), (∀ x ∈ l, q x = true → p x = true) → (∃ x ∈ l, p x = true ∧ q x = false) → (l.filter q).length < (l.filter p).length
  | [], _, h => by obtain ⟨x, hx, _⟩ := h; simp at hx
  | y :: l, h1, h2 => by
    have hle : ∀ l' : List Nat, (∀ x ∈ l', q x = true → p x = true) → (l'.filter q).length ≤ (l'.filter p).length := by
      intro l'
      induction l' with
      | nil => intro _; exact Nat.le_refl _
      | cons z l' ih =>
        intro hz
        have ih := ih (fun x hx => hz x (by simp [hx]))
        simp only [List.filter_cons]
        cases hq : q z with
        | true => rw [hz z (by simp) hq]; simpa using ih
        | false => cases p z <;> simp <;> omega
    have hl := hle l (fun x hx => h1 x (by simp [hx]))
    simp only [List.filter_cons]
    obtain ⟨x, hx, hpx, hqx⟩ := h2
    rcases List.mem_cons.1 hx with rfl | hx
    · rw [hpx, hqx]; simp; omega
    · have ih := filter_less l (fun x hx => h1 x (by simp [hx])) ⟨x, hx, hpx, hqx⟩
      cases hq : q y with
      | true => rw [h1 y (by simp) hq]; simpa using ih
      | false => cases p y <;> simp <;> omega

section
variable {P : Program} {env : Nat → Value} {okc : FuncId → Code → Bool} {X : Cx} {call : CallF} {rd : Bool} {ops : Array Oper} {tm : T AVal} {n : Nat}
  {its : List It} {pz : Option Nat} {start R : Nat} {s0 fin : DS} {b : Frame} {cfn : FrameMode → List Frame}

variable (he : EnvOk env) (hF : ∀ f ∈ X.facts, FactOk P env f) (hc : CallOk P env okc X.nglob call) (hrd : rd = false → b.roundOf = none)
variable (hR : Run P X call rd ops tm n its pz start R s0 fin)
include he hF hc hrd hR

/-- All is done. -/
theorem Run.done {S : Nat → Bool} {sn : List Sn} {ds : List ADefd} {h : AHeap} {um : UM} {ρ : Rho} {a : Act} {m : FrameMode} {w : World} {r : RRes} {k : List Item}
    (hE : Ends P X call rd ops tm its fin r)
    (inv : Inv P env okc X ops tm n its start R fin b cfn S sn ds h um ρ a m w) (hall : ∀ i, i < ops.size → S i = true) :
    RegOk P env okc n tm (fun x => start ≤ x) ρ (full fin sn h) b cfn a w ops k (lone (b.atR a (.inRegion ops [] :: k)) (cfn m) w) r := by
  have hmap := (plan_ok ops).1
  have hsz : ops.size = its.length := by
    have : ops.toList.length = its.length := by rw [← hmap, hR.plan]; simp
    simpa using this
  rcases hE with ⟨hend, _⟩ | ⟨u, v, ds', h', um', u1, u2, _⟩
  · have hsn : fin.snaps = sn := by
      refine inv.tail_eq hR (l := fin.snaps) (pre := []) rfl (fun s hs => ?_) (by simp)
      obtain ⟨l1, l2, hl⟩ := List.append_of_mem hs
      have hf : (stAt its fin its.length).snaps = l1 ++ s :: l2 := by rw [stAt_end, hl]
      obtain ⟨j', t', ds', h', um', q1, q2, q3, q4, q5⟩ := snaps_items hR.chain hR.snaps its.length (Nat.le_refl _) _ _ _ hf
      rw [q4]
      refine hall j' ?_
      have := (List.getElem?_eq_some_iff.1 q2).1
      omega
    obtain ⟨c1, c2, c3⟩ := inv.cur its.length (Nat.le_refl _) (by rw [stAt_end]; exact hsn)
    rw [stAt_end] at c1 c2 c3
    unfold endDraw at hend
    split at hend
    rotate_left
    · cases hend
    cases hend
    have hpo := Go.Eng.pend_open hR.chain hR.pend hR.al hR.snaps hR.lowIt its.length (Nat.le_refl _)
    rw [stAt_end, hsn] at hpo
    have hfull : commitAll fin.pend fin.h = full fin sn h := by rw [hpo, c1]; rfl
    rw [hfull, c2, c3]
    refine ⟨ρ, a, m, w, .one (by simpa using stepR_region_end), ⟨?_, inv.size, inv.defs, inv.heap, inv.mode⟩, .refl inv.heap, inv.cs⟩
    intro t v hl
    refine inv.slots t v ?_
    have h1 := loc_looks hR.chain hR.loc t its.length (Nat.le_refl _)
    rw [stAt_end, List.take_length] at h1
    rw [← hl, h1]
    unfold looks
    refine looks_congr (S := S) (S' := alive its) (t := t) its (fun it hit _ => ?_) (tm.get t)
    obtain ⟨j, hj⟩ := List.getElem?_of_mem hit
    rw [(hR.it hj).2.2.1]
    have hSj : S j = true := by
      refine hall j ?_
      have := (List.getElem?_eq_some_iff.1 hj).1
      omega
    rw [hSj]
    unfold alive
    rw [hj]
    have := inv.done j it hj hSj
    show true = !isHole it.kd
    cases hk : it.kd <;> first | rfl | exact absurd hk this
  · exfalso
    obtain ⟨j, hj⟩ := List.getElem?_of_mem u1
    have hSj : S j = true := by
      refine hall j ?_
      have := (List.getElem?_eq_some_iff.1 hj).1
      omega
    exact inv.done j u hj hSj u2

/-- The blocks that the operations so far have made. -/
theorem Run.pend_apart {i : Nat} {t : It} (ht : its[i]? = some t) : t.s.pend.Pairwise (fun p q => p.rid ≠ q.rid) := by
  have hlt : i < its.length := (List.getElem?_eq_some_iff.1 ht).1
  have hpend := hR.pend_open ht
  have hsufal : ∀ j, j ≤ its.length → ∀ j', j' ≤ j → (stAt its fin j').al <:+ (stAt its fin j).al := by
    intro j hj
    refine chain_ind hR.chain (fun j s => ∀ j', j' ≤ j → (stAt its fin j').al <:+ s.al) ?_ ?_ j hj
    · intro j' hj'
      obtain rfl : j' = 0 := by omega
      rw [chain_start hR.chain]
      exact List.suffix_refl _
    · intro j it hj ih j' hj'
      rcases Nat.lt_or_ge j' (j + 1) with hh | hh
      · have q1 := ih j' (by omega)
        unfold It.next
        cases hk : it.kd with
        | skip => exact q1
        | pure => exact q1
        | read => exact q1
        | hole => exact q1
        | alloc obj => exact q1.trans (List.suffix_cons _ _)
        | eff ds h um => exact q1
      · obtain rfl : j' = j + 1 := by omega
        rw [(chain_split hR.chain j it hj).2.2.2]
        exact List.suffix_refl _
  have hsuf := hsufal its.length (Nat.le_refl _) i (by omega)
  rw [stAt_end, stAt_of ht] at hsuf
  rw [hpend]
  exact (List.Pairwise.sublist hsuf.sublist hR.al_apart).sublist (openAt_sub _ _)

/-- The operation that panics. -/
theorem Run.panics {S : Nat → Bool} {sn : List Sn} {ds : List ADefd} {h : AHeap} {um : UM} {ρ : Rho} {a : Act} {m : FrameMode} {w : World} {r : RRes} {k : List Item} {tl : List Nat}
    (hE : Ends P X call rd ops tm its fin r)
    (inv : Inv P env okc X ops tm n its start R fin b cfn S sn ds h um ρ a m w) {i : Nat} {t : It} (ht : its[i]? = some t) (hk : t.kd = .hole) (hp : ∀ e ∈ t.o.after, Region.binds .any e = true → S e.on = true) :
    RegOk P env okc n tm (fun x => start ≤ x) ρ (full fin sn h) b cfn a w ops k (lone (b.atR a (.inRegion ops (i :: tl) :: k)) (cfn m) w) r := by
  obtain ⟨t1, ho, t3, t4⟩ := hR.it ht
  have hlt : i < its.length := (List.getElem?_eq_some_iff.1 ht).1
  have hi : S i = false := by
    cases hS : S i with
    | false => rfl
    | true => exact absurd hk (inv.done i t ht hS)
  have hmask : ∀ j, bitOf t.m j = true → S j = true := fun j hj => hR.maskS inv.closed ht hi hp j hj
  rcases hE with ⟨_, hno⟩ | ⟨u, v, ds', h', um', u1, u2, rfl, g1, g2, g3, g4, g5, _⟩
  · exact absurd hk (hno t (List.mem_of_getElem? ht))
  · obtain ⟨ju, hu⟩ := List.getElem?_of_mem u1
    have hui := (hR.it hu).2.2.1
    have htu : u = t := by
      rcases g4 t (List.mem_of_getElem? ht) hk with e | e
      · rw [hui, t3] at e
        rw [← e, ht] at hu
        injection hu with hu
        exact hu.symm
      · exfalso
        have := hmask _ e
        rw [hui] at this
        exact inv.done ju u hu this u2
    subst htu
    have hall : ∀ s ∈ u.s.snaps, S s.e = true := by
      cases hsn : u.s.snaps with
      | nil => simp
      | cons c l =>
        rw [hsn] at g2
        have hcS : S c.e = true := hmask c.e g2
        have hcl := snaps_closed hR.chain (S := fun j => S j = true) (fun j t' ht' hj k hk' => hR.ahead inv.closed (hR.it ht').1 hj k hk') hR.snaps i (by omega) c l (by rw [stAt_of ht]; exact hsn) hcS
        intro s hs
        rcases List.mem_cons.1 hs with rfl | hs
        · exact hcS
        · exact hcl s hs
    have hsn : u.s.snaps = sn := inv.tail_eq hR (l := u.s.snaps) (pre := []) g5.symm hall (by simp)
    obtain ⟨c1, c2, c3⟩ := inv.cur i (by omega) (by rw [stAt_of ht]; exact hsn)
    rw [stAt_of ht] at c1 c2 c3
    rw [c1, c2, c3] at g3
    have hpend := hR.pend_open ht
    have hpm : ∀ p ∈ u.s.pend, p ∈ openAt sn fin.al := by
      intro p hpp
      rw [hpend, hsn] at hpp
      obtain ⟨q1, q2⟩ := (mem_openAt _ _ _).1 hpp
      refine (mem_openAt _ _ _).2 ⟨?_, q2⟩
      rw [← stAt_of (fin := fin) ht] at q1
      exact hR.al_sub (by omega) q1
    have hpa := hR.pend_apart he hF hc hrd ht
    have hless : ∀ c, (commit u.m u.s.pend h).get c = (full fin sn h).get c ∨ (commit u.m u.s.pend h).get c = none := by
      intro c
      by_cases hex : ∃ p ∈ u.s.pend, bitOf u.m p.i = true ∧ p.rid = c
      · obtain ⟨p, hp1, hp2, rfl⟩ := hex
        left
        rw [commit_mem u.m h _ hpa p hp1 hp2, hR.full_mem (hpm p hp1)]
      · have hcg : (commit u.m u.s.pend h).get c = h.get c := commit_get u.m h c _ (fun p hp1 hp2 hp3 => hex ⟨p, hp1, hp2, hp3⟩)
        by_cases hex2 : ∃ p ∈ openAt sn fin.al, p.rid = c
        · obtain ⟨p, hp1, rfl⟩ := hex2
          right
          rw [hcg]; exact inv.hole p hp1
        · left
          rw [hcg, full_get (fun p hp1 hp2 => hex2 ⟨p, hp1, hp2⟩)]
    have hcn : (commit u.m u.s.pend h).next = h.next := commit_next _ _ _
    have hfn : (full fin sn h).next = h.next := full_next _ _ _
    have hheff : HRel P env okc ρ (commit u.m u.s.pend h) w := by
      refine inv.heap.less (by rw [hcn]; exact (full_next fin sn h).symm) (fun c _ _ => hless c) (fun c hcc => ?_)
      rcases hless c with e | e
      · rw [e]; exact inv.heap.clean c (by rw [hcn] at hcc; rw [show (commitAll (openAt sn fin.al) h).next = h.next from hfn]; exact hcc)
      · exact e
    have heq : ∀ x ∈ u.o.looksAt ops, lookL u.s.loc x tm = looks S tm its x := fun x hx => hR.slot_eq inv.closed ht hi hp inv.done hx
    have hev := hR.ev_rel (env := env) inv.glob inv.slots heq
    have hop : operA P X call rd (within u.o.op.operands (evA X u.s.loc tm)) ds (commit u.m u.s.pend h) um u.rid u.o.op = some (.pan v ds' h' um') := by
      rw [operA_within]; exact g3
    have hw : Region.wanted u.o (yielded ops a.tmps) = true := wantedA_at (env := env) (ρ := ρ) (fun x hx v hl => inv.slots x v (by rw [← heq x hx]; exact hl)) g1
    obtain ⟨rfl, rfl, ρ', x, w', q1, q2, q3⟩ := operA_sound he hF hc hheff inv.glob hrd inv.cs inv.defs inv.mode hev (k := k) (rest := tl) (o := u.o)
      (rid := u.rid)
      (fun hm => by rw [hcn, t4]; exact ⟨inv.fresh _ u.o ho hi hm, Nat.lt_of_lt_of_le (hR.rid_room ho hm) inv.room⟩) ho hw hop
    have hstart : start ≤ R := by rw [← hR.rids]; exact ridsOf_le _ _
    have hroom := inv.room
    have hframe := Go'.frame inv.heap (by rw [hcn]; exact (full_next fin sn h).symm) hless q2 rfl (fun c => .inl rfl)
    refine ⟨ρ', x, a, m, w', _, q1, q3, fun _ _ => rfl, inv.size, inv.defs.mono q2.sub, inv.mode.mono q2.sub, hframe.mono ?_, inv.cs⟩
    rintro y (⟨_, rfl⟩ | hy)
    · rw [t4]; exact ridsOf_le _ _
    · rw [hcn] at hy; omega

theorem Run.sim {r : RRes} {k : List Item} (hE : Ends P X call rd ops tm its fin r) :
    ∀ (fuel tt : Nat) (listed : Array Bool) (sn : List Sn) (ds : List ADefd) (h : AHeap) (um : UM) (ρ : Rho) (a : Act) (m : FrameMode) (w : World), listed.size = ops.size →
      Inv P env okc X ops tm n its start R fin b cfn (fun j => listed.getD j false) sn ds h um ρ a m w → ((List.range ops.size).filter fun i => !listed.getD i false).length ≤ fuel →
      RegOk P env okc n tm (fun x => start ≤ x) ρ (full fin sn h) b cfn a w ops k (lone (b.atR a (.inRegion ops (Region.linearise.go .any ops fuel tt listed []) :: k)) (cfn m) w) r := by
  intro fuel
  have hall_of : ∀ (listed : Array Bool), listed.size = ops.size → ((List.range ops.size).filter fun i => !listed.getD i false) = [] → ∀ i, i < ops.size → listed.getD i false = true := by
    intro listed _ hnil i hi
    cases hl : listed.getD i false with
    | true => rfl
    | false =>
      have : i ∈ (List.range ops.size).filter fun i => !listed.getD i false := List.mem_filter.2 ⟨List.mem_range.2 hi, by rw [hl]; rfl⟩
      rw [hnil] at this; simp at this
  induction fuel with
  | zero =>
    intro tt listed sn ds h um ρ a m w hsz inv hcnt
    have hnil := List.length_eq_zero_iff.1 (Nat.le_zero.1 hcnt)
    exact hR.done he hF hc hrd hE inv (hall_of listed hsz hnil)
  | succ fuel ih =>
    intro tt listed sn ds h um ρ a m w hsz inv hcnt
    simp only [Region.linearise.go]
    change RegOk P env okc n tm _ ρ (full fin sn h) b cfn a w ops k (lone (b.atR a (.inRegion ops (match (Region.ready .any ops listed)[tt % (Region.ready .any ops listed).length]? with
      | some i => Region.linearise.go .any ops fuel (tt / (Region.ready .any ops listed).length) (listed.setIfInBounds i true) [i]
      | none => [].reverse) :: k)) (cfn m) w) r
    cases hi : (Region.ready .any ops listed)[tt % (Region.ready .any ops listed).length]? with
    | none =>
      have hnil : Region.ready .any ops listed = [] := by
        cases hr : Region.ready .any ops listed with
        | nil => rfl
        | cons x xs =>
          rw [hr] at hi
          have hlt : tt % (x :: xs).length < (x :: xs).length := Nat.mod_lt _ (by simp)
          simp at hi
          simp at hlt
          omega
      refine hR.done he hF hc hrd hE inv ?_
      -- otherwise the least that is not done could be done
      intro i
      induction i using Nat.strongRecOn with
      | ind i ihi =>
        intro hlt
        cases hl : listed.getD i false with
        | true => rfl
        | false =>
          exfalso
          have ho : ops[i]? = some ops[i] := Array.getElem?_eq_getElem hlt
          have hmem : i ∈ Region.ready .any ops listed := by
            refine mem_ready.2 ⟨?_, ops[i], ho, fun e he' hb => ?_⟩
            · have hil : i < listed.size := by omega
              simp [Array.getD_eq_getD_getElem?, hil] at hl ⊢; exact hl
            · obtain ⟨mm, hm⟩ := hR.plan_at ho
              have hlow := (hR.mask hm).2.1 e he' hb
              exact ihi e.on hlow (by omega)
          rw [hnil] at hmem
          simp at hmem
    | some i =>
      show RegOk P env okc n tm _ ρ (full fin sn h) b cfn a w ops k (lone (b.atR a (.inRegion ops (Region.linearise.go .any ops fuel (tt / (Region.ready .any ops listed).length) (listed.setIfInBounds i true) [i]) :: k)) (cfn m) w) r
      rw [linearise_go_acc, List.reverse_singleton, List.singleton_append]
      have hmem := List.mem_of_getElem? hi
      obtain ⟨hl0, o, ho, hpre⟩ := mem_ready.1 hmem
      have hlt : i < ops.size := (Array.getElem?_eq_some_iff.1 ho).1
      have hil : i < listed.size := by omega
      have hlf : listed.getD i false = false := by
        simp [Array.getD_eq_getD_getElem?, hil] at hl0 ⊢; exact hl0
      have hsz2 : ops.size = its.length := by
        have : ops.toList.length = its.length := by rw [← (plan_ok ops).1, hR.plan]; simp
        simpa using this
      have hlt' : i < its.length := by omega
      have ht : its[i]? = some its[i] := List.getElem?_eq_getElem hlt'
      by_cases hnh : its[i].kd = .hole
      · have hto := (hR.it ht).2.1
        rw [ho] at hto
        have hto : o = its[i].o := by injection hto
        exact hR.panics he hF hc hrd hE inv ht hnh (by rw [← hto]; exact hpre)
      · have hto := (hR.it ht).2.1
        rw [ho] at hto
        have hto : o = its[i].o := by injection hto
        obtain ⟨sn', ds', h', um', ρ', a', m', w', i1, i2, i3, x, d', rfl⟩ := inv.step he hF hc hrd hR ht hnh hlf (by rw [← hto]; exact hpre) k
          (Region.linearise.go .any ops fuel (tt / (Region.ready .any ops listed).length) (listed.setIfInBounds i true) [])
        have hSeq : (fun j => listed.getD j false || decide (j = i)) = fun j => (listed.setIfInBounds i true).getD j false := by
          funext j
          by_cases hj : j = i
          · subst hj; simp [Array.getD_eq_getD_getElem?, hil]
          · have : i ≠ j := fun e => hj e.symm
            simp [Array.getD_eq_getD_getElem?, Array.getElem?_setIfInBounds_ne this, hj]
        rw [hSeq] at i1
        have hcnt' : ((List.range ops.size).filter fun i' => !(listed.setIfInBounds i true).getD i' false).length ≤ fuel := by
          have : ((List.range ops.size).filter fun i' => !(listed.setIfInBounds i true).getD i' false).length < ((List.range ops.size).filter fun i' => !listed.getD i' false).length := by
            refine filter_less _ (fun x hx hq => ?_) ⟨i, List.mem_range.2 hlt, by rw [hlf]; rfl, ?_⟩
            · have this : (listed.getD x false || decide (x = i)) = (listed.setIfInBounds i true).getD x false := congrFun hSeq x
              rw [← this] at hq
              simp only [Bool.not_or, Bool.and_eq_true] at hq
              exact hq.1
            · have this : (listed.getD i false || decide (i = i)) = (listed.setIfInBounds i true).getD i false := congrFun hSeq i
              rw [← this]; simp
          omega
        have hrec := ih (tt / (Region.ready .any ops listed).length) (listed.setIfInBounds i true) sn' ds' h' um' ρ' _ m' w' (by simpa using hsz) i1 hcnt'
        cases r with
        | ok loc2 ds2 h2 um2 =>
          obtain ⟨ρ2, a2, m2, w2, p1, p2, p3, p4⟩ := hrec
          exact ⟨ρ2, a2, m2, w2, Steps.trans i2 p1, p2, i3.trans p3, p4⟩
        | pan v2 ds2 h2 um2 =>
          obtain ⟨ρ2, x2, a2, m2, w2, todo, p1, p2, p3, p4, p5, p6, p7, p8⟩ := hrec
          refine ⟨ρ2, x2, a2, m2, w2, todo, Steps.trans i2 p1, p2, fun t htt => ?_, p4, p5, p6, i3.trans p7, p8⟩
          rw [p3 t htt, put_get { a with defers := d' } _ _ _ (hR.dst_ok ht inv.size), if_neg]
          refine htt _ ?_
          have h2 : ops.toList[i]? = some its[i].o := by rw [← hto]; simpa using ho
          exact List.mem_of_getElem? h2

end

section
variable {P : Program} {env : Nat → Value} {okc : FuncId → Code → Bool} {X : Cx} {call : CallF} {rd : Bool} {ops : Array Oper} {tm : T AVal} {n : Nat} {b : Frame} {cfn : FrameMode → List Frame}

/-- A region whose order is open. -/
theorem draw_sound (he : EnvOk env) (hF : ∀ f ∈ X.facts, FactOk P env f) (hc : CallOk P env okc X.nglob call) (hrd : rd = false → b.roundOf = none) (hdraw : drawOk n ops = true)
    {start : Nat} {h : AHeap} {ds : List ADefd} {um : UM} {ρ : Rho} {a : Act} {m : FrameMode} {w : World} {r : RRes} {k : List Item}
    (hx : runDraw P X call rd ops tm (plan ops) 0 start ⟨.nil, ds, h, um, [], [], [], []⟩ = some r) (hst : RSt P env okc n tm ρ .nil ds h um a m w) (hg : GlobOk ρ X.nglob) (hcs : CsOk b cfn um)
    (hnext : h.next = ridsOf P ops.toList start) (hfr : ∀ x, start ≤ x → ρ x = none) (hcl : ∀ x, start ≤ x → h.get x = none) (tt : Nat) :
    RegOk P env okc n tm (fun x => start ≤ x) ρ h b cfn a w ops k (lone (b.atR a (.inRegion ops (Region.linearise .any ops tt) :: k)) (cfn m) w) r := by
  obtain ⟨its, fin, h1, h2, h3⟩ := draw_trace P X call rd ops tm (plan ops) 0 start _ r hx
  have hz : ∃ pz : Option Nat, (∀ (j : Nat) t, its[j]? = some t → t.kd = .hole → ∃ p, pz = some p ∧ (j = p ∨ bitOf t.m p = true)) ∧ (∀ p, pz = some p → ∃ t, its[p]? = some t ∧ t.kd = .hole) ∧
      ∀ r ∈ fin.reads, (∃ p, pz = some p ∧ bitOf r.m p = true) ∨ ahead r fin.snaps = true ∨ readsAs P X tm (commitAll (openAt fin.snaps fin.al) fin.h) r = true := by
    rcases h3 with ⟨hend, hno⟩ | ⟨u, v, ds', h', um', u1, u2, _, _, _, _, g4, g5, hso⟩
    · refine ⟨none, fun j t ht hk => absurd hk (hno t (List.mem_of_getElem? ht)), fun p hp => (by cases hp), fun q hq => ?_⟩
      unfold endDraw at hend
      split at hend
      rotate_left
      · cases hend
      rename_i hb
      rw [Bool.and_eq_true] at hb
      rcases readsOk_mem hb.1 q hq with ⟨k, hk, _⟩ | hb | hb
      · cases hk
      · exact .inr (.inl hb)
      · exact .inr (.inr hb)
    · obtain ⟨ju, hu⟩ := List.getElem?_of_mem u1
      have hui := it_i h2 hu
      have hlt : ju < its.length := (List.getElem?_eq_some_iff.1 hu).1
      refine ⟨some ju, fun j t ht hk => ⟨ju, rfl, ?_⟩, fun p hp => (by cases hp; exact ⟨u, hu, u2⟩), fun q hq => ?_⟩
      · rcases g4 t (List.mem_of_getElem? ht) hk with e | e
        · left; rw [← hui, ← e]; exact (it_i h2 ht).symm
        · right; rw [← hui]; exact e
      · have hh : u.s.h = fin.h := by
          have := (snaps_suf h2 its.length (Nat.le_refl _) ju (by omega)).2 (by rw [stAt_end, stAt_of hu, g5])
          rw [stAt_end, stAt_of hu] at this
          exact this.1
        rcases readsOk_mem (snapsOk_mem [] hso) q hq with ⟨k, hk, hb⟩ | hb | hb
        · cases hk; exact .inl ⟨ju, rfl, by rw [← hui]; exact hb⟩
        · exact .inr (.inl hb)
        · exact .inr (.inr (by rw [← hh]; exact hb))
  obtain ⟨pz, hz1, hz2, hz3⟩ := hz
  have hR : Run P X call rd ops tm n its pz start (ridsOf P ops.toList start) ⟨.nil, ds, h, um, [], [], [], []⟩ fin := by
    refine ⟨hdraw, h2, h1, hz1, hz2, rfl, rfl, rfl, rfl, rfl, rfl, ?_, hz3⟩
    intro q hq pre s sn hpre
    rcases h3 with ⟨hend, _⟩ | ⟨u, v, ds', h', um', _, _, _, _, _, _, _, _, hso⟩
    · unfold endDraw at hend
      split at hend
      rotate_left
      · cases hend
      rename_i hb
      rw [Bool.and_eq_true] at hb
      have hso := hb.2
      rw [hpre] at hso
      rcases readsOk_mem (snapsOk_mem pre hso) q hq with ⟨k, hk, hb⟩ | hb | hb
      · cases hk; exact .inl hb
      · exact .inr (.inl hb)
      · exact .inr (.inr hb)
    · rw [hpre] at hso
      rcases readsOk_mem (snapsOk_mem (_ :: pre) hso) q hq with ⟨k, hk, hb⟩ | hb | hb
      · cases hk; exact .inl hb
      · exact .inr (.inl hb)
      · exact .inr (.inr hb)
  have hal : ∀ p ∈ fin.al, ρ p.rid = none ∧ start ≤ p.rid ∧ p.rid < h.next := by
    intro p hp
    obtain ⟨t, k1, k2, k3, k4, k5⟩ := hR.al_it hp
    obtain ⟨b1, b2, b3, b4⟩ := hR.it k1
    have hge : start ≤ p.rid := by rw [k3, b4]; exact ridsOf_le _ _
    exact ⟨hfr _ hge, hge, by rw [hnext, k3, b4]; exact hR.rid_room b2 k4⟩
  have hfull : Go' P env okc (fun x => start ≤ x) ρ h w ρ (full fin [] h) w := by
    refine Go'.ahead hst.heap (full_next _ _ _) (fun c => ?_)
    by_cases hex : ∃ p ∈ openAt [] fin.al, p.rid = c
    · obtain ⟨p, hp1, rfl⟩ := hex
      exact .inr (hal p hp1)
    · exact .inl (full_get (fun p hp1 hp2 => hex ⟨p, hp1, hp2⟩))
  have hS : (fun j => (Array.replicate ops.size false).getD j false) = fun _ => false := by
    funext j
    by_cases hj : j < ops.size <;> simp [Array.getD_eq_getD_getElem?, hj]
  have inv : Inv P env okc X ops tm n its start (ridsOf P ops.toList start) fin b cfn (fun j => (Array.replicate ops.size false).getD j false) [] ds h um ρ a m w := by
    rw [hS]
    refine ⟨fun i o hi => by simp at hi, fun i hi => by simp at hi, fun j t _ hj => by simp at hj, ⟨fin.snaps, by simp⟩, by simp, ?_, ?_, hst.size, hst.defs, hst.mode, hfull.rel, ?_, ?_, by rw [hnext]; exact Nat.le_refl _, hg, hcs⟩
    · intro j hj hjs
      have := (snaps_suf hR.chain j hj 0 (Nat.zero_le _)).2 (by rw [hjs, chain_start hR.chain])
      rw [chain_start hR.chain] at this
      exact ⟨this.1.symm, this.2.1.symm, this.2.2.symm⟩
    · intro t v hl
      unfold looks at hl
      rw [looks_none (S := fun _ => false) (t := t) its (fun _ _ _ => rfl) (tm.get t)] at hl
      exact hst.slots t v hl
    · intro p hp
      exact hcl _ (hal p hp).2.1
    · intro j o ho _ hm
      exact hfr _ (ridsOf_le _ _)
  have := hR.sim (k := k) he hF hc hrd h3 ops.size tt (Array.replicate ops.size false) [] ds h um ρ a m w (by simp) inv (by
    have := List.length_filter_le (fun i => !(Array.replicate ops.size false).getD i false) (List.range ops.size)
    simpa using this)
  unfold Region.linearise
  cases r with
  | ok loc2 ds2 h2 um2 =>
    obtain ⟨ρ2, a2, m2, w2, p1, p2, p3, p4⟩ := this
    exact ⟨ρ2, a2, m2, w2, p1, p2, hfull.trans p3, p4⟩
  | pan v2 ds2 h2 um2 =>
    obtain ⟨ρ2, x2, a2, m2, w2, todo, p1, p2, p3, p4, p5, p6, p7, p8⟩ := this
    exact ⟨ρ2, x2, a2, m2, w2, todo, p1, p2, p3, p4, p5, p6, hfull.trans p7, p8⟩
end
end Go.Eng

