/- The engine, part P3: what a run over a region whose order is open has looked at. -/
import Derived.Test.YtpnkohfmpdehaaaGreatDoorEngP2
set_option linter.unusedSectionVars false
set_option linter.unusedVariables false
set_option linter.unusedSimpArgs false
namespace Go.Eng

/-- What was done at an operation. -/
inductive Kd where
  | skip
  | pure
  | alloc (obj : AObj)
  | read
  | eff (ds : List ADefd) (h : AHeap) (um : UM)
  /-- not done: it panics, or waits for the one that panics -/
  | hole

/-- An operation of a run: it, what stands ahead of it, its number and its block's, the state ahead of it, its value. -/
structure It where
  o : Oper
  m : Nat
  i : Nat
  rid : Nat
  s : DS
  v : AVal
  kd : Kd

def It.next (t : It) : DS :=
  match t.kd with
  | .skip => { t.s with loc := pushL t.o.dst t.v t.s.loc }
  | .pure => { t.s with loc := pushL t.o.dst t.v t.s.loc }
  | .alloc obj => { t.s with loc := pushL t.o.dst t.v t.s.loc, pend := ⟨t.i, t.rid, obj⟩ :: t.s.pend, al := ⟨t.i, t.rid, obj⟩ :: t.s.al }
  | .read => { t.s with loc := pushL t.o.dst t.v t.s.loc, reads := ⟨t.i, t.m, t.o.op, t.s.loc, t.v⟩ :: t.s.reads }
  | .eff ds h um => { loc := pushL t.o.dst t.v t.s.loc, ds, h, um, pend := keep t.m t.s.pend, al := t.s.al, snaps := ⟨t.i, t.m, t.s.h⟩ :: t.s.snaps, reads := t.s.reads }
  | .hole => t.s

section
variable (P : Program) (X : Cx) (call : CallF) (rd : Bool) (ops : Array Oper) (tm : T AVal)

/-- Did it go as it should? -/
def It.good (t : It) : Prop :=
  match t.kd with
  | .skip => wantedA ops t.s.loc tm t.o = some false ∧ t.v = undefA
  | .pure => wantedA ops t.s.loc tm t.o = some true ∧ clsOf P t.o.op = .pure ∧ ∃ h', execA P X (evA X t.s.loc tm) t.s.h 0 t.o.op = some (.val t.v h')
  | .alloc obj => wantedA ops t.s.loc tm t.o = some true ∧ clsOf P t.o.op = .alloc ∧ ∃ h', execA P X (evA X t.s.loc tm) t.s.h t.rid t.o.op = some (.val t.v h') ∧ h'.get t.rid = some obj
  | .read => wantedA ops t.s.loc tm t.o = some true ∧ clsOf P t.o.op = .read
  | .eff ds h um => wantedA ops t.s.loc tm t.o = some true ∧ lastEff t.m t.s.snaps = true ∧
      operA P X call rd (evA X t.s.loc tm) t.s.ds (commit t.m t.s.pend t.s.h) t.s.um t.rid t.o.op = some (.ok t.v ds h um)
  | .hole => True

/-- A run from one operation on. -/
def Chain : Nat → Nat → DS → List It → DS → Prop
  | _, _, s, [], fin => fin = s
  | i, rid, s, t :: l, fin => t.s = s ∧ t.i = i ∧ t.rid = rid ∧ It.good P X call rd ops tm t ∧ Chain (i + 1) (nextRid P t.o.op rid) t.next l fin

/-- How a run ends. -/
def Ends (its : List It) (fin : DS) (r : RRes) : Prop :=
  (endDraw P X tm fin = some r ∧ ∀ t ∈ its, t.kd ≠ .hole) ∨
  (∃ t v ds h um, t ∈ its ∧ t.kd = .hole ∧ r = .pan v ds h um ∧ wantedA ops t.s.loc tm t.o = some true ∧ lastEff t.m t.s.snaps = true ∧
    operA P X call rd (evA X t.s.loc tm) t.s.ds (commit t.m t.s.pend t.s.h) t.s.um t.rid t.o.op = some (.pan v ds h um) ∧
    (∀ t' ∈ its, t'.kd = .hole → t'.i = t.i ∨ bitOf t'.m t.i = true) ∧ t.s.snaps = fin.snaps ∧ snapsOk P X tm fin.al fin.reads (⟨t.i, t.m, t.s.h⟩ :: fin.snaps) = true)

theorem compTail_cons (p : Nat) (om : Oper × Nat) (tl : List (Oper × Nat)) (i rid : Nat) (s : DS) :
    (compTail P X ops p (om :: tl)).f tm i rid s = (match bitOf om.2 p with
    | true => (compTail P X ops p tl).f tm (Nat.succ i) (nextRid P om.1.op rid) s
    | false =>
      match wantedA ops s.loc tm om.1 with
      | some false => (compTail P X ops p tl).f tm (Nat.succ i) (nextRid P om.1.op rid) { s with loc := pushL om.1.dst undefA s.loc }
      | none => none
      | some true =>
        match clsOf P om.1.op with
        | .pure =>
          match execA P X (evA X s.loc tm) s.h 0 om.1.op with
          | some (.val v _) => (compTail P X ops p tl).f tm (Nat.succ i) (nextRid P om.1.op rid) { s with loc := pushL om.1.dst v s.loc }
          | _ => none
        | .alloc =>
          match execA P X (evA X s.loc tm) s.h rid om.1.op with
          | some (.val v h') =>
            match h'.get rid with
            | some obj => (compTail P X ops p tl).f tm (Nat.succ i) (nextRid P om.1.op rid) { s with loc := pushL om.1.dst v s.loc, pend := ⟨i, rid, obj⟩ :: s.pend, al := ⟨i, rid, obj⟩ :: s.al }
            | none => none
          | _ => none
        | .read =>
          match execA P X (evA X s.loc tm) (commitAll s.pend s.h) 0 om.1.op with
          | some (.val v _) => (compTail P X ops p tl).f tm (Nat.succ i) (nextRid P om.1.op rid) { s with loc := pushL om.1.dst v s.loc, reads := ⟨i, om.2, om.1.op, s.loc, v⟩ :: s.reads }
          | _ => none
        | .eff => none) := rfl

theorem tail_after (p : Nat) : ∀ (l : List (Oper × Nat)) (i rid : Nat) (s : DS), allAfter p l = true → (compTail P X ops p l).f tm i rid s = some s
  | [], _, _, _, _ => rfl
  | om :: l, i, rid, s, h => by
    simp only [allAfter, Bool.and_eq_true] at h
    rw [compTail_cons, h.1]
    exact tail_after p l _ _ s h.2

theorem panOk_after {i m rid : Nat} {tl : List (Oper × Nat)} {s : DS} (h : allAfter i tl = true) (h2 : snapsOk P X tm s.al s.reads (⟨i, m, s.h⟩ :: s.snaps) = true) : panOk P X ops tm i m tl rid s = true := by
  unfold panOk
  rw [tail_after P X ops tm i tl _ _ s h]
  exact h2

/-- The operations behind one that panics leave a trace. -/
theorem tail_trace (p : Nat) : ∀ (l : List (Oper × Nat)) (i rid : Nat) (s s' : DS), (compTail P X ops p l).f tm i rid s = some s' →
    ∃ its, l = its.map (fun t => (t.o, t.m)) ∧ Chain P X call rd ops tm i rid s its s' ∧ (∀ t ∈ its, t.kd = .hole → bitOf t.m p = true) ∧ s'.snaps = s.snaps
  | [], i, rid, s, s', hx => by cases hx; exact ⟨[], rfl, rfl, by simp, rfl⟩
  | om :: tl, i, rid, s, s', hx => by
    have step : ∀ (v : AVal) (kd : Kd), It.good P X call rd ops tm ⟨om.1, om.2, i, rid, s, v, kd⟩ → (kd = .hole → bitOf om.2 p = true) → (It.next ⟨om.1, om.2, i, rid, s, v, kd⟩).snaps = s.snaps →
        (compTail P X ops p tl).f tm (i + 1) (nextRid P om.1.op rid) (It.next ⟨om.1, om.2, i, rid, s, v, kd⟩) = some s' →
        ∃ its, om :: tl = its.map (fun t => (t.o, t.m)) ∧ Chain P X call rd ops tm i rid s its s' ∧ (∀ t ∈ its, t.kd = .hole → bitOf t.m p = true) ∧ s'.snaps = s.snaps := by
      intro v kd hg hh hs hx'
      obtain ⟨its, h1, h2, h3, h4⟩ := tail_trace p tl (i + 1) (nextRid P om.1.op rid) _ s' hx'
      refine ⟨⟨om.1, om.2, i, rid, s, v, kd⟩ :: its, by rw [List.map_cons, ← h1], ⟨rfl, rfl, rfl, hg, h2⟩, ?_, by rw [h4, hs]⟩
      intro t ht hk
      rcases List.mem_cons.1 ht with rfl | ht
      · exact hh hk
      · exact h3 t ht hk
    rw [compTail_cons] at hx
    split at hx
    · rename_i hb
      exact step undefA .hole trivial (fun _ => hb) rfl hx
    · split at hx
      · rename_i hw
        exact step undefA .skip ⟨hw, rfl⟩ (by simp) rfl hx
      · cases hx
      · rename_i hw
        split at hx
        · rename_i hc
          split at hx
          · rename_i v h' he
            exact step v .pure ⟨hw, hc, h', he⟩ (by simp) rfl hx
          · cases hx
        · rename_i hc
          split at hx
          · rename_i v h' he
            split at hx
            · rename_i obj ho
              exact step v (.alloc obj) ⟨hw, hc, h', he, ho⟩ (by simp) rfl hx
            · cases hx
          · cases hx
        · rename_i hc
          split at hx
          · rename_i v h' he
            exact step v .read ⟨hw, hc⟩ (by simp) rfl hx
          · cases hx
        · cases hx

theorem compDraw_cons (om : Oper × Nat) (tl : List (Oper × Nat)) (i rid : Nat) (s : DS) :
    (compDraw P X call rd ops (om :: tl)).f tm i rid s = (match wantedA ops s.loc tm om.1 with
    | some false => (compDraw P X call rd ops tl).f tm (Nat.succ i) (nextRid P om.1.op rid) { s with loc := pushL om.1.dst undefA s.loc }
    | none => none
    | some true =>
      match clsOf P om.1.op with
      | .pure =>
        match execA P X (evA X s.loc tm) s.h 0 om.1.op with
        | some (.val v _) => (compDraw P X call rd ops tl).f tm (Nat.succ i) (nextRid P om.1.op rid) { s with loc := pushL om.1.dst v s.loc }
        | _ => none
      | .alloc =>
        match execA P X (evA X s.loc tm) s.h rid om.1.op with
        | some (.val v h') =>
          match h'.get rid with
          | some obj => (compDraw P X call rd ops tl).f tm (Nat.succ i) (nextRid P om.1.op rid) { s with loc := pushL om.1.dst v s.loc, pend := ⟨i, rid, obj⟩ :: s.pend, al := ⟨i, rid, obj⟩ :: s.al }
          | none => none
        | _ => none
      | .read =>
        match execA P X (evA X s.loc tm) (commitAll s.pend s.h) 0 om.1.op with
        | some (.val v _) => (compDraw P X call rd ops tl).f tm (Nat.succ i) (nextRid P om.1.op rid) { s with loc := pushL om.1.dst v s.loc, reads := ⟨i, om.2, om.1.op, s.loc, v⟩ :: s.reads }
        | _ => none
      | .eff =>
        match lastEff om.2 s.snaps with
        | false => none
        | true =>
          match operA P X call rd (evA X s.loc tm) s.ds (commit om.2 s.pend s.h) s.um rid om.1.op with
          | some (.ok v ds h um) =>
            (compDraw P X call rd ops tl).f tm (Nat.succ i) (nextRid P om.1.op rid) { loc := pushL om.1.dst v s.loc, ds, h, um, pend := keep om.2 s.pend, al := s.al, snaps := ⟨i, om.2, s.h⟩ :: s.snaps, reads := s.reads }
          | some (.pan v ds h um) =>
            match panOk P X ops tm i om.2 tl (nextRid P om.1.op rid) s with
            | true => some (.pan v ds h um)
            | false => none
          | none => none) := rfl

/-- A run leaves a trace. -/
theorem draw_trace : ∀ (l : List (Oper × Nat)) (i rid : Nat) (s : DS) (r : RRes), (compDraw P X call rd ops l).f tm i rid s = some r →
    ∃ its fin, l = its.map (fun t => (t.o, t.m)) ∧ Chain P X call rd ops tm i rid s its fin ∧ Ends P X call rd ops tm its fin r
  | [], i, rid, s, r, hx => ⟨[], s, rfl, rfl, .inl ⟨hx, by simp⟩⟩
  | om :: tl, i, rid, s, r, hx => by
    have step : ∀ (v : AVal) (kd : Kd), It.good P X call rd ops tm ⟨om.1, om.2, i, rid, s, v, kd⟩ → kd ≠ .hole →
        (compDraw P X call rd ops tl).f tm (i + 1) (nextRid P om.1.op rid) (It.next ⟨om.1, om.2, i, rid, s, v, kd⟩) = some r →
        ∃ its fin, om :: tl = its.map (fun t => (t.o, t.m)) ∧ Chain P X call rd ops tm i rid s its fin ∧ Ends P X call rd ops tm its fin r := by
      intro v kd hg hne hx'
      obtain ⟨its, fin, h1, h2, h3⟩ := draw_trace tl (i + 1) (nextRid P om.1.op rid) _ r hx'
      refine ⟨⟨om.1, om.2, i, rid, s, v, kd⟩ :: its, fin, by rw [List.map_cons, ← h1], ⟨rfl, rfl, rfl, hg, h2⟩, ?_⟩
      rcases h3 with ⟨e1, e2⟩ | ⟨t, v', ds, h, um, k1, k2, k3, k4, k5, k6, k7, k8, k9⟩
      · refine .inl ⟨e1, fun t ht => ?_⟩
        rcases List.mem_cons.1 ht with rfl | ht
        · exact hne
        · exact e2 t ht
      · refine .inr ⟨t, v', ds, h, um, List.mem_cons_of_mem _ k1, k2, k3, k4, k5, k6, fun t' ht' hk => ?_, k8, k9⟩
        rcases List.mem_cons.1 ht' with rfl | ht'
        · exact absurd hk hne
        · exact k7 t' ht' hk
    rw [compDraw_cons] at hx
    split at hx
    · rename_i hw
      exact step undefA .skip ⟨hw, rfl⟩ (by simp) hx
    · cases hx
    · rename_i hw
      split at hx
      · rename_i hc
        split at hx
        · rename_i v h' he
          exact step v .pure ⟨hw, hc, h', he⟩ (by simp) hx
        · cases hx
      · rename_i hc
        split at hx
        · rename_i v h' he
          split at hx
          · rename_i obj ho
            exact step v (.alloc obj) ⟨hw, hc, h', he, ho⟩ (by simp) hx
          · cases hx
        · cases hx
      · rename_i hc
        split at hx
        · rename_i v h' he
          exact step v .read ⟨hw, hc⟩ (by simp) hx
        · cases hx
      · rename_i hc
        split at hx
        · cases hx
        · rename_i hl
          split at hx
          · rename_i v ds h um hop
            exact step v (.eff ds h um) ⟨hw, hl, hop⟩ (by simp) hx
          · rename_i v ds h um hop
            split at hx
            · rename_i hb
              cases hx
              unfold panOk at hb
              split at hb
              · rename_i s' hs'
                obtain ⟨its, h1, h2, h3, h4⟩ := tail_trace P X call rd ops tm i tl _ _ _ _ hs'
                refine ⟨⟨om.1, om.2, i, rid, s, undefA, .hole⟩ :: its, s', by rw [List.map_cons, ← h1], ⟨rfl, rfl, rfl, trivial, h2⟩, .inr ⟨⟨om.1, om.2, i, rid, s, undefA, .hole⟩, v, ds, h, um, List.mem_cons_self, rfl, rfl, hw, hl, hop, ?_, h4.symm, by rw [h4]; exact hb⟩⟩
                intro t ht hk
                rcases List.mem_cons.1 ht with rfl | ht
                · exact .inl rfl
                · exact .inr (h3 t ht hk)
              · cases hb
            · cases hx
          · cases hx

end

/-! ### What a trace says -/
section
variable {P : Program} {X : Cx} {call : CallF} {rd : Bool} {ops : Array Oper} {tm : T AVal}

/-- The state ahead of an operation of a trace, or at its end. -/
def stAt (its : List It) (fin : DS) (j : Nat) : DS := match its[j]? with | some t => t.s | none => fin

theorem chain_split : ∀ {its : List It} {i rid : Nat} {s fin : DS}, Chain P X call rd ops tm i rid s its fin → ∀ (j : Nat) (t : It), its[j]? = some t →
    t.i = i + j ∧ t.rid = ridsOf P ((its.take j).map (·.o)) rid ∧ It.good P X call rd ops tm t ∧ stAt its fin (j + 1) = t.next
  | [], i, rid, s, fin, h, j, t, ht => by simp at ht
  | t0 :: l, i, rid, s, fin, h, j, t, ht => by
    obtain ⟨h1, h2, h3, h4, h5⟩ := h
    cases j with
    | zero =>
      simp at ht
      subst ht
      refine ⟨h2, h3, h4, ?_⟩
      unfold stAt
      cases l with
      | nil => have : fin = t0.next := h5; simpa using this
      | cons t1 l => have := h5.1; simpa using this
    | succ j =>
      have ht' : l[j]? = some t := by simpa using ht
      obtain ⟨q1, q2, q3, q4⟩ := chain_split h5 j t ht'
      refine ⟨by omega, q2, q3, ?_⟩
      unfold stAt at q4 ⊢
      simpa using q4

theorem chain_start {its : List It} {i rid : Nat} {s fin : DS} (h : Chain P X call rd ops tm i rid s its fin) : stAt its fin 0 = s := by
  cases its with
  | nil => exact h
  | cons t l => exact h.1

/-- By the steps of a trace. -/
theorem chain_ind {its : List It} {i rid : Nat} {s fin : DS} (h : Chain P X call rd ops tm i rid s its fin) (Q : Nat → DS → Prop) (h0 : Q 0 s)
    (hs : ∀ j t, its[j]? = some t → Q j t.s → Q (j + 1) t.next) : ∀ j, j ≤ its.length → Q j (stAt its fin j) := by
  intro j
  induction j with
  | zero => intro _; rw [chain_start h]; exact h0
  | succ j ih =>
    intro hj
    have hlt : j < its.length := by omega
    have ht : its[j]? = some its[j] := List.getElem?_eq_getElem hlt
    have := ih (by omega)
    have hst : stAt its fin j = its[j].s := by unfold stAt; rw [ht]
    rw [hst] at this
    rw [(chain_split h j _ ht).2.2.2]
    exact hs j _ ht this

end
end Go.Eng
