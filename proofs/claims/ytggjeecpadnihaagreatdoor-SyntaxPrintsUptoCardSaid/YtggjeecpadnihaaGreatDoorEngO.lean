/- The engine, part O: regions in their order. -/
import Derived.Test.YtggjeecpadnihaaGreatDoorEngN
set_option linter.unusedSectionVars false
set_option linter.unusedVariables false
set_option linter.unusedSimpArgs false
namespace Go.Eng

def dstOk (n : Nat) (o : Oper) : Bool := match o.dst with | some d => Nat.ble (Nat.succ d) n | none => true
def dstsOk (n : Nat) : List Oper → Bool
  | [] => true
  | o :: l => dstOk n o && dstsOk n l

section
variable {P : Program} {env : Nat → Value} {okc : FuncId → Code → Bool} {ρ ρ' : Rho} {h h' : AHeap} {w w' : World} {X : Cx}

/-! ### Slots -/
theorem lookL_nil (t : Nat) (tm : T AVal) : lookL .nil t tm = tm.get t := rfl
theorem lookL_cons (s : Nat) (v : AVal) (l : Loc) (t : Nat) (tm : T AVal) : lookL (.cons s v l) t tm = if s = t then some v else lookL l t tm := by
  show Bool.rec (motive := fun _ => Option AVal) (lookL l t tm) (some v) (Nat.beq s t) = _
  by_cases e : s = t
  · subst e; rw [if_pos rfl, Nat.beq_refl]
  · rw [if_neg e]
    have : Nat.beq s t = false := by
      cases hb : Nat.beq s t with
      | true => exact absurd (Nat.eq_of_beq_eq_true hb) e
      | false => rfl
    rw [this]

theorem flush_get (m : Nat) (tm : T AVal) (t : Nat) : ∀ l : Loc, (flush l m tm).get t = if bitOf m t = true then lookL l t tm else tm.get t
  | .nil => by
    show tm.get t = _
    rw [lookL_nil]; split <;> rfl
  | .cons s v l => by
    have e : flush (.cons s v l) m tm = Bool.rec (motive := fun _ => T AVal) (flush l m tm) (T.set v (flush l m tm) s) (bitOf m s) := rfl
    rw [e, lookL_cons]
    cases hb : bitOf m s with
    | true =>
      simp only
      rw [T.get_set, flush_get m tm t l]
      by_cases he : s = t
      · subst he; simp [hb]
      · simp [he]
    | false =>
      simp only
      rw [flush_get m tm t l]
      by_cases he : s = t
      · subst he; simp [hb]
      · simp [he]

theorem poison_get (m : Nat) (tm : T AVal) (t : Nat) (v : AVal) : ∀ l : List Oper, (poison l m tm).get t = some v →
    (v = .any ∧ bitOf m t = true ∧ ∃ o ∈ l, o.dst = some t) ∨ (tm.get t = some v ∧ ∀ o ∈ l, o.dst = some t → bitOf m t = false)
  | [], h => .inr ⟨h, by simp⟩
  | o :: l, h => by
    unfold poison at h
    have ih := poison_get m tm t v l
    cases hd : o.dst with
    | none =>
      rw [hd] at h
      rcases ih h with ⟨h1, h2, o', h3, h4⟩ | ⟨h1, h2⟩
      · exact .inl ⟨h1, h2, o', by simp [h3], h4⟩
      · refine .inr ⟨h1, fun o' ho' he => ?_⟩
        rcases List.mem_cons.1 ho' with rfl | ho'
        · rw [hd] at he; cases he
        · exact h2 o' ho' he
    | some d =>
      rw [hd] at h; simp only at h
      cases hb : bitOf m d with
      | true =>
        rw [hb] at h; simp only at h
        rw [T.get_set] at h
        by_cases e : d = t
        · subst e
          rw [if_pos rfl] at h; cases h
          exact .inl ⟨rfl, hb, o, by simp, hd⟩
        · rw [if_neg e] at h
          rcases ih h with ⟨h1, h2, o', h3, h4⟩ | ⟨h1, h2⟩
          · exact .inl ⟨h1, h2, o', by simp [h3], h4⟩
          · refine .inr ⟨h1, fun o' ho' he => ?_⟩
            rcases List.mem_cons.1 ho' with rfl | ho'
            · rw [hd] at he; cases he; exact absurd rfl e
            · exact h2 o' ho' he
      | false =>
        rw [hb] at h
        rcases ih h with ⟨h1, h2, o', h3, h4⟩ | ⟨h1, h2⟩
        · exact .inl ⟨h1, h2, o', by simp [h3], h4⟩
        · refine .inr ⟨h1, fun o' ho' he => ?_⟩
          rcases List.mem_cons.1 ho' with rfl | ho'
          · rw [hd] at he; cases he; exact hb
          · exact h2 o' ho' he

theorem dstsOk_mem {n : Nat} : ∀ {l : List Oper}, dstsOk n l = true → ∀ o ∈ l, ∀ d, o.dst = some d → d < n
  | [], _, o, ho, _, _ => by simp at ho
  | o :: l, h, o', ho', d, hd => by
    simp only [dstsOk, Bool.and_eq_true] at h
    rcases List.mem_cons.1 ho' with rfl | ho'
    · have := h.1
      unfold dstOk at this
      rw [hd] at this
      exact ble_le this
    · exact dstsOk_mem h.2 o' ho' d hd

theorem put_size (a : Act) (d : Option Tmp) (x : Value) : (a.put d x).tmps.size = a.tmps.size := by
  cases d <;> simp [Act.put]
theorem put_defs (a : Act) (d : Option Tmp) (x : Value) : (a.put d x).defers = a.defers := by
  cases d <;> rfl
theorem put_get (a : Act) (d : Option Tmp) (x : Value) (t : Nat) (hd : ∀ d', d = some d' → d' < a.tmps.size) : (a.put d x).tmps[t]? = if d = some t then some x else a.tmps[t]? := by
  cases d with
  | none => simp [Act.put]
  | some d' =>
    have := hd d' rfl
    simp only [Act.put, Array.getElem?_setIfInBounds, Option.some.injEq]
    by_cases e : d' = t
    · subst e; simp [this]
    · simp [e]

theorem slots_push {loc : Loc} {tm : T AVal} {a : Act} {dst : Option Tmp} {v : AVal} {x : Value} (hs : ∀ t v, lookL loc t tm = some v → ∃ x, a.tmps[t]? = some x ∧ VRel ρ env v x)
    (hd : ∀ d, dst = some d → d < a.tmps.size) (hv : VRel ρ' env v x) (hsub : ρ.sub ρ') : ∀ t v', lookL (pushL dst v loc) t tm = some v' → ∃ y, (a.put dst x).tmps[t]? = some y ∧ VRel ρ' env v' y := by
  intro t v' hl
  rw [put_get _ _ _ _ hd]
  cases dst with
  | none =>
    obtain ⟨y, h1, h2⟩ := hs t v' hl
    exact ⟨y, by simpa using h1, h2.mono hsub⟩
  | some d =>
    rw [show pushL (some d) v loc = .cons d v loc from rfl, lookL_cons] at hl
    by_cases e : d = t
    · subst e
      rw [if_pos rfl] at hl; cases hl
      exact ⟨x, by simp, hv⟩
    · rw [if_neg e] at hl
      obtain ⟨y, h1, h2⟩ := hs t v' hl
      exact ⟨y, by simp [e, h1], h2.mono hsub⟩

/-- A guard's answer. -/
theorem wantedA_sound {ops : Array Oper} {loc : Loc} {tm : T AVal} {a : Act} {o : Oper} {r : Bool} (hs : ∀ t v, lookL loc t tm = some v → ∃ x, a.tmps[t]? = some x ∧ VRel ρ env v x)
    (hw : wantedA ops loc tm o = some r) : Region.wanted o (yielded ops a.tmps) = r := by
  unfold wantedA at hw
  unfold Region.wanted
  split at hw
  · rename_i hg
    cases hw; rw [hg]
  · rename_i j want hg
    rw [hg]; simp only
    cases hd : dstOf ops j with
    | none => rw [hd] at hw; cases hw
    | some d =>
      rw [hd] at hw; simp only at hw
      have hy : (ops[j]?).bind (·.dst) = some d := by
        unfold dstOf at hd
        cases ho : ops[j]? with
        | none => rw [ho] at hd; cases hd
        | some o' => rw [ho] at hd; simpa using hd
      unfold yielded
      rw [hy]
      simp only [Option.bind_some]
      split at hw
      · rename_i b hl
        cases hw
        obtain ⟨x, h1, h2⟩ := hs d _ hl
        rw [h1, h2.of_bool]
        cases b <;> cases want <;> rfl
      · rename_i hl
        cases hw
        obtain ⟨x, h1, h2⟩ := hs d _ hl
        obtain ⟨l', rfl, h3⟩ := h2.of_tup
        rw [h1]
        rfl
      · cases hw

/-! ### The state of a region -/
structure RSt (P : Program) (env : Nat → Value) (okc : FuncId → Code → Bool) (n : Nat) (tm : T AVal) (ρ : Rho) (loc : Loc) (ds : List ADefd) (h : AHeap) (um : UM) (a : Act) (m : FrameMode) (w : World) : Prop where
  slots : ∀ t v, lookL loc t tm = some v → ∃ x, a.tmps[t]? = some x ∧ VRel ρ env v x
  size : a.tmps.size = n
  defs : DefsRel env ρ ds a.defers
  heap : HRel P env okc ρ h w
  mode : ModeRel env ρ um m

/-- How a region is left. -/
def RegOk (P : Program) (env : Nat → Value) (okc : FuncId → Code → Bool) (n : Nat) (tm : T AVal) (N : Nat → Prop) (ρ : Rho) (h : AHeap) (b : Frame) (cfn : FrameMode → List Frame) (a : Act) (w : World)
    (ops : Array Oper) (k : List Item) (M : Machine) : RRes → Prop
  | .ok loc ds h' um => ∃ ρ' a' m' w', Steps P M (lone (b.atR a' k) (cfn m') w') ∧ RSt P env okc n tm ρ' loc ds h' um a' m' w' ∧ Go' P env okc N ρ h w ρ' h' w' ∧ CsOk b cfn um
  | .pan v ds h' um => ∃ ρ' x a' m' w' todo, Steps P M (lone { b.atR a' todo with mode := .panicking [{ v := x, recovered := false }] } (cfn m') w') ∧ VRel ρ' env v x ∧
      (∀ t, (∀ o ∈ ops.toList, o.dst ≠ some t) → a'.tmps[t]? = a.tmps[t]?) ∧ a'.tmps.size = n ∧ DefsRel env ρ' ds a'.defers ∧ ModeRel env ρ' um m' ∧ Go' P env okc N ρ h w ρ' h' w' ∧ CsOk b cfn um

theorem nextRid_eq (op : Op) (rid : Nat) : nextRid P op rid = if mayAlloc P op = true then rid + 1 else rid := by
  unfold nextRid
  cases mayAlloc P op <;> simp

theorem ridsOf_cons (o : Oper) (l : List Oper) (n : Nat) : ridsOf P (o :: l) n = ridsOf P l (nextRid P o.op n) := rfl
theorem ridsOf_le : ∀ (l : List Oper) (n : Nat), n ≤ ridsOf P l n
  | [], n => Nat.le_refl _
  | o :: l, n => by
    rw [ridsOf_cons]
    refine Nat.le_trans ?_ (ridsOf_le l _)
    rw [nextRid_eq]; split <;> omega

theorem compOps_cons (call : CallF) (rd : Bool) (ops : Array Oper) (o : Oper) (l : List Oper) (tm : T AVal) (rid : Nat) (loc : Loc) (ds : List ADefd) (h : AHeap) (um : UM) :
    (compOps P X call rd ops (o :: l)).f tm rid loc ds h um = (match wantedA ops loc tm o with
      | some true =>
        match operA P X call rd (evA X loc tm) ds h um rid o.op with
        | some (.ok v ds' h' um') => (compOps P X call rd ops l).f tm (nextRid P o.op rid) (pushL o.dst v loc) ds' h' um'
        | some (.pan v ds' h' um') => some (.pan v ds' h' um')
        | none => none
      | some false => (compOps P X call rd ops l).f tm (nextRid P o.op rid) (pushL o.dst undefA loc) ds h um
      | none => none) := rfl

variable (he : EnvOk env) (hF : ∀ f ∈ X.facts, FactOk P env f)
include he hF

/-- A region in its order. -/
theorem ops_sound {call : CallF} (hc : CallOk P env okc X.nglob call) {rd : Bool} {b : Frame} {cfn : FrameMode → List Frame} (hrd : rd = false → b.roundOf = none) {n : Nat} {ops : Array Oper} (hops : dstsOk n ops.toList = true)
    {tm : T AVal} {k : List Item} {start R : Nat} : ∀ (l : List Oper) (i : Nat), ops.toList.drop i = l → ∀ (rid : Nat) (loc : Loc) (ds : List ADefd) (h : AHeap) (um : UM) (r : RRes) (ρ : Rho) (a : Act) (m : FrameMode) (w : World),
      (compOps P X call rd ops l).f tm rid loc ds h um = some r → RSt P env okc n tm ρ loc ds h um a m w → GlobOk ρ X.nglob → CsOk b cfn um → start ≤ rid → ridsOf P l rid = R → R ≤ h.next → (∀ x, rid ≤ x → x < R → ρ x = none) →
      RegOk P env okc n tm (fun x => start ≤ x) ρ h b cfn a w ops k (lone (b.atR a (.inRegion ops (List.range' i l.length) :: k)) (cfn m) w) r
  | [], i, hl, rid, loc, ds, h, um, r, ρ, a, m, w, hx, hst, hg, hcs, h1, h2, h3, h4 => by
    have hx' : some (RRes.ok loc ds h um) = some r := hx
    cases hx'
    exact ⟨ρ, a, m, w, .one (by simpa using stepR_region_end), hst, .refl hst.heap, hcs⟩
  | o :: l, i, hl, rid, loc, ds, h, um, r, ρ, a, m, w, hx, hst, hg, hcs, h1, h2, h3, h4 => by
    have hoi : ops[i]? = some o := by
      have : ops.toList[i]? = some o := by
        rw [← List.head?_drop, hl]; rfl
      simpa using this
    have hmem : o ∈ ops.toList := by
      have : ops.toList[i]? = some o := by simpa using hoi
      exact List.mem_of_getElem? this
    have hdst : ∀ d, o.dst = some d → d < a.tmps.size := fun d hd => by rw [hst.size]; exact dstsOk_mem hops o hmem d hd
    have hl' : ops.toList.drop (i + 1) = l := by
      rw [← List.drop_drop, hl]; rfl
    have hrange : List.range' i (o :: l).length = i :: List.range' (i + 1) l.length := by
      rw [List.length_cons, List.range'_succ]
    rw [hrange]
    rw [ridsOf_cons] at h2
    have hrl := ridsOf_le (P := P) l (nextRid P o.op rid)
    have hnr : rid ≤ nextRid P o.op rid := by rw [nextRid_eq]; split <;> omega
    have hrR : rid ≤ R := by omega
    rw [compOps_cons] at hx
    split at hx
    · rename_i hw
      have hw' := wantedA_sound hst.slots hw
      cases hop : operA P X call rd (evA X loc tm) ds h um rid o.op with
      | none => rw [hop] at hx; cases hx
      | some r1 =>
        rw [hop] at hx
        have hridf : mayAlloc P o.op = true → ρ rid = none ∧ rid < h.next := by
          intro hm
          rw [nextRid_eq, if_pos hm] at hrl
          exact ⟨h4 rid (Nat.le_refl _) (by rw [nextRid_eq, if_pos hm] at h2; omega), by rw [nextRid_eq, if_pos hm] at h2; omega⟩
        have hok := operA_sound he hF hc hst.heap hg hrd hcs hst.defs hst.mode (evA_rel hg hst.slots) (k := k) (rest := List.range' (i + 1) l.length) hridf hoi hw' hop
        have hNle : ∀ x, ((mayAlloc P o.op = true ∧ x = rid) ∨ h.next ≤ x) → start ≤ x := by
          rintro x (⟨_, rfl⟩ | hx)
          · exact h1
          · omega
        cases r1 with
        | pan v ds' h' um' =>
          cases hx
          obtain ⟨rfl, rfl, ρ', x, w', q1, q2, q3⟩ := hok
          exact ⟨ρ', x, a, m, w', _, q1, q3, fun _ _ => rfl, hst.size, hst.defs.mono q2.sub, hst.mode.mono q2.sub, q2.mono hNle, hcs⟩
        | ok v ds' h' um' =>
          obtain ⟨ρ', x, d', m', w', q1, q2, q3, q4, q5, q6⟩ := hok
          have hst' : RSt P env okc n tm ρ' (pushL o.dst v loc) ds' h' um' ({ a with defers := d' }.put o.dst x) m' w' :=
            ⟨slots_push (a := { a with defers := d' }) hst.slots hdst q3 q2.sub, by rw [put_size]; exact hst.size, by rw [put_defs]; exact q4, q2.rel, q5⟩
          have hfresh : ∀ x, nextRid P o.op rid ≤ x → x < R → ρ' x = none := by
            intro x hx1 hx2
            rw [nextRid_eq] at hx1
            rw [q2.new x ?_]
            · exact h4 x (by split at hx1 <;> omega) hx2
            · rintro (⟨hm, rfl⟩ | hx3)
              · rw [if_pos hm] at hx1; omega
              · omega
          have hn := q2.next
          have := ops_sound hc hrd hops (start := start) (R := R) (k := k) l (i + 1) hl' (nextRid P o.op rid) (pushL o.dst v loc) ds' h' um' r ρ' _ m' w' hx hst' (hg.mono q2.sub) q6
            (by rw [nextRid_eq]; split <;> omega) h2 (by omega) hfresh
          cases r with
          | ok loc2 ds2 h2' um2 =>
            obtain ⟨ρ2, a2, m2, w2, p1, p2, p3, p4⟩ := this
            exact ⟨ρ2, a2, m2, w2, Steps.trans q1 p1, p2, (q2.mono hNle).trans p3, p4⟩
          | pan v2 ds2 h2' um2 =>
            obtain ⟨ρ2, x2, a2, m2, w2, todo, p1, p2, p3, p4, p5, p6, p7, p8⟩ := this
            refine ⟨ρ2, x2, a2, m2, w2, todo, Steps.trans q1 p1, p2, fun t ht => ?_, p4, p5, p6, (q2.mono hNle).trans p7, p8⟩
            rw [p3 t ht, put_get { a with defers := d' } _ _ _ hdst, if_neg (ht o hmem)]
    · rename_i hw
      have hw' := wantedA_sound hst.slots hw
      have hskip := stepR_op_skip (P := P) (b := b) (a := a) (k := k) (cs := cfn m) (w := w) (ops := ops) (i := i) (rest := List.range' (i + 1) l.length) (by simp [hoi, hw'])
      simp only [hoi, Option.bind_some] at hskip
      have hst' : RSt P env okc n tm ρ (pushL o.dst undefA loc) ds h um (a.put o.dst undef) m w :=
        ⟨slots_push hst.slots hdst .undef (.refl _), by rw [put_size]; exact hst.size, by rw [put_defs]; exact hst.defs, hst.heap, hst.mode⟩
      have := ops_sound hc hrd hops (start := start) (R := R) (k := k) l (i + 1) hl' (nextRid P o.op rid) (pushL o.dst undefA loc) ds h um r ρ _ m w hx hst' hg hcs
        (by rw [nextRid_eq]; split <;> omega) h2 h3 (fun x hx1 hx2 => h4 x (by rw [nextRid_eq] at hx1; split at hx1 <;> omega) hx2)
      cases r with
      | ok loc2 ds2 h2' um2 =>
        obtain ⟨ρ2, a2, m2, w2, p1, p2, p3, p4⟩ := this
        exact ⟨ρ2, a2, m2, w2, .head hskip p1, p2, p3, p4⟩
      | pan v2 ds2 h2' um2 =>
        obtain ⟨ρ2, x2, a2, m2, w2, todo, p1, p2, p3, p4, p5, p6, p7, p8⟩ := this
        refine ⟨ρ2, x2, a2, m2, w2, todo, .head hskip p1, p2, fun t ht => ?_, p4, p5, p6, p7, p8⟩
        rw [p3 t ht, put_get _ _ _ _ hdst, if_neg (ht o hmem)]
    · cases hx

end
end Go.Eng
