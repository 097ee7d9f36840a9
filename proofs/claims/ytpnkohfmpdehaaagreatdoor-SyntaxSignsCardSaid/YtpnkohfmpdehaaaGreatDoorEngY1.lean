/- The engine, part Y1: the compiled evaluator is the evaluator: tries, tables, operands. -/
import Derived.Test.YtpnkohfmpdehaaaGreatDoorEngX
import Derived.Test.YtpnkohfmpdehaaaGreatDoorEngT
set_option linter.unusedVariables false
set_option linter.unusedSimpArgs false
set_option linter.unusedSectionVars false
namespace Go.Eng

section
variable {α : Type}

theorem T.mk_fuel (x : α) : ∀ (f g i : Nat), i ≤ f → i ≤ g → T.mk x f i = T.mk x g i := by
  intro f
  induction f with
  | zero => intro g i h1 h2; obtain rfl : i = 0 := by omega
            rw [T.mk_zero, T.mk_zero]
  | succ f ih =>
    intro g i h1 h2
    cases i with
    | zero => rw [T.mk_zero, T.mk_zero]
    | succ i =>
      cases g with
      | zero => omega
      | succ g => rw [T.mk_succ, T.mk_succ, ih g (i / 4) (by omega) (by omega)]

theorem pgC_get : ∀ (f m : Nat) (t : T α), (pgC f m).f t = T.get t (m + 1) := by
  intro f
  induction f with
  | zero => intro m t; rfl
  | succ f ih =>
    intro m t
    have hs : ∀ s : T α, (pgS (pgC (α := α) f) (m / 4)).f s = T.get s (m / 4) := by
      intro s
      cases h : m / 4 with
      | zero => cases s <;> rfl
      | succ q => exact ih q s
    show (sel4 (pg0 (pgS (pgC (α := α) f) (m / 4))) (pg1 (pgS (pgC (α := α) f) (m / 4))) (pg2 (pgS (pgC (α := α) f) (m / 4))) (pg3 (pgS (pgC (α := α) f) (m / 4))) (m % 4)).f t = _
    rw [sel4_eq]
    cases t with
    | leaf =>
      rw [T.get_leaf]
      split
      · exact hs _
      · split
        · exact hs _
        · split
          · exact hs _
          · exact hs _
    | node v a b c d =>
      rw [T.get_node_succ]
      split
      · exact hs a
      · split
        · exact hs b
        · split
          · exact hs c
          · exact hs d

theorem setH_eq (x : α) (t : T α) : setH x t = T.set x t 0 := by cases t <;> rfl

theorem psC_set : ∀ (f m : Nat) (x : α) (t : T α), (psC f m).f x t = T.set x t (m + 1) := by
  intro f
  induction f with
  | zero => intro m x t; rfl
  | succ f ih =>
    intro m x t
    have hs : ∀ s : T α, (psS (psC (α := α) f) (m / 4)).f x s = T.set x s (m / 4) := by
      intro s
      cases h : m / 4 with
      | zero => exact setH_eq x s
      | succ q => exact ih q x s
    have hmk : T.set x .leaf (m / 4) = T.mk x m (m / 4) := by rw [T.set_leaf]; exact T.mk_fuel x _ _ _ (Nat.le_refl _) (Nat.div_le_self _ _)
    show (sel4 (⟨set0 (psS (psC (α := α) f) (m / 4))⟩ : PS α) ⟨set1 (psS (psC (α := α) f) (m / 4))⟩ ⟨set2 (psS (psC (α := α) f) (m / 4))⟩ ⟨set3 (psS (psC (α := α) f) (m / 4))⟩ (m % 4)).f x t = _
    rw [sel4_eq]
    cases t with
    | leaf =>
      rw [T.set_leaf, T.mk_succ, ← hmk, ← hs]
      split
      · rfl
      · split
        · rfl
        · split <;> rfl
    | node v a b c d =>
      rw [T.set_node_succ, ← hs, ← hs, ← hs, ← hs]
      split
      · rfl
      · split
        · rfl
        · split <;> rfl

theorem T.v_eq (t : T α) : T.v t = T.get t 0 := by cases t <;> rfl

theorem getT_eq (t : T α) (i : Nat) : getT t i = T.get t i := by
  cases i with
  | zero => exact T.v_eq t
  | succ m => exact pgC_get _ m t
theorem putT_eq (t : T α) (i : Nat) (x : α) : putT t i x = T.set x t i := by
  cases i with
  | zero => exact setH_eq x t
  | succ m => exact psC_set _ m x t

theorem tabL_get : ∀ (l : List α) (i : Nat) (t : T α) (j : Nat), (tabL l i t).get j = if i ≤ j ∧ j < i + l.length then l[j - i]? else t.get j
  | [], i, t, j => by
    rw [if_neg (by simp only [List.length_nil]; omega)]; rfl
  | x :: l, i, t, j => by
    show (tabL l (i + 1) (putT t i x)).get j = _
    rw [tabL_get l (i + 1), putT_eq, T.get_set]
    simp only [List.length_cons]
    by_cases h : i = j
    · subst h
      rw [if_neg (by omega), if_pos rfl, if_pos (by omega)]; simp
    · by_cases h2 : i + 1 ≤ j ∧ j < i + 1 + l.length
      · rw [if_pos h2, if_pos (by omega)]
        have e : j - i = (j - (i + 1)) + 1 := by omega
        rw [e, List.getElem?_cons_succ]
      · rw [if_neg h2, if_neg h, if_neg (by omega)]

theorem tab_get (l : List α) (j : Nat) : getT (tabL l 0 .leaf) j = l[j]? := by
  rw [getT_eq, tabL_get]
  simp only [Nat.zero_le, true_and, Nat.zero_add, Nat.sub_zero, T.get_leaf]
  split
  · rfl
  · rename_i h; rw [List.getElem?_eq_none (by omega)]
end

theorem getOt_eq (t : T AObj) (b : Nat) : getOt t b = T.get t b := by
  cases b with
  | zero => exact T.v_eq t
  | succ m => exact pgC_get _ m t
theorem getO_eq (h : AHeap) (b : Nat) : getO h b = h.get b := getOt_eq _ _
theorem putO_eq (h : AHeap) (b : Nat) (o : AObj) : putO h b o = h.put b o := by
  unfold putO AHeap.put
  congr 1
  cases b with
  | zero => exact setH_eq o _
  | succ m => exact psC_set _ m o _
theorem getV_eq (t : T AVal) (b : Nat) : getV t b = T.get t b := by
  cases b with
  | zero => exact T.v_eq t
  | succ m => exact pgC_get _ m t
theorem setV_eq (v : AVal) (t : T AVal) (b : Nat) : setV v t b = T.set v t b := by
  cases b with
  | zero => exact setH_eq v t
  | succ m => exact psC_set _ m v t
theorem pgT_eq (t : Nat) (tm : T AVal) : (pgT t).f tm = T.get tm t := by
  cases t with
  | zero => exact T.v_eq tm
  | succ m => exact pgC_get _ m tm
theorem psT_eq (t : Nat) (v : AVal) (tm : T AVal) : (psT t).f v tm = T.set v tm t := by
  cases t with
  | zero => exact setH_eq v tm
  | succ m => exact psC_set _ m v tm

/-! ### By the form -/
section
variable {β : Type}
theorem onPtr_eq (k : Nat → Nat → β) (e : AVal → β) (v : AVal) : onPtr k e v = match v with | .ptr b o => k b o | v => e v := by cases v <;> rfl
theorem onInt_eq (k : IntKind → Int → β) (e : AVal → β) (v : AVal) : onInt k e v = match v with | .int kd n => k kd n | v => e v := by cases v <;> rfl
theorem onStr_eq (k : Nat → Nat → β) (e : AVal → β) (v : AVal) : onStr k e v = match v with | .str l n => k l n | v => e v := by cases v <;> rfl
theorem onSlc_eq (k : Nat → Nat → Nat → Cap → β) (z : β) (e : AVal → β) (v : AVal) : onSlc k z e v = match v with | .slc b o n c => k b o n c | .nslc => z | v => e v := by cases v <;> rfl
theorem onBool_eq (k : Bool → β) (tp : List AVal → β) (e : β) (v : AVal) : onBool k tp e v = match v with | .bool b => k b | .tup l => tp l | _ => e := by cases v <;> rfl
theorem scal_eq (v : AVal) : scal v = v.scalar := by cases v <;> rfl
theorem onRow_eq (e : β) (k : TypeId → Nat → Bool → Bool → T AVal → β) (x : Option AObj) : onRow e k x = match x with | some (.row a b c d t) => k a b c d t | _ => e := by
  cases x with
  | none => rfl
  | some o => cases o <;> rfl
theorem cellsK_eq (v : AVal) : cellsK v = v.cells := by cases v <;> rfl
theorem lenL_eq : ∀ l : List AVal, lenL l = l.length
  | [] => rfl
  | _ :: l => by show Nat.succ (lenL l) = _; rw [lenL_eq l]; rfl
theorem allS_eq : ∀ l : List AVal, allS l = l.all AVal.scalar
  | [] => rfl
  | v :: l => by
    show bB false (allS l) (scal v) = _
    rw [scal_eq, allS_eq l, List.all_cons]
    cases v.scalar <;> rfl
theorem wrK_eq : ∀ (l : List AVal) (o : Nat) (cs : T AVal), wrK l o cs = writeCells cs l o
  | [], _, _ => rfl
  | v :: l, o, cs => by
    show wrK l (o + 1) (setV v cs o) = writeCells (T.set v cs o) l (o + 1)
    rw [setV_eq, wrK_eq l]
theorem notAny_eq (v : AVal) : notAny v = true ↔ v ≠ .any := by cases v <;> simp [notAny]
end

theorem bO_some {α β : Type} {e : β} {k : α → β} {x : Option α} : bO e k x = match x with | some a => k a | none => e := by cases x <;> rfl
theorem bB_eq {β : Type} (f t : β) (b : Bool) : bB f t b = if b = true then t else f := by cases b <;> rfl

/-! ### Tables of the program -/
section
variable {P : Program} {X : Cx}

theorem infoK_eq (t : TypeId) : infoK P t = P.info? t := by
  unfold infoK tyT
  rw [tab_get, bO_some]
  have e : P.types.toList[t]? = P.types[t]? := by simp
  rw [e]
  cases ht : P.types[t]? with
  | none => rfl
  | some i =>
    have hlt : t < P.types.size := by
      rcases Nat.lt_or_ge t P.types.size with h | h
      · exact h
      · rw [Array.getElem?_eq_none h] at ht; cases ht
    simp [Tables.info?, ht]
    intro h; exact absurd hlt (Nat.not_lt.mpr h)
theorem undK_eq (t : TypeId) : undK P t = P.underlying t := by
  unfold undK Program.underlying
  simp only [infoK_eq]
  rfl
theorem sizeK_eq (t : TypeId) : sizeK P t = sizeA P t := by unfold sizeK sizeA; rw [infoK_eq]; rfl
theorem zeroK_eq (t : TypeId) : zeroK P t = zeroA P t := by unfold zeroK zeroA; rw [infoK_eq]; rfl
theorem aggK_eq (t : TypeId) : aggK P t = aggA P t := by unfold aggK aggA; rw [undK_eq]; rfl
theorem fieldK_eq (t : TypeId) (i : Nat) : fieldK P t i = fieldOf P t i := by unfold fieldK fieldOf; rw [undK_eq]; rfl
theorem placeK_eq (fs : Array Field) : placeK P fs = placeA P fs := by
  funext i; unfold placeK placeA; simp only [sizeK_eq]; rfl

theorem bodyK_eq (hn : plainNames P = true) (f : FuncId) : bodyK P f = bodyOf P f := by
  unfold bodyK bodyOf fnT
  rw [tab_get]
  have e : P.funcs.toList[f]? = P.funcs[f]? := by simp
  rw [e]
  cases hf : P.funcs[f]? with
  | none => rfl
  | some fn =>
    have hm : fn ∈ P.funcs.toList := by rw [Array.mem_toList_iff]; exact Array.mem_of_getElem? hf
    unfold plainNames at hn
    rw [List.all_eq_true] at hn
    have h1 := hn fn hm
    have h2 : (fn.name == "runtime.NumGoroutine") = false := by simpa using h1
    simp only [h2, Bool.false_eq_true, if_false]
    rfl

/-! ### Where slots' values lie -/
def Vs.len : Vs → Nat
  | .nil => 0
  | .cons _ l => l.len + 1

/-- The region's values, as the evaluator keeps them. -/
def LocRel (n : Nat) (vs : Vs) (tm : T AVal) : List (Nat × Src) → Loc → Prop
  | [], .nil => True
  | p :: E, .cons s v l => p.1 = s ∧ v = (acSrc n p.2).f vs tm ∧ (∀ q, p.2 = .pos q → q < n) ∧ LocRel n vs tm E l
  | _, _ => False

structure EnvRel (e : Env) (vs : Vs) (tm : T AVal) (loc : Loc) : Prop where
  len : vs.len = e.n
  loc : LocRel e.n vs tm e.E loc
  bits : ∀ p ∈ e.E, bitOf e.m p.1 = true

theorem acPos_succ (d : Nat) (v : AVal) (vs : Vs) (tm : T AVal) : (acPos (d + 1)).f (.cons v vs) tm = (acPos d).f vs tm := rfl

theorem acSrc_push (n : Nat) (s : Src) (hs : ∀ q, s = .pos q → q < n) (v : AVal) (vs : Vs) (tm : T AVal) : (acSrc (n + 1) s).f (.cons v vs) tm = (acSrc n s).f vs tm := by
  cases s with
  | pos p =>
    have hp := hs p rfl
    show (acPos (n + 1 - 1 - p)).f (.cons v vs) tm = (acPos (n - 1 - p)).f vs tm
    have e : n + 1 - 1 - p = (n - 1 - p) + 1 := by omega
    rw [e, acPos_succ]
  | slot t => rfl
  | val v => rfl

theorem LocRel.push {n : Nat} {vs : Vs} {tm : T AVal} (v : AVal) : ∀ {E : List (Nat × Src)} {loc : Loc}, LocRel n vs tm E loc → LocRel (n + 1) (.cons v vs) tm E loc
  | [], .nil, _ => trivial
  | p :: E, .cons s x l, ⟨h1, h2, h3, h4⟩ => ⟨h1, by rw [h2, acSrc_push n p.2 h3], fun q hq => Nat.lt_succ_of_lt (h3 q hq), h4.push v⟩
  | [], .cons _ _ _, h => h.elim
  | _ :: _, .nil, h => h.elim

theorem acSrc_new (n : Nat) (v : AVal) (vs : Vs) (tm : T AVal) : (acSrc (n + 1) (.pos n)).f (.cons v vs) tm = v := by
  show (acPos (n + 1 - 1 - n)).f (.cons v vs) tm = v
  have e : n + 1 - 1 - n = 0 := by omega
  rw [e]; rfl

theorem findE_cons (p : Nat × Src) (E : List (Nat × Src)) (t : Nat) : findE (p :: E) t = if p.1 = t then p.2 else findE E t := by
  show Bool.rec (motive := fun _ => Src) (findE E t) p.2 (Nat.beq p.1 t) = _
  by_cases h : p.1 = t
  · subst h; rw [if_pos rfl, Nat.beq_refl]
  · rw [if_neg h]
    have : Nat.beq p.1 t = false := by
      cases hb : Nat.beq p.1 t with
      | false => rfl
      | true => exact absurd (Nat.eq_of_beq_eq_true hb) h
    rw [this]

theorem LocRel.look {n : Nat} {vs : Vs} {tm : T AVal} (t : Nat) : ∀ {E : List (Nat × Src)} {loc : Loc}, LocRel n vs tm E loc → orAny (lookL loc t tm) = (acSrc n (findE E t)).f vs tm ∧ ∀ q, findE E t = .pos q → q < n
  | [], .nil, _ => by
    refine ⟨?_, fun q h => by cases h⟩
    show orAny (tm.get t) = orAny ((pgT t).f tm)
    rw [pgT_eq]
  | p :: E, .cons s x l, ⟨h1, h2, h3, h4⟩ => by
    rw [findE_cons]
    have e : lookL (.cons s x l) t tm = if s = t then some x else lookL l t tm := by
      show Bool.rec (motive := fun _ => Option AVal) (lookL l t tm) (some x) (Nat.beq s t) = _
      by_cases h : s = t
      · subst h; rw [if_pos rfl, Nat.beq_refl]
      · rw [if_neg h]
        have : Nat.beq s t = false := by
          cases hb : Nat.beq s t with
          | false => rfl
          | true => exact absurd (Nat.eq_of_beq_eq_true hb) h
        rw [this]
    rw [e, h1]
    split
    · exact ⟨h2, h3⟩
    · exact h4.look t
  | [], .cons _ _ _, h => h.elim
  | _ :: _, .nil, h => h.elim

theorem findE_none {E : List (Nat × Src)} {t : Nat} (h : ∀ p ∈ E, p.1 ≠ t) : findE E t = .slot t := by
  induction E with
  | nil => rfl
  | cons p E ih =>
    rw [findE_cons, if_neg (h p (by simp))]
    exact ih (fun q hq => h q (by simp [hq]))

theorem EnvRel.find {e : Env} {vs : Vs} {tm : T AVal} {loc : Loc} (h : EnvRel e vs tm loc) (t : Nat) : orAny (lookL loc t tm) = (acSrc e.n (e.find t)).f vs tm ∧ ∀ q, e.find t = .pos q → q < e.n := by
  unfold Env.find
  cases hb : bitOf e.m t with
  | true => exact h.loc.look t
  | false =>
    have : findE e.E t = .slot t := findE_none (fun p hp he => by have := h.bits p hp; rw [he, hb] at this; cases this)
    have h1 := h.loc.look t
    rw [this] at h1
    exact h1

theorem EnvRel.src {e : Env} {vs : Vs} {tm : T AVal} {loc : Loc} (h : EnvRel e vs tm loc) (x : Operand) :
    match srcOf X e x with
    | some s => evA X loc tm x = some ((acSrc e.n s).f vs tm) ∧ ∀ q, s = .pos q → q < e.n
    | none => evA X loc tm x = none := by
  cases x with
  | tmp t =>
    obtain ⟨h1, h2⟩ := h.find t
    exact ⟨by show some (orAny (lookL loc t tm)) = _; rw [h1], h2⟩
  | const v =>
    show match (match ofConst v with | some x => some (Src.val x) | none => none) with | some s => evA X loc tm (.const v) = some ((acSrc e.n s).f vs tm) ∧ ∀ q, s = .pos q → q < e.n | none => evA X loc tm (.const v) = none
    have e1 : evA X loc tm (.const v) = ofConst v := rfl
    rw [e1]
    cases ofConst v with
    | none => rfl
    | some x => exact ⟨rfl, fun q hq => by cases hq⟩
  | global g =>
    show match (match Nat.ble (g + 1) X.nglob with | true => some (Src.val (.ptr g 0)) | false => none) with | some s => evA X loc tm (.global g) = some ((acSrc e.n s).f vs tm) ∧ ∀ q, s = .pos q → q < e.n | none => evA X loc tm (.global g) = none
    have e1 : evA X loc tm (.global g) = match Nat.ble (g + 1) X.nglob with | true => some (AVal.ptr g 0) | false => none := rfl
    rw [e1]
    cases Nat.ble (g + 1) X.nglob with
    | false => rfl
    | true => exact ⟨rfl, fun q hq => by cases hq⟩
  | func f => exact ⟨rfl, fun q hq => by cases hq⟩

theorem EnvRel.acc {e : Env} {vs : Vs} {tm : T AVal} {loc : Loc} (h : EnvRel e vs tm loc) {x : Operand} {a : Acc} (ha : accOf X e x = some a) : evA X loc tm x = some (a.f vs tm) := by
  have := h.src (X := X) x
  unfold accOf at ha
  cases hs : srcOf X e x with
  | none => rw [hs] at ha; cases ha
  | some s => rw [hs] at ha this; cases ha; exact this.1

theorem EnvRel.evK {e : Env} {vs : Vs} {tm : T AVal} {loc : Loc} (h : EnvRel e vs tm loc) : Eng.evK X e vs tm = evA X loc tm := by
  funext x
  have := h.src (X := X) x
  unfold Eng.evK accOf
  cases hs : srcOf X e x with
  | none => rw [hs] at this; exact this.symm
  | some s => rw [hs] at this; exact this.1.symm

theorem EnvRel.push {e : Env} {vs : Vs} {tm : T AVal} {loc : Loc} (h : EnvRel e vs tm loc) (dst : Option Nat) (v : AVal) : EnvRel (e.push dst) (pushK dst v vs) tm (pushL dst v loc) := by
  cases dst with
  | none => exact h
  | some d =>
    refine ⟨by show vs.len + 1 = e.n + 1; rw [h.len], ⟨rfl, (acSrc_new _ _ _ _).symm, fun q hq => (by cases hq; exact Nat.lt_succ_self _), h.loc.push v⟩, ?_⟩
    intro p hp
    rw [show (e.push (some d)).m = Nat.lor e.m (Nat.pow 2 d) from rfl, bitOf_lor, bitOf_pow]
    have hp' : p = (d, .pos e.n) ∨ p ∈ e.E := by simpa [Env.push] using hp
    rcases hp' with rfl | hp'
    · simp
    · rw [h.bits p hp']; simp

theorem EnvRel.alias {e : Env} {vs : Vs} {tm : T AVal} {loc : Loc} (h : EnvRel e vs tm loc) (d : Nat) {s : Src} {x : Operand} (hs : srcOf X e x = some s) {v : AVal} (hv : evA X loc tm x = some v) :
    EnvRel ⟨(d, s) :: e.E, e.n, Nat.lor e.m (Nat.pow 2 d)⟩ vs tm (.cons d v loc) := by
  have := h.src (X := X) x
  rw [hs] at this
  obtain ⟨h1, h2⟩ := this
  rw [hv] at h1
  refine ⟨h.len, ⟨rfl, by cases h1; rfl, h2, h.loc⟩, ?_⟩
  intro p hp
  rw [bitOf_lor, bitOf_pow]
  have hp' : p = (d, s) ∨ p ∈ e.E := by simpa using hp
  rcases hp' with rfl | hp'
  · simp
  · rw [h.bits p hp']; simp

theorem EnvRel.start (tm : T AVal) : EnvRel ⟨[], 0, 0⟩ .nil tm .nil := ⟨rfl, trivial, fun p hp => by cases hp⟩

/-- A region's values in the slots that are kept. -/
theorem flushC_eq {n : Nat} {vs : Vs} {tm : T AVal} (m : Nat) : ∀ {E : List (Nat × Src)} {loc : Loc}, LocRel n vs tm E loc → (flushC m n E).f vs tm = flush loc m tm
  | [], .nil, _ => rfl
  | p :: E, .cons s x l, ⟨h1, h2, h3, h4⟩ => by
    have ih := flushC_eq m h4
    have e1 : flush (.cons s x l) m tm = Bool.rec (motive := fun _ => T AVal) (flush l m tm) (T.set x (flush l m tm) s) (bitOf m s) := rfl
    have e2 : flushC m n (p :: E) = Bool.rec (motive := fun _ => TmF) (flushC m n E) ⟨fun vs tm => (psT p.1).f ((acSrc n p.2).f vs tm) ((flushC m n E).f vs tm)⟩ (bitOf m p.1) := rfl
    rw [e1, e2, h1]
    cases bitOf m s with
    | false => exact ih
    | true =>
      show (psT s).f ((acSrc n p.2).f vs tm) ((flushC m n E).f vs tm) = T.set x (flush l m tm) s
      rw [psT_eq, ih, h2]
  | [], .cons _ _ _, h => h.elim
  | _ :: _, .nil, h => h.elim
end
end Go.Eng
