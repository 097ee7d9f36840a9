/- The engine, parts Y1 to Y7: the compiled evaluator is the evaluator. -/
import Derived.Test.YtggjeecpadnihaaGreatDoorEngX
import Derived.Test.YtggjeecpadnihaaGreatDoorEngT
/- The engine, part Y1: the compiled evaluator is the evaluator: tries, tables, operands. -/
set_option linter.unusedVariables false
set_option linter.unusedSimpArgs false
set_option linter.unusedSectionVars false
namespace Go.Eng

section
variable {α : Type}

theorem T.mk_fuel (x : α) : ∀ (f g i : Nat), i ≤ f → i ≤ g → T.mk x f i = T.mk x g i := by
  intro f
  induction f with
  | zero => intro g i h1 h2; obtain rfl : i = 0 := by omega
            rw [T.mk_zero, T.mk_zero]
  | succ f ih =>
    intro g i h1 h2
    cases i with
    | zero => rw [T.mk_zero, T.mk_zero]
    | succ i =>
      cases g with
      | zero => omega
      | succ g => rw [T.mk_succ, T.mk_succ, ih g (i / 4) (by omega) (by omega)]

theorem pgC_get : ∀ (f m : Nat) (t : T α), (pgC f m).f t = T.get t (m + 1) := by
  intro f
  induction f with
  | zero => intro m t; rfl
  | succ f ih =>
    intro m t
    have hs : ∀ s : T α, (pgS (pgC (α := α) f) (m / 4)).f s = T.get s (m / 4) := by
      intro s
      cases h : m / 4 with
      | zero => cases s <;> rfl
      | succ q => exact ih q s
    show (sel4 (pg0 (pgS (pgC (α := α) f) (m / 4))) (pg1 (pgS (pgC (α := α) f) (m / 4))) (pg2 (pgS (pgC (α := α) f) (m / 4))) (pg3 (pgS (pgC (α := α) f) (m / 4))) (m % 4)).f t = _
    rw [sel4_eq]
    cases t with
    | leaf =>
      rw [T.get_leaf]
      split
      · exact hs _
      · split
        · exact hs _
        · split
          · exact hs _
          · exact hs _
    | node v a b c d =>
      rw [T.get_node_succ]
      split
      · exact hs a
      · split
        · exact hs b
        · split
          · exact hs c
          · exact hs d

theorem setH_eq (x : α) (t : T α) : setH x t = T.set x t 0 := by cases t <;> rfl

theorem psC_set : ∀ (f m : Nat) (x : α) (t : T α), (psC f m).f x t = T.set x t (m + 1) := by
  intro f
  induction f with
  | zero => intro m x t; rfl
  | succ f ih =>
    intro m x t
    have hs : ∀ s : T α, (psS (psC (α := α) f) (m / 4)).f x s = T.set x s (m / 4) := by
      intro s
      cases h : m / 4 with
      | zero => exact setH_eq x s
      | succ q => exact ih q x s
    have hmk : T.set x .leaf (m / 4) = T.mk x m (m / 4) := by rw [T.set_leaf]; exact T.mk_fuel x _ _ _ (Nat.le_refl _) (Nat.div_le_self _ _)
    show (sel4 (⟨set0 (psS (psC (α := α) f) (m / 4))⟩ : PS α) ⟨set1 (psS (psC (α := α) f) (m / 4))⟩ ⟨set2 (psS (psC (α := α) f) (m / 4))⟩ ⟨set3 (psS (psC (α := α) f) (m / 4))⟩ (m % 4)).f x t = _
    rw [sel4_eq]
    cases t with
    | leaf =>
      rw [T.set_leaf, T.mk_succ, ← hmk, ← hs]
      split
      · rfl
      · split
        · rfl
        · split <;> rfl
    | node v a b c d =>
      rw [T.set_node_succ, ← hs, ← hs, ← hs, ← hs]
      split
      · rfl
      · split
        · rfl
        · split <;> rfl

theorem T.v_eq (t : T α) : T.v t = T.get t 0 := by cases t <;> rfl

theorem getT_eq (t : T α) (i : Nat) : getT t i = T.get t i := by
  cases i with
  | zero => exact T.v_eq t
  | succ m => exact pgC_get _ m t
theorem putT_eq (t : T α) (i : Nat) (x : α) : putT t i x = T.set x t i := by
  cases i with
  | zero => exact setH_eq x t
  | succ m => exact psC_set _ m x t

theorem tabL_get : ∀ (l : List α) (i : Nat) (t : T α) (j : Nat), (tabL l i t).get j = if i ≤ j ∧ j < i + l.length then l[j - i]? else t.get j
  | [], i, t, j => by
    rw [if_neg (by simp only [List.length_nil]; omega)]; rfl
  | x :: l, i, t, j => by
    show (tabL l (i + 1) (putT t i x)).get j = _
    rw [tabL_get l (i + 1), putT_eq, T.get_set]
    simp only [List.length_cons]
    by_cases h : i = j
    · subst h
      rw [if_neg (by omega), if_pos rfl, if_pos (by omega)]; simp
    · by_cases h2 : i + 1 ≤ j ∧ j < i + 1 + l.length
      · rw [if_pos h2, if_pos (by omega)]
        have e : j - i = (j - (i + 1)) + 1 := by omega
        rw [e, List.getElem?_cons_succ]
      · rw [if_neg h2, if_neg h, if_neg (by omega)]

theorem tab_get (l : List α) (j : Nat) : getT (tabL l 0 .leaf) j = l[j]? := by
  rw [getT_eq, tabL_get]
  simp only [Nat.zero_le, true_and, Nat.zero_add, Nat.sub_zero, T.get_leaf]
  split
  · rfl
  · rename_i h; rw [List.getElem?_eq_none (by omega)]
end

theorem getOt_eq (t : T AObj) (b : Nat) : getOt t b = T.get t b := by
  cases b with
  | zero => exact T.v_eq t
  | succ m => exact pgC_get _ m t
theorem getO_eq (h : AHeap) (b : Nat) : getO h b = h.get b := getOt_eq _ _
theorem putO_eq (h : AHeap) (b : Nat) (o : AObj) : putO h b o = h.put b o := by
  unfold putO AHeap.put
  congr 1
  cases b with
  | zero => exact setH_eq o _
  | succ m => exact psC_set _ m o _
theorem getV_eq (t : T AVal) (b : Nat) : getV t b = T.get t b := by
  cases b with
  | zero => exact T.v_eq t
  | succ m => exact pgC_get _ m t
theorem setV_eq (v : AVal) (t : T AVal) (b : Nat) : setV v t b = T.set v t b := by
  cases b with
  | zero => exact setH_eq v t
  | succ m => exact psC_set _ m v t
theorem pgT_eq (t : Nat) (tm : T AVal) : (pgT t).f tm = T.get tm t := by
  cases t with
  | zero => exact T.v_eq tm
  | succ m => exact pgC_get _ m tm
theorem psT_eq (t : Nat) (v : AVal) (tm : T AVal) : (psT t).f v tm = T.set v tm t := by
  cases t with
  | zero => exact setH_eq v tm
  | succ m => exact psC_set _ m v tm

/-! ### By the form -/
section
variable {β : Type}
theorem onPtr_eq (k : Nat → Nat → β) (e : AVal → β) (v : AVal) : onPtr k e v = match v with | .ptr b o => k b o | v => e v := by cases v <;> rfl
theorem onInt_eq (k : IntKind → Int → β) (e : AVal → β) (v : AVal) : onInt k e v = match v with | .int kd n => k kd n | v => e v := by cases v <;> rfl
theorem onStr_eq (k : Nat → Nat → β) (e : AVal → β) (v : AVal) : onStr k e v = match v with | .str l n => k l n | v => e v := by cases v <;> rfl
theorem onSlc_eq (k : Nat → Nat → Nat → Cap → β) (z : β) (e : AVal → β) (v : AVal) : onSlc k z e v = match v with | .slc b o n c => k b o n c | .nslc => z | v => e v := by cases v <;> rfl
theorem onBool_eq (k : Bool → β) (tp : List AVal → β) (e : β) (v : AVal) : onBool k tp e v = match v with | .bool b => k b | .tup l => tp l | _ => e := by cases v <;> rfl
theorem scal_eq (v : AVal) : scal v = v.scalar := by cases v <;> rfl
theorem onRow_eq (e : β) (k : TypeId → Nat → Bool → Bool → T AVal → β) (x : Option AObj) : onRow e k x = match x with | some (.row a b c d t) => k a b c d t | _ => e := by
  cases x with
  | none => rfl
  | some o => cases o <;> rfl
theorem cellsK_eq (v : AVal) : cellsK v = v.cells := by cases v <;> rfl
theorem lenL_eq : ∀ l : List AVal, lenL l = l.length
  | [] => rfl
  | _ :: l => by show Nat.succ (lenL l) = _; rw [lenL_eq l]; rfl
theorem allS_eq : ∀ l : List AVal, allS l = l.all AVal.scalar
  | [] => rfl
  | v :: l => by
    show bB false (allS l) (scal v) = _
    rw [scal_eq, allS_eq l, List.all_cons]
    cases v.scalar <;> rfl
theorem wrK_eq : ∀ (l : List AVal) (o : Nat) (cs : T AVal), wrK l o cs = writeCells cs l o
  | [], _, _ => rfl
  | v :: l, o, cs => by
    show wrK l (o + 1) (setV v cs o) = writeCells (T.set v cs o) l (o + 1)
    rw [setV_eq, wrK_eq l]
theorem notAny_eq (v : AVal) : notAny v = true ↔ v ≠ .any := by cases v <;> simp [notAny]
end

theorem bO_some {α β : Type} {e : β} {k : α → β} {x : Option α} : bO e k x = match x with | some a => k a | none => e := by cases x <;> rfl
theorem bB_eq {β : Type} (f t : β) (b : Bool) : bB f t b = if b = true then t else f := by cases b <;> rfl

/-! ### Tables of the program -/
section
variable {P : Program} {X : Cx}

theorem infoK_eq (t : TypeId) : infoK P t = P.info? t := by
  unfold infoK tyT
  rw [tab_get, bO_some]
  have e : P.types.toList[t]? = P.types[t]? := by simp
  rw [e]
  cases ht : P.types[t]? with
  | none => rfl
  | some i =>
    have hlt : t < P.types.size := by
      rcases Nat.lt_or_ge t P.types.size with h | h
      · exact h
      · rw [Array.getElem?_eq_none h] at ht; cases ht
    simp [Tables.info?, ht]
    intro h; exact absurd hlt (Nat.not_lt.mpr h)
theorem undK_eq (t : TypeId) : undK P t = P.underlying t := by
  unfold undK Program.underlying
  simp only [infoK_eq]
  rfl
theorem sizeK_eq (t : TypeId) : sizeK P t = sizeA P t := by unfold sizeK sizeA; rw [infoK_eq]; rfl
theorem zeroK_eq (t : TypeId) : zeroK P t = zeroA P t := by unfold zeroK zeroA; rw [infoK_eq]; rfl
theorem aggK_eq (t : TypeId) : aggK P t = aggA P t := by unfold aggK aggA; rw [undK_eq]; rfl
theorem fieldK_eq (t : TypeId) (i : Nat) : fieldK P t i = fieldOf P t i := by unfold fieldK fieldOf; rw [undK_eq]; rfl
theorem placeK_eq (fs : Array Field) : placeK P fs = placeA P fs := by
  funext i; unfold placeK placeA; simp only [sizeK_eq]; rfl

theorem bodyK_eq (hn : plainNames P = true) (f : FuncId) : bodyK P f = bodyOf P f := by
  unfold bodyK bodyOf fnT
  rw [tab_get]
  have e : P.funcs.toList[f]? = P.funcs[f]? := by simp
  rw [e]
  cases hf : P.funcs[f]? with
  | none => rfl
  | some fn =>
    have hm : fn ∈ P.funcs.toList := by rw [Array.mem_toList_iff]; exact Array.mem_of_getElem? hf
    unfold plainNames at hn
    rw [List.all_eq_true] at hn
    have h1 := hn fn hm
    have h2 : (fn.name == "runtime.NumGoroutine") = false := by simpa using h1
    simp only [h2, Bool.false_eq_true, if_false]
    rfl

/-! ### Where slots' values lie -/
def Vs.len : Vs → Nat
  | .nil => 0
  | .cons _ l => l.len + 1

/-- The region's values, as the evaluator keeps them. -/
def LocRel (n : Nat) (vs : Vs) (tm : T AVal) : List (Nat × Src) → Loc → Prop
  | [], .nil => True
  | p :: E, .cons s v l => p.1 = s ∧ v = (acSrc n p.2).f vs tm ∧ (∀ q, p.2 = .pos q → q < n) ∧ LocRel n vs tm E l
  | _, _ => False

structure EnvRel (e : Env) (vs : Vs) (tm : T AVal) (loc : Loc) : Prop where
  len : vs.len = e.n
  loc : LocRel e.n vs tm e.E loc
  bits : ∀ p ∈ e.E, bitOf e.m p.1 = true

theorem acPos_succ (d : Nat) (v : AVal) (vs : Vs) (tm : T AVal) : (acPos (d + 1)).f (.cons v vs) tm = (acPos d).f vs tm := rfl

theorem acSrc_push (n : Nat) (s : Src) (hs : ∀ q, s = .pos q → q < n) (v : AVal) (vs : Vs) (tm : T AVal) : (acSrc (n + 1) s).f (.cons v vs) tm = (acSrc n s).f vs tm := by
  cases s with
  | pos p =>
    have hp := hs p rfl
    show (acPos (n + 1 - 1 - p)).f (.cons v vs) tm = (acPos (n - 1 - p)).f vs tm
    have e : n + 1 - 1 - p = (n - 1 - p) + 1 := by omega
    rw [e, acPos_succ]
  | slot t => rfl
  | val v => rfl

theorem LocRel.push {n : Nat} {vs : Vs} {tm : T AVal} (v : AVal) : ∀ {E : List (Nat × Src)} {loc : Loc}, LocRel n vs tm E loc → LocRel (n + 1) (.cons v vs) tm E loc
  | [], .nil, _ => trivial
  | p :: E, .cons s x l, ⟨h1, h2, h3, h4⟩ => ⟨h1, by rw [h2, acSrc_push n p.2 h3], fun q hq => Nat.lt_succ_of_lt (h3 q hq), h4.push v⟩
  | [], .cons _ _ _, h => h.elim
  | _ :: _, .nil, h => h.elim

theorem acSrc_new (n : Nat) (v : AVal) (vs : Vs) (tm : T AVal) : (acSrc (n + 1) (.pos n)).f (.cons v vs) tm = v := by
  show (acPos (n + 1 - 1 - n)).f (.cons v vs) tm = v
  have e : n + 1 - 1 - n = 0 := by omega
  rw [e]; rfl

theorem findE_cons (p : Nat × Src) (E : List (Nat × Src)) (t : Nat) : findE (p :: E) t = if p.1 = t then p.2 else findE E t := by
  show Bool.rec (motive := fun _ => Src) (findE E t) p.2 (Nat.beq p.1 t) = _
  by_cases h : p.1 = t
  · subst h; rw [if_pos rfl, Nat.beq_refl]
  · rw [if_neg h]
    have : Nat.beq p.1 t = false := by
      cases hb : Nat.beq p.1 t with
      | false => rfl
      | true => exact absurd (Nat.eq_of_beq_eq_true hb) h
    rw [this]

theorem LocRel.look {n : Nat} {vs : Vs} {tm : T AVal} (t : Nat) : ∀ {E : List (Nat × Src)} {loc : Loc}, LocRel n vs tm E loc → orAny (lookL loc t tm) = (acSrc n (findE E t)).f vs tm ∧ ∀ q, findE E t = .pos q → q < n
  | [], .nil, _ => by
    refine ⟨?_, fun q h => by cases h⟩
    show orAny (tm.get t) = orAny ((pgT t).f tm)
    rw [pgT_eq]
  | p :: E, .cons s x l, ⟨h1, h2, h3, h4⟩ => by
    rw [findE_cons]
    have e : lookL (.cons s x l) t tm = if s = t then some x else lookL l t tm := by
      show Bool.rec (motive := fun _ => Option AVal) (lookL l t tm) (some x) (Nat.beq s t) = _
      by_cases h : s = t
      · subst h; rw [if_pos rfl, Nat.beq_refl]
      · rw [if_neg h]
        have : Nat.beq s t = false := by
          cases hb : Nat.beq s t with
          | false => rfl
          | true => exact absurd (Nat.eq_of_beq_eq_true hb) h
        rw [this]
    rw [e, h1]
    split
    · exact ⟨h2, h3⟩
    · exact h4.look t
  | [], .cons _ _ _, h => h.elim
  | _ :: _, .nil, h => h.elim

theorem findE_none {E : List (Nat × Src)} {t : Nat} (h : ∀ p ∈ E, p.1 ≠ t) : findE E t = .slot t := by
  induction E with
  | nil => rfl
  | cons p E ih =>
    rw [findE_cons, if_neg (h p (by simp))]
    exact ih (fun q hq => h q (by simp [hq]))

theorem EnvRel.find {e : Env} {vs : Vs} {tm : T AVal} {loc : Loc} (h : EnvRel e vs tm loc) (t : Nat) : orAny (lookL loc t tm) = (acSrc e.n (e.find t)).f vs tm ∧ ∀ q, e.find t = .pos q → q < e.n := by
  unfold Env.find
  cases hb : bitOf e.m t with
  | true => exact h.loc.look t
  | false =>
    have : findE e.E t = .slot t := findE_none (fun p hp he => by have := h.bits p hp; rw [he, hb] at this; cases this)
    have h1 := h.loc.look t
    rw [this] at h1
    exact h1

theorem EnvRel.src {e : Env} {vs : Vs} {tm : T AVal} {loc : Loc} (h : EnvRel e vs tm loc) (x : Operand) :
    match srcOf X e x with
    | some s => evA X loc tm x = some ((acSrc e.n s).f vs tm) ∧ ∀ q, s = .pos q → q < e.n
    | none => evA X loc tm x = none := by
  cases x with
  | tmp t =>
    obtain ⟨h1, h2⟩ := h.find t
    exact ⟨by show some (orAny (lookL loc t tm)) = _; rw [h1], h2⟩
  | const v =>
    show match (match ofConst v with | some x => some (Src.val x) | none => none) with | some s => evA X loc tm (.const v) = some ((acSrc e.n s).f vs tm) ∧ ∀ q, s = .pos q → q < e.n | none => evA X loc tm (.const v) = none
    have e1 : evA X loc tm (.const v) = ofConst v := rfl
    rw [e1]
    cases ofConst v with
    | none => rfl
    | some x => exact ⟨rfl, fun q hq => by cases hq⟩
  | global g =>
    show match (match Nat.ble (g + 1) X.nglob with | true => some (Src.val (.ptr g 0)) | false => none) with | some s => evA X loc tm (.global g) = some ((acSrc e.n s).f vs tm) ∧ ∀ q, s = .pos q → q < e.n | none => evA X loc tm (.global g) = none
    have e1 : evA X loc tm (.global g) = match Nat.ble (g + 1) X.nglob with | true => some (AVal.ptr g 0) | false => none := rfl
    rw [e1]
    cases Nat.ble (g + 1) X.nglob with
    | false => rfl
    | true => exact ⟨rfl, fun q hq => by cases hq⟩
  | func f => exact ⟨rfl, fun q hq => by cases hq⟩

theorem EnvRel.acc {e : Env} {vs : Vs} {tm : T AVal} {loc : Loc} (h : EnvRel e vs tm loc) {x : Operand} {a : Acc} (ha : accOf X e x = some a) : evA X loc tm x = some (a.f vs tm) := by
  have := h.src (X := X) x
  unfold accOf at ha
  cases hs : srcOf X e x with
  | none => rw [hs] at ha; cases ha
  | some s => rw [hs] at ha this; cases ha; exact this.1

theorem EnvRel.evK {e : Env} {vs : Vs} {tm : T AVal} {loc : Loc} (h : EnvRel e vs tm loc) : Eng.evK X e vs tm = evA X loc tm := by
  funext x
  have := h.src (X := X) x
  unfold Eng.evK accOf
  cases hs : srcOf X e x with
  | none => rw [hs] at this; exact this.symm
  | some s => rw [hs] at this; exact this.1.symm

theorem EnvRel.push {e : Env} {vs : Vs} {tm : T AVal} {loc : Loc} (h : EnvRel e vs tm loc) (dst : Option Nat) (v : AVal) : EnvRel (e.push dst) (pushK dst v vs) tm (pushL dst v loc) := by
  cases dst with
  | none => exact h
  | some d =>
    refine ⟨by show vs.len + 1 = e.n + 1; rw [h.len], ⟨rfl, (acSrc_new _ _ _ _).symm, fun q hq => (by cases hq; exact Nat.lt_succ_self _), h.loc.push v⟩, ?_⟩
    intro p hp
    rw [show (e.push (some d)).m = Nat.lor e.m (Nat.pow 2 d) from rfl, bitOf_lor, bitOf_pow]
    have hp' : p = (d, .pos e.n) ∨ p ∈ e.E := by simpa [Env.push] using hp
    rcases hp' with rfl | hp'
    · simp
    · rw [h.bits p hp']; simp

theorem EnvRel.alias {e : Env} {vs : Vs} {tm : T AVal} {loc : Loc} (h : EnvRel e vs tm loc) (d : Nat) {s : Src} {x : Operand} (hs : srcOf X e x = some s) {v : AVal} (hv : evA X loc tm x = some v) :
    EnvRel ⟨(d, s) :: e.E, e.n, Nat.lor e.m (Nat.pow 2 d)⟩ vs tm (.cons d v loc) := by
  have := h.src (X := X) x
  rw [hs] at this
  obtain ⟨h1, h2⟩ := this
  rw [hv] at h1
  refine ⟨h.len, ⟨rfl, by cases h1; rfl, h2, h.loc⟩, ?_⟩
  intro p hp
  rw [bitOf_lor, bitOf_pow]
  have hp' : p = (d, s) ∨ p ∈ e.E := by simpa using hp
  rcases hp' with rfl | hp'
  · simp
  · rw [h.bits p hp']; simp

theorem EnvRel.start (tm : T AVal) : EnvRel ⟨[], 0, 0⟩ .nil tm .nil := ⟨rfl, trivial, fun p hp => by cases hp⟩

/-- A region's values in the slots that are kept. -/
theorem flushC_eq {n : Nat} {vs : Vs} {tm : T AVal} (m : Nat) : ∀ {E : List (Nat × Src)} {loc : Loc}, LocRel n vs tm E loc → (flushC m n E).f vs tm = flush loc m tm
  | [], .nil, _ => rfl
  | p :: E, .cons s x l, ⟨h1, h2, h3, h4⟩ => by
    have ih := flushC_eq m h4
    have e1 : flush (.cons s x l) m tm = Bool.rec (motive := fun _ => T AVal) (flush l m tm) (T.set x (flush l m tm) s) (bitOf m s) := rfl
    have e2 : flushC m n (p :: E) = Bool.rec (motive := fun _ => TmF) (flushC m n E) ⟨fun vs tm => (psT p.1).f ((acSrc n p.2).f vs tm) ((flushC m n E).f vs tm)⟩ (bitOf m p.1) := rfl
    rw [e1, e2, h1]
    cases bitOf m s with
    | false => exact ih
    | true =>
      show (psT s).f ((acSrc n p.2).f vs tm) ((flushC m n E).f vs tm) = T.set x (flush l m tm) s
      rw [psT_eq, ih, h2]
  | [], .cons _ _ _, h => h.elim
  | _ :: _, .nil, h => h.elim
end
end Go.Eng

/- The engine, part Y2: the compiled evaluator is the evaluator: operations. -/
set_option linter.unusedSimpArgs false
set_option linter.unusedSectionVars false
set_option linter.unusedVariables false
namespace Go.Eng

section
variable {P : Program} {X : Cx}

def OpOk (P : Program) (X : Cx) (o : OpK) (op : Op) (ev : Operand → Option AVal) (vs : Vs) (tm : T AVal) : Prop :=
  match o with
  | .v g => ∀ h rid v, g.f vs tm h = some v → execA P X ev h rid op = some (.val v h)
  | .a g => ∀ h rid v h', g.f vs tm h rid = some (v, h') → execA P X ev h rid op = some (.val v h')
  | .s g => ∀ h rid h', g.f vs tm h = some h' → execA P X ev h rid op = some (.val undefA h')
  | .call f g => ∀ h rid, execA P X ev h rid op = some (.enter (.fn f) (g.f vs tm) h)
  | .g g => ∀ h rid, g.f vs tm h rid = execA P X ev h rid op

section
variable {e : Env} {vs : Vs} {tm : T AVal} {loc : Loc} (hE : EnvRel e vs tm loc)
include hE

theorem kGen_ok (op : Op) : OpOk P X (kGen P X e op) op (evA X loc tm) vs tm := by
  intro h rid
  show (compOp P X op).f (evK X e vs tm) h rid = (compOp P X op).f (evA X loc tm) h rid
  rw [hE.evK]

/-! ### loads and stores -/
omit hE in
theorem ldS_eq {t : TypeId} (ht : aggA P t = some false) (h : AHeap) (a : AVal) : ldS h a = match a with | .ptr b o => loadA P h t b o | _ => none := by
  unfold ldS
  rw [onPtr_eq]
  cases a <;> try rfl
  rename_i b o
  show ld2 h b o = loadA P h t b o
  unfold ld2 loadA
  rw [onRow_eq, getO_eq, ht]
  cases h.get b with
  | none => rfl
  | some ob => cases ob <;> first | rfl | exact getV_eq _ _

theorem kLoad_ok (t : TypeId) (x : Operand) {a : Acc} (ha : accOf X e x = some a) : OpOk P X (.v (kLoad P t a)) (.load t x) (evA X loc tm) vs tm := by
  intro h rid v hv
  show (match evA X loc tm x with | some (.ptr b o) => v1 h (loadA P h t b o) | _ => none) = _
  rw [hE.acc ha]
  unfold kLoad at hv
  rw [aggK_eq] at hv
  have key : (match a.f vs tm with | .ptr b o => loadA P h t b o | _ => none) = some v := by
    split at hv
    · rename_i ht
      rw [← ldS_eq ht]; exact hv
    · have hv' : ldG P t h (a.f vs tm) = some v := hv
      unfold ldG at hv'
      rw [onPtr_eq] at hv'
      cases hx : a.f vs tm <;> rw [hx] at hv' <;> first | exact hv' | cases hv'
  cases hx : a.f vs tm <;> rw [hx] at key <;> first | cases key | skip
  rename_i b o
  have key' : loadA P h t b o = some v := key
  show v1 h (loadA P h t b o) = _
  rw [key']; rfl

omit hE in
theorem scalar_cells {v : AVal} (h : v.scalar = true) : v.cells = [v] := by cases v <;> first | rfl | cases h

omit hE in
theorem stS_ok {t : TypeId} (ht : sizeA P t = some 1) (h h' : AHeap) (v a : AVal) : stS P t h v a = some h' → (match a with | .ptr b o => storeA P h t b o v | _ => none) = some h' := by
  intro hx
  unfold stS at hx
  rw [bB_eq, scal_eq] at hx
  split at hx
  · rename_i hs
    rw [onPtr_eq] at hx
    cases a <;> first | cases hx | skip
    rename_i b o
    have hx : st2 h v b o = some h' := hx
    unfold st2 at hx
    rw [onRow_eq, getO_eq] at hx
    show storeA P h t b o v = _
    unfold storeA putCells
    rw [ht, scalar_cells hs]
    cases hg : h.get b with
    | none => rw [hg] at hx; cases hx
    | some ob =>
      rw [hg] at hx
      cases ob <;> first | cases hx | skip
      rename_i e n op ro cs
      have hx' : st3 h b o v e n op ro cs = some h' := hx
      unfold st3 at hx'
      cases ro with
      | true => cases hx'
      | false =>
        simp only [bB] at hx'
        cases hb : Nat.ble (Nat.succ o) n with
        | false => rw [hb] at hx'; cases hx'
        | true =>
          rw [hb] at hx'
          have hle := Nat.le_of_ble_eq_true hb
          cases hx'
          have : (decide (o + 1 ≤ n) && ([v] : List AVal).all AVal.scalar) = true := by
            simp [hs]; exact hle
          simp only [List.length_singleton, if_true]
          rw [if_pos this, putO_eq, setV_eq]; rfl
  · unfold stG at hx
    rw [onPtr_eq] at hx
    cases a <;> first | exact hx | cases hx

theorem kStore_ok (t : TypeId) (x y : Operand) {a b : Acc} (ha : accOf X e x = some a) (hb : accOf X e y = some b) : OpOk P X (.s (kStore P t a b)) (.store t x y) (evA X loc tm) vs tm := by
  intro h rid h' hv
  show (match evA X loc tm x, evA X loc tm y with | some (.ptr b o), some v => h1 (storeA P h t b o v) | _, _ => none) = _
  rw [hE.acc ha, hE.acc hb]
  have key : (match a.f vs tm with | .ptr c o => storeA P h t c o (b.f vs tm) | _ => none) = some h' := by
    unfold kStore at hv
    rw [sizeK_eq] at hv
    split at hv
    · rename_i ht
      exact stS_ok ht h h' _ _ hv
    · have hv' : stG P t h (b.f vs tm) (a.f vs tm) = some h' := hv
      unfold stG at hv'
      rw [onPtr_eq] at hv'
      cases hx : a.f vs tm <;> rw [hx] at hv' <;> first | exact hv' | cases hv'
  cases hx : a.f vs tm <;> rw [hx] at key <;> first | cases key | skip
  rename_i c o
  have key' : storeA P h t c o (b.f vs tm) = some h' := key
  show h1 (storeA P h t c o (b.f vs tm)) = _
  rw [key']; rfl

/-! ### addresses -/
theorem kFieldAddr_ok (t : TypeId) (x : Operand) (i : Nat) {a : Acc} (ha : accOf X e x = some a) : OpOk P X (.v (kFieldAddr P t a i)) (.fieldAddr t x i) (evA X loc tm) vs tm := by
  intro h rid v hv
  show (match evA X loc tm x with | some w => v1 h (fieldAddrA P t w i) | none => none) = _
  rw [hE.acc ha]
  show v1 h (fieldAddrA P t (a.f vs tm) i) = _
  have key : fieldAddrA P t (a.f vs tm) i = some v := by
    unfold kFieldAddr at hv
    rw [fieldK_eq] at hv
    unfold fieldAddrA
    split at hv
    · rename_i f hf
      rw [hf]
      rw [sizeK_eq] at hv
      split at hv
      · rename_i n hn
        have hv' : onPtr (fa2 f.offset) noneA (a.f vs tm) = some v := hv
        rw [onPtr_eq] at hv'
        cases hx : a.f vs tm <;> rw [hx] at hv' <;> first | cases hv' | skip
        simp only [hn]
        rfl
      · cases hv
    · cases hv
  rw [key]; rfl

theorem kIndexAddr_ok (t : TypeId) (x y : Operand) {a i : Acc} (ha : accOf X e x = some a) (hi : accOf X e y = some i) : OpOk P X (.v (kIndexAddr P t a i)) (.indexAddr t x y) (evA X loc tm) vs tm := by
  intro h rid v hv
  show (match evA X loc tm x, evA X loc tm y with | some v, some n => v1 h (indexAddrA P t v n) | _, _ => none) = _
  rw [hE.acc ha, hE.acc hi]
  show v1 h (indexAddrA P t (a.f vs tm) (i.f vs tm)) = _
  have key : indexAddrA P t (a.f vs tm) (i.f vs tm) = some v := by
    unfold kIndexAddr at hv
    rw [undK_eq] at hv
    split at hv
    · rename_i el hel
      rw [sizeK_eq] at hv
      split at hv
      · rename_i size hsz
        have hv' : ixS size (i.f vs tm) (a.f vs tm) = some v := hv
        unfold ixS at hv'
        rw [onSlc_eq] at hv'
        cases hx : a.f vs tm <;> rw [hx] at hv' <;> first | cases hv' | skip
        rename_i b o n c
        have hv2 : ix2 size (i.f vs tm) b o n c = some v := hv'
        unfold ix2 at hv2
        rw [onInt_eq] at hv2
        cases hy : i.f vs tm <;> rw [hy] at hv2 <;> first | cases hv2 | skip
        rename_i k m
        cases m with
        | negSucc m => cases hv2
        | ofNat m =>
          have hv3 : ix3 size b o n m = some v := hv2
          unfold ix3 at hv3
          rw [bB_eq] at hv3
          unfold indexAddrA
          simp only [aNat, hel, hsz]
          exact hv3
      · cases hv
    · exact hv
  rw [key]; rfl

/-! ### whole numbers -/
omit hE in
theorem sameK_eq (k k' : IntKind) : sameK k k' = true ↔ k = k' := by cases k <;> cases k' <;> simp [sameK, kNum]

omit hE in
theorem wrapF_small (k : IntKind) (m : Nat) (h : m ≤ mxK k) : wrapF k (.ofNat m) = .ofNat m := by
  rw [wrapF_eq]
  have hw0 : (m : Int) < hw k := by
    unfold mxK at h
    have : 0 < hw k := by cases k <;> decide
    have h' : m ≤ hw k - 1 := h
    omega
  unfold IntKind.wrap
  cases k <;> simp [hw, IntKind.bits, IntKind.signed] at hw0 ⊢ <;> omega

omit hE in
theorem addI_eq (k : IntKind) (x y : Int) : addI k x y = wrapF k (Int.add x y) := by
  cases x with
  | negSucc m => rfl
  | ofNat m =>
    cases y with
    | negSucc n => rfl
    | ofNat n =>
      show bB (wrapF k (Int.add (.ofNat m) (.ofNat n))) (.ofNat (Nat.add m n)) (Nat.ble (Nat.add m n) (mxK k)) = _
      cases hb : Nat.ble (Nat.add m n) (mxK k) with
      | false => rfl
      | true =>
        have := Nat.le_of_ble_eq_true hb
        show Int.ofNat (m + n) = wrapF k (.ofNat (m + n))
        exact (wrapF_small k _ this).symm

omit hE in
theorem subI_eq (k : IntKind) (x y : Int) : subI k x y = wrapF k (Int.add x (Int.neg y)) := by
  cases x with
  | negSucc m => rfl
  | ofNat m =>
    cases y with
    | negSucc n => rfl
    | ofNat n =>
      show bB (wrapF k (Int.add (.ofNat m) (Int.neg (.ofNat n)))) (.ofNat (Nat.sub m n)) (Nat.ble n m && Nat.ble m (mxK k)) = _
      cases hb : (Nat.ble n m && Nat.ble m (mxK k)) with
      | false => rfl
      | true =>
        rw [Bool.and_eq_true] at hb
        have h1 := Nat.le_of_ble_eq_true hb.1
        have h2 := Nat.le_of_ble_eq_true hb.2
        have e : Int.add (.ofNat m) (Int.neg (.ofNat n)) = .ofNat (m - n) := by
          show (m : Int) + -(n : Int) = ((m - n : Nat) : Int)
          omega
        rw [e, wrapF_small k _ (by omega)]; rfl

omit hE in
theorem arK_eq (op : BinOp) (k k' : IntKind) (a b : Int) : (isShift op = true ∨ k = k') → arK op k a b = (match op with
    | .shl => shiftA .shl k a b
    | .shr => shiftA .shr k a b
    | op => if k = k' then arithA op k a b else none) := by
  intro h
  cases op <;> simp [isShift] at h <;> first | rfl | (subst h; simp [arK, rAdd, rSub, rEq, rNe, rLt, rLe, rGt, rGe, arithA, addI_eq, subI_eq])

omit hE in
theorem biS_ok (op : BinOp) (t : TypeId) (xo yo : Operand) (x y : AVal) (v : AVal) (h : biS (arK op) (isShift op) (binA P X.facts op t xo yo) y x = some v) : binA P X.facts op t xo yo x y = some v := by
  unfold biS at h
  rw [onInt_eq] at h
  split at h
  rotate_left
  · exact h
  rename_i k n
  unfold bi2 at h
  rw [onInt_eq] at h
  split at h
  rotate_left
  · exact h
  rename_i k' n'
  unfold bi4 at h
  rw [bB_eq] at h
  split at h
  rotate_left
  · cases h
  rename_i hs
  rw [Bool.or_eq_true, sameK_eq] at hs
  rw [arK_eq op k k' n n' hs] at h
  exact h

theorem kBin_ok (op : BinOp) (t : TypeId) (x y : Operand) (yt : TypeId) {a b : Acc} (ha : accOf X e x = some a) (hb : accOf X e y = some b) : OpOk P X (.v (kBin P X op t x y a b)) (.binOp op t x y yt) (evA X loc tm) vs tm := by
  intro h rid v hv
  show (match evA X loc tm x, evA X loc tm y with | some a, some b => v1 h (binA P X.facts op t x y a b) | _, _ => none) = _
  rw [hE.acc ha, hE.acc hb]
  show v1 h (binA P X.facts op t x y (a.f vs tm) (b.f vs tm)) = _
  rw [biS_ok op t x y _ _ v hv]; rfl

/-! ### choices, parts -/
theorem kPick_ok (c x y : Operand) {k a b : Acc} (hk : accOf X e c = some k) (ha : accOf X e x = some a) (hb : accOf X e y = some b) : OpOk P X (.v (kPick k a b)) (.pick c x y) (evA X loc tm) vs tm := by
  intro h rid v hv
  show (match evA X loc tm c with | some (.bool true) => v1 h (evA X loc tm x) | some (.bool false) => v1 h (evA X loc tm y) | _ => none) = _
  rw [hE.acc hk, hE.acc ha, hE.acc hb]
  have hv' : onBool (pickB (a.f vs tm) (b.f vs tm)) noneL none (k.f vs tm) = some v := hv
  rw [onBool_eq] at hv'
  cases hx : k.f vs tm <;> rw [hx] at hv' <;> first | cases hv' | skip
  rename_i q
  cases q <;> (have hv2 : some _ = some v := hv'; cases hv2; rfl)

theorem kExtract_ok (x : Operand) (i : Nat) {a : Acc} (ha : accOf X e x = some a) : OpOk P X (.v (kExtract a i)) (.extract x i) (evA X loc tm) vs tm := by
  intro h rid v hv
  show (match evA X loc tm x with | some (.tup vs) => v1 h (nthA vs i) | _ => none) = _
  rw [hE.acc ha]
  have hv' : onBool (fun _ => none) (fun l => nthA l i) none (a.f vs tm) = some v := hv
  rw [onBool_eq] at hv'
  cases hx : a.f vs tm <;> rw [hx] at hv' <;> first | cases hv' | skip
  rename_i l
  have key : nthA l i = some v := hv'
  show v1 h (nthA l i) = _
  rw [key]; rfl

/-! ### new blocks -/
theorem kAlloc_ok (t : TypeId) {k : AK} (hk : kAlloc P t = some k) : OpOk P X (.a k) (.alloc t) (evA X loc tm) vs tm := by
  intro h rid v h' hv
  show vh (allocA P h rid t) = _
  unfold kAlloc at hk
  rw [zeroK_eq] at hk
  unfold allocA
  split at hk
  · rename_i z hz
    rw [hz]
    split at hk
    · rename_i hs
      cases hk
      have hv' : some (AVal.ptr rid 0, putO h rid (.row t z.cells.length false false (rowOf z.cells))) = some (v, h') := hv
      cases hv'
      simp only [hs, if_true]
      rw [putO_eq]; rfl
    · cases hk
  · cases hk

omit hE in
theorem bxS_ok (t : TypeId) (h h' : AHeap) (rid : Nat) (x v : AVal) (hx : bxS t h rid x = some (v, h')) : boxA h rid t x = some (v, h') := by
  unfold bxS at hx
  rw [bB_eq, scal_eq] at hx
  unfold boxA
  split at hx
  · rename_i hs
    cases hx
    rw [scalar_cells hs, if_pos (by simp [hs]), putO_eq]
    rfl
  · unfold bxG at hx
    rw [bB_eq, allS_eq, cellsK_eq] at hx
    split at hx
    · rename_i hs
      cases hx
      rw [if_pos hs, putO_eq]
      unfold rowK newRowA rowOf
      rw [lenL_eq, wrK_eq]
    · cases hx

theorem kBox_ok (t : TypeId) (x : Operand) {a : Acc} (ha : accOf X e x = some a) : OpOk P X (.a (kBox t a)) (.box t x) (evA X loc tm) vs tm := by
  intro h rid v h' hv
  show (match evA X loc tm x with | some v => vh (boxA h rid t v) | none => none) = _
  rw [hE.acc ha]
  show vh (boxA h rid t (a.f vs tm)) = _
  rw [bxS_ok t h h' rid _ v hv]; rfl

/-! ### lengths, calls -/
theorem accs_evs : ∀ {l : List Operand} {r : List Acc}, accs X e l = some r → evs (evA X loc tm) l = some ((kArgs r).f vs tm)
  | [], r, h => by cases h; rfl
  | x :: l, r, h => by
    unfold accs at h
    split at h
    · rename_i a r' h1 h2
      cases h
      have ih := accs_evs h2
      have e1 : evs (evA X loc tm) (x :: l) = match evA X loc tm x with | some v => (match evs (evA X loc tm) l with | some r => some (v :: r) | none => none) | none => none := rfl
      rw [e1, hE.acc h1, ih]; rfl
    · cases h

theorem kLen_ok (c : Call) (hc : c.callee = .builtin .len) {t : TypeId} {ts : List TypeId} (ht : c.argTypes.toList = t :: ts) {x : Operand} (hx : c.args.toList = [x]) {a : Acc} (ha : accOf X e x = some a) :
    OpOk P X (.v (kLen P X t a)) (.call c) (evA X loc tm) vs tm := by
  intro h rid v hv
  show callA P X (evA X loc tm) h rid c = _
  have e1 : evs (evA X loc tm) c.args.toList = some [a.f vs tm] := by
    rw [hx]
    have e1 : evs (evA X loc tm) [x] = match evA X loc tm x with | some v => (match evs (evA X loc tm) [] with | some r => some (v :: r) | none => none) | none => none := rfl
    rw [e1, hE.acc ha]; rfl
  unfold callA
  rw [e1]
  simp only [hc, ht]
  show v1 h (lenA P X.facts h t (a.f vs tm)) = _
  have key : lenA P X.facts h t (a.f vs tm) = some v := by
    unfold kLen at hv
    rw [undK_eq] at hv
    split at hv
    · rename_i el hel
      have hv' : onSlc lnS (some (.int .i64 0)) (lenA P X.facts h t) (a.f vs tm) = some v := hv
      rw [onSlc_eq] at hv'
      split at hv'
      · rename_i b o n c' hx
        rw [hx]; unfold lenA; rw [hel]; exact hv'
      · rename_i hx
        rw [hx]; unfold lenA; rw [hel]; exact hv'
      · exact hv'
    · rename_i hel
      have hv' : onStr lnT (lenA P X.facts h t) (a.f vs tm) = some v := hv
      rw [onStr_eq] at hv'
      split at hv'
      · rename_i l n hx
        rw [hx]; unfold lenA; rw [hel]; exact hv'
      · exact hv'
    · exact hv
  rw [key]; rfl

theorem kCall_ok (hn : plainNames P = true) (c : Call) {f : FuncId} (hc : c.callee = .value (.func f)) {fc : Func × Code} (hb : bodyK P f = some fc) {l : List Acc} (hl : accs X e c.args.toList = some l) :
    OpOk P X (.call f (kArgs l)) (.call c) (evA X loc tm) vs tm := by
  intro h rid
  show callA P X (evA X loc tm) h rid c = _
  unfold callA
  rw [accs_evs hE hl]
  simp only [hc]
  show enterA P f ([] ++ (kArgs l).f vs tm ++ []) h = _
  rw [bodyK_eq hn] at hb
  unfold enterA
  rw [hb]
  simp

end
end
end Go.Eng

/- The engine, part Y3: the compiled evaluator is the evaluator: what is built; any operation. -/
set_option linter.unusedSimpArgs false
set_option linter.unusedSectionVars false
set_option linter.unusedVariables false
namespace Go.Eng

theorem takeN_spec : ∀ (n : Nat) (l r : List AVal), takeN n l = some r → l = r ++ dropN n l ∧ r.length = n
  | 0, l, r, h => by cases h; exact ⟨by cases l <;> rfl, rfl⟩
  | n + 1, v :: l, r, h => by
    unfold takeN at h
    split at h
    · rename_i r' hr
      cases h
      obtain ⟨h1, h2⟩ := takeN_spec n l r' hr
      exact ⟨by show v :: l = v :: (r' ++ dropN n l); rw [← h1], by simp [h2]⟩
    · cases h
  | n + 1, [], r, h => by cases h

theorem setAt_zero : ∀ (l b c : List AVal), l.length = b.length → setAt (b ++ c) 0 l = some (l ++ c)
  | [], [], c, _ => by cases c <;> rfl
  | v :: l, w :: b, c, h => by
    have ih := setAt_zero l b c (by simpa using h)
    show (match setAt (b ++ c) 0 l with | some r => some (v :: r) | none => none) = _
    rw [ih]; rfl
  | [], _ :: _, _, h => by simp at h
  | _ :: _, [], _, h => by simp at h

theorem setAt_mid : ∀ (a l b c : List AVal), l.length = b.length → setAt (a ++ (b ++ c)) a.length l = some (a ++ (l ++ c))
  | [], l, b, c, h => setAt_zero l b c h
  | x :: a, l, b, c, h => by
    have ih := setAt_mid a l b c h
    show (match setAt (a ++ (b ++ c)) a.length l with | some r => some (x :: r) | none => none) = _
    rw [ih]; rfl

section
variable {P : Program} {X : Cx}

theorem segF_zero (l : List AVal) (r : List Seg) (vs : Vs) (tm : T AVal) {cs : List AVal} (h : (segF (.zero l :: r)).f vs tm = some cs) : ∃ cs', (segF r).f vs tm = some cs' ∧ cs = l ++ cs' := by
  have h' : bO none (many l) ((segF r).f vs tm) = some cs := h
  rw [bO_some] at h'
  split at h'
  · rename_i cs' hc
    cases h'; exact ⟨cs', hc, rfl⟩
  · cases h'

theorem segN_spec {size : Nat} {v : AVal} {r : Option (List AVal)} {cs : List AVal} (h : segN size v r = some cs) : ∃ cs', r = some cs' ∧ cs = v.cells ++ cs' ∧ v ≠ .any ∧ v.cells.length = size := by
  unfold segN at h
  rw [bB_eq] at h
  split at h
  · rename_i hc
    rw [Bool.and_eq_true, notAny_eq, lenL_eq, cellsK_eq] at hc
    rw [bO_some] at h
    split at h
    · cases h; exact ⟨_, rfl, by rw [cellsK_eq], hc.1, Nat.eq_of_beq_eq_true hc.2⟩
    · cases h
  · cases h

theorem segF_part (x : Acc) (size : Nat) (r : List Seg) (vs : Vs) (tm : T AVal) {cs : List AVal} (h : (segF (.part x size :: r)).f vs tm = some cs) :
    ∃ cs', (segF r).f vs tm = some cs' ∧ cs = (x.f vs tm).cells ++ cs' ∧ x.f vs tm ≠ .any ∧ (x.f vs tm).cells.length = size := by
  by_cases h1 : size = 1
  · subst h1
    have h' : seg1 (x.f vs tm) ((segF r).f vs tm) = some cs := h
    unfold seg1 at h'
    rw [bB_eq, scal_eq] at h'
    split at h'
    · rename_i hs
      rw [bO_some] at h'
      split at h'
      · rename_i cs' hc
        cases h'
        refine ⟨cs', hc, by rw [scalar_cells hs]; rfl, ?_, by rw [scalar_cells hs]; rfl⟩
        intro hany; rw [hany] at hs; cases hs
      · cases h'
    · exact segN_spec h'
  · have h' : segN size (x.f vs tm) ((segF r).f vs tm) = some cs := by
      match size, h1, h with
      | 0, _, h => exact h
      | n + 2, _, h => exact h
    exact segN_spec h'

theorem placed_cons {place : Nat → Option (Nat × Nat)} {i : Nat} {x : Operand} {l : List (Nat × Operand)} {r : List (Nat × Nat × Operand)} (h : placed place ((i, x) :: l) = some r) :
    ∃ off size r', place i = some (off, size) ∧ placed place l = some r' ∧ r = (off, size, x) :: r' := by
  unfold placed at h
  split at h
  · rename_i off size r' h1 h2
    cases h; exact ⟨off, size, r', h1, h2, rfl⟩
  · cases h

section
variable {e : Env} {vs : Vs} {tm : T AVal} {loc : Loc} (hE : EnvRel e vs tm loc)
include hE

theorem segs_ok {place : Nat → Option (Nat × Nat)} : ∀ (parts : List (Nat × Operand)) (l : List (Nat × Nat × Operand)) (pos : Nat) (z pre : List AVal) (segs : List Seg) (cs : List AVal),
    placed place parts = some l → segsOf X e l pos z = some segs → (segF segs).f vs tm = some cs → pre.length = pos →
    ∃ ps, evParts (evA X loc tm) parts = some ps ∧ fillA place (pre ++ z) ps = some (pre ++ cs)
  | [], l, pos, z, pre, segs, cs, hp, hs, hf, hl => by
    cases hp
    cases hs
    obtain ⟨cs', h1, rfl⟩ := segF_zero _ _ _ _ hf
    have : some ([] : List AVal) = some cs' := h1
    cases this
    exact ⟨[], rfl, by show some _ = some _; rw [List.append_nil]⟩
  | (i, x) :: parts, l, pos, z, pre, segs, cs, hp, hs, hf, hl => by
    obtain ⟨off, size, l', hpl, hp', rfl⟩ := placed_cons hp
    unfold segsOf at hs
    split at hs
    rotate_left
    · cases hs
    rename_i z0 s hle htk hsrc
    split at hs
    rotate_left
    · cases hs
    rename_i zm r htm hr
    have hle' := Nat.le_of_ble_eq_true hle
    obtain ⟨hz, hz0⟩ := takeN_spec _ _ _ htk
    obtain ⟨hzm, hzml⟩ := takeN_spec _ _ _ htm
    have hsv := hE.src (X := X) x
    rw [hsrc] at hsv
    obtain ⟨hev, hpos⟩ := hsv
    -- what the segment at this place says
    have key : ∀ (sg : Seg) (cs1 : List AVal), sg = segS e size s → (segF (sg :: r)).f vs tm = some cs1 →
        ∃ cs', (segF r).f vs tm = some cs' ∧ cs1 = ((acSrc e.n s).f vs tm).cells ++ cs' ∧ (acSrc e.n s).f vs tm ≠ .any ∧ ((acSrc e.n s).f vs tm).cells.length = size := by
      intro sg cs1 hsg hf1
      cases s with
      | pos p => subst hsg; exact segF_part _ _ _ _ _ hf1
      | slot t => subst hsg; exact segF_part _ _ _ _ _ hf1
      | val v =>
        unfold segS at hsg
        simp only at hsg
        cases hc : (notAny v && Nat.beq (lenL (cellsK v)) size) with
        | false => rw [hc] at hsg; subst hsg; exact segF_part _ _ _ _ _ hf1
        | true =>
          rw [hc] at hsg; subst hsg
          rw [Bool.and_eq_true, notAny_eq, lenL_eq, cellsK_eq] at hc
          obtain ⟨cs', h1, h2⟩ := segF_zero _ _ _ _ hf1
          exact ⟨cs', h1, by rw [h2, cellsK_eq]; rfl, hc.1, Nat.eq_of_beq_eq_true hc.2⟩
    have key2 : ∃ cs', (segF r).f vs tm = some cs' ∧ cs = z0 ++ (((acSrc e.n s).f vs tm).cells ++ cs') ∧ (acSrc e.n s).f vs tm ≠ .any ∧ ((acSrc e.n s).f vs tm).cells.length = size := by
      cases hs
      cases z0 with
      | nil =>
        obtain ⟨cs', h1, h2, h3, h4⟩ := key _ cs rfl hf
        exact ⟨cs', h1, h2, h3, h4⟩
      | cons w z0 =>
        obtain ⟨cs1, g1, g2⟩ := segF_zero _ _ _ _ hf
        obtain ⟨cs', h1, h2, h3, h4⟩ := key _ cs1 rfl g1
        exact ⟨cs', h1, by rw [g2, h2], h3, h4⟩
    obtain ⟨cs', c1, c2, c3, c4⟩ := key2
    obtain ⟨ps, e1, e2⟩ := segs_ok parts l' (off + size) (dropN size (dropN (off - pos) z)) (pre ++ z0 ++ ((acSrc e.n s).f vs tm).cells) r cs' hp' hr c1 (by simp [hl, hz0, c4]; omega)
    refine ⟨(i, (acSrc e.n s).f vs tm) :: ps, ?_, ?_⟩
    · have : evParts (evA X loc tm) ((i, x) :: parts) = match evA X loc tm x with | some v => (match evParts (evA X loc tm) parts with | some r => some ((i, v) :: r) | none => none) | none => none := rfl
      rw [this, hev, e1]
    · have hset : setAt (pre ++ z) off ((acSrc e.n s).f vs tm).cells = some (pre ++ z0 ++ ((acSrc e.n s).f vs tm).cells ++ dropN size (dropN (off - pos) z)) := by
        have h1 : pre ++ z = (pre ++ z0) ++ (zm ++ dropN size (dropN (off - pos) z)) := by rw [← hzm, List.append_assoc, ← hz]
        have h2 : off = (pre ++ z0).length := by simp [hl, hz0]; omega
        rw [h1, h2, setAt_mid _ _ _ _ (by rw [c4, hzml])]
        have : off - pos = (pre ++ z0).length - pos := by rw [← h2]
        rw [← this]; simp
      have hfill : fillA place (pre ++ z) ((i, (acSrc e.n s).f vs tm) :: ps) = match place i with
          | none => none
          | some (off, size) => if ((acSrc e.n s).f vs tm).cells.length = size then (match setAt (pre ++ z) off ((acSrc e.n s).f vs tm).cells with | some cs => fillA place cs ps | none => none) else none := by
        cases hv : (acSrc e.n s).f vs tm <;> first | rfl | exact absurd hv c3
      rw [hfill, hpl]
      simp only [c4, if_true, hset]
      rw [e2, c2]; simp

theorem segsFor_ok {place : Nat → Option (Nat × Nat)} {z : List AVal} {parts : List (Nat × Operand)} {segs : List Seg} (h : segsFor X e place z parts = some segs) {cs : List AVal} (hf : (segF segs).f vs tm = some cs) :
    ∃ ps, evParts (evA X loc tm) parts = some ps ∧ fillA place z ps = some cs := by
  unfold segsFor at h
  split at h
  · rename_i l hl
    exact segs_ok hE parts l 0 z [] segs cs hl h hf rfl
  · cases h

theorem kBuild_ok (t : TypeId) (parts : Array (Nat × Operand)) {k : VK} (hk : kBuild P X e t parts.toList = some k) : OpOk P X (.v k) (.build t parts) (evA X loc tm) vs tm := by
  intro h rid v hv
  show (match evParts (evA X loc tm) parts.toList with | some l => v1 h (buildA P t l) | none => none) = _
  unfold kBuild at hk
  rw [zeroK_eq, undK_eq] at hk
  split at hk
  rotate_left
  · cases hk
  rename_i z fs hz hu
  rw [placeK_eq] at hk
  split at hk
  rotate_left
  · cases hk
  rename_i segs hall hsg
  cases hk
  have hv' : bO none agO ((segF segs).f vs tm) = some v := hv
  rw [bO_some] at hv'
  split at hv'
  rotate_left
  · cases hv'
  rename_i cs hcs
  cases hv'
  obtain ⟨ps, h1, h2⟩ := segsFor_ok hE hsg hcs
  rw [h1]
  simp only [sizeK_eq] at hall
  unfold buildA
  rw [hz, hu]
  simp only [hall, if_true, h2]
  rfl

theorem kBuildSlice_ok (t : TypeId) (n : Nat) (parts : Array (Nat × Operand)) {k : AK} (hk : kBuildSlice P X e t n parts.toList = some k) : OpOk P X (.a k) (.buildSlice t n parts) (evA X loc tm) vs tm := by
  intro h rid v h' hv
  show (match evParts (evA X loc tm) parts.toList with | some l => vh (buildSliceA P h rid t n l) | none => none) = _
  unfold kBuildSlice at hk
  rw [undK_eq] at hk
  split at hk
  rotate_left
  · cases hk
  rename_i el hu
  rw [sizeK_eq, zeroK_eq] at hk
  split at hk
  rotate_left
  · cases hk
  rename_i size z hsz hz
  split at hk
  rotate_left
  · cases hk
  rename_i segs hcond hsg
  cases hk
  have hv' : bO none (slK el n h rid) ((segF segs).f vs tm) = some (v, h') := hv
  rw [bO_some] at hv'
  split at hv'
  rotate_left
  · cases hv'
  rename_i cs hcs
  obtain ⟨ps, h1, h2⟩ := segsFor_ok hE hsg hcs
  rw [h1]
  unfold slK at hv'
  rw [bB_eq, allS_eq] at hv'
  split at hv'
  rotate_left
  · cases hv'
  rename_i hall
  cases hv'
  show vh (buildSliceA P h rid t n ps) = _
  unfold buildSliceA
  rw [hu]
  simp only [hsz, hz]
  rw [if_pos hcond, h2]
  simp only [hall, if_true]
  rw [putO_eq]
  unfold rowK newRowA rowOf
  rw [lenL_eq, wrK_eq]; rfl

/-- Any operation. -/
theorem kOp_ok (hn : plainNames P = true) (op : Op) : OpOk P X (kOp P X e op) op (evA X loc tm) vs tm := by
  have gen := kGen_ok (P := P) (X := X) hE op
  unfold kOp
  split
  · split
    · rename_i a ha; exact kLoad_ok hE _ _ ha
    · exact gen
  · split
    · rename_i a x ha hx; exact kStore_ok hE _ _ _ ha hx
    · exact gen
  · split
    · rename_i x hx; exact kFieldAddr_ok hE _ _ _ hx
    · exact gen
  · split
    · rename_i x i hx hi; exact kIndexAddr_ok hE _ _ _ hx hi
    · exact gen
  · split
    · rename_i x y hx hy; exact kBin_ok hE _ _ _ _ _ hx hy
    · exact gen
  · split
    · rename_i c a b hc ha hb; exact kPick_ok hE _ _ _ hc ha hb
    · exact gen
  · split
    · rename_i x hx; exact kExtract_ok hE _ _ hx
    · exact gen
  · split
    · rename_i k hk; exact kBuild_ok hE _ _ hk
    · exact gen
  · split
    · rename_i k hk; exact kBuildSlice_ok hE _ _ _ hk
    · exact gen
  · split
    · rename_i k hk; exact kAlloc_ok hE _ hk
    · exact gen
  · split
    · rename_i x hx; exact kBox_ok hE _ _ hx
    · exact gen
  · split
    · rename_i hc
      split
      · rename_i t ts x ht hx
        split
        · rename_i a ha; exact kLen_ok hE _ hc ht hx ha
        · exact gen
      · exact gen
    · rename_i f hc
      split
      · rename_i fc l hb hl; exact kCall_ok hE hn _ hc hb hl
      · exact gen
    · exact gen
  · exact gen

end
end
end Go.Eng

/- The engine, part Y4: the compiled evaluator is the evaluator: regions. -/
set_option linter.unusedSimpArgs false
set_option linter.unusedSectionVars false
set_option linter.unusedVariables false
namespace Go.Eng

section
variable {P : Program} {X : Cx}

/-- Is a region left so by the evaluator? -/
def ROk (mask : Nat) (tm : T AVal) : CR → Option RRes → Prop
  | .bad, _ => True
  | .norm tm' h, old => ∃ loc, old = some (.ok loc [] h .no) ∧ flush loc mask tm = tm'
  | .pan v h, old => old = some (.pan v [] h .no)
  | .ret _ _, _ => False
  | .exit _ _ _, _ => False

section
variable {call : CallF} {mask : Nat} {tm : T AVal} {ev : Operand → Option AVal}

theorem afterR_ok {dst : Option Nat} {ih : RF} {st : Nat} {vs : Vs} {x : Option (AEnd × AHeap)} {F : AVal → List ADefd → AHeap → UM → Option RRes}
    (hih : ∀ v h', ROk mask tm (ih.f call tm st (pushK dst v vs) h') (F v [] h' .no)) :
    ROk mask tm (bO .bad (afterR dst ih call tm st vs) x) (match (match x with | some (.ret v, h'') => some (ORes.ok v [] h'' .no) | some (.pan v, h'') => some (.pan v [] h'' .no) | none => none) with
      | some (.ok v ds' h' um') => F v ds' h' um'
      | some (.pan v ds' h' um') => some (.pan v ds' h' um')
      | none => none) := by
  cases x with
  | none => trivial
  | some p =>
    obtain ⟨e, h'⟩ := p
    cases e with
    | ret v => exact hih v h'
    | pan v => rfl

/-- An operation, then the rest. -/
theorem stepK_ok {o : OpK} {op : Op} {dst : Option Nat} {k st : Nat} {ih : RF} {vs : Vs} {h : AHeap} (hop : OpOk P X o op ev vs tm) {F : AVal → List ADefd → AHeap → UM → Option RRes}
    (hih : ∀ v h', ROk mask tm (ih.f call tm st (pushK dst v vs) h') (F v [] h' .no)) :
    ROk mask tm ((stepK o dst k ih).f call tm st vs h) (match operA P X call false ev [] h .no (st + k) op with
      | some (.ok v ds' h' um') => F v ds' h' um'
      | some (.pan v ds' h' um') => some (.pan v ds' h' um')
      | none => none) := by
  cases o with
  | v g =>
    have hop' : ∀ h rid v, g.f vs tm h = some v → execA P X ev h rid op = some (.val v h) := hop
    cases hg : g.f vs tm h with
    | none => cases dst <;> (show ROk mask tm (bO .bad _ (g.f vs tm h)) _; rw [hg]; trivial)
    | some v =>
      have he := hop' h (st + k) v hg
      unfold operA
      rw [he]
      cases dst with
      | none => show ROk mask tm (bO .bad (okVn ih call tm st vs h) (g.f vs tm h)) _; rw [hg]; exact hih v h
      | some d => show ROk mask tm (bO .bad (okV ih call tm st vs h) (g.f vs tm h)) _; rw [hg]; exact hih v h
  | a g =>
    have hop' : ∀ h rid v h', g.f vs tm h rid = some (v, h') → execA P X ev h rid op = some (.val v h') := hop
    cases hg : g.f vs tm h (st + k) with
    | none =>
      cases dst with
      | none => show ROk mask tm (bO .bad (okAn ih call tm st vs) (g.f vs tm h (st + k))) _; rw [hg]; trivial
      | some d => show ROk mask tm (bO .bad (okA ih call tm st vs) (g.f vs tm h (st + k))) _; rw [hg]; trivial
    | some p =>
      obtain ⟨v, h'⟩ := p
      have he := hop' h (st + k) v h' hg
      unfold operA
      rw [he]
      cases dst with
      | none => show ROk mask tm (bO .bad (okAn ih call tm st vs) (g.f vs tm h (st + k))) _; rw [hg]; exact hih v h'
      | some d => show ROk mask tm (bO .bad (okA ih call tm st vs) (g.f vs tm h (st + k))) _; rw [hg]; exact hih v h'
  | s g =>
    have hop' : ∀ h rid h', g.f vs tm h = some h' → execA P X ev h rid op = some (.val undefA h') := hop
    cases hg : g.f vs tm h with
    | none =>
      cases dst with
      | none => show ROk mask tm (bO .bad (okH ih call tm st vs) (g.f vs tm h)) _; rw [hg]; trivial
      | some d => show ROk mask tm (bO .bad (okH ih call tm st (.cons undefA vs)) (g.f vs tm h)) _; rw [hg]; trivial
    | some h' =>
      have he := hop' h (st + k) h' hg
      unfold operA
      rw [he]
      cases dst with
      | none => show ROk mask tm (bO .bad (okH ih call tm st vs) (g.f vs tm h)) _; rw [hg]; exact hih undefA h'
      | some d => show ROk mask tm (bO .bad (okH ih call tm st (.cons undefA vs)) (g.f vs tm h)) _; rw [hg]; exact hih undefA h'
  | call f g =>
    have he : execA P X ev h (st + k) op = some (.enter (.fn f) (g.f vs tm) h) := hop h (st + k)
    unfold operA
    rw [he]
    exact afterR_ok hih
  | g g =>
    have he : g.f vs tm h (st + k) = execA P X ev h (st + k) op := hop h (st + k)
    show ROk mask tm (bO .bad (goG dst ih call tm st vs) (g.f vs tm h (st + k))) _
    unfold operA
    rw [he]
    cases execA P X ev h (st + k) op with
    | none => trivial
    | some n =>
      cases n with
      | val v h' => exact hih v h'
      | enter t args h' => exact afterR_ok hih
      | pan v h' => rfl
      | dfr d h' => trivial
      | recover h' => trivial

theorem skipK_ok {dst : Option Nat} {st : Nat} {ih : RF} {vs : Vs} {h : AHeap} {old : Option RRes} (hih : ROk mask tm (ih.f call tm st (pushK dst undefA vs) h) old) : ROk mask tm ((skipK dst ih).f call tm st vs h) old := by
  cases dst with
  | none => exact hih
  | some d => exact hih
end

/-- Another name leaves all as it is. -/
theorem aliasOf_ok {e e' : Env} {vs : Vs} {tm : T AVal} {loc : Loc} (hE : EnvRel e vs tm loc) {o : Oper} (ha : aliasOf X e o = some e') :
    o.guard = none ∧ (o.op = .move (match o.op with | .move x => x | .assign x => x | _ => .const undef) ∨ o.op = .assign (match o.op with | .move x => x | .assign x => x | _ => .const undef)) ∧
    ∃ x v, (o.op = .move x ∨ o.op = .assign x) ∧ evA X loc tm x = some v ∧ EnvRel e' vs tm (pushL o.dst v loc) := by
  unfold aliasOf at ha
  split at ha
  · rename_i d x hg hd ho
    split at ha
    · rename_i s hs
      cases ha
      have hsv := hE.src (X := X) x
      rw [hs] at hsv
      refine ⟨hg, .inl (by rw [ho]), x, _, .inl ho, hsv.1, ?_⟩
      rw [hd]; exact hE.alias d hs hsv.1
    · cases ha
  · rename_i d x hg hd ho
    split at ha
    · rename_i s hs
      cases ha
      have hsv := hE.src (X := X) x
      rw [hs] at hsv
      refine ⟨hg, .inr (by rw [ho]), x, _, .inr ho, hsv.1, ?_⟩
      rw [hd]; exact hE.alias d hs hsv.1
    · cases ha
  · cases ha

theorem wanted_none {ops : Array Oper} {loc : Loc} {tm : T AVal} {o : Oper} (h : o.guard = none) : wantedA ops loc tm o = some true := by unfold wantedA; rw [h]

theorem nextK_eq (op : Op) (st k : Nat) : nextRid P op (st + k) = st + nextK P op k := by
  unfold nextRid nextK
  cases mayAlloc P op <;> rfl

theorem cOps_cons (mask : Nat) (ops : Array Oper) (o : Oper) (l : List Oper) (e : Env) (k : Nat) : (cOps P X mask ops (o :: l)).f e k = (match aliasOf X e o with
      | some e' => (cOps P X mask ops l).f e' k
      | none => stepO P X ops o e k ((cOps P X mask ops l).f (e.push o.dst) (nextK P o.op k))) := rfl

/-- A guard. -/
theorem guard_ok {β : Type} {e : Env} {vs : Vs} {tm : T AVal} {loc : Loc} (hE : EnvRel e vs tm loc) {ops : Array Oper} {o : Oper} {j d : Nat} {want : Bool} (hg : o.guard = some (j, want)) (hd : dstOf ops j = some d) (R : β → Prop) (run skip : CR) (tr sk bad : β → Prop)
    : (wantedA ops loc tm o = some true ∧ onBool (guardB want run skip) (isNilL skip .bad) .bad ((acSrc e.n (e.find d)).f vs tm) = run) ∨
      (wantedA ops loc tm o = some false ∧ onBool (guardB want run skip) (isNilL skip .bad) .bad ((acSrc e.n (e.find d)).f vs tm) = skip) ∨
      onBool (guardB want run skip) (isNilL skip .bad) .bad ((acSrc e.n (e.find d)).f vs tm) = .bad := by
  have h1 := (hE.find d).1
  rw [← h1, onBool_eq]
  unfold wantedA
  rw [hg]
  simp only [hd]
  cases hl : lookL loc d tm with
  | none => exact .inr (.inr rfl)
  | some v =>
    cases v <;> try exact .inr (.inr rfl)
    · rename_i b
      show (some (b == want) = some true ∧ guardB want run skip b = run) ∨ (some (b == want) = some false ∧ guardB want run skip b = skip) ∨ _
      unfold guardB
      cases hb : (b == want) with
      | true => exact .inl ⟨rfl, rfl⟩
      | false => exact .inr (.inl ⟨rfl, rfl⟩)
    · rename_i l
      cases l with
      | nil => exact .inr (.inl ⟨rfl, rfl⟩)
      | cons => exact .inr (.inr rfl)

variable (hn : plainNames P = true)
include hn

/-- A region's operations in their order. -/
theorem cOps_ok {call : CallF} {mask : Nat} {ops : Array Oper} {tm : T AVal} {st : Nat} : ∀ (l : List Oper) (e : Env) (k : Nat) (vs : Vs) (loc : Loc) (h : AHeap), EnvRel e vs tm loc →
    ROk mask tm (((cOps P X mask ops l).f e k).f call tm st vs h) ((compOps P X call false ops l).f tm (st + k) loc [] h .no)
  | [], e, k, vs, loc, h, hE => ⟨loc, rfl, (flushC_eq mask hE.loc).symm⟩
  | o :: l, e, k, vs, loc, h, hE => by
    rw [compOps_cons, cOps_cons]
    cases ha : aliasOf X e o with
    | some e' =>
      obtain ⟨hg, _, x, v, hop, hv, hE'⟩ := aliasOf_ok hE ha
      rw [wanted_none hg]
      have hex : operA P X call false (evA X loc tm) [] h .no (st + k) o.op = some (.ok v [] h .no) := by
        unfold operA
        have : execA P X (evA X loc tm) h (st + k) o.op = some (.val v h) := by
          rcases hop with hop | hop <;> (rw [hop]; show v1 h (evA X loc tm x) = _; rw [hv]; rfl)
        rw [this]
      have hnx : nextRid P o.op (st + k) = st + k := by rcases hop with hop | hop <;> (rw [hop]; rfl)
      simp only [hex, hnx]
      exact cOps_ok l e' k vs _ h hE'
    | none =>
      have ih : ∀ v h', ROk mask tm (((cOps P X mask ops l).f (e.push o.dst) (nextK P o.op k)).f call tm st (pushK o.dst v vs) h') ((compOps P X call false ops l).f tm (nextRid P o.op (st + k)) (pushL o.dst v loc) [] h' .no) := by
        intro v h'
        rw [nextK_eq]
        exact cOps_ok l _ _ _ _ h' (hE.push o.dst v)
      have hrun := stepK_ok (P := P) (X := X) (call := call) (mask := mask) (st := st) (k := k) (dst := o.dst) (h := h) (kOp_ok hE hn o.op) (F := fun v ds' h' um' => (compOps P X call false ops l).f tm (nextRid P o.op (st + k)) (pushL o.dst v loc) ds' h' um') ih
      show ROk mask tm ((stepO P X ops o e k ((cOps P X mask ops l).f (e.push o.dst) (nextK P o.op k))).f call tm st vs h) _
      unfold stepO
      split
      · rename_i hg
        rw [wanted_none hg]
        exact hrun
      · rename_i j want hg
        split
        · rename_i d hd
          rcases guard_ok (β := Unit) hE hg hd (fun _ => True) ((stepK (kOp P X e o.op) o.dst k ((cOps P X mask ops l).f (e.push o.dst) (nextK P o.op k))).f call tm st vs h) ((skipK o.dst ((cOps P X mask ops l).f (e.push o.dst) (nextK P o.op k))).f call tm st vs h)
            (fun _ => True) (fun _ => True) (fun _ => True) with ⟨h1, h2⟩ | ⟨h1, h2⟩ | h2
          · show ROk mask tm (onBool _ _ _ _) _
            rw [h2, h1]; exact hrun
          · show ROk mask tm (onBool _ _ _ _) _
            rw [h2, h1]; exact skipK_ok (ih undefA h)
          · show ROk mask tm (onBool _ _ _ _) _
            rw [h2]; trivial
        · trivial

end
end Go.Eng

/- The engine, part Y5: the compiled evaluator is the evaluator: regions whose order is open. -/
set_option linter.unusedSimpArgs false
set_option linter.unusedSectionVars false
set_option linter.unusedVariables false
namespace Go.Eng

theorem eqCap_refl (c : Cap) : eqCap c c = true := by cases c <;> simp [eqCap]
mutual
theorem beqV_refl : ∀ v : AVal, beqV v v = true
  | .bool _ => by simp [beqV]
  | .int k n => by simp [beqV, eqI_eq]
  | .str _ _ => by simp [beqV]
  | .ptr _ _ => by simp [beqV]
  | .nptr => rfl
  | .slc _ _ _ c => by simp [beqV, eqCap_refl c]
  | .nslc => rfl
  | .map _ => by simp [beqV]
  | .nmap => rfl
  | .func f a c => by simp [beqV, beqVs_refl a, beqVs_refl c]
  | .yield _ => by simp [beqV]
  | .nfunc => rfl
  | .iface t v => by simp [beqV, beqV_refl v]
  | .niface => rfl
  | .agg l => by simp [beqV, beqVs_refl l]
  | .tup l => by simp [beqV, beqVs_refl l]
  | .sym _ => by simp [beqV]
  | .any => rfl
theorem beqVs_refl : ∀ l : List AVal, beqVs l l = true
  | [] => rfl
  | v :: l => by simp [beqVs, beqV_refl v, beqVs_refl l]
end

section
variable {P : Program} {X : Cx}

/-! ### Regions that only read -/
set_option maxHeartbeats 1000000 in
theorem read_rid {ev : Operand → Option AVal} {op : Op} {h : AHeap} (hc : clsOf P op = .read) (rid rid2 : Nat) : execA P X ev h rid op = execA P X ev h rid2 op := by
  unfold execA
  cases op
  case load t a => rfl
  case lookup t x k ok => rfl
  case convert s d x =>
    show (match ev x with | some a => vh (convA P X.facts h rid s d a) | none => none) = (match ev x with | some a => vh (convA P X.facts h rid2 s d a) | none => none)
    have hd : ∀ el, P.underlying d ≠ some (.slice el) := by
      intro el hel
      simp only [clsOf] at hc
      rw [hel] at hc
      split at hc <;> simp_all
    cases ev x with
    | none => rfl
    | some a =>
      show vh (convA P X.facts h rid s d a) = vh (convA P X.facts h rid2 s d a)
      congr 1
      cases a <;> try rfl
      unfold convA
      simp only
      split
      · rfl
      · rename_i hel; exact absurd hel (hd _)
      · rfl
  case call c =>
    obtain ⟨callee, args, argTypes⟩ := c
    cases callee with
    | builtin b =>
      cases b <;> simp [clsOf] at hc
      show callA P X ev h rid _ = callA P X ev h rid2 _
      unfold callA
      cases evs ev args.toList with
      | none => rfl
      | some l =>
        show builtinA P X h rid .len argTypes.toList l = builtinA P X h rid2 .len argTypes.toList l
        cases argTypes.toList with
        | nil => rfl
        | cons t ts =>
          match l with
          | [] => rfl
          | [x] => rfl
          | x :: y :: r => rfl
    | _ => simp [clsOf] at hc
  all_goals (simp [clsOf] at hc)

/-- An operation that only reads: whatever the next block's number is. -/
theorem quiet_exec {ev : Operand → Option AVal} {op : Op} {h : AHeap} {rid : Nat} {n : ANext} (hq : clsOf P op = .pure ∨ clsOf P op = .read) (hx : execA P X ev h rid op = some n) (hv : ∃ v h', n = .val v h') :
    ∃ v, n = .val v h ∧ ∀ rid2, execA P X ev h rid2 op = some (.val v h) := by
  obtain ⟨v, h', rfl⟩ := hv
  rcases hq with hq | hq
  · have h0 := pure_any hq hx h rid
    rw [hx] at h0
    cases h0
    exact ⟨v, rfl, fun rid2 => pure_any hq hx h rid2⟩
  · obtain ⟨w, hw⟩ := read_heap hq hx
    cases hw
    exact ⟨v, rfl, fun rid2 => by rw [read_rid hq rid2 rid]; exact hx⟩

theorem quiet_noalloc {op : Op} (hq : clsOf P op = .pure ∨ clsOf P op = .read) : mayAlloc P op = false := cls_noalloc hq

/-- An operation that only reads, then the rest. -/
theorem stepQ_ok {call : CallF} {mask : Nat} {tm : T AVal} {ev : Operand → Option AVal} {o : OpK} {op : Op} {dst : Option Nat} {k st : Nat} {ih : RF} {vs : Vs} {h : AHeap} (hop : OpOk P X o op ev vs tm) (hq : clsOf P op = .pure ∨ clsOf P op = .read)
    (hnp : ∀ n, execA P X ev h (st + k) op = some n → ∃ v h', n = .val v h') {old : Option RRes}
    (hih : ∀ v, (∀ rid, execA P X ev h rid op = some (.val v h)) → ROk mask tm (ih.f call tm st (pushK dst v vs) h) old) :
    ROk mask tm ((stepK o dst k ih).f call tm st vs h) old := by
  cases o with
  | v g =>
    have hop' : ∀ h rid v, g.f vs tm h = some v → execA P X ev h rid op = some (.val v h) := hop
    cases hg : g.f vs tm h with
    | none => cases dst <;> (show ROk mask tm (bO .bad _ (g.f vs tm h)) _; rw [hg]; trivial)
    | some v =>
      have he := fun rid => hop' h rid v hg
      cases dst with
      | none => show ROk mask tm (bO .bad (okVn ih call tm st vs h) (g.f vs tm h)) _; rw [hg]; exact hih v he
      | some d => show ROk mask tm (bO .bad (okV ih call tm st vs h) (g.f vs tm h)) _; rw [hg]; exact hih v he
  | a g =>
    have hop' : ∀ h rid v h', g.f vs tm h rid = some (v, h') → execA P X ev h rid op = some (.val v h') := hop
    cases hg : g.f vs tm h (st + k) with
    | none =>
      cases dst with
      | none => show ROk mask tm (bO .bad (okAn ih call tm st vs) (g.f vs tm h (st + k))) _; rw [hg]; trivial
      | some d => show ROk mask tm (bO .bad (okA ih call tm st vs) (g.f vs tm h (st + k))) _; rw [hg]; trivial
    | some p =>
      obtain ⟨v, h'⟩ := p
      have he := hop' h (st + k) v h' hg
      obtain ⟨w, h1, h2⟩ := quiet_exec hq he ⟨v, h', rfl⟩
      cases h1
      cases dst with
      | none => show ROk mask tm (bO .bad (okAn ih call tm st vs) (g.f vs tm h (st + k))) _; rw [hg]; exact hih v h2
      | some d => show ROk mask tm (bO .bad (okA ih call tm st vs) (g.f vs tm h (st + k))) _; rw [hg]; exact hih v h2
  | s g =>
    have hop' : ∀ h rid h', g.f vs tm h = some h' → execA P X ev h rid op = some (.val undefA h') := hop
    cases hg : g.f vs tm h with
    | none =>
      cases dst with
      | none => show ROk mask tm (bO .bad (okH ih call tm st vs) (g.f vs tm h)) _; rw [hg]; trivial
      | some d => show ROk mask tm (bO .bad (okH ih call tm st (.cons undefA vs)) (g.f vs tm h)) _; rw [hg]; trivial
    | some h' =>
      have he := hop' h (st + k) h' hg
      obtain ⟨w, h1, h2⟩ := quiet_exec hq he ⟨_, h', rfl⟩
      cases h1
      cases dst with
      | none => show ROk mask tm (bO .bad (okH ih call tm st vs) (g.f vs tm h)) _; rw [hg]; exact hih undefA h2
      | some d => show ROk mask tm (bO .bad (okH ih call tm st (.cons undefA vs)) (g.f vs tm h)) _; rw [hg]; exact hih undefA h2
  | call f g =>
    have he : execA P X ev h (st + k) op = some (.enter (.fn f) (g.f vs tm) h) := hop h (st + k)
    obtain ⟨v, h', h1⟩ := hnp _ he
    cases h1
  | g g =>
    have he : g.f vs tm h (st + k) = execA P X ev h (st + k) op := hop h (st + k)
    show ROk mask tm (bO .bad (goG dst ih call tm st vs) (g.f vs tm h (st + k))) _
    rw [he]
    cases hx : execA P X ev h (st + k) op with
    | none => trivial
    | some n =>
      obtain ⟨w, h', h1⟩ := hnp n hx
      obtain ⟨v, h2, h3⟩ := quiet_exec hq hx ⟨w, h', h1⟩
      subst h2
      exact hih v h3

set_option maxHeartbeats 1000000 in
/-- What only reads neither calls nor panics. -/
theorem quiet_val {ev : Operand → Option AVal} {op : Op} {h : AHeap} {rid : Nat} {n : ANext} (hq : clsOf P op = .pure ∨ clsOf P op = .read) (hx : execA P X ev h rid op = some n) : ∃ v h', n = .val v h' := by
  rcases hq with hq | hq
  · unfold execA at hx
    have hv1 : ∀ {a : Option AVal}, v1 h a = some n → ∃ v h', n = .val v h' := fun {a} h1 => by obtain ⟨v, _, h2⟩ := v1_of h1; exact ⟨v, h, h2⟩
    have hvh : ∀ {a : Option (AVal × AHeap)}, vh a = some n → ∃ v h', n = .val v h' := fun {a} h1 => by obtain ⟨v, h', _, h2⟩ := vh_of h1; exact ⟨v, h', h2⟩
    cases op
    case nilCheck x =>
      simp only [compOp] at hx
      split at hx <;> first | (cases hx; exact ⟨_, _, rfl⟩) | cases hx
    case makeInterface t x =>
      simp only [compOp] at hx
      split at hx <;> first | (cases hx; exact ⟨_, _, rfl⟩) | cases hx
    case makeFunc f a c =>
      cases f <;> simp only [compOp] at hx
      · split at hx <;> first | (cases hx; exact ⟨_, _, rfl⟩) | cases hx
      all_goals cases hx
    case call c =>
      obtain ⟨callee, args, argTypes⟩ := c
      cases callee with
      | builtin b =>
        simp only [compOp] at hx
        unfold callA at hx
        split at hx
        · cases hx
        · simp only at hx
          unfold builtinA at hx
          cases b <;> simp [clsOf] at hq <;> split at hx <;> first | contradiction | exact hv1 hx | exact hvh hx | (cases hx; done) | simp_all
      | _ => simp [clsOf] at hq
    all_goals (try (simp [clsOf] at hq; done))
    all_goals (simp only [compOp] at hx)
    all_goals (first | exact hv1 hx | (split at hx <;> first | exact hv1 hx | exact hvh hx | cases hx))
  · obtain ⟨v, h1⟩ := read_heap hq hx
    exact ⟨v, h, h1⟩

variable (hn : plainNames P = true)
include hn

theorem quiet_ok {call : CallF} {mask : Nat} {ops : Array Oper} {tm : T AVal} {st : Nat} : ∀ (l : List (Oper × Nat)) (e : Env) (i k : Nat) (vs : Vs) (loc : Loc) (h : AHeap) (rs : List Rd), (l.map (·.1)).all (quietOp P) = true → EnvRel e vs tm loc →
    (∀ r ∈ rs, readsAs P X tm h r = true) →
    ROk mask tm (((cOps P X mask ops (l.map (·.1))).f e k).f call tm st vs h) ((compDraw P X call false ops l).f tm i (st + k) ⟨loc, [], h, .no, [], [], [], rs⟩)
  | [], e, i, k, vs, loc, h, rs, hq, hE, hrs => by
    have hend : (compDraw P X call false ops []).f tm i (st + k) ⟨loc, [], h, .no, [], [], [], rs⟩ = some (.ok loc [] h .no) := by
      show endDraw P X tm ⟨loc, [], h, .no, [], [], [], rs⟩ = _
      unfold endDraw
      have h1 : ∀ rs : List Rd, (∀ r ∈ rs, readsAs P X tm h r = true) → readsOk P X tm (commitAll (openAt [] []) h) none [] rs = true := by
        intro rs
        induction rs with
        | nil => intro _; rfl
        | cons r rs ih =>
          intro hr
          have h2 : readsAs P X tm h r = true := hr r (by simp)
          have h3 := ih (fun q hq => hr q (by simp [hq]))
          show ((false || ahead r [] || readsAs P X tm (commitAll (openAt [] []) h) r) && readsOk P X tm (commitAll (openAt [] []) h) none [] rs) = true
          rw [h3]
          have h4 : readsAs P X tm (commitAll (openAt [] []) h) r = true := h2
          rw [h4]; simp
      have h2 := h1 rs hrs
      simp only
      rw [h2]
      rfl
    show ROk mask tm (.norm ((flushC mask e.n e.E).f vs tm) h) _
    rw [hend]
    exact ⟨loc, rfl, (flushC_eq mask hE.loc).symm⟩
  | om :: l, e, i, k, vs, loc, h, rs, hq, hE, hrs => by
    rw [compDraw_cons]
    have hq' : (quietOp P om.1 && (l.map (·.1)).all (quietOp P)) = true := by simpa using hq
    rw [Bool.and_eq_true] at hq'
    obtain ⟨hq1, hq2⟩ := hq'
    have hcls : clsOf P om.1.op = .pure ∨ clsOf P om.1.op = .read := by
      unfold quietOp at hq1
      split at hq1
      · rename_i hc; exact .inl hc
      · rename_i hc; exact .inr hc
      · cases hq1
    have hnx : nextRid P om.1.op (st + k) = st + nextK P om.1.op k := nextK_eq _ _ _
    show ROk mask tm (((cOps P X mask ops (om.1 :: l.map (·.1))).f e k).f call tm st vs h) _
    rw [cOps_cons]
    -- on behind an operation
    have on : ∀ v, (∀ rid, execA P X (evA X loc tm) h rid om.1.op = some (.val v h)) → ∀ (e' : Env) (k' : Nat) (vs' : Vs), EnvRel e' vs' tm (pushL om.1.dst v loc) → st + k' = nextRid P om.1.op (st + k) →
        ROk mask tm (((cOps P X mask ops (l.map (·.1))).f e' k').f call tm st vs' h) (match clsOf P om.1.op with
          | .pure =>
            match execA P X (evA X loc tm) h 0 om.1.op with
            | some (.val v _) => (compDraw P X call false ops l).f tm (Nat.succ i) (nextRid P om.1.op (st + k)) ⟨pushL om.1.dst v loc, [], h, .no, [], [], [], rs⟩
            | _ => none
          | .alloc =>
            match execA P X (evA X loc tm) h (st + k) om.1.op with
            | some (.val v h') =>
              match h'.get (st + k) with
              | some obj => (compDraw P X call false ops l).f tm (Nat.succ i) (nextRid P om.1.op (st + k)) ⟨pushL om.1.dst v loc, [], h, .no, [⟨i, st + k, obj⟩], [⟨i, st + k, obj⟩], [], rs⟩
              | none => none
            | _ => none
          | .read =>
            match execA P X (evA X loc tm) (commitAll [] h) 0 om.1.op with
            | some (.val v _) => (compDraw P X call false ops l).f tm (Nat.succ i) (nextRid P om.1.op (st + k)) ⟨pushL om.1.dst v loc, [], h, .no, [], [], [], ⟨i, om.2, om.1.op, loc, v⟩ :: rs⟩
            | _ => none
          | .eff =>
            match lastEff om.2 [] with
            | false => none
            | true =>
              match operA P X call false (evA X loc tm) [] (commit om.2 [] h) .no (st + k) om.1.op with
              | some (.ok v ds h2 um) => (compDraw P X call false ops l).f tm (Nat.succ i) (nextRid P om.1.op (st + k)) ⟨pushL om.1.dst v loc, ds, h2, um, keep om.2 [], [], [⟨i, om.2, h⟩], rs⟩
              | some (.pan v ds h2 um) =>
                match panOk P X ops tm i om.2 l (nextRid P om.1.op (st + k)) ⟨loc, [], h, .no, [], [], [], rs⟩ with
                | true => some (.pan v ds h2 um)
                | false => none
              | none => none) := by
      intro v hv e' k' vs' hE' hk'
      rw [← hk']
      rcases hcls with hc | hc
      · rw [hc]
        simp only [hv 0]
        exact quiet_ok l e' (i + 1) k' vs' _ h rs hq2 hE' hrs
      · rw [hc]
        have hv0 : execA P X (evA X loc tm) (commitAll [] h) 0 om.1.op = some (.val v h) := hv 0
        simp only [hv0]
        refine quiet_ok l e' (i + 1) k' vs' _ h _ hq2 hE' ?_
        intro r hr
        rcases List.mem_cons.1 hr with rfl | hr
        · unfold readsAs
          rw [hv 0]; exact beqV_refl v
        · exact hrs r hr
    cases ha : aliasOf X e om.1 with
    | some e' =>
      obtain ⟨hg, _, x, v, hop, hv, hE'⟩ := aliasOf_ok hE ha
      rw [wanted_none hg]
      have hv' : ∀ rid, execA P X (evA X loc tm) h rid om.1.op = some (.val v h) := by
        intro rid
        rcases hop with hop | hop <;> (rw [hop]; show v1 h (evA X loc tm x) = _; rw [hv]; rfl)
      exact on v hv' e' k vs hE' (by rcases hop with hop | hop <;> (rw [hop]; rfl))
    | none =>
      show ROk mask tm ((stepO P X ops om.1 e k ((cOps P X mask ops (l.map (·.1))).f (e.push om.1.dst) (nextK P om.1.op k))).f call tm st vs h) _
      have hrun := fun (old : Option RRes) hih => stepQ_ok (P := P) (X := X) (call := call) (mask := mask) (st := st) (k := k) (dst := om.1.dst) (ih := (cOps P X mask ops (l.map (·.1))).f (e.push om.1.dst) (nextK P om.1.op k)) (h := h) (kOp_ok hE hn om.1.op) hcls (fun n hx => quiet_val hcls hx) (old := old) hih
      have hskip : ROk mask tm ((skipK om.1.dst ((cOps P X mask ops (l.map (·.1))).f (e.push om.1.dst) (nextK P om.1.op k))).f call tm st vs h) ((compDraw P X call false ops l).f tm (Nat.succ i) (nextRid P om.1.op (st + k)) ⟨pushL om.1.dst undefA loc, [], h, .no, [], [], [], rs⟩) := by
        rw [hnx]
        exact skipK_ok (quiet_ok l _ (i + 1) _ _ _ h rs hq2 (hE.push om.1.dst undefA) hrs)
      unfold stepO
      split
      · rename_i hg
        rw [wanted_none hg]
        exact hrun _ (fun v hv => on v hv _ _ _ (hE.push om.1.dst v) hnx.symm)
      · rename_i j want hg
        split
        · rename_i d hd
          rcases guard_ok (β := Unit) hE hg hd (fun _ => True) ((stepK (kOp P X e om.1.op) om.1.dst k ((cOps P X mask ops (l.map (·.1))).f (e.push om.1.dst) (nextK P om.1.op k))).f call tm st vs h) ((skipK om.1.dst ((cOps P X mask ops (l.map (·.1))).f (e.push om.1.dst) (nextK P om.1.op k))).f call tm st vs h)
            (fun _ => True) (fun _ => True) (fun _ => True) with ⟨h1, h2⟩ | ⟨h1, h2⟩ | h2
          · show ROk mask tm (onBool _ _ _ _) _
            rw [h2, h1]; exact hrun _ (fun v hv => on v hv _ _ _ (hE.push om.1.dst v) hnx.symm)
          · show ROk mask tm (onBool _ _ _ _) _
            rw [h2, h1]; exact hskip
          · show ROk mask tm (onBool _ _ _ _) _
            rw [h2]; trivial
        · trivial

end
end Go.Eng

/- The engine, part Y6: the compiled evaluator is the evaluator: regions whose order is open, with effects. -/
set_option linter.unusedSimpArgs false
set_option linter.unusedSectionVars false
set_option linter.unusedVariables false
namespace Go.Eng

theorem commitF_eq (m : Nat) (h : AHeap) : ∀ l : List Pd, commitF m l h = commit m l h
  | [] => rfl
  | p :: l => by
    show bB (commitF m l h) (putO (commitF m l h) p.rid p.obj) (bitOf m p.i) = _
    rw [commitF_eq m h l, putO_eq]
    show _ = (match bitOf m p.i with | true => (commit m l h).put p.rid p.obj | false => commit m l h)
    cases bitOf m p.i <;> rfl
theorem commitAllF_eq (h : AHeap) : ∀ l : List Pd, commitAllF l h = commitAll l h
  | [] => rfl
  | p :: l => by
    show putO (commitAllF l h) p.rid p.obj = _
    rw [commitAllF_eq h l, putO_eq]; rfl
theorem keepF_eq (m : Nat) : ∀ l : List Pd, keepF m l = keep m l
  | [] => rfl
  | p :: l => by
    show bB (p :: keepF m l) (keepF m l) (bitOf m p.i) = _
    rw [keepF_eq m l]
    show _ = (match bitOf m p.i with | true => keep m l | false => p :: keep m l)
    cases bitOf m p.i <;> rfl
theorem openF_eq (al : List Pd) : ∀ l : List Sn, openF l al = openAt l al
  | [] => rfl
  | s :: l => by
    show keepF s.m (openF l al) = _
    rw [openF_eq al l, keepF_eq]; rfl
theorem lastF_eq (m : Nat) (l : List Sn) : lastF m l = lastEff m l := by cases l <;> rfl

section
variable {P : Program} {X : Cx}

/-- Reads that are the same. -/
structure RdRel (P : Program) (X : Cx) (tm : T AVal) (a : RdK) (b : Rd) : Prop where
  i : a.i = b.i
  m : a.m = b.m
  v : a.v = b.v
  as : ∀ h v, a.k.f a.vs tm h = some v → ∃ h', execA P X (evA X b.loc tm) h 0 b.op = some (.val v h')

def RdsRel (P : Program) (X : Cx) (tm : T AVal) : List RdK → List Rd → Prop
  | [], [] => True
  | a :: l, b :: l' => RdRel P X tm a b ∧ RdsRel P X tm l l'
  | _, _ => False

variable {tm : T AVal}

theorem asF_ok {a : RdK} {b : Rd} (hr : RdRel P X tm a b) (h : AHeap) (hx : asF tm h a = true) : readsAs P X tm h b = true := by
  unfold asF at hx
  rw [bO_some] at hx
  split at hx
  · rename_i v hv
    obtain ⟨h', he⟩ := hr.as h v hv
    unfold readsAs
    rw [he]
    rw [← hr.v]; exact hx
  · cases hx

def optBit (m : Nat) : Option Nat → Bool
  | some e => bitOf m e
  | none => false
theorem readsOk_cons (h : AHeap) (e : Option Nat) (sn : List Sn) (r : Rd) (rs : List Rd) : readsOk P X tm h e sn (r :: rs) = ((optBit r.m e || ahead r sn || readsAs P X tm h r) && readsOk P X tm h e sn rs) := by
  cases e <;> rfl

theorem readsF_ok (h : AHeap) (e : Option Nat) (sn : List Sn) : ∀ {rs : List RdK} {rs' : List Rd}, RdsRel P X tm rs rs' → readsF tm h e sn rs = true → readsOk P X tm h e sn rs' = true
  | [], [], _, _ => rfl
  | a :: rs, b :: rs', ⟨h1, h2⟩, hx => by
    have hx' : bB (bB (bB false (readsF tm h e sn rs) (asF tm h a)) (readsF tm h e sn rs) (aheadF a sn)) (readsF tm h e sn rs) (bO false (bitOf a.m) e) = true := hx
    have hah : aheadF a sn = ahead b sn := by
      cases sn with
      | nil => rfl
      | cons s l => show bitOf s.m a.i = bitOf s.m b.i; rw [h1.i]
    have he : bO false (bitOf a.m) e = optBit b.m e := by
      cases e with
      | none => rfl
      | some e => show bitOf a.m e = bitOf b.m e; rw [h1.m]
    rw [hah, he] at hx'
    rw [readsOk_cons]
    have rest : readsF tm h e sn rs = true := by
      rw [bB_eq, bB_eq, bB_eq] at hx'
      split at hx'
      · exact hx'
      · split at hx'
        · exact hx'
        · split at hx'
          · exact hx'
          · cases hx'
    rw [readsF_ok h e sn h2 rest]
    rw [Bool.and_true]
    cases hc : optBit b.m e with
    | true => rfl
    | false =>
      cases hd : ahead b sn with
      | true => rfl
      | false =>
        rw [hc, hd] at hx'
        have ha : asF tm h a = true := by
          cases hq : asF tm h a with
          | true => rfl
          | false => rw [hq] at hx'; cases hx'
        rw [asF_ok h1 h ha]; rfl
  | [], _ :: _, h, _ => h.elim
  | _ :: _, [], h, _ => h.elim

theorem snapsF_ok (al : List Pd) {rs : List RdK} {rs' : List Rd} (hr : RdsRel P X tm rs rs') : ∀ (sn : List Sn), snapsF tm al rs sn = true → snapsOk P X tm al rs' sn = true
  | [], _ => rfl
  | s :: l, hx => by
    have hx' : bB false (snapsF tm al rs l) (readsF tm (commitAllF (openF l al) s.h) (some s.e) l rs) = true := hx
    rw [bB_eq] at hx'
    split at hx'
    · rename_i h1
      show (readsOk P X tm (commitAll (openAt l al) s.h) (some s.e) l rs' && snapsOk P X tm al rs' l) = true
      rw [snapsF_ok al hr l hx', commitAllF_eq, openF_eq] at *
      rw [readsF_ok _ _ _ hr h1]; rfl
    · cases hx'

theorem endDraw_ok {mask : Nat} {e : Env} {vs : Vs} {loc : Loc} (hE : EnvRel e vs tm loc) {h : AHeap} {pend al : List Pd} {sn : List Sn} {rs : List RdK} {rs' : List Rd} (hr : RdsRel P X tm rs rs') :
    ROk mask tm (dEnd (flushC mask e.n e.E) tm vs h pend al sn rs) (endDraw P X tm ⟨loc, [], h, .no, pend, al, sn, rs'⟩) := by
  unfold dEnd
  rw [bB_eq]
  split
  · rename_i hc
    rw [Bool.and_eq_true] at hc
    obtain ⟨h1, h2⟩ := hc
    rw [commitAllF_eq, openF_eq] at h1
    have h3 := readsF_ok _ _ _ hr h1
    have h4 := snapsF_ok al hr sn h2
    refine ⟨loc, ?_, (flushC_eq mask hE.loc).symm⟩
    unfold endDraw
    simp only
    rw [h3, h4, commitAllF_eq]; rfl
  · trivial

section
variable {call : CallF} {mask : Nat} {ev : Operand → Option AVal}

theorem vOf_ok {o : OpK} {op : Op} {vs : Vs} (hop : OpOk P X o op ev vs tm) (h : AHeap) (v : AVal) (hv : (vOf o).f vs tm h = some v) : ∃ h', execA P X ev h 0 op = some (.val v h') := by
  cases o with
  | v g => exact ⟨h, hop h 0 v hv⟩
  | a g => cases hv
  | s g => cases hv
  | call f g => cases hv
  | g g =>
    have hv' : bO none valOf (g.f vs tm h 0) = some v := hv
    have he : g.f vs tm h 0 = execA P X ev h 0 op := hop h 0
    rw [he, bO_some] at hv'
    cases hx : execA P X ev h 0 op with
    | none => rw [hx] at hv'; cases hv'
    | some n =>
      rw [hx] at hv'
      cases n <;> first | (cases hv'; exact ⟨_, rfl⟩) | cases hv'

theorem aOf_ok {o : OpK} {op : Op} {vs : Vs} (hop : OpOk P X o op ev vs tm) (h h' : AHeap) (rid : Nat) (v : AVal) (hv : (aOf o).f vs tm h rid = some (v, h')) : execA P X ev h rid op = some (.val v h') := by
  cases o with
  | v g => cases hv
  | a g => exact hop h rid v h' hv
  | s g => cases hv
  | call f g => cases hv
  | g g =>
    have hv' : bO none valOf2 (g.f vs tm h rid) = some (v, h') := hv
    have he : g.f vs tm h rid = execA P X ev h rid op := hop h rid
    rw [he, bO_some] at hv'
    cases hx : execA P X ev h rid op with
    | none => rw [hx] at hv'; cases hv'
    | some n =>
      rw [hx] at hv'
      cases n <;> first | (cases hv'; rfl) | cases hv'

/-- An effect, then the rest. -/
theorem dEff_ok {o : OpK} {op : Op} {dst : Option Nat} {i m k st : Nat} {tl : List (Oper × Nat)} {ih : DF} {vs : Vs} {h : AHeap} {pend al : List Pd} {sn : List Sn} {rs : List RdK} {rs' : List Rd} {ops : Array Oper} {rid0 : Nat} {loc0 : Loc}
    (hr : RdsRel P X tm rs rs') (hop : OpOk P X o op ev vs tm) {F : AVal → List ADefd → AHeap → UM → Option RRes}
    (hih : ∀ v h', ROk mask tm (ih.f call tm st (pushK dst v vs) h' (keepF m pend) al (⟨i, m, h⟩ :: sn) rs) (F v [] h' .no)) :
    ROk mask tm ((dEff o dst i m k tl ih).f call tm st vs h pend al sn rs) (match lastEff m sn with
      | false => none
      | true =>
        match operA P X call false ev [] (commit m pend h) .no (st + k) op with
        | some (.ok v ds h' um) => F v ds h' um
        | some (.pan v ds h' um) =>
          match panOk P X ops tm i m tl rid0 ⟨loc0, [], h, .no, pend, al, sn, rs'⟩ with
          | true => some (.pan v ds h' um)
          | false => none
        | none => none) := by
  have hpan : ∀ v h', ROk mask tm (bB .bad (.pan v h') (allAfter i tl && snapsF tm al rs (⟨i, m, h⟩ :: sn))) (match panOk P X ops tm i m tl rid0 ⟨loc0, [], h, .no, pend, al, sn, rs'⟩ with | true => some (.pan v [] h' .no) | false => none) := by
    intro v h'
    rw [bB_eq]
    split
    · rename_i hc
      rw [Bool.and_eq_true] at hc
      have h1 := snapsF_ok al hr (⟨i, m, h⟩ :: sn) hc.2
      rw [panOk_after P X ops tm hc.1 h1]; rfl
    · trivial
  have hafter : ∀ (x : Option (AEnd × AHeap)), ROk mask tm (bO .bad (dAfter dst i m tl ih call tm st vs h pend al sn rs) x) (match (match x with | some (.ret v, h'') => some (ORes.ok v [] h'' .no) | some (.pan v, h'') => some (.pan v [] h'' .no) | none => none) with
        | some (.ok v ds h' um) => F v ds h' um
        | some (.pan v ds h' um) =>
          match panOk P X ops tm i m tl rid0 ⟨loc0, [], h, .no, pend, al, sn, rs'⟩ with
          | true => some (.pan v ds h' um)
          | false => none
        | none => none) := by
    intro x
    cases x with
    | none => trivial
    | some p =>
      obtain ⟨e, h'⟩ := p
      cases e with
      | ret v => exact hih v h'
      | pan v => exact hpan v h'
  cases hl : lastEff m sn with
  | false =>
    have hl' : lastF m sn = false := by rw [lastF_eq]; exact hl
    cases o with
    | v g => show ROk mask tm (bB .bad _ (lastF m sn)) _; rw [hl']; trivial
    | a g => show ROk mask tm (bB .bad _ (lastF m sn)) _; rw [hl']; trivial
    | s g => show ROk mask tm (bB .bad _ (lastF m sn)) _; rw [hl']; trivial
    | call f g => show ROk mask tm (bB .bad _ (lastF m sn)) _; rw [hl']; trivial
    | g g => show ROk mask tm (bB .bad _ (lastF m sn)) _; rw [hl']; trivial
  | true =>
    have hl' : lastF m sn = true := by rw [lastF_eq]; exact hl
    simp only
    cases o with
    | v g =>
      have hop' : ∀ h rid v, g.f vs tm h = some v → execA P X ev h rid op = some (.val v h) := hop
      show ROk mask tm (bB .bad (bO .bad (fun v => dVal dst i m ih call tm st vs h pend al sn rs v (commitF m pend h)) (g.f vs tm (commitF m pend h))) (lastF m sn)) _
      rw [hl', commitF_eq]
      show ROk mask tm (bO .bad _ (g.f vs tm (commit m pend h))) _
      cases hg : g.f vs tm (commit m pend h) with
      | none => trivial
      | some v =>
        unfold operA
        rw [hop' _ (st + k) v hg]
        exact hih v _
    | a g =>
      have hop' : ∀ h rid v h', g.f vs tm h rid = some (v, h') → execA P X ev h rid op = some (.val v h') := hop
      show ROk mask tm (bB .bad (bO .bad (fun p => Prod.rec (motive := fun _ => CR) (dVal dst i m ih call tm st vs h pend al sn rs) p) (g.f vs tm (commitF m pend h) (st + k))) (lastF m sn)) _
      rw [hl', commitF_eq]
      show ROk mask tm (bO .bad _ (g.f vs tm (commit m pend h) (st + k))) _
      cases hg : g.f vs tm (commit m pend h) (st + k) with
      | none => trivial
      | some p =>
        obtain ⟨v, h'⟩ := p
        unfold operA
        rw [hop' _ (st + k) v h' hg]
        exact hih v h'
    | s g =>
      have hop' : ∀ h rid h', g.f vs tm h = some h' → execA P X ev h rid op = some (.val undefA h') := hop
      show ROk mask tm (bB .bad (bO .bad (dVal dst i m ih call tm st vs h pend al sn rs undefA) (g.f vs tm (commitF m pend h))) (lastF m sn)) _
      rw [hl', commitF_eq]
      show ROk mask tm (bO .bad _ (g.f vs tm (commit m pend h))) _
      cases hg : g.f vs tm (commit m pend h) with
      | none => trivial
      | some h' =>
        unfold operA
        rw [hop' _ (st + k) h' hg]
        exact hih undefA h'
    | call f g =>
      have he : ∀ h rid, execA P X ev h rid op = some (.enter (.fn f) (g.f vs tm) h) := hop
      show ROk mask tm (bB .bad (bO .bad (dAfter dst i m tl ih call tm st vs h pend al sn rs) (call (.fn f) (g.f vs tm) (commitF m pend h))) (lastF m sn)) _
      rw [hl', commitF_eq]
      unfold operA
      rw [he]
      exact hafter _
    | g g =>
      have he : ∀ h rid, g.f vs tm h rid = execA P X ev h rid op := hop
      show ROk mask tm (bB .bad (bO .bad (dGo dst i m tl ih call tm st vs h pend al sn rs) (g.f vs tm (commitF m pend h) (st + k))) (lastF m sn)) _
      rw [hl', commitF_eq, he]
      unfold operA
      cases execA P X ev (commit m pend h) (st + k) op with
      | none => trivial
      | some n =>
        cases n with
        | val v h' => exact hih v h'
        | enter t args h' => exact hafter _
        | pan v h' => exact hpan v h'
        | dfr d h' => trivial
        | recover h' => trivial

theorem dSkip_ok {dst : Option Nat} {st : Nat} {ih : DF} {vs : Vs} {h : AHeap} {pend al : List Pd} {sn : List Sn} {rs : List RdK} {old : Option RRes} (hih : ROk mask tm (ih.f call tm st (pushK dst undefA vs) h pend al sn rs) old) :
    ROk mask tm ((dSkip dst ih).f call tm st vs h pend al sn rs) old := by
  cases dst with
  | none => exact hih
  | some d => exact hih
end

theorem dOps_cons (mask : Nat) (ops : Array Oper) (om : Oper × Nat) (tl : List (Oper × Nat)) (e : Env) (i k : Nat) : (dOps P X mask ops (om :: tl)).f e i k = (match aliasOf X e om.1 with
      | some e' => (dOps P X mask ops tl).f e' (Nat.succ i) k
      | none => dStepO P X ops om.1 e i om.2 k tl ((dOps P X mask ops tl).f (e.push om.1.dst) (Nat.succ i) (nextK P om.1.op k))) := rfl

variable (hn : plainNames P = true)
include hn

theorem dOps_ok {call : CallF} {mask : Nat} {ops : Array Oper} {st : Nat} : ∀ (l : List (Oper × Nat)) (e : Env) (i k : Nat) (vs : Vs) (loc : Loc) (h : AHeap) (pend al : List Pd) (sn : List Sn) (rs : List RdK) (rs' : List Rd), EnvRel e vs tm loc → RdsRel P X tm rs rs' →
    ROk mask tm (((dOps P X mask ops l).f e i k).f call tm st vs h pend al sn rs) ((compDraw P X call false ops l).f tm i (st + k) ⟨loc, [], h, .no, pend, al, sn, rs'⟩)
  | [], e, i, k, vs, loc, h, pend, al, sn, rs, rs', hE, hr => endDraw_ok hE hr
  | om :: tl, e, i, k, vs, loc, h, pend, al, sn, rs, rs', hE, hr => by
    rw [compDraw_cons, dOps_cons]
    cases ha : aliasOf X e om.1 with
    | some e' =>
      obtain ⟨hg, _, x, v, hop, hv, hE'⟩ := aliasOf_ok hE ha
      rw [wanted_none hg]
      have hcl : clsOf P om.1.op = .pure := by rcases hop with hop | hop <;> (rw [hop]; rfl)
      have hex : execA P X (evA X loc tm) h 0 om.1.op = some (.val v h) := by
        rcases hop with hop | hop <;> (rw [hop]; show v1 h (evA X loc tm x) = _; rw [hv]; rfl)
      have hnx : nextRid P om.1.op (st + k) = st + k := by rcases hop with hop | hop <;> (rw [hop]; rfl)
      simp only [hcl, hex, hnx]
      exact dOps_ok tl e' (i + 1) k vs _ h pend al sn rs rs' hE' hr
    | none =>
      show ROk mask tm ((dStepO P X ops om.1 e i om.2 k tl ((dOps P X mask ops tl).f (e.push om.1.dst) (Nat.succ i) (nextK P om.1.op k))).f call tm st vs h pend al sn rs) _
      have hnx : nextRid P om.1.op (st + k) = st + nextK P om.1.op k := nextK_eq _ _ _
      have hop := kOp_ok (P := P) (X := X) hE hn om.1.op
      have ih : ∀ v h' pend' al' sn' rs2 rs2', RdsRel P X tm rs2 rs2' → ROk mask tm (((dOps P X mask ops tl).f (e.push om.1.dst) (Nat.succ i) (nextK P om.1.op k)).f call tm st (pushK om.1.dst v vs) h' pend' al' sn' rs2)
          ((compDraw P X call false ops tl).f tm (Nat.succ i) (nextRid P om.1.op (st + k)) ⟨pushL om.1.dst v loc, [], h', .no, pend', al', sn', rs2'⟩) := by
        intro v h' pend' al' sn' rs2 rs2' h2
        rw [hnx]
        exact dOps_ok tl _ (i + 1) _ _ _ h' pend' al' sn' rs2 rs2' (hE.push om.1.dst v) h2
      have hrun : ROk mask tm ((dStep (kOp P X e om.1.op) (clsOf P om.1.op) om.1.dst i om.2 k tl ((dOps P X mask ops tl).f (e.push om.1.dst) (Nat.succ i) (nextK P om.1.op k))).f call tm st vs h pend al sn rs)
          (match clsOf P om.1.op with
            | .pure =>
              match execA P X (evA X loc tm) h 0 om.1.op with
              | some (.val v _) => (compDraw P X call false ops tl).f tm (Nat.succ i) (nextRid P om.1.op (st + k)) ⟨pushL om.1.dst v loc, [], h, .no, pend, al, sn, rs'⟩
              | _ => none
            | .alloc =>
              match execA P X (evA X loc tm) h (st + k) om.1.op with
              | some (.val v h') =>
                match h'.get (st + k) with
                | some obj => (compDraw P X call false ops tl).f tm (Nat.succ i) (nextRid P om.1.op (st + k)) ⟨pushL om.1.dst v loc, [], h, .no, ⟨i, st + k, obj⟩ :: pend, ⟨i, st + k, obj⟩ :: al, sn, rs'⟩
                | none => none
              | _ => none
            | .read =>
              match execA P X (evA X loc tm) (commitAll pend h) 0 om.1.op with
              | some (.val v _) => (compDraw P X call false ops tl).f tm (Nat.succ i) (nextRid P om.1.op (st + k)) ⟨pushL om.1.dst v loc, [], h, .no, pend, al, sn, ⟨i, om.2, om.1.op, loc, v⟩ :: rs'⟩
              | _ => none
            | .eff =>
              match lastEff om.2 sn with
              | false => none
              | true =>
                match operA P X call false (evA X loc tm) [] (commit om.2 pend h) .no (st + k) om.1.op with
                | some (.ok v ds h2 um) => (compDraw P X call false ops tl).f tm (Nat.succ i) (nextRid P om.1.op (st + k)) ⟨pushL om.1.dst v loc, ds, h2, um, keep om.2 pend, al, ⟨i, om.2, h⟩ :: sn, rs'⟩
                | some (.pan v ds h2 um) =>
                  match panOk P X ops tm i om.2 tl (nextRid P om.1.op (st + k)) ⟨loc, [], h, .no, pend, al, sn, rs'⟩ with
                  | true => some (.pan v ds h2 um)
                  | false => none
                | none => none) := by
        unfold dStep
        cases clsOf P om.1.op with
        | pure =>
          show ROk mask tm (bO .bad (dPure om.1.dst _ call tm st vs h pend al sn rs) ((vOf (kOp P X e om.1.op)).f vs tm h)) _
          cases hv : (vOf (kOp P X e om.1.op)).f vs tm h with
          | none => trivial
          | some v =>
            obtain ⟨h', he⟩ := vOf_ok hop h v hv
            simp only [he]
            exact ih v h pend al sn rs rs' hr
        | alloc =>
          show ROk mask tm (bO .bad (dAlloc om.1.dst i (st + k) _ call tm st vs h pend al sn rs) ((aOf (kOp P X e om.1.op)).f vs tm h (st + k))) _
          cases hv : (aOf (kOp P X e om.1.op)).f vs tm h (st + k) with
          | none => trivial
          | some p =>
            obtain ⟨v, h'⟩ := p
            have he := aOf_ok hop h h' (st + k) v hv
            simp only [he]
            show ROk mask tm (bO .bad (dAlloc2 om.1.dst i (st + k) _ call tm st vs h pend al sn rs v) (getO h' (st + k))) _
            rw [getO_eq]
            cases h'.get (st + k) with
            | none => trivial
            | some obj => exact ih v h _ _ sn rs rs' hr
        | read =>
          show ROk mask tm (bO .bad (dRead om.1.dst i om.2 (vOf (kOp P X e om.1.op)) _ call tm st vs h pend al sn rs) ((vOf (kOp P X e om.1.op)).f vs tm (commitAllF pend h))) _
          rw [commitAllF_eq]
          cases hv : (vOf (kOp P X e om.1.op)).f vs tm (commitAll pend h) with
          | none => trivial
          | some v =>
            obtain ⟨h', he⟩ := vOf_ok hop _ v hv
            simp only [he]
            exact ih v h pend al sn _ _ ⟨⟨rfl, rfl, rfl, fun h2 v2 hv2 => vOf_ok hop h2 v2 hv2⟩, hr⟩
        | eff =>
          refine dEff_ok (P := P) (X := X) hr hop (F := fun v ds h2 um => (compDraw P X call false ops tl).f tm (Nat.succ i) (nextRid P om.1.op (st + k)) ⟨pushL om.1.dst v loc, ds, h2, um, keep om.2 pend, al, ⟨i, om.2, h⟩ :: sn, rs'⟩) ?_
          intro v h'
          rw [keepF_eq]
          exact ih v h' _ al _ rs rs' hr
      unfold dStepO
      split
      · rename_i hg
        rw [wanted_none hg]
        exact hrun
      · rename_i j want hg
        split
        · rename_i d hd
          rcases guard_ok (β := Unit) hE hg hd (fun _ => True) ((dStep (kOp P X e om.1.op) (clsOf P om.1.op) om.1.dst i om.2 k tl ((dOps P X mask ops tl).f (e.push om.1.dst) (Nat.succ i) (nextK P om.1.op k))).f call tm st vs h pend al sn rs)
            ((dSkip om.1.dst ((dOps P X mask ops tl).f (e.push om.1.dst) (Nat.succ i) (nextK P om.1.op k))).f call tm st vs h pend al sn rs) (fun _ => True) (fun _ => True) (fun _ => True) with ⟨h1, h2⟩ | ⟨h1, h2⟩ | h2
          · show ROk mask tm (onBool _ _ _ _) _
            rw [h2, h1]; exact hrun
          · show ROk mask tm (onBool _ _ _ _) _
            rw [h2, h1]; exact dSkip_ok (ih undefA h pend al sn rs rs' hr)
          · show ROk mask tm (onBool _ _ _ _) _
            rw [h2]; trivial
        · trivial

end
end Go.Eng

/- The engine, part Y7: the compiled evaluator is the evaluator: code, functions, calls. -/
set_option linter.unusedSimpArgs false
set_option linter.unusedSectionVars false
set_option linter.unusedVariables false
namespace Go.Eng

section
variable {P : Program} {X : Cx}

theorem cntOps_eq : ∀ (l : List Oper) (n k : Nat), ridsOf P l (n + k) = n + cntOps P l k
  | [], n, k => rfl
  | o :: l, n, k => by
    show ridsOf P l (nextRid P o.op (n + k)) = n + cntOps P l (nextK P o.op k)
    rw [nextK_eq, cntOps_eq l]

theorem planFrom_map : ∀ (l : List Oper) (i : Nat) (t : T Nat), (planFrom l i t).map (·.1) = l
  | [], _, _ => rfl
  | o :: l, i, t => by
    show o :: (planFrom l _ _).map (·.1) = _
    rw [planFrom_map l]

/-- Is a part of code left so by the evaluator? -/
def CROk : CR → Option (AExit × St) → Prop
  | .bad, _ => True
  | .norm tm h, old => old = some (.normal, ⟨tm, [], h, .no⟩)
  | .ret tm h, old => old = some (.ret, ⟨tm, [], h, .no⟩)
  | .exit id tm h, old => old = some (.exit id, ⟨tm, [], h, .no⟩)
  | .pan v h, old => ∃ tm, old = some (.pan v, ⟨tm, [], h, .no⟩)

theorem ROk.code {mask : Nat} {ops : Array Oper} {tm : T AVal} {r : CR} {old : Option RRes} (h : ROk mask tm r old) : CROk r (endRegion mask ops tm old) := by
  cases r with
  | bad => trivial
  | norm tm' h' => obtain ⟨loc, h1, h2⟩ := h; rw [h1]; show some (AExit.normal, _) = _; rw [h2]
  | ret _ _ => exact h.elim
  | exit _ _ _ => exact h.elim
  | pan v h' =>
    have h1 : old = some (.pan v [] h' .no) := h
    rw [h1]; exact ⟨_, rfl⟩

variable (hn : plainNames P = true)
include hn

theorem cRegion_ok {call : CallF} {mask : Nat} {ops : Array Oper} {draw : Bool} (tm : T AVal) (h : AHeap) : CROk ((cRegion P X mask ops draw).f call tm h) ((regionA P X call false mask ops draw).f ⟨tm, [], h, .no⟩) := by
  have hcnt : ridsOf P ops.toList h.next = h.next + cntOps P ops.toList 0 := cntOps_eq ops.toList h.next 0
  unfold cRegion
  cases draw with
  | false =>
    show CROk (((cOps P X mask ops ops.toList).f ⟨[], 0, 0⟩ 0).f call tm h.next .nil ⟨h.next + cntOps P ops.toList 0, h.tr⟩) (endRegion mask ops tm ((compOps P X call false ops ops.toList).f tm h.next .nil [] ⟨ridsOf P ops.toList h.next, h.tr⟩ .no))
    rw [hcnt]
    exact (cOps_ok hn ops.toList ⟨[], 0, 0⟩ 0 .nil .nil _ (.start tm)).code
  | true =>
    have hold : (regionA P X call false mask ops true).f ⟨tm, [], h, .no⟩ = endRegion mask ops tm ((compDraw P X call false ops (plan ops)).f tm 0 h.next ⟨.nil, [], ⟨ridsOf P ops.toList h.next, h.tr⟩, .no, [], [], [], []⟩) := rfl
    rw [hold, hcnt]
    cases hq : ops.toList.all (quietOp P) with
    | true =>
      show CROk (((cOps P X mask ops ops.toList).f ⟨[], 0, 0⟩ 0).f call tm h.next .nil ⟨h.next + cntOps P ops.toList 0, h.tr⟩) _
      have hmap : (plan ops).map (·.1) = ops.toList := planFrom_map _ _ _
      have := quiet_ok (P := P) (X := X) hn (call := call) (mask := mask) (ops := ops) (tm := tm) (st := h.next) (plan ops) ⟨[], 0, 0⟩ 0 0 .nil .nil ⟨h.next + cntOps P ops.toList 0, h.tr⟩ [] (by rw [hmap]; exact hq) (.start tm) (fun r hr => by cases hr)
      rw [hmap] at this
      exact this.code
    | false =>
      show CROk (((dOps P X mask ops (plan ops)).f ⟨[], 0, 0⟩ 0 0).f call tm h.next .nil ⟨h.next + cntOps P ops.toList 0, h.tr⟩ [] [] [] []) _
      exact (dOps_ok hn (plan ops) ⟨[], 0, 0⟩ 0 0 .nil .nil _ [] [] [] [] [] (.start tm) trivial).code

omit hn in
theorem iterF_ok {c : CF} {F : St → Option (AExit × St)} {call : CallF} (hc : ∀ tm h, CROk (c.f call tm h) (F ⟨tm, [], h, .no⟩)) : ∀ (k : Nat) (tm : T AVal) (h : AHeap), CROk ((iterF c k).f call tm h) (iterA F k ⟨tm, [], h, .no⟩)
  | 0, tm, h => hc tm h
  | k + 1, tm, h => by
    have ih := iterF_ok hc k
    show CROk (itK (iterF c k) call ((iterF c k).f call tm h)) (match iterA F k ⟨tm, [], h, .no⟩ with | some (.normal, s') => iterA F k s' | r => r)
    have h1 := ih tm h
    cases hr : (iterF c k).f call tm h with
    | bad => trivial
    | norm tm' h' => rw [hr] at h1; rw [show iterA F k ⟨tm, [], h, .no⟩ = _ from h1]; exact ih tm' h'
    | ret tm' h' => rw [hr] at h1; rw [show iterA F k ⟨tm, [], h, .no⟩ = _ from h1]; rfl
    | exit id tm' h' => rw [hr] at h1; rw [show iterA F k ⟨tm, [], h, .no⟩ = _ from h1]; rfl
    | pan v h' => rw [hr] at h1; obtain ⟨tm', h2⟩ := h1; rw [h2]; exact ⟨tm', rfl⟩

/-- Code. -/
theorem cCode_ok {call : CallF} {mask : Nat} {fn : FuncId} (c : Code) : ∀ (tm : T AVal) (h : AHeap), CROk ((cCode P X mask c).f call tm h) ((compC P X call none mask fn c).f ⟨tm, [], h, .no⟩) := by
  induction c with
  | skip => intro tm h; rfl
  | region id ops draw => intro tm h; exact cRegion_ok hn tm h
  | seq a b iha ihb =>
    intro tm h
    show CROk (seqK (cCode P X mask b) call ((cCode P X mask a).f call tm h)) (match (compC P X call none mask fn a).f ⟨tm, [], h, .no⟩ with | some (.normal, s') => (compC P X call none mask fn b).f s' | r => r)
    have h1 := iha tm h
    cases hr : (cCode P X mask a).f call tm h with
    | bad => trivial
    | norm tm' h' => rw [hr] at h1; rw [show (compC P X call none mask fn a).f ⟨tm, [], h, .no⟩ = _ from h1]; exact ihb tm' h'
    | ret tm' h' => rw [hr] at h1; rw [show (compC P X call none mask fn a).f ⟨tm, [], h, .no⟩ = _ from h1]; rfl
    | exit id tm' h' => rw [hr] at h1; rw [show (compC P X call none mask fn a).f ⟨tm, [], h, .no⟩ = _ from h1]; rfl
    | pan v h' => rw [hr] at h1; obtain ⟨tm', h2⟩ := h1; rw [h2]; exact ⟨tm', rfl⟩
  | cond g a b iha ihb =>
    intro tm h
    show CROk ((match accOf X ⟨[], 0, 0⟩ g with | some x => (⟨fun call tm h => onBool (condK (cCode P X mask a) (cCode P X mask b) call tm h) badL .bad (x.f .nil tm)⟩ : CF) | none => badC).f call tm h)
      (match evA X .nil tm g with | some (.bool true) => (compC P X call none mask fn a).f ⟨tm, [], h, .no⟩ | some (.bool false) => (compC P X call none mask fn b).f ⟨tm, [], h, .no⟩ | _ => none)
    cases hx : accOf X ⟨[], 0, 0⟩ g with
    | none => trivial
    | some x =>
      rw [(EnvRel.start tm).acc hx]
      show CROk (onBool (condK (cCode P X mask a) (cCode P X mask b) call tm h) badL .bad (x.f .nil tm)) _
      rw [onBool_eq]
      cases x.f .nil tm <;> try trivial
      rename_i t
      cases t with
      | true => exact iha tm h
      | false => exact ihb tm h
  | block id c ih =>
    intro tm h
    show CROk (blockK id ((cCode P X mask c).f call tm h)) (blockA id ((compC P X call none mask fn c).f ⟨tm, [], h, .no⟩))
    have h1 := ih tm h
    cases hr : (cCode P X mask c).f call tm h with
    | bad => trivial
    | norm tm' h' => rw [hr] at h1; rw [show (compC P X call none mask fn c).f ⟨tm, [], h, .no⟩ = _ from h1]; rfl
    | ret tm' h' => rw [hr] at h1; rw [show (compC P X call none mask fn c).f ⟨tm, [], h, .no⟩ = _ from h1]; rfl
    | exit id' tm' h' =>
      rw [hr] at h1; rw [show (compC P X call none mask fn c).f ⟨tm, [], h, .no⟩ = _ from h1]
      show CROk (bB (.exit id' tm' h') (.norm tm' h') (Nat.beq id' id)) (match Nat.beq id' id with | true => some (.normal, ⟨tm', [], h', .no⟩) | false => some (.exit id', ⟨tm', [], h', .no⟩))
      cases Nat.beq id' id <;> rfl
    | pan v h' => rw [hr] at h1; obtain ⟨tm', h2⟩ := h1; rw [h2]; exact ⟨tm', rfl⟩
  | loop c ih =>
    intro tm h
    show CROk (endLoopK ((iterF (cCode P X mask c) 20).f call tm h)) (loopA (iterA (compC P X call none mask fn c).f 20 ⟨tm, [], h, .no⟩))
    have h1 := iterF_ok (F := (compC P X call none mask fn c).f) (call := call) ih 20 tm h
    cases hr : (iterF (cCode P X mask c) 20).f call tm h with
    | bad => trivial
    | norm tm' h' => trivial
    | ret tm' h' => rw [hr] at h1; rw [show iterA (compC P X call none mask fn c).f 20 ⟨tm, [], h, .no⟩ = _ from h1]; rfl
    | exit id tm' h' => rw [hr] at h1; rw [show iterA (compC P X call none mask fn c).f 20 ⟨tm, [], h, .no⟩ = _ from h1]; rfl
    | pan v h' => rw [hr] at h1; obtain ⟨tm', h2⟩ := h1; rw [h2]; exact ⟨tm', rfl⟩
  | rangeFunc g ps a b iha ihb => intro tm h; trivial
  | exit id => intro tm h; rfl
  | scope c ih => intro tm h; exact ih tm h
  | label l => intro tm h; rfl
  | goto l => intro tm h; trivial
  | ret => intro tm h; rfl
  | refuse why => intro tm h; trivial

/-! ### Masks -/
omit hn
theorem callL_eq (c : Call) : callL c = c.operands.toList := by
  unfold callL Call.operands
  cases c.callee <;> simp

theorem opL_eq (op : Op) : opL op = op.operands.toList := by
  cases op <;> first | rfl | exact callL_eq _

def bitsOf (w : List Nat) (W : Nat) : Prop := ∀ t, w.contains t = bitOf W t

theorem bitsOf.cons {w : List Nat} {W : Nat} (h : bitsOf w W) (d : Nat) : bitsOf (d :: w) (Nat.lor W (Nat.pow 2 d)) := by
  intro t
  rw [bitOf_lor, bitOf_pow, ← h t, List.contains_cons]
  by_cases hd : d = t
  · subst hd; simp
  · have : (t == d) = false := by simp; exact fun e => hd e.symm
    simp [this, hd]

theorem rdK_eq {w : List Nat} {W : Nat} (h : bitsOf w W) (x : Operand) (l : List Operand) (m : Nat) : readsOf (x :: l) w m = readsOf l w (rdK x W m) := by
  cases x with
  | tmp t =>
    show (if w.contains t then readsOf l w m else readsOf l w (Nat.lor m (Nat.pow 2 t))) = readsOf l w (bB (Nat.lor m (Nat.pow 2 t)) m (bitOf W t))
    rw [h t]
    cases bitOf W t <;> rfl
  | _ => rfl

theorem readsK_eq {w : List Nat} {W : Nat} (h : bitsOf w W) : ∀ (l : List Operand) (m : Nat), readsOf l w m = readsK l W m
  | [], m => rfl
  | x :: l, m => by
    rw [rdK_eq h, readsK_eq h l]; rfl

theorem maskOpsK_eq : ∀ (l : List Oper) (w : List Nat) (W m : Nat), bitsOf w W → maskOps l w m = maskOpsK l W m
  | [], _, _, _, _ => rfl
  | o :: l, w, W, m, h => by
    show maskOps l (match o.dst with | some d => d :: w | none => w) (readsOf o.op.operands.toList w m) = maskOpsK l (dstK o.dst W) (readsK (opL o.op) W m)
    rw [readsK_eq h, opL_eq]
    cases o.dst with
    | none => exact maskOpsK_eq l w W _ h
    | some d => exact maskOpsK_eq l (d :: w) _ _ (h.cons d)

theorem bitsOf_nil : bitsOf [] 0 := fun t => by rw [bitOf_zero]; rfl

theorem maskK_eq (c : Code) : ∀ m, maskOf c m = maskK c m := by
  induction c with
  | region id ops draw => intro m; exact maskOpsK_eq ops.toList [] 0 m bitsOf_nil
  | seq a b iha ihb => intro m; show maskOf b (maskOf a m) = maskK b (maskK a m); rw [iha, ihb]
  | cond g a b iha ihb =>
    intro m
    show maskOf b (maskOf a (readsOf [g] [] m)) = maskK b (maskK a (rdK g 0 m))
    rw [rdK_eq bitsOf_nil, iha, ihb]; rfl
  | block id c ih => intro m; exact ih m
  | loop c ih => intro m; exact ih m
  | scope c ih => intro m; exact ih m
  | rangeFunc g ps a b iha ihb =>
    intro m
    show maskOf b (maskOf a (readsOf [g] [] m)) = maskK b (maskK a (rdK g 0 m))
    rw [rdK_eq bitsOf_nil, iha, ihb]; rfl
  | _ => intro m; rfl

theorem maskFK_eq (fn : Func) (c : Code) : maskFK fn c = maskF fn c := by
  unfold maskFK maskF; rw [maskK_eq]

/-! ### Functions -/
theorem parF_eq (m : Nat) : ∀ (l : List AVal) (i : Nat) (tm : T AVal), parF m l i tm = paramsA l i m tm
  | [], _, _ => rfl
  | v :: l, i, tm => by
    show bB (parF m l (i + 1) tm) (parF m l (i + 1) (setV v tm i)) (bitOf m i) = (match bitOf m i with | true => paramsA l (i + 1) m (T.set v tm i) | false => paramsA l (i + 1) m tm)
    rw [setV_eq, parF_eq m l, parF_eq m l]
    cases bitOf m i <;> rfl

theorem resC_ok (h : AHeap) (tm : T AVal) : ∀ (l : List ResultVar) (vs : List AVal), (resC P l).f h tm = some vs → resultsA P h tm l = some vs
  | [], vs, hx => hx
  | .cell a t :: l, vs, hx => hx
  | .tmp t :: l, vs, hx => by
    have hx' : bO none (resTmp (resC P l) h tm) ((pgT t).f tm) = some vs := hx
    rw [pgT_eq, bO_some] at hx'
    split at hx'
    rotate_left
    · cases hx'
    rename_i v hv
    unfold resTmp at hx'
    rw [bO_some] at hx'
    split at hx'
    rotate_left
    · cases hx'
    rename_i r hr
    cases hx'
    have ih := resC_ok h tm l r hr
    show (match tm.get t, resultsA P h tm l with | some v, some r => some (v :: r) | _, _ => none) = _
    rw [hv, ih]

include hn

theorem cFn_ok {call : CallF} {f : FuncId} {args : List AVal} {h : AHeap} {r : AEnd × AHeap} (hx : (cFn P X f).f call args h = some r) : (compF P X call f).f args h = some r := by
  unfold cFn at hx
  rw [bodyK_eq hn] at hx
  unfold compF
  cases hb : bodyOf P f with
  | none => rw [hb] at hx; cases hx
  | some fc =>
    obtain ⟨fn, c⟩ := fc
    rw [hb] at hx
    have hx' : bB none (endK (resC P fn.results.toList) ((cCode P X (maskFK fn c) c).f call (parF (maskFK fn c) args 0 .leaf) h)) (fits args fn.ntmps) = some r := hx
    rw [maskFK_eq, parF_eq, bB_eq] at hx'
    show (match fits args fn.ntmps with | true => endBody P X call fn (execC P X call none (maskF fn c) f c ⟨paramsA args 0 (maskF fn c) .leaf, [], h, .no⟩) | false => none) = some r
    split at hx'
    rotate_left
    · cases hx'
    rename_i hf
    rw [hf]
    have hc := cCode_ok (P := P) (X := X) hn (call := call) (mask := maskF fn c) (fn := f) c (paramsA args 0 (maskF fn c) .leaf) h
    simp only
    have hdone : ∀ tm' h', doneK (resC P fn.results.toList) tm' h' = some r → Eng.unwind P call (callD P X call) fn tm' [] .ret h' = some r := by
      intro tm' h' hd
      unfold doneK at hd
      rw [bO_some] at hd
      split at hd
      rotate_left
      · cases hd
      rename_i l hl
      have := resC_ok h' tm' _ l hl
      unfold Eng.unwind
      rw [this]; exact hd
    cases hr : (cCode P X (maskF fn c) c).f call (paramsA args 0 (maskF fn c) .leaf) h with
    | bad => rw [hr] at hx'; cases hx'
    | norm tm' h' =>
      rw [hr] at hx' hc
      unfold execC
      rw [show (compC P X call none (maskF fn c) f c).f ⟨paramsA args 0 (maskF fn c) .leaf, [], h, .no⟩ = _ from hc]
      exact hdone tm' h' hx'
    | ret tm' h' =>
      rw [hr] at hx' hc
      unfold execC
      rw [show (compC P X call none (maskF fn c) f c).f ⟨paramsA args 0 (maskF fn c) .leaf, [], h, .no⟩ = _ from hc]
      exact hdone tm' h' hx'
    | exit id tm' h' => rw [hr] at hx'; cases hx'
    | pan v h' =>
      rw [hr] at hx' hc
      obtain ⟨tm', hc⟩ := hc
      unfold execC
      rw [hc]
      have hx2 : some (AEnd.pan v, h') = some r := hx'
      exact hx2

variable {env : Nat → Value} (he : EnvOk env) (hF : ∀ f ∈ X.facts, FactOk P env f) (hmix : P.follows .mixedOrders = true) (hp : progOk P = true)
include he hF hmix hp

/-- The compiled evaluator's calls. -/
theorem callF_ok {ext : CallF} (hext : CallOk P env (okcP P) X.nglob ext) : ∀ n, CallOk P env (okcP P) X.nglob (callF P X ext n)
  | 0 => hext
  | n + 1 => by
    have ih := callF_ok hext n
    refine ⟨?_, ?_⟩
    · intro ρ h w hr hg f args e h' hx hb args' ha cs
      have hx' : bO (bO ((compF P X (callF P X ext n) f).f args h) some ((cFn P X f).f (callF P X ext n) args h)) some (ext (.fn f) args h) = some (e, h') := hx
      rw [bO_some] at hx'
      split at hx'
      · rename_i r hr'
        cases hx'
        exact hext.fn ρ h w hr hg f args e h' hr' hb args' ha cs
      · rw [bO_some] at hx'
        have hc : (compF P X (callF P X ext n) f).f args h = some (e, h') := by
          split at hx'
          · rename_i r hr'
            cases hx'
            exact cFn_ok hn hr'
          · exact hx'
        exact compF_sound he hF hmix hp ih hr hg hc ha cs
    · intro ρ h w hr hg b i args e h' hx hi args' ha
      have hx' : roundA P X (callF P X ext n) b args h = some (e, h') := hx
      exact round_sound he hF hmix hp ih hr hg hi ha hx'

end
end Go.Eng

