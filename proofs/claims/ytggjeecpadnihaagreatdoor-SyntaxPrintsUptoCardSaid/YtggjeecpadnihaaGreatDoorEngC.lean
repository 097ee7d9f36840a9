/- The engine, part C: what abstract values and heaps say of a world; laws of tries, texts and whole numbers. -/
import Derived.Test.YtggjeecpadnihaaGreatDoorEngB
set_option linter.unusedSectionVars false
set_option linter.unusedVariables false
set_option linter.unusedSimpArgs false
namespace Go.Eng

/-! ### Tries -/
section
variable {α : Type}
theorem sel4_eq {β : Type} (a b c d : β) (n : Nat) : sel4 a b c d n = if n = 0 then a else if n = 1 then b else if n = 2 then c else d := by
  match n with
  | 0 => rfl
  | 1 => rfl
  | 2 => rfl
  | n + 3 => rw [if_neg (by omega), if_neg (by omega), if_neg (by omega)]; rfl
@[simp] theorem T.get_leaf (i : Nat) : (T.leaf : T α).get i = none := rfl
@[simp] theorem T.get_node_zero (v : Option α) (a b c d : T α) : (T.node v a b c d).get 0 = v := rfl
theorem T.get_node_succ (v : Option α) (a b c d : T α) (j : Nat) : (T.node v a b c d).get (j + 1) =
    if j % 4 = 0 then a.get (j / 4) else if j % 4 = 1 then b.get (j / 4) else if j % 4 = 2 then c.get (j / 4) else d.get (j / 4) := by
  show sel4 a.get b.get c.get d.get (j % 4) (j / 4) = _
  rw [sel4_eq]
  repeat' split
  all_goals rfl

theorem T.mk_zero (x : α) (f : Nat) : T.mk x f 0 = .node (some x) .leaf .leaf .leaf .leaf := by cases f <;> rfl
theorem T.mk_succ (x : α) (f j : Nat) : T.mk x (f + 1) (j + 1) =
    if j % 4 = 0 then .node none (T.mk x f (j / 4)) .leaf .leaf .leaf else if j % 4 = 1 then .node none .leaf (T.mk x f (j / 4)) .leaf .leaf
    else if j % 4 = 2 then .node none .leaf .leaf (T.mk x f (j / 4)) .leaf else .node none .leaf .leaf .leaf (T.mk x f (j / 4)) := by
  rw [← sel4_eq]; rfl

theorem T.set_leaf (x : α) (i : Nat) : T.set x .leaf i = T.mk x i i := rfl
theorem T.set_node_zero (x : α) (v : Option α) (a b c d : T α) : T.set x (.node v a b c d) 0 = .node (some x) a b c d := rfl
theorem T.set_node_succ (x : α) (v : Option α) (a b c d : T α) (j : Nat) :
    T.set x (.node v a b c d) (j + 1) = if j % 4 = 0 then .node v (T.set x a (j / 4)) b c d else if j % 4 = 1 then .node v a (T.set x b (j / 4)) c d
      else if j % 4 = 2 then .node v a b (T.set x c (j / 4)) d else .node v a b c (T.set x d (j / 4)) := by
  rw [← sel4_eq]; rfl

theorem T.get_mk (x : α) : ∀ (f i : Nat), i ≤ f → ∀ j, (T.mk x f i).get j = if i = j then some x else none := by
  intro f
  induction f with
  | zero =>
    intro i hi j; obtain rfl : i = 0 := by omega
    cases j with
    | zero => simp [T.mk_zero]
    | succ j => simp [T.mk_zero, T.get_node_succ]
  | succ f ih =>
    intro i hi j
    cases i with
    | zero => cases j with
              | zero => simp [T.mk_zero]
              | succ j => simp [T.mk_zero, T.get_node_succ]
    | succ i =>
      rw [T.mk_succ]
      cases j with
      | zero =>
        have hij : ¬ (i + 1 = 0) := by omega
        rw [if_neg hij]
        split
        · rfl
        · split
          · rfl
          · split <;> rfl
      | succ j =>
        have key : (T.mk x f (i / 4)).get (j / 4) = if i / 4 = j / 4 then some x else none := ih _ (by omega) _
        have hlt : i % 4 < 4 := Nat.mod_lt _ (by decide)
        have hlt' : j % 4 < 4 := Nat.mod_lt _ (by decide)
        by_cases h : i % 4 = j % 4
        · have e : (i + 1 = j + 1) ↔ (i / 4 = j / 4) := by omega
          simp only [e, ← key, h]
          by_cases j0 : j % 4 = 0
          · simp only [j0, if_true, T.get_node_succ]
          · by_cases j1 : j % 4 = 1
            · simp [j1, T.get_node_succ]
            · by_cases j2 : j % 4 = 2
              · simp [j2, T.get_node_succ]
              · simp [j0, j1, j2, T.get_node_succ]
        · have e : ¬ (i + 1 = j + 1) := by omega
          rw [if_neg e]
          by_cases i0 : i % 4 = 0
          · have j0 : ¬ j % 4 = 0 := by omega
            simp [i0, j0, T.get_node_succ]
          · by_cases i1 : i % 4 = 1
            · have j1 : ¬ j % 4 = 1 := by omega
              simp [i1, j1, T.get_node_succ]
            · by_cases i2 : i % 4 = 2
              · have j2 : ¬ j % 4 = 2 := by omega
                simp [i2, j2, T.get_node_succ]
              · have j3 : j % 4 = 0 ∨ j % 4 = 1 ∨ j % 4 = 2 := by omega
                rcases j3 with j3 | j3 | j3 <;> simp [i0, i1, i2, j3, T.get_node_succ]

theorem T.get_set (x : α) (t : T α) : ∀ i j, (T.set x t i).get j = if i = j then some x else t.get j := by
  induction t with
  | leaf => intro i j; rw [T.set_leaf, T.get_mk x i i (Nat.le_refl _)]; simp
  | node v a b c d iha ihb ihc ihd =>
    intro i j
    cases i with
    | zero =>
      rw [T.set_node_zero]
      cases j with
      | zero => simp
      | succ j => simp [T.get_node_succ]
    | succ i =>
      rw [T.set_node_succ]
      cases j with
      | zero =>
        have hij : ¬ (i + 1 = 0) := by omega
        rw [if_neg hij]
        split
        · rfl
        · split
          · rfl
          · split <;> rfl
      | succ j =>
        have hlt : i % 4 < 4 := Nat.mod_lt _ (by decide)
        have hlt' : j % 4 < 4 := Nat.mod_lt _ (by decide)
        by_cases h : i % 4 = j % 4
        · have e : (i + 1 = j + 1) ↔ (i / 4 = j / 4) := by omega
          simp only [e, h]
          by_cases j0 : j % 4 = 0
          · simp [j0, T.get_node_succ, iha]
          · by_cases j1 : j % 4 = 1
            · simp [j1, T.get_node_succ, ihb]
            · by_cases j2 : j % 4 = 2
              · simp [j2, T.get_node_succ, ihc]
              · simp [j0, j1, j2, T.get_node_succ, ihd]
        · have e : ¬ (i + 1 = j + 1) := by omega
          rw [if_neg e]
          by_cases i0 : i % 4 = 0
          · have j0 : ¬ j % 4 = 0 := by omega
            simp [i0, j0, T.get_node_succ]
          · by_cases i1 : i % 4 = 1
            · have j1 : ¬ j % 4 = 1 := by omega
              simp [i1, j1, T.get_node_succ]
            · by_cases i2 : i % 4 = 2
              · have j2 : ¬ j % 4 = 2 := by omega
                simp [i2, j2, T.get_node_succ]
              · have j3 : j % 4 = 0 ∨ j % 4 = 1 ∨ j % 4 = 2 := by omega
                rcases j3 with j3 | j3 | j3 <;> simp [i0, i1, i2, j3, T.get_node_succ]

theorem T.get_set_same (x : α) (t : T α) (i : Nat) : (T.set x t i).get i = some x := by simp [T.get_set]
theorem T.get_set_ne (x : α) (t : T α) {i j : Nat} (h : i ≠ j) : (T.set x t i).get j = t.get j := by simp [T.get_set, h]
end

theorem AHeap.get_put (h : AHeap) (b c : Nat) (o : AObj) : (h.put b o).get c = if b = c then some o else h.get c := T.get_set _ _ _ _
@[simp] theorem AHeap.next_put (h : AHeap) (b : Nat) (o : AObj) : (h.put b o).next = h.next := rfl

/-! ### Whole numbers -/
theorem eqI_eq (a b : Int) : eqI a b = (a == b) := by
  cases a <;> cases b <;> simp only [eqI]
  · rename_i m n; rw [Bool.eq_iff_iff]; simp [Nat.beq_eq]; omega
  · rename_i m n; symm; rw [beq_eq_false_iff_ne]; intro h; cases h
  · rename_i m n; symm; rw [beq_eq_false_iff_ne]; intro h; cases h
  · rename_i m n; rw [Bool.eq_iff_iff]; simp [Nat.beq_eq]

theorem leI_eq (a b : Int) : leI a b = decide (a ≤ b) := by
  cases a with
  | ofNat m =>
    cases b with
    | ofNat n => rw [Bool.eq_iff_iff]; simp [leI, Nat.ble_eq]
    | negSucc n =>
      rw [Bool.eq_iff_iff]; simp only [leI, decide_eq_true_eq]; rw [Int.ofNat_eq_natCast]; constructor
      · intro h; cases h
      · intro h; omega
  | negSucc m =>
    cases b with
    | ofNat n =>
      rw [Bool.eq_iff_iff]; simp only [leI, decide_eq_true_eq, true_iff]; rw [Int.ofNat_eq_natCast]; omega
    | negSucc n =>
      rw [Bool.eq_iff_iff]; simp only [leI, Nat.ble_eq, decide_eq_true_eq]; omega

theorem ltI_eq (a b : Int) : ltI a b = decide (a < b) := by
  simp only [ltI, leI_eq]
  rw [Bool.eq_iff_iff]; simp

theorem restOf_eq (k : IntKind) (n : Int) : (restOf k n : Int) = n % (2 ^ k.bits : Int) := by
  have hp : (2 ^ k.bits : Int) = (pw k : Int) := by cases k <;> rfl
  rw [hp]
  have h0 : 0 < pw k := by cases k <;> decide
  cases n with
  | ofNat m => simp only [restOf]; rfl
  | negSucc m =>
    simp only [restOf]
    have hm : m % pw k < pw k := Nat.mod_lt _ h0
    rw [Int.negSucc_emod _ (by omega)]
    show ((pw k - 1 - m % pw k : Nat) : Int) = _
    omega

theorem ofRest_wrap (k : IntKind) (m : Nat) (h : (m : Int) < 2 ^ k.bits) : ofRest k m = k.wrap m := by
  have hp : (2 ^ k.bits : Int) = (pw k : Int) := by cases k <;> rfl
  have hh : (2 ^ (k.bits - 1) : Int) = (hw k : Int) := by cases k <;> rfl
  unfold ofRest IntKind.wrap
  rw [hp] at h
  simp only [hp, hh]
  have e : (m : Int) % (pw k : Int) = m := Int.emod_eq_of_lt (by omega) h
  rw [e]
  cases hs : k.signed with
  | false => simp
  | true =>
    simp only [Bool.true_and, ge_iff_le, decide_eq_true_eq]
    have h0 : 0 < pw k := by cases k <;> decide
    cases hb : Nat.ble (hw k) m with
    | true =>
      have := Nat.le_of_ble_eq_true hb
      rw [if_pos (by omega)]
      show Int.negSucc (pw k - m - 1) = _
      omega
    | false =>
      have : ¬ hw k ≤ m := fun h => by rw [Nat.ble_eq_true_of_le h] at hb; cases hb
      rw [if_neg (by omega)]; rfl

theorem wrap_rest (k : IntKind) (n : Int) : k.wrap (restOf k n) = k.wrap n := by
  unfold IntKind.wrap
  rw [restOf_eq]
  simp

theorem restOf_lt (k : IntKind) (n : Int) : (restOf k n : Int) < 2 ^ k.bits := by
  rw [restOf_eq]
  have h0 : (0 : Int) < 2 ^ k.bits := by cases k <;> decide
  exact Int.emod_lt_of_pos _ h0

theorem wrapF_eq (k : IntKind) (n : Int) : wrapF k n = k.wrap n := by
  unfold wrapF
  rw [ofRest_wrap k _ (restOf_lt k n), wrap_rest]


/-! ### Values and worlds -/
/-- Where an abstract block lies: the world's block, from which cell on, how many cells that has, the size of an element. -/
structure BI where
  blk : Nat
  shift : Nat
  total : Nat
  esz : Nat

abbrev Rho := Nat → Option BI

def byteArr (l n : Nat) : ByteArray := ⟨(bytesL l n).toArray⟩

section
variable (ρ : Rho) (env : Nat → Value)
inductive VRel : AVal → Value → Prop
  | bool (b : Bool) : VRel (.bool b) (.bool b)
  | int (k : IntKind) (n : Int) : VRel (.int k n) (.int k n)
  | str (l n : Nat) : n < 256 ^ l → VRel (.str l n) (.string (byteArr l n))
  | ptr {b : Nat} (o : Nat) {i : BI} : ρ b = some i → VRel (.ptr b o) (.pointer (some ⟨i.blk, i.shift + o, none⟩))
  | nptr : VRel .nptr (.pointer none)
  | slcK {b : Nat} (o len c : Nat) {i : BI} : ρ b = some i → VRel (.slc b o len (.kn c)) (.slice (some ⟨i.blk, i.shift + o, none⟩) len c)
  | slcO {b : Nat} {o len lo c : Nat} {i : BI} : ρ b = some i → len ≤ lo → lo ≤ c → i.shift + o + c * i.esz = i.total → VRel (.slc b o len (.op i.esz lo)) (.slice (some ⟨i.blk, i.shift + o, none⟩) len c)
  | slcE {b : Nat} (o off : Nat) {cap : Cap} {i : BI} : ρ b = some i → (cap = .kn 0 ∨ cap = .op i.esz 0) → VRel (.slc b o 0 cap) (.slice (some ⟨i.blk, off, none⟩) 0 0)
  | nslc : VRel .nslc (.slice none 0 0)
  | map {b : Nat} {i : BI} : ρ b = some i → VRel (.map b) (.map (some i.blk))
  | nmap : VRel .nmap (.map none)
  | func (f : FuncId) {a c : List AVal} {a' c' : List Value} : a.length = a'.length → c.length = c'.length →
      (∀ (i : Nat) v x, a[i]? = some v → a'[i]? = some x → VRel v x) → (∀ (i : Nat) v x, c[i]? = some v → c'[i]? = some x → VRel v x) →
      VRel (.func f a c) (.func (.func f) ⟨a'⟩ ⟨c'⟩)
  | yield {b : Nat} {i : BI} : ρ b = some i → VRel (.yield b) (.func (.yield i.blk) #[] #[])
  | nfunc : VRel .nfunc .nilFunc
  | iface (t : TypeId) {v : AVal} {x : Value} : VRel v x → VRel (.iface t v) (.iface t x)
  | niface : VRel .niface .nilIface
  | agg {l : List AVal} {l' : List Value} : l.length = l'.length → (∀ (i : Nat) v x, l[i]? = some v → l'[i]? = some x → VRel v x) → VRel (.agg l) (.agg ⟨l'⟩)
  | tup {l : List AVal} {l' : List Value} : l.length = l'.length → (∀ (i : Nat) v x, l[i]? = some v → l'[i]? = some x → VRel v x) → VRel (.tup l) (.tuple ⟨l'⟩)
  | sym (i : Nat) : VRel (.sym i) (env i)
  | any (x : Value) : VRel .any x

/-- Lists that go together. -/
def VRels (l : List AVal) (l' : List Value) : Prop := l.length = l'.length ∧ ∀ (i : Nat) v x, l[i]? = some v → l'[i]? = some x → VRel ρ env v x
end

def Rho.sub (ρ ρ' : Rho) : Prop := ∀ b i, ρ b = some i → ρ' b = some i
theorem Rho.sub.refl (ρ : Rho) : ρ.sub ρ := fun _ _ h => h
theorem Rho.sub.trans {a b c : Rho} (h : a.sub b) (k : b.sub c) : a.sub c := fun x i hx => k x i (h x i hx)

section
variable {ρ ρ' : Rho} {env : Nat → Value}
theorem VRel.mono (hs : ρ.sub ρ') {v : AVal} {x : Value} (h : VRel ρ env v x) : VRel ρ' env v x := by
  induction h with
  | bool b => exact .bool b
  | int k n => exact .int k n
  | str l n h => exact .str l n h
  | ptr o h => exact .ptr o (hs _ _ h)
  | nptr => exact .nptr
  | slcK o len c h => exact .slcK o len c (hs _ _ h)
  | slcO h h0 h1 h2 => exact .slcO (hs _ _ h) h0 h1 h2
  | slcE o off h h1 => exact .slcE o off (hs _ _ h) h1
  | nslc => exact .nslc
  | map h => exact .map (hs _ _ h)
  | nmap => exact .nmap
  | func f h1 h2 _ _ ih1 ih2 => exact .func f h1 h2 ih1 ih2
  | yield h => exact .yield (hs _ _ h)
  | nfunc => exact .nfunc
  | iface t _ ih => exact .iface t ih
  | niface => exact .niface
  | agg h _ ih => exact .agg h ih
  | tup h _ ih => exact .tup h ih
  | sym i => exact .sym i
  | any x => exact .any x

theorem VRels.mono (hs : ρ.sub ρ') {l : List AVal} {l' : List Value} (h : VRels ρ env l l') : VRels ρ' env l l' :=
  ⟨h.1, fun i v x hv hx => (h.2 i v x hv hx).mono hs⟩
theorem VRels.nil : VRels ρ env [] [] := ⟨rfl, by simp⟩
theorem VRels.cons {v : AVal} {x : Value} {l : List AVal} {l' : List Value} (h : VRel ρ env v x) (hl : VRels ρ env l l') : VRels ρ env (v :: l) (x :: l') := by
  refine ⟨by simp [hl.1], fun i v' x' hv hx => ?_⟩
  cases i with
  | zero => simp at hv hx; subst hv; subst hx; exact h
  | succ i => simp at hv hx; exact hl.2 i v' x' hv hx
theorem VRels.nil_iff {l' : List Value} (h : VRels ρ env [] l') : l' = [] := by
  have := h.1; simp at this; exact List.length_eq_zero_iff.1 this.symm
theorem VRels.uncons {v : AVal} {l : List AVal} {l' : List Value} (h : VRels ρ env (v :: l) l') : ∃ x r, l' = x :: r ∧ VRel ρ env v x ∧ VRels ρ env l r := by
  cases l' with
  | nil => have := h.1; simp at this
  | cons x r =>
    refine ⟨x, r, rfl, h.2 0 v x rfl rfl, by have := h.1; simpa using this, fun i v' x' hv hx => h.2 (i + 1) v' x' (by simpa using hv) (by simpa using hx)⟩
theorem VRels.append {a b : List AVal} {a' b' : List Value} (h : VRels ρ env a a') (k : VRels ρ env b b') : VRels ρ env (a ++ b) (a' ++ b') := by
  induction a generalizing a' with
  | nil => rw [h.nil_iff]; exact k
  | cons v a ih =>
    obtain ⟨x, r, rfl, hv, hr⟩ := h.uncons
    exact .cons hv (ih hr)
theorem VRels.get {l : List AVal} {l' : List Value} (h : VRels ρ env l l') {i : Nat} {v : AVal} (hv : l[i]? = some v) : ∃ x, l'[i]? = some x ∧ VRel ρ env v x := by
  have hi : i < l.length := by
    rcases Nat.lt_or_ge i l.length with h | h
    · exact h
    · simp [List.getElem?_eq_none h] at hv
  have hi' : i < l'.length := h.1 ▸ hi
  exact ⟨l'[i], List.getElem?_eq_getElem hi', h.2 i v _ hv (List.getElem?_eq_getElem hi')⟩
theorem VRels.agg {l : List AVal} {l' : List Value} (h : VRels ρ env l l') : VRel ρ env (.agg l) (.agg ⟨l'⟩) := .agg h.1 h.2
theorem VRels.tup {l : List AVal} {l' : List Value} (h : VRels ρ env l l') : VRel ρ env (.tup l) (.tuple ⟨l'⟩) := .tup h.1 h.2
theorem VRels.func {f : FuncId} {a c : List AVal} {a' c' : List Value} (h : VRels ρ env a a') (k : VRels ρ env c c') : VRel ρ env (.func f a c) (.func (.func f) ⟨a'⟩ ⟨c'⟩) :=
  .func f h.1 k.1 h.2 k.2
theorem VRel.undef : VRel ρ env undefA undef := VRels.nil.tup

/-! What a value is, out of what it is abstractly. -/
theorem VRel.of_bool {b : Bool} {x : Value} (h : VRel ρ env (.bool b) x) : x = .bool b := by cases h; rfl
theorem VRel.of_int {k : IntKind} {n : Int} {x : Value} (h : VRel ρ env (.int k n) x) : x = .int k n := by cases h; rfl
theorem VRel.of_agg {l : List AVal} {x : Value} (h : VRel ρ env (.agg l) x) : ∃ l', x = .agg ⟨l'⟩ ∧ VRels ρ env l l' := by
  cases h with | agg h1 h2 => exact ⟨_, rfl, h1, h2⟩
theorem VRel.of_tup {l : List AVal} {x : Value} (h : VRel ρ env (.tup l) x) : ∃ l', x = .tuple ⟨l'⟩ ∧ VRels ρ env l l' := by
  cases h with | tup h1 h2 => exact ⟨_, rfl, h1, h2⟩
theorem VRel.of_func {f : FuncId} {a c : List AVal} {x : Value} (h : VRel ρ env (.func f a c) x) : ∃ a' c', x = .func (.func f) ⟨a'⟩ ⟨c'⟩ ∧ VRels ρ env a a' ∧ VRels ρ env c c' := by
  cases h with | func _ h1 h2 h3 h4 => exact ⟨_, _, rfl, ⟨h1, h3⟩, h2, h4⟩
end

/-! ### Heaps and worlds -/
def AObj.isDead : AObj → Bool
  | .dead => true
  | _ => false
def AObj.isRo : AObj → Bool
  | .row _ _ _ ro _ => ro
  | _ => false

/-- May the block be written, as far as is known? -/
def liveW : Option AObj → Prop
  | some o => o.isDead = false ∧ o.isRo = false
  | none => False

section
variable (P : Program) (env : Nat → Value)

/-- Temporaries that are known. -/
def TmRel (ρ : Rho) (mask : Nat) (tm : T AVal) (tmps : Array Value) : Prop :=
  ∀ t v, tm.get t = some v → bitOf mask t = true ∧ ∃ x, tmps[t]? = some x ∧ VRel ρ env v x

def DefdRel (ρ : Rho) : ADefd → Deferred → Prop
  | .call d, e => ∃ cap args, e = { target := .fn (.func d.f) ⟨cap⟩, args := ⟨args⟩ } ∧ VRels ρ env d.cap cap ∧ VRels ρ env d.args args
  | .collected b, e => ∃ i, ρ b = some i ∧ e = { target := .collected i.blk, args := #[] }

def DefsRel (ρ : Rho) : List ADefd → List Deferred → Prop
  | [], [] => True
  | d :: l, e :: l' => DefdRel env ρ d e ∧ DefsRel ρ l l'
  | _, _ => False

def EntRel (ρ : Rho) : List (AVal × AVal × Nat) → List MapEntry → Prop
  | [], [] => True
  | (k, v, n) :: l, e :: l' => VRel ρ env k e.key ∧ VRel ρ env v e.val ∧ e.born = n ∧ EntRel ρ l l'
  | _, _ => False

def Value.one : Value → Bool
  | .agg _ | .tuple _ => false
  | _ => true

def ObjRel (okc : FuncId → Code → Bool) (ρ : Rho) (i : BI) : AObj → Obj → Prop
  | .row e n op ro cs, ob => ∃ c frz, ob = .cells c e frz ∧ c.size = i.total ∧ i.shift + n ≤ i.total ∧
      (∀ j v, cs.get j = some v → j < n ∧ ∃ x, c[i.shift + j]? = some x ∧ VRel ρ env v x ∧ Value.one x = true) ∧
      (ro = false → ∀ off, off < c.size → ¬ (frz.1 ≤ off ∧ off < frz.2)) ∧ ((op = true → sizeA P e = some i.esz ∧ 1 ≤ i.esz) ∧ (op = false → i.shift = 0 ∧ n = i.total))
  | .map es clock, ob => ∃ es', ob = .map es' clock ∧ EntRel env ρ es es'.toList
  | .siter l n pos, ob => ob = .stringIter (byteArr l n) pos
  | .miter m since seen last, ob => ∃ i', ρ m = some i' ∧ i.shift = 0 ∧ ob = .mapIter (some i'.blk) since ⟨seen⟩ last
  | .loop st pend fn tm params assign body dd, ob => ∃ L i', ob = .loop L ∧ L.state = st ∧ L.pending = pend ∧ L.fn = fn ∧ L.params.toList = params ∧ L.assign = assign ∧ L.body = body ∧
      ρ dd = some i' ∧ L.defers = i'.blk ∧ okc fn assign = true ∧ okc fn body = true ∧
      ∃ f c, bodyOf P fn = some (f, c) ∧ L.tmps.size = f.ntmps ∧ TmRel env ρ (maskF f c) tm L.tmps
  | .defs (some []), ob => ob = .deferred (some [])
  | .defs none, ob => ob = .deferred none
  | .defs _, _ => False
  | .dead, _ => True

structure HRel (okc : FuncId → Code → Bool) (ρ : Rho) (h : AHeap) (w : World) : Prop where
  obj : ∀ b o i, h.get b = some o → o.isDead = false → ρ b = some i → ∃ ob, w.heap[i.blk]? = some ob ∧ ObjRel P env okc ρ i o ob
  bound : ∀ b i, ρ b = some i → i.blk < w.heap.size
  inj : ∀ b b' i i', b ≠ b' → ρ b = some i → ρ b' = some i' → liveW (h.get b) → (∃ o', h.get b' = some o' ∧ o'.isDead = false) → i.blk ≠ i'.blk
  next : ∀ b, h.next ≤ b → ρ b = none
  clean : ∀ b, h.next ≤ b → h.get b = none

/-- Nothing that may be written lies in the world's block. -/
def Unt (ρ : Rho) (h : AHeap) (B : Nat) : Prop := ∀ b i, ρ b = some i → i.blk = B → ¬ liveW (h.get b)

/-- Nothing at all that is known lies in the world's block. -/
def UntP (ρ : Rho) (h : AHeap) (B : Nat) : Prop := ∀ b i, ρ b = some i → i.blk = B → ¬ (∃ o, h.get b = some o ∧ o.isDead = false)

/-- From one heap and world to the next; N: the blocks' numbers that may have come. -/
structure Go' (okc : FuncId → Code → Bool) (N : Nat → Prop) (ρ : Rho) (h : AHeap) (w : World) (ρ' : Rho) (h' : AHeap) (w' : World) : Prop where
  sub : ρ.sub ρ'
  new : ∀ b, ¬ N b → ρ' b = ρ b
  rel : HRel P env okc ρ' h' w'
  unt : ∀ B, B < w.heap.size → Unt ρ h B → w'.heap[B]? = w.heap[B]? ∧ Unt ρ' h' B
  size : w.heap.size ≤ w'.heap.size
  os : w'.os = w.os
  tape : w'.tape = w.tape
  output : w'.output = w.output
  next : h.next ≤ h'.next
  keep : ∀ b, ¬ N b → h.get b = none → h'.get b = none
  untp : ∀ B, B < w.heap.size → UntP ρ h B → UntP ρ' h' B
end

section
variable {P : Program} {env : Nat → Value} {okc : FuncId → Code → Bool} {N N' : Nat → Prop} {ρ ρ' ρ'' : Rho} {h h' h'' : AHeap} {w w' w'' : World}

theorem Go'.refl (hr : HRel P env okc ρ h w) : Go' P env okc N ρ h w ρ h w :=
  ⟨.refl _, fun _ _ => rfl, hr, fun _ _ hu => ⟨rfl, hu⟩, Nat.le_refl _, rfl, rfl, rfl, Nat.le_refl _, fun _ _ h => h, fun _ _ h => h⟩

theorem Go'.trans (a : Go' P env okc N ρ h w ρ' h' w') (b : Go' P env okc N ρ' h' w' ρ'' h'' w'') : Go' P env okc N ρ h w ρ'' h'' w'' where
  sub := a.sub.trans b.sub
  new := fun x hx => (b.new x hx).trans (a.new x hx)
  rel := b.rel
  unt := fun B hB hu => by
    obtain ⟨h1, h2⟩ := a.unt B hB hu
    obtain ⟨h3, h4⟩ := b.unt B (Nat.lt_of_lt_of_le hB a.size) h2
    exact ⟨h3.trans h1, h4⟩
  size := Nat.le_trans a.size b.size
  os := b.os.trans a.os
  tape := b.tape.trans a.tape
  output := b.output.trans a.output
  next := Nat.le_trans a.next b.next
  keep := fun x hx hg => b.keep x hx (a.keep x hx hg)
  untp := fun B hB hu => b.untp B (Nat.lt_of_lt_of_le hB a.size) (a.untp B hB hu)

theorem Go'.mono (a : Go' P env okc N ρ h w ρ' h' w') (hN : ∀ b, N b → N' b) : Go' P env okc N' ρ h w ρ' h' w' :=
  ⟨a.sub, fun b hb => a.new b (fun k => hb (hN b k)), a.rel, a.unt, a.size, a.os, a.tape, a.output, a.next, fun b hb => a.keep b (fun k => hb (hN b k)), a.untp⟩
end
end Go.Eng
