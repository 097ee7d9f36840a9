/- The engine, part E: how a world goes on under loads, stores and new blocks. -/
import Derived.Test.YtggjeecpadnihaaGreatDoorEngD
import Derived.Laws.Cells
set_option linter.unusedSectionVars false
set_option linter.unusedVariables false
set_option linter.unusedSimpArgs false
namespace Go.Eng

/-! ### Worlds -/
/-- The world with another block. -/
def setAt' (w : World) (B : Nat) (ob : Obj) : World := { w with heap := w.heap.setIfInBounds B ob }

theorem setAt'_heap (w : World) (B : Nat) (ob : Obj) (h : B < w.heap.size) (C : Nat) :
    (setAt' w B ob).heap[C]? = if B = C then some ob else w.heap[C]? := by
  simp only [setAt', Array.getElem?_setIfInBounds]
  split
  · simp [h]
  · rfl
theorem setAt'_size (w : World) (B : Nat) (ob : Obj) : (setAt' w B ob).heap.size = w.heap.size := by simp [setAt']

theorem setCell_eq {w : World} {B off : Nat} {c : Array Value} {e : TypeId} {frz : Nat × Nat} (v : Value) (h : w.heap[B]? = some (.cells c e frz)) :
    w.setCell ⟨B, off, none⟩ v = setAt' w B (.cells (c.setIfInBounds off v) e frz) := by
  unfold World.setCell setAt'
  congr 1
  apply Array.ext_getElem?
  intro i
  rw [Array.getElem?_modify, Array.getElem?_setIfInBounds]
  by_cases hi : B = i
  · subst hi
    have hlt : B < w.heap.size := by
      rcases Nat.lt_or_ge B w.heap.size with h' | h'
      · exact h'
      · simp [Array.getElem?_eq_none h'] at h
    rw [if_pos rfl, if_pos rfl, if_pos hlt, h]; rfl
  · rw [if_neg hi, if_neg hi]

theorem setAt'_setAt' (w : World) (B : Nat) (a b : Obj) : setAt' (setAt' w B a) B b = setAt' w B b := by
  unfold setAt'
  congr 1
  apply Array.ext_getElem?
  intro i
  simp only [Array.getElem?_setIfInBounds, Array.size_setIfInBounds]
  split <;> rfl

theorem setAt'_same {w : World} {B : Nat} {ob : Obj} (h : w.heap[B]? = some ob) : setAt' w B ob = w := by
  unfold setAt'
  have : w.heap.setIfInBounds B ob = w.heap := by
    apply Array.ext_getElem?
    intro i
    rw [Array.getElem?_setIfInBounds]
    split
    · rename_i e; subst e
      split
      · exact h.symm
      · rename_i hlt; simp [Array.getElem?_eq_none (Nat.le_of_not_lt hlt)] at h
    · rfl
  rw [this]

/-- Cells, one behind the other, written into a row. -/
def splice (c : Array Value) (off : Nat) : List Value → Array Value
  | [] => c
  | v :: l => splice (c.setIfInBounds off v) (off + 1) l

theorem splice_size (l : List Value) : ∀ (c : Array Value) (off : Nat), (splice c off l).size = c.size := by
  induction l with
  | nil => intro c off; rfl
  | cons v l ih => intro c off; rw [splice, ih]; simp

theorem splice_get (l : List Value) : ∀ (c : Array Value) (off i : Nat), off + l.length ≤ c.size →
    (splice c off l)[i]? = if off ≤ i ∧ i < off + l.length then l[i - off]? else c[i]? := by
  induction l with
  | nil => intro c off i _; simp [splice]; intro h1 h2; omega
  | cons v l ih =>
    intro c off i h
    rw [List.length_cons] at h
    rw [splice, ih _ _ _ (by simp; omega)]
    by_cases h1 : i = off
    · subst h1
      rw [if_neg (by omega), if_pos (by simp), Nat.sub_self]
      simp [Array.getElem?_setIfInBounds]; omega
    · by_cases h2 : off + 1 ≤ i ∧ i < off + 1 + l.length
      · rw [if_pos h2, if_pos (by simp; omega)]
        rw [show i - off = (i - (off + 1)) + 1 by omega, List.getElem?_cons_succ]
      · rw [if_neg h2, if_neg (by simp; omega)]
        rw [Array.getElem?_setIfInBounds, if_neg (by omega)]

section
variable {P : Program} {env : Nat → Value} {okc : FuncId → Code → Bool} {N : Nat → Prop} {ρ ρ' : Rho} {h h' : AHeap} {w w' : World}

/-! ### Relations go on where more is known of blocks -/
theorem TmRel.mono (hs : ρ.sub ρ') {m : Nat} {tm : T AVal} {tmps : Array Value} (h : TmRel env ρ m tm tmps) : TmRel env ρ' m tm tmps :=
  fun t v hv => let ⟨a, x, b, c⟩ := h t v hv; ⟨a, x, b, c.mono hs⟩

theorem EntRel.mono (hs : ρ.sub ρ') : ∀ {es : List (AVal × AVal × Nat)} {es' : List MapEntry}, EntRel env ρ es es' → EntRel env ρ' es es'
  | [], [], _ => trivial
  | [], _ :: _, h => h.elim
  | (_, _, _) :: _, [], h => h.elim
  | (_, _, _) :: _, _ :: _, h => ⟨h.1.mono hs, h.2.1.mono hs, h.2.2.1, EntRel.mono hs h.2.2.2⟩

theorem DefdRel.mono (hs : ρ.sub ρ') {d : ADefd} {e : Deferred} (h : DefdRel env ρ d e) : DefdRel env ρ' d e := by
  cases d with
  | call d => obtain ⟨cap, args, h1, h2, h3⟩ := h; exact ⟨cap, args, h1, h2.mono hs, h3.mono hs⟩
  | collected b => obtain ⟨i, h1, h2⟩ := h; exact ⟨i, hs _ _ h1, h2⟩

theorem DefsRel.mono (hs : ρ.sub ρ') : ∀ {ds : List ADefd} {es : List Deferred}, DefsRel env ρ ds es → DefsRel env ρ' ds es
  | [], [], _ => trivial
  | [], _ :: _, h => h.elim
  | _ :: _, [], h => h.elim
  | _ :: _, _ :: _, h => ⟨h.1.mono hs, DefsRel.mono hs h.2⟩

theorem ObjRel.mono (hs : ρ.sub ρ') {i : BI} {o : AObj} {ob : Obj} (h : ObjRel P env okc ρ i o ob) : ObjRel P env okc ρ' i o ob := by
  cases o with
  | row e n op ro cs =>
    obtain ⟨c, frz, h1, h2, h3, h4, h5⟩ := h
    exact ⟨c, frz, h1, h2, h3, fun j v hv => let ⟨a, x, b, c, d⟩ := h4 j v hv; ⟨a, x, b, c.mono hs, d⟩, h5⟩
  | map es clock => obtain ⟨es', h1, h2⟩ := h; exact ⟨es', h1, h2.mono hs⟩
  | siter l n pos => exact h
  | miter m since seen last => obtain ⟨i', h1, h2⟩ := h; exact ⟨i', hs _ _ h1, h2⟩
  | loop st pend fn tm params assign body dd =>
    obtain ⟨L, i', h1, h2, h3, h4, h5, h6, h7, h8, h9, h10, h11, f, c, h12, h13, h14⟩ := h
    exact ⟨L, i', h1, h2, h3, h4, h5, h6, h7, hs _ _ h8, h9, h10, h11, f, c, h12, h13, h14.mono hs⟩
  | defs d => cases d with
    | none => exact h
    | some l => cases l with
      | nil => exact h
      | cons _ _ => exact h.elim
  | dead => trivial

theorem HRel.heap_eq (hr : HRel P env okc ρ h w) (e : w'.heap = w.heap) : HRel P env okc ρ h w' :=
  ⟨fun b o i h1 h2 h3 => by rw [e]; exact hr.obj b o i h1 h2 h3, fun b i hb => by rw [e]; exact hr.bound b i hb, hr.inj, hr.next, hr.clean⟩

theorem Go'.drew (hr : HRel P env okc ρ h w) : Go' P env okc N ρ h w ρ h w.drew :=
  ⟨.refl _, fun _ _ => rfl, hr.heap_eq rfl, fun _ _ hu => ⟨rfl, hu⟩, Nat.le_refl _, rfl, rfl, rfl, Nat.le_refl _, fun _ _ h => h, fun _ _ h => h⟩

theorem lt_of_get {w : World} {B : Nat} {ob : Obj} (h : w.heap[B]? = some ob) : B < w.heap.size := by
  rcases Nat.lt_or_ge B w.heap.size with h' | h'
  · exact h'
  · simp [Array.getElem?_eq_none h'] at h

/-- A block that may be written becomes another. -/
theorem Go'.put (hr : HRel P env okc ρ h w) {b : Nat} {o o' : AObj} {i : BI} {ob' : Obj} (hb : h.get b = some o) (hl : liveW (some o)) (hi : ρ b = some i)
    (hob : ObjRel P env okc ρ i o' ob') : Go' P env okc N ρ h w ρ (h.put b o') (setAt' w i.blk ob') := by
  have hlt := hr.bound b i hi
  have hinj : ∀ b1 i1, b1 ≠ b → ρ b1 = some i1 → (∃ o1, h.get b1 = some o1 ∧ o1.isDead = false) → i.blk ≠ i1.blk :=
    fun b1 i1 hne h1 h2 => hr.inj b b1 i i1 (Ne.symm hne) hi h1 (hb ▸ hl) h2
  refine ⟨.refl _, fun _ _ => rfl, ⟨?_, ?_, ?_, ?_, ?_⟩, ?_, by rw [setAt'_size]; exact Nat.le_refl _, rfl, rfl, rfl, Nat.le_refl _, ?_, ?_⟩
  · intro b1 o1 i1 h1 h2 h3
    rw [AHeap.get_put] at h1
    by_cases e : b = b1
    · subst e
      rw [if_pos rfl] at h1; cases h1
      rw [hi] at h3; cases h3
      exact ⟨ob', by rw [setAt'_heap _ _ _ hlt, if_pos rfl], hob⟩
    · rw [if_neg e] at h1
      obtain ⟨ob, hg, ho⟩ := hr.obj b1 o1 i1 h1 h2 h3
      exact ⟨ob, by rw [setAt'_heap _ _ _ hlt, if_neg (hinj b1 i1 (Ne.symm e) h3 ⟨o1, h1, h2⟩)]; exact hg, ho⟩
  · intro b1 i1 h1; rw [setAt'_size]; exact hr.bound b1 i1 h1
  · intro b1 b2 i1 i2 hne h1 h2 hl1 hl2
    rw [AHeap.get_put] at hl1
    by_cases e1 : b = b1
    · subst e1
      rw [hi] at h1; cases h1
      obtain ⟨o2, ho2, hd2⟩ := hl2
      rw [AHeap.get_put, if_neg hne] at ho2
      exact hinj b2 i2 (Ne.symm hne) h2 ⟨o2, ho2, hd2⟩
    · rw [if_neg e1] at hl1
      obtain ⟨o2, ho2, hd2⟩ := hl2
      rw [AHeap.get_put] at ho2
      by_cases e2 : b = b2
      · subst e2
        have := hl; exact hr.inj b1 b i1 i2 hne h1 h2 hl1 ⟨o, hb, hl.1⟩
      · rw [if_neg e2] at ho2
        exact hr.inj b1 b2 i1 i2 hne h1 h2 hl1 ⟨o2, ho2, hd2⟩
  · intro b1 h1; exact hr.next b1 h1
  · intro b1 h1
    rw [AHeap.get_put]
    have h1' : h.next ≤ b1 := h1
    rw [if_neg (fun e => by subst e; rw [hr.next b h1'] at hi; cases hi)]
    exact hr.clean b1 h1'
  · intro B hB hu
    have hne : i.blk ≠ B := fun e => hu b i hi e (hb ▸ hl)
    refine ⟨by rw [setAt'_heap _ _ _ hlt, if_neg hne], fun b1 i1 h1 e => ?_⟩
    rw [AHeap.get_put]
    by_cases e1 : b = b1
    · subst e1; rw [hi] at h1; cases h1; exact absurd e hne
    · rw [if_neg e1]; exact hu b1 i1 h1 e
  · intro b1 _ h1
    rw [AHeap.get_put, if_neg (fun e => by subst e; rw [hb] at h1; cases h1)]; exact h1
  · intro B hB hu b1 i1 h1 e
    rw [AHeap.get_put]
    by_cases e1 : b = b1
    · subst e1; exact absurd ⟨o, hb, hl.1⟩ (hu b i1 h1 e)
    · rw [if_neg e1]; exact hu b1 i1 h1 e

def Rho.set (ρ : Rho) (b : Nat) (i : BI) : Rho := fun x => if x = b then some i else ρ x
theorem Rho.set_same (ρ : Rho) (b : Nat) (i : BI) : ρ.set b i b = some i := by simp [Rho.set]
theorem Rho.set_ne (ρ : Rho) {b c : Nat} (i : BI) (h : c ≠ b) : ρ.set b i c = ρ c := by simp [Rho.set, h]
theorem Rho.sub_set {b : Nat} (i : BI) (h : ρ b = none) : ρ.sub (ρ.set b i) := by
  intro x j hx
  have : x ≠ b := fun e => by subst e; rw [h] at hx; cases hx
  rw [Rho.set_ne _ _ this]; exact hx

theorem alloc_get (w : World) (o : Obj) (B : Nat) : (w.alloc o).heap[B]? = if B = w.heap.size then some o else w.heap[B]? := by
  show (w.heap.push o)[B]? = _
  rw [Array.getElem?_push]

/-- A new block. -/
theorem Go'.alloc (hr : HRel P env okc ρ h w) {b : Nat} {o : AObj} {ob : Obj} {i : BI} (hb : ρ b = none) (hn : b < h.next) (hN : N b) (hi : i.blk = w.heap.size)
    (hob : ObjRel P env okc (ρ.set b i) i o ob) : Go' P env okc N ρ h w (ρ.set b i) (h.put b o) (w.alloc ob) := by
  have hsub := Rho.sub_set i hb
  refine ⟨hsub, ?_, ⟨?_, ?_, ?_, ?_, ?_⟩, ?_, by simp, rfl, rfl, rfl, Nat.le_refl _, ?_, ?_⟩
  · intro c hc
    rw [Rho.set_ne]; intro e; subst e; exact hc hN
  · intro b1 o1 i1 h1 h2 h3
    rw [AHeap.get_put] at h1
    by_cases e : b = b1
    · subst e
      rw [if_pos rfl] at h1; cases h1
      rw [Rho.set_same] at h3; cases h3
      exact ⟨ob, by rw [alloc_get, if_pos hi], hob⟩
    · rw [if_neg e] at h1
      rw [Rho.set_ne _ _ (Ne.symm e)] at h3
      obtain ⟨ob1, hg, ho⟩ := hr.obj b1 o1 i1 h1 h2 h3
      have hlt := hr.bound b1 i1 h3
      exact ⟨ob1, by rw [alloc_get, if_neg (by omega)]; exact hg, ho.mono hsub⟩
  · intro b1 i1 h1
    by_cases e : b1 = b
    · subst e; rw [Rho.set_same] at h1; cases h1; simp; omega
    · rw [Rho.set_ne _ _ e] at h1; have := hr.bound b1 i1 h1; simp; omega
  · intro b1 b2 i1 i2 hne h1 h2 hl1 hl2
    by_cases e1 : b1 = b
    · subst e1
      rw [Rho.set_same] at h1; cases h1
      rw [Rho.set_ne _ _ (Ne.symm hne)] at h2
      have := hr.bound b2 i2 h2; omega
    · rw [Rho.set_ne _ _ e1] at h1
      rw [AHeap.get_put, if_neg (Ne.symm e1)] at hl1
      by_cases e2 : b2 = b
      · subst e2
        rw [Rho.set_same] at h2; cases h2
        have := hr.bound b1 i1 h1; omega
      · rw [Rho.set_ne _ _ e2] at h2
        obtain ⟨o2, ho2, hd2⟩ := hl2
        rw [AHeap.get_put, if_neg (Ne.symm e2)] at ho2
        exact hr.inj b1 b2 i1 i2 hne h1 h2 hl1 ⟨o2, ho2, hd2⟩
  · intro b1 h1
    have h1' : h.next ≤ b1 := h1
    rw [Rho.set_ne _ _ (by omega)]; exact hr.next b1 h1'
  · intro b1 h1
    have h1' : h.next ≤ b1 := h1
    rw [AHeap.get_put, if_neg (by omega)]; exact hr.clean b1 h1'
  · intro B hB hu
    refine ⟨by rw [alloc_get, if_neg (by omega)], fun b1 i1 h1 e => ?_⟩
    by_cases e1 : b1 = b
    · subst e1; rw [Rho.set_same] at h1; cases h1; omega
    · rw [Rho.set_ne _ _ e1] at h1
      rw [AHeap.get_put, if_neg (Ne.symm e1)]
      exact hu b1 i1 h1 e
  · intro b1 hb1 h1
    rw [AHeap.get_put, if_neg (fun e => by subst e; exact hb1 hN)]; exact h1
  · intro B hB hu b1 i1 h1 e
    by_cases e1 : b1 = b
    · subst e1; rw [Rho.set_same] at h1; cases h1; omega
    · rw [Rho.set_ne _ _ e1] at h1
      rw [AHeap.get_put, if_neg (Ne.symm e1)]
      exact hu b1 i1 h1 e

/-- A block that may be written goes over into another number's (an append in place). -/
theorem Go'.move (hr : HRel P env okc ρ h w) {b c : Nat} {o o' : AObj} {i i' : BI} {ob' : Obj} (hb : h.get b = some o) (hl : liveW (some o)) (hi : ρ b = some i)
    (hc : ρ c = none) (hn : c < h.next) (hN : N c) (hblk : i'.blk = i.blk)
    (hob : ObjRel P env okc (ρ.set c i') i' o' ob') : Go' P env okc N ρ h w (ρ.set c i') ((h.put b .dead).put c o') (setAt' w i.blk ob') := by
  have hlt := hr.bound b i hi
  have hsub := Rho.sub_set i' hc
  have hbc : b ≠ c := fun e => by subst e; rw [hi] at hc; cases hc
  have hinj : ∀ b1 i1, b1 ≠ b → ρ b1 = some i1 → (∃ o1, h.get b1 = some o1 ∧ o1.isDead = false) → i.blk ≠ i1.blk :=
    fun b1 i1 hne h1 h2 => hr.inj b b1 i i1 (Ne.symm hne) hi h1 (hb ▸ hl) h2
  have hget : ∀ b1, ((h.put b .dead).put c o').get b1 = if c = b1 then some o' else if b = b1 then some .dead else h.get b1 := fun b1 => by
    rw [AHeap.get_put, AHeap.get_put]
  refine ⟨hsub, ?_, ⟨?_, ?_, ?_, ?_, ?_⟩, ?_, by rw [setAt'_size]; exact Nat.le_refl _, rfl, rfl, rfl, Nat.le_refl _, ?_, ?_⟩
  · intro x hx; rw [Rho.set_ne]; intro e; subst e; exact hx hN
  · intro b1 o1 i1 h1 h2 h3
    rw [hget] at h1
    by_cases e : c = b1
    · subst e
      rw [if_pos rfl] at h1; cases h1
      rw [Rho.set_same] at h3; cases h3
      exact ⟨ob', by rw [hblk, setAt'_heap _ _ _ hlt, if_pos rfl], hob⟩
    · rw [if_neg e] at h1
      by_cases e' : b = b1
      · rw [if_pos e'] at h1; cases h1; cases h2
      · rw [if_neg e'] at h1
        rw [Rho.set_ne _ _ (Ne.symm e)] at h3
        obtain ⟨ob, hg, ho⟩ := hr.obj b1 o1 i1 h1 h2 h3
        exact ⟨ob, by rw [setAt'_heap _ _ _ hlt, if_neg (hinj b1 i1 (Ne.symm e') h3 ⟨o1, h1, h2⟩)]; exact hg, ho.mono hsub⟩
  · intro b1 i1 h1
    rw [setAt'_size]
    by_cases e : b1 = c
    · subst e; rw [Rho.set_same] at h1; cases h1; omega
    · rw [Rho.set_ne _ _ e] at h1; exact hr.bound b1 i1 h1
  · intro b1 b2 i1 i2 hne h1 h2 hl1 hl2
    rw [hget] at hl1
    obtain ⟨o2, ho2, hd2⟩ := hl2
    rw [hget] at ho2
    by_cases e1 : c = b1
    · subst e1
      rw [Rho.set_same] at h1; cases h1
      rw [if_neg hne] at ho2
      by_cases e2 : b = b2
      · rw [if_pos e2] at ho2; cases ho2; cases hd2
      · rw [if_neg e2] at ho2
        rw [Rho.set_ne _ _ (Ne.symm hne)] at h2
        rw [hblk]; exact hinj b2 i2 (Ne.symm e2) h2 ⟨o2, ho2, hd2⟩
    · rw [if_neg e1] at hl1
      by_cases e1' : b = b1
      · rw [if_pos e1'] at hl1; exact absurd hl1.1 (by simp [AObj.isDead])
      · rw [if_neg e1'] at hl1
        rw [Rho.set_ne _ _ (Ne.symm e1)] at h1
        by_cases e2 : c = b2
        · subst e2
          rw [Rho.set_same] at h2; cases h2
          rw [hblk]
          exact hr.inj b1 b i1 i (Ne.symm e1') h1 hi hl1 ⟨o, hb, hl.1⟩
        · rw [if_neg e2] at ho2
          by_cases e2' : b = b2
          · rw [if_pos e2'] at ho2; cases ho2; cases hd2
          · rw [if_neg e2'] at ho2
            rw [Rho.set_ne _ _ (Ne.symm e2)] at h2
            exact hr.inj b1 b2 i1 i2 hne h1 h2 hl1 ⟨o2, ho2, hd2⟩
  · intro b1 h1
    have h1' : h.next ≤ b1 := h1
    rw [Rho.set_ne _ _ (by omega)]; exact hr.next b1 h1'
  · intro b1 h1
    have h1' : h.next ≤ b1 := h1
    rw [hget, if_neg (by omega), if_neg (fun e => by subst e; rw [hr.next b h1'] at hi; cases hi)]
    exact hr.clean b1 h1'
  · intro B hB hu
    have hne : i.blk ≠ B := fun e => hu b i hi e (hb ▸ hl)
    refine ⟨by rw [setAt'_heap _ _ _ hlt, if_neg hne], fun b1 i1 h1 e => ?_⟩
    rw [hget]
    by_cases e1 : c = b1
    · subst e1; rw [Rho.set_same] at h1; cases h1; exact absurd (hblk ▸ e) hne
    · rw [if_neg e1]
      by_cases e2 : b = b1
      · rw [if_pos e2]; rintro ⟨k, _⟩; cases k
      · rw [if_neg e2]
        rw [Rho.set_ne _ _ (Ne.symm e1)] at h1
        exact hu b1 i1 h1 e
  · intro b1 hb1 h1
    rw [hget, if_neg (fun e => by subst e; exact hb1 hN), if_neg (fun e => by subst e; rw [hb] at h1; cases h1)]; exact h1
  · intro B hB hu b1 i1 h1 e
    rw [hget]
    by_cases e1 : c = b1
    · subst e1; rw [Rho.set_same] at h1; cases h1
      exact absurd ⟨o, hb, hl.1⟩ (hu b i hi (hblk ▸ e))
    · rw [if_neg e1]
      by_cases e2 : b = b1
      · rw [if_pos e2]; rintro ⟨o1, k, k'⟩; cases k; cases k'
      · rw [if_neg e2]
        rw [Rho.set_ne _ _ (Ne.symm e1)] at h1
        exact hu b1 i1 h1 e

/-- A block is not to be looked at any more. -/
theorem Go'.kill (hr : HRel P env okc ρ h w) (b : Nat) {o : AObj} (hb : h.get b = some o) : Go' P env okc N ρ h w ρ (h.put b .dead) w := by
  refine ⟨.refl _, fun _ _ => rfl, ⟨?_, hr.bound, ?_, hr.next, ?_⟩, ?_, Nat.le_refl _, rfl, rfl, rfl, Nat.le_refl _, ?_, ?_⟩
  · intro b1 o1 i1 h1 h2 h3
    rw [AHeap.get_put] at h1
    split at h1
    · cases h1; cases h2
    · exact hr.obj b1 o1 i1 h1 h2 h3
  · intro b1 b2 i1 i2 hne h1 h2 hl1 hl2
    rw [AHeap.get_put] at hl1
    obtain ⟨o2, ho2, hd2⟩ := hl2
    rw [AHeap.get_put] at ho2
    split at hl1
    · exact absurd hl1.1 (by simp [AObj.isDead])
    · split at ho2
      · cases ho2; cases hd2
      · exact hr.inj b1 b2 i1 i2 hne h1 h2 hl1 ⟨o2, ho2, hd2⟩
  · intro b1 h1
    have h1' : h.next ≤ b1 := h1
    have hc := hr.clean b1 h1'
    rw [AHeap.get_put, if_neg (fun e => by subst e; rw [hb] at hc; cases hc)]; exact hc
  · intro B hB hu
    refine ⟨rfl, fun b1 i1 h1 e => ?_⟩
    rw [AHeap.get_put]
    split
    · rintro ⟨k, _⟩; cases k
    · exact hu b1 i1 h1 e
  · intro b1 _ h1
    rw [AHeap.get_put, if_neg (fun e => by subst e; rw [hb] at h1; cases h1)]; exact h1
  · intro B hB hu b1 i1 h1 e
    rw [AHeap.get_put]
    split
    · rintro ⟨o1, k, k'⟩; cases k; cases k'
    · exact hu b1 i1 h1 e
end
end Go.Eng
