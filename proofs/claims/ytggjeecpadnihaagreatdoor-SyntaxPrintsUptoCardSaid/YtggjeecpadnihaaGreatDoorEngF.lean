/- The engine, part F: types, constants, loads, stores, new rows. -/
import Derived.Test.YtggjeecpadnihaaGreatDoorEngE
set_option linter.unusedSectionVars false
set_option linter.unusedVariables false
set_option linter.unusedSimpArgs false
namespace Go.Eng

theorem one_eq (v : Value) : Value.one v = v.oneCell' := by cases v <;> rfl

/-- Values that are not known are such as one cell may hold. -/
def EnvOk (env : Nat → Value) : Prop := ∀ i, Value.one (env i) = true

section
variable {P : Program} {env : Nat → Value} {okc : FuncId → Code → Bool} {N : Nat → Prop} {ρ ρ' : Rho} {h h' : AHeap} {w w' : World}

/-! ### Types -/
theorem run_und {t : TypeId} {d : TypeDesc} (h : P.underlying t = some d) : (underlying t).run P w = .ok d w := by
  simp [underlying, h]
theorem run_info {t : TypeId} {d : TypeInfo} (h : P.info? t = some d) : (typeInfo t).run P w = .ok d w := by
  simp [typeInfo, h]
theorem run_size {t : TypeId} {n : Nat} (h : sizeA P t = some n) : (sizeOf t).run P w = .ok n w := by
  unfold sizeA at h
  cases hi : P.info? t with
  | none => rw [hi] at h; cases h
  | some i => rw [hi] at h; cases h; simp [sizeOf, run_info hi]
theorem run_agg {t : TypeId} {b : Bool} (h : aggA P t = some b) : (isAgg t).run P w = .ok b w := by
  unfold aggA at h
  cases hu : P.underlying t with
  | none => rw [hu] at h; cases h
  | some d =>
    rw [hu] at h
    cases d <;> simp only at h <;> cases h <;> simp [isAgg, run_und hu]

/-! ### Constants -/
theorem ofScalar_rel {v : Value} {a : AVal} (h : ofScalar v = some a) : VRel ρ env a v := by
  unfold ofScalar at h
  split at h <;> first | (cases h; done) | cases h
  · exact .bool _
  · exact .int _ _
  · exact .of_string _
  · exact .nptr
  · exact .nslc
  · exact .nmap
  · exact .nfunc
  · exact .niface
  · exact VRels.func (a' := []) (c' := []) .nil .nil

theorem ofScalars_rel : ∀ {l : List Value} {a : List AVal}, ofScalars l = some a → VRels ρ env a l
  | [], a, h => by cases h; exact .nil
  | v :: l, a, h => by
    unfold ofScalars at h
    cases h1 : ofScalar v with
    | none => rw [h1] at h; cases h
    | some x =>
      cases h2 : ofScalars l with
      | none => rw [h1, h2] at h; cases h
      | some xs => rw [h1, h2] at h; cases h; exact .cons (ofScalar_rel h1) (ofScalars_rel h2)

theorem ofConst_rel {v : Value} {a : AVal} (h : ofConst v = some a) : VRel ρ env a v := by
  unfold ofConst at h
  split at h
  · rename_i cs
    cases h1 : ofScalars cs.toList with
    | none => rw [h1] at h; cases h
    | some l => rw [h1] at h; cases h; exact (ofScalars_rel h1).agg
  · rename_i cs
    cases h1 : ofScalars cs.toList with
    | none => rw [h1] at h; cases h
    | some l => rw [h1] at h; cases h; exact (ofScalars_rel h1).tup
  · rename_i t v
    cases h1 : ofScalar v with
    | none => rw [h1] at h; cases h
    | some l => rw [h1] at h; cases h; exact (ofScalar_rel h1).iface t
  · exact ofScalar_rel h

theorem scalar_one (he : EnvOk env) {a : AVal} {x : Value} (h : VRel ρ env a x) (hs : a.scalar = true) : Value.one x = true := by
  cases h <;> first | rfl | (cases hs; done) | exact he _

theorem scalars_one (he : EnvOk env) {l : List AVal} {l' : List Value} (h : VRels ρ env l l') (hs : l.all AVal.scalar = true) : ∀ x ∈ l', Value.one x = true := by
  induction l generalizing l' with
  | nil => rw [h.nil_iff]; simp
  | cons v l ih =>
    obtain ⟨x, r, rfl, hv, hr⟩ := h.uncons
    simp only [List.all_cons, Bool.and_eq_true] at hs
    intro y hy
    cases hy with
    | head => exact scalar_one he hv hs.1
    | tail _ hy => exact ih hr hs.2 y hy

/-- The cells of a value. -/
theorem cells_rel' (he : EnvOk env) {a : AVal} {x : Value} (h : VRel ρ env a x) (hs : a ≠ .any) : VRels ρ env a.cells x.cells.toList := by
  cases h with
  | agg h1 h2 => exact ⟨h1, h2⟩
  | any x => exact absurd rfl hs
  | tup h1 h2 => exact .cons (.tup h1 h2) .nil
  | sym i =>
    have := he i
    have e : (env i).cells.toList = [env i] := by
      cases hx : env i <;> rw [hx] at this <;> first | rfl | (cases this; done)
    rw [e]; exact .cons (.sym i) .nil
  | bool b => exact .cons (.bool b) .nil
  | int k n => exact .cons (.int k n) .nil
  | str l n h => exact .cons (.str l n h) .nil
  | ptr o h => exact .cons (.ptr o h) .nil
  | nptr => exact .cons .nptr .nil
  | slcK o len c h => exact .cons (.slcK o len c h) .nil
  | slcO h h0 h1 h2 => exact .cons (.slcO h h0 h1 h2) .nil
  | slcE o off h h1 => exact .cons (.slcE o off h h1) .nil
  | nslc => exact .cons .nslc .nil
  | map h => exact .cons (.map h) .nil
  | nmap => exact .cons .nmap .nil
  | func f h1 h2 h3 h4 => exact .cons (.func f h1 h2 h3 h4) .nil
  | yield h => exact .cons (.yield h) .nil
  | nfunc => exact .cons .nfunc .nil
  | iface t h => exact .cons (.iface t h) .nil
  | niface => exact .cons .niface .nil

theorem cells_rel (he : EnvOk env) {a : AVal} {x : Value} (h : VRel ρ env a x) (hs : a.cells.all AVal.scalar = true) : VRels ρ env a.cells x.cells.toList :=
  cells_rel' he h (by rintro rfl; simp [AVal.cells, AVal.scalar] at hs)

theorem run_zero {t : TypeId} {z : AVal} (h : zeroA P t = some z) : ∃ v, (zeroValue t).run P w = .ok v w ∧ VRel ρ env z v := by
  unfold zeroA at h
  cases hi : P.info? t with
  | none => rw [hi] at h; cases h
  | some i =>
    rw [hi] at h
    cases hz : i.zero with
    | none => simp only [hz] at h; cases h
    | some v =>
      simp only [hz] at h
      exact ⟨v, by simp [zeroValue, run_info hi, hz], ofConst_rel h⟩

/-! ### Cells -/
theorem addr_add (B off i : Nat) : (⟨B, off, none⟩ : Addr).add i = ⟨B, off + i, none⟩ := by
  unfold Addr.add; split
  · rename_i e; subst e; rfl
  · rfl

theorem cell_of {B off : Nat} {c : Array Value} {e : TypeId} {frz : Nat × Nat} (hw : w.heap[B]? = some (.cells c e frz)) : w.cell? ⟨B, off, none⟩ = c[off]? := by
  simp [World.cell?, hw]
theorem frozen_of {B off : Nat} {c : Array Value} {e : TypeId} {frz : Nat × Nat} (hw : w.heap[B]? = some (.cells c e frz)) (hf : ¬ (frz.1 ≤ off ∧ off < frz.2)) : w.frozen? ⟨B, off, none⟩ = false := by
  obtain ⟨lo, hi⟩ := frz
  simp only [World.frozen?, hw]
  rw [Bool.eq_false_iff]
  intro hh
  exact hf (by simpa using hh)

theorem run_storeCells {B off : Nat} {e : TypeId} {frz : Nat × Nat} : ∀ (l : List Value) (i : Nat) (c : Array Value) (w : World), w.heap[B]? = some (.cells c e frz) → (∀ v ∈ l, Value.one v = true) →
    off + i + l.length ≤ c.size → (∀ k, k < c.size → ¬ (frz.1 ≤ k ∧ k < frz.2)) →
    (storeCells ⟨B, off, none⟩ l i).run P w = .ok () (setAt' w B (.cells (splice c (off + i) l) e frz)) := by
  intro l
  induction l with
  | nil => intro i c w hw _ _ _; rw [splice, setAt'_same hw]; rfl
  | cons v l ih =>
    intro i c w hw hv hs hf
    rw [List.length_cons] at hs
    unfold storeCells
    rw [Sem.run_bind, addr_add, run_store P w _ v _ (by rw [← one_eq]; exact hv v (by simp))]
    have hc : w.cell? ⟨B, off + i, none⟩ = c[off + i]? := cell_of hw
    have hlt : off + i < c.size := by omega
    rw [hc, Array.getElem?_eq_getElem hlt]
    simp only
    rw [frozen_of hw (hf _ hlt)]
    simp only [Bool.false_eq_true, if_false, Result.andThen_ok]
    rw [setCell_eq v hw]
    have hB := lt_of_get hw
    have hw' : (setAt' w B (.cells (c.setIfInBounds (off + i) v) e frz)).heap[B]? = some (.cells (c.setIfInBounds (off + i) v) e frz) := by
      rw [setAt'_heap _ _ _ hB, if_pos rfl]
    rw [ih (i + 1) _ _ hw' (fun x hx => hv x (by simp [hx])) (by simp; omega) (fun k hk => hf k (by simpa using hk))]
    rw [setAt'_setAt', splice]
    rfl

/-- What a read of cells gives. -/
theorem run_readCells {i : BI} {c : Array Value} {cs : T AVal} (n : Nat)
    (hc : ∀ j v, cs.get j = some v → j < n ∧ ∃ x, c[i.shift + j]? = some x ∧ VRel ρ env v x ∧ Value.one x = true) :
    ∀ (k o : Nat) (l : List AVal), readCells cs k o = some l → ∃ l', VRels ρ env l l' ∧ l.length = k ∧ (∀ x ∈ l', Value.one x = true) ∧ (k ≠ 0 → o + k ≤ n) ∧
      ∀ j x, l'[j]? = some x → c[i.shift + o + j]? = some x := by
  intro k
  induction k with
  | zero => intro o l h; cases h; exact ⟨[], .nil, rfl, by simp, by simp, by simp⟩
  | succ k ih =>
    intro o l h
    unfold readCells at h
    cases h1 : cs.get o with
    | none => rw [h1] at h; cases h
    | some v =>
      cases h2 : readCells cs k (o + 1) with
      | none => rw [h1, h2] at h; cases h
      | some r =>
        rw [h1, h2] at h; cases h
        obtain ⟨ho, x, hx, hv, h1'⟩ := hc o v h1
        obtain ⟨l', hl, hk, hone, hn, hget⟩ := ih (o + 1) r h2
        refine ⟨x :: l', .cons hv hl, by simp [hk], ?_, ?_, ?_⟩
        · intro y hy; cases hy with
          | head => exact h1'
          | tail _ hy => exact hone y hy
        · intro _; by_cases hk0 : k = 0
          · omega
          · have := hn hk0; omega
        · intro j y hy
          cases j with
          | zero => simp at hy; subst hy; exact hx
          | succ j =>
            have := hget j y (by simpa using hy)
            rw [show i.shift + o + (j + 1) = i.shift + (o + 1) + j by omega]; exact this

theorem run_loadCells' {B off : Nat} {c : Array Value} {e : TypeId} {frz : Nat × Nat} (hw : w.heap[B]? = some (.cells c e frz)) (l' : List Value)
    (hg : ∀ j x, l'[j]? = some x → c[off + j]? = some x) : (loadCells ⟨B, off, none⟩ l'.length).run P w = .ok ⟨l'⟩ w := by
  have := run_loadCells_list (P := P) (w := w) ⟨B, off, none⟩ l' (fun j v hv => by rw [addr_add, cell_of hw]; exact hg j v hv)
  simpa using this

/-- The facts on a live block. -/
theorem row_of (hr : HRel P env okc ρ h w) {b : Nat} {e : TypeId} {n : Nat} {op ro : Bool} {cs : T AVal} {i : BI} (hb : h.get b = some (.row e n op ro cs)) (hi : ρ b = some i) :
    ∃ c frz, w.heap[i.blk]? = some (.cells c e frz) ∧ c.size = i.total ∧ i.shift + n ≤ i.total ∧
      (∀ j v, cs.get j = some v → j < n ∧ ∃ x, c[i.shift + j]? = some x ∧ VRel ρ env v x ∧ Value.one x = true) ∧
      (ro = false → ∀ off, off < c.size → ¬ (frz.1 ≤ off ∧ off < frz.2)) ∧ (op = true → sizeA P e = some i.esz ∧ 1 ≤ i.esz) ∧ (op = false → i.shift = 0 ∧ n = i.total) := by
  obtain ⟨ob, hw, c, frz, rfl, h1, h2, h3, h4, h5⟩ := hr.obj b _ i hb rfl hi
  exact ⟨c, frz, hw, h1, h2, h3, h4, h5⟩

theorem cellsAt_sound (hr : HRel P env okc ρ h w) {b o k : Nat} {l : List AVal} {i : BI} (hi : ρ b = some i) (hc : cellsAt h b o k = some l) :
    ∃ l', VRels ρ env l l' ∧ l.length = k ∧ (∀ x ∈ l', Value.one x = true) ∧ (loadCells ⟨i.blk, i.shift + o, none⟩ k).run P w = .ok ⟨l'⟩ w := by
  unfold cellsAt at hc
  split at hc
  · rename_i e n op ro cs hb
    obtain ⟨c, frz, hw, _, _, h3, _, _⟩ := row_of hr hb hi
    obtain ⟨l', hl, hk, hone, _, hg⟩ := run_readCells n h3 k o l hc
    refine ⟨l', hl, hk, hone, ?_⟩
    have hlen : l'.length = k := by rw [← hl.1]; exact hk
    have := run_loadCells' (P := P) hw l' (off := i.shift + o) hg
    rwa [hlen] at this
  · cases hc

theorem loadA_sound (hr : HRel P env okc ρ h w) {t : TypeId} {b o : Nat} {v : AVal} {i : BI} (hi : ρ b = some i) (hl : loadA P h t b o = some v) :
    ∃ x, (loadVar t ⟨i.blk, i.shift + o, none⟩).run P w = .ok x w ∧ VRel ρ env v x := by
  unfold loadA at hl
  cases ha : aggA P t with
  | none => rw [ha] at hl; cases hl
  | some bb =>
    rw [ha] at hl
    cases bb with
    | true =>
      simp only at hl
      cases hs : sizeA P t with
      | none => rw [hs] at hl; cases hl
      | some n =>
        rw [hs] at hl; simp only at hl
        cases hc : cellsAt h b o n with
        | none => rw [hc] at hl; cases hl
        | some l =>
          rw [hc] at hl; cases hl
          obtain ⟨l', hl', _, _, hrun⟩ := cellsAt_sound hr hi hc
          exact ⟨.agg ⟨l'⟩, by simp [loadVar, run_agg ha, run_size hs, hrun], hl'.agg⟩
    | false =>
      simp only at hl
      split at hl
      · rename_i e n op ro cs hb
        obtain ⟨c, frz, hw, _, _, h3, _, _⟩ := row_of hr hb hi
        obtain ⟨_, x, hx, hv, _⟩ := h3 o v hl
        refine ⟨x, ?_, hv⟩
        simp [loadVar, run_agg ha, cell_of hw, hx]
      · cases hl

theorem writeCells_get : ∀ (l : List AVal) (cs : T AVal) (o j : Nat), (writeCells cs l o).get j = if o ≤ j ∧ j < o + l.length then l[j - o]? else cs.get j
  | [], cs, o, j => by simp [writeCells]; intro h1 h2; omega
  | v :: l, cs, o, j => by
    rw [writeCells, writeCells_get l, List.length_cons]
    by_cases h1 : j = o
    · subst h1
      rw [if_neg (by omega), T.get_set_same, if_pos (by omega), Nat.sub_self]; rfl
    · by_cases h2 : o + 1 ≤ j ∧ j < o + 1 + l.length
      · rw [if_pos h2, if_pos (by omega), show j - o = (j - (o + 1)) + 1 by omega, List.getElem?_cons_succ]
      · rw [if_neg h2, if_neg (by omega), T.get_set_ne _ _ (Ne.symm h1)]

theorem rowOf_get (l : List AVal) (j : Nat) : (rowOf l).get j = l[j]? := by
  unfold rowOf
  rw [writeCells_get]
  split
  · simp
  · rename_i h; rw [T.get_leaf, List.getElem?_eq_none (by omega)]

/-- Cells are written into a block that may be written. -/
theorem putCells_sound' (hr : HRel P env okc ρ h w) {b o : Nat} {l : List AVal} {l' : List Value} {i : BI} (hi : ρ b = some i) (hl : VRels ρ env l l') (hone : ∀ x ∈ l', Value.one x = true)
    (hp : putCells h b o l = some h') :
    ∃ w', (storeCells ⟨i.blk, i.shift + o, none⟩ l').run P w = .ok () w' ∧ Go' P env okc N ρ h w ρ h' w' := by
  unfold putCells at hp
  split at hp
  · rename_i e n op cs hb
    split at hp
    · rename_i hc
      cases hp
      simp only [Bool.and_eq_true, decide_eq_true_eq] at hc
      obtain ⟨hlen, hsc⟩ := hc
      obtain ⟨c, frz, hw, h1, h2, h3, h4, h5⟩ := row_of hr hb hi
      have hl1 : l'.length = l.length := hl.1.symm
      refine ⟨_, run_storeCells l' 0 c w hw hone (by omega) (h4 rfl), ?_⟩
      refine Go'.put hr hb ⟨rfl, rfl⟩ hi ⟨_, frz, rfl, ?_, h2, ?_, ?_, h5⟩
      · rw [splice_size]; exact h1
      · intro j v hv
        rw [writeCells_get] at hv
        by_cases hj : o ≤ j ∧ j < o + l.length
        · rw [if_pos hj] at hv
          obtain ⟨x, hx, hvx⟩ := hl.get hv
          refine ⟨by omega, x, ?_, hvx, hone x (List.mem_of_getElem? hx)⟩
          rw [Nat.add_zero, splice_get _ _ _ _ (by omega), if_pos (by omega)]
          rw [show i.shift + j - (i.shift + o) = j - o by omega]; exact hx
        · rw [if_neg hj] at hv
          obtain ⟨hjn, x, hx, hvx, ho⟩ := h3 j v hv
          refine ⟨hjn, x, ?_, hvx, ho⟩
          rw [Nat.add_zero, splice_get _ _ _ _ (by omega), if_neg (by omega)]; exact hx
      · intro _ off hoff; rw [splice_size] at hoff; exact h4 rfl off hoff
    · cases hp
  · cases hp

theorem putCells_sound (he : EnvOk env) (hr : HRel P env okc ρ h w) {b o : Nat} {l : List AVal} {l' : List Value} {i : BI} (hi : ρ b = some i) (hl : VRels ρ env l l')
    (hp : putCells h b o l = some h') :
    ∃ w', (storeCells ⟨i.blk, i.shift + o, none⟩ l').run P w = .ok () w' ∧ Go' P env okc N ρ h w ρ h' w' := by
  have hsc : l.all AVal.scalar = true := by
    unfold putCells at hp
    split at hp
    · split at hp
      · rename_i hc; simp only [Bool.and_eq_true] at hc; exact hc.2
      · cases hp
    · cases hp
  exact putCells_sound' hr hi hl (scalars_one he hl hsc) hp

/-- A number in its cell. -/
theorem numAt_cell (hr : HRel P env okc ρ h w) {b o : Nat} {k : IntKind} {n : Int} {i : BI} (hi : ρ b = some i) (hn : numAt h b o k = some n) : w.cell? ⟨i.blk, i.shift + o, none⟩ = some (.int k n) := by
  unfold numAt at hn
  split at hn
  rotate_left
  · cases hn
  rename_i e m op ro cs hb
  split at hn
  rotate_left
  · cases hn
  rename_i k' n' hg
  split at hn
  rotate_left
  · cases hn
  rename_i hk
  cases hn
  subst hk
  obtain ⟨c, frz, hw, h1, h2, h3, h4, h5⟩ := row_of hr hb hi
  obtain ⟨_, x, hx, hv, _⟩ := h3 o _ hg
  rw [hv.of_int] at hx
  simp [World.cell?, hw, hx]
/-- A number is put into its cell. -/
theorem putN_sound (hr : HRel P env okc ρ h w) {b o : Nat} {k : IntKind} {n : Int} {u : Value} {i : BI} (hi : ρ b = some i) (hc : w.cell? ⟨i.blk, i.shift + o, none⟩ = some u) (hp : putN h b o k n = some h') :
    w.frozen? ⟨i.blk, i.shift + o, none⟩ = false ∧ Go' P env okc N ρ h w ρ h' (w.setCell ⟨i.blk, i.shift + o, none⟩ (.int k n)) := by
  have hl : VRels ρ env [.int k n] [.int k n] := .cons (.int k n) .nil
  obtain ⟨w', hrun, hgo⟩ := putCells_sound' (N := N) (P := P) (okc := okc) hr hi hl (fun x hx => by simp at hx; subst hx; rfl) hp
  have hrs := run_store P w ⟨i.blk, i.shift + o, none⟩ (.int k n) .plain rfl
  rw [hc] at hrs
  simp only at hrs
  have ha : (⟨i.blk, i.shift + o, none⟩ : Addr).add 0 = ⟨i.blk, i.shift + o, none⟩ := by simp [Addr.add]
  unfold storeCells at hrun
  rw [ha, Sem.run_bind] at hrun
  have hrs' : (store ⟨i.blk, i.shift + o, none⟩ (.int k n)).run P w = _ := hrs
  rw [hrs'] at hrun
  cases hf : w.frozen? ⟨i.blk, i.shift + o, none⟩ with
  | true => rw [hf] at hrun; simp [Result.andThen] at hrun
  | false =>
    rw [hf] at hrun
    simp only [Bool.false_eq_true, if_false, Result.andThen_ok] at hrun
    unfold storeCells at hrun
    simp only [Sem.run_pure, Result.ok.injEq] at hrun
    obtain ⟨_, rfl⟩ := hrun
    exact ⟨rfl, hgo⟩

theorem storeA_sound (he : EnvOk env) (hr : HRel P env okc ρ h w) {t : TypeId} {b o : Nat} {v : AVal} {x : Value} {i : BI} (hi : ρ b = some i) (hv : VRel ρ env v x)
    (hp : storeA P h t b o v = some h') : ∃ w', (storeVar t ⟨i.blk, i.shift + o, none⟩ x).run P w = .ok () w' ∧ Go' P env okc N ρ h w ρ h' w' := by
  unfold storeA at hp
  cases hs : sizeA P t with
  | none => rw [hs] at hp; cases hp
  | some n =>
    rw [hs] at hp; simp only at hp
    split at hp
    · rename_i hlen
      have hsc : v.cells.all AVal.scalar = true := by
        unfold putCells at hp
        split at hp
        · split at hp
          · rename_i hc; simp only [Bool.and_eq_true] at hc; exact hc.2
          · cases hp
        · cases hp
      have hc := cells_rel he hv hsc
      obtain ⟨w', hrun, hgo⟩ := putCells_sound (N := N) he hr hi hc hp
      refine ⟨w', ?_, hgo⟩
      have hsz : x.cells.size = n := by rw [← Array.length_toList, ← hc.1]; exact hlen
      simp [storeVar, run_size hs, hsz, hrun]
    · cases hp

/-- A new row. -/
theorem newRow_sound (hr : HRel P env okc ρ h w) {rid : Nat} {e : TypeId} {l : List AVal} {l' : List Value} (hone : ∀ x ∈ l', Value.one x = true) (hl : VRels ρ env l l')
    (hrid : ρ rid = none) (hn : rid < h.next) (hN : N rid) :
    ∃ i : BI, i.blk = w.heap.size ∧ i.shift = 0 ∧ Go' P env okc N ρ h w (ρ.set rid i) (newRowA h rid e l false) (w.alloc (.cells ⟨l'⟩ e)) := by
  refine ⟨⟨w.heap.size, 0, l'.length, 0⟩, rfl, rfl, ?_⟩
  refine Go'.alloc hr hrid hn hN rfl ?_
  refine ⟨⟨l'⟩, (0, 0), rfl, by simp, by simp [hl.1], ?_, by intro _ off _ hh; simp at hh, by simp, fun _ => ⟨rfl, by simp [hl.1]⟩⟩
  intro j v hv
  rw [rowOf_get] at hv
  obtain ⟨x, hx, hvx⟩ := hl.get hv
  have hj : j < l.length := by
    rcases Nat.lt_or_ge j l.length with h | h
    · exact h
    · simp [List.getElem?_eq_none h] at hv
  exact ⟨hj, x, by simpa using hx, hvx.mono (Rho.sub_set _ hrid), hone x (List.mem_of_getElem? hx)⟩

/-- A new row that has room behind its cells. -/
theorem newRowOpen_sound (hr : HRel P env okc ρ h w) {rid : Nat} {e : TypeId} {l : List AVal} {l' : List Value} (rest : List Value) {esz : Nat} {frz : Nat × Nat}
    (hone : ∀ x ∈ l', Value.one x = true) (hl : VRels ρ env l l')
    (hrid : ρ rid = none) (hn : rid < h.next) (hN : N rid) (hsz : sizeA P e = some esz) (h1 : 1 ≤ esz) (hf : ∀ off, off < l'.length + rest.length → ¬ (frz.1 ≤ off ∧ off < frz.2)) :
    Go' P env okc N ρ h w (ρ.set rid ⟨w.heap.size, 0, l'.length + rest.length, esz⟩) (newRowA h rid e l true) (w.alloc (.cells ⟨l' ++ rest⟩ e frz)) := by
  refine Go'.alloc hr hrid hn hN rfl ?_
  refine ⟨⟨l' ++ rest⟩, frz, rfl, by simp, by simp [hl.1], ?_, fun _ => by simpa using hf, fun _ => ⟨hsz, h1⟩, by simp⟩
  intro j v hv
  rw [rowOf_get] at hv
  obtain ⟨x, hx, hvx⟩ := hl.get hv
  have hj : j < l.length := by
    rcases Nat.lt_or_ge j l.length with h | h
    · exact h
    · simp [List.getElem?_eq_none h] at hv
  refine ⟨hj, x, ?_, hvx.mono (Rho.sub_set _ hrid), hone x (List.mem_of_getElem? hx)⟩
  have : (l' ++ rest)[j]? = some x := by rw [List.getElem?_append_left (by rw [← hl.1]; exact hj)]; exact hx
  simp only [Nat.zero_add]
  rw [← List.getElem?_toArray] at this
  exact this
end
end Go.Eng
