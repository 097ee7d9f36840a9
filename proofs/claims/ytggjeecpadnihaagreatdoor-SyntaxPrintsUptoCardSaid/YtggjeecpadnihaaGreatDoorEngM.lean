/- The engine, part M: one operation. -/
import Derived.Test.YtggjeecpadnihaaGreatDoorEngL3
import Derived.Laws.LoneSync
set_option linter.unusedSectionVars false
set_option linter.unusedVariables false
set_option linter.unusedSimpArgs false
namespace Go.Eng

section
variable {P : Program} {env : Nat → Value} {okc : FuncId → Code → Bool} {N : Nat → Prop} {ρ ρ' : Rho} {h h' : AHeap} {w w' : World}

/-- What an operation comes to. -/
def ExecOk (P : Program) (env : Nat → Value) (okc : FuncId → Code → Bool) (N : Nat → Prop) (ρ : Rho) (h : AHeap) (w : World) (s : Sem Next) : ANext → Prop
  | .val v h' => ∃ nx ρ' w', s.run P w = .ok nx w' ∧ Go' P env okc N ρ h w ρ' h' w' ∧ ((∃ x, nx = .value x ∧ VRel ρ' env v x) ∨ (nx = .skip ∧ v = undefA))
  | .enter (.fn f) args h' => h' = h ∧ ∃ args', s.run P w = .ok (.enter f ⟨args'⟩) w ∧ VRels ρ env args args' ∧ (bodyOf P f).isSome = true
  | .enter (.round b) args h' => h' = h ∧ ∃ i args', ρ b = some i ∧ s.run P w = (Instr.yield i.blk ⟨args'⟩).run P w ∧ VRels ρ env args args'
  | .pan v h' => h' = h ∧ ∃ x, s.run P w = .halt (.panic x) w ∧ VRel ρ env v x
  | .dfr d h' => h' = h ∧ ∃ e, s.run P w = .ok (.defer e) w ∧ DefdRel env ρ (.call d) e
  | .recover h' => h' = h ∧ s.run P w = .ok .recover w

theorem ExecOk.makes {s : Sem Value} {v : AVal} (hm : Makes P env okc N ρ h w s v h') : ExecOk P env okc N ρ h w (do pure (.value (← s))) (.val v h') := by
  obtain ⟨x, ρ', w', h1, h2, h3⟩ := hm
  exact ⟨.value x, ρ', w', by simp [h1], h3, .inl ⟨x, rfl, h2⟩⟩

theorem ExecOk.pure (hr : HRel P env okc ρ h w) {s : Sem Value} {v : AVal} (hm : ∃ r, s.run P w = .ok r w ∧ VRel ρ env v r) : ExecOk P env okc N ρ h w (do pure (.value (← s))) (.val v h) := by
  obtain ⟨x, h1, h2⟩ := hm
  exact .makes (.pure' hr h1 h2)

theorem ExecOk.value (hr : HRel P env okc ρ h w) {x : Value} {v : AVal} (hv : VRel ρ env v x) : ExecOk P env okc N ρ h w (Pure.pure (.value x)) (.val v h) :=
  ⟨.value x, ρ, w, rfl, .refl hr, .inl ⟨x, rfl, hv⟩⟩

theorem ExecOk.unit {s : Sem Unit} (hm : ∃ w', s.run P w = .ok () w' ∧ Go' P env okc N ρ h w ρ h' w') : ExecOk P env okc N ρ h w (do s; Pure.pure .skip) (.val undefA h') := by
  obtain ⟨w', h1, h2⟩ := hm
  exact ⟨.skip, ρ, w', by simp [h1], h2, .inr ⟨rfl, rfl⟩⟩

variable {X : Cx}

theorem v1_of {a : Option AVal} {n : ANext} (h1 : v1 h a = some n) : ∃ v, a = some v ∧ n = .val v h := by
  cases a with
  | none => cases h1
  | some v => cases h1; exact ⟨v, rfl, rfl⟩
theorem vh_of {a : Option (AVal × AHeap)} {n : ANext} (h1 : vh a = some n) : ∃ v h', a = some (v, h') ∧ n = .val v h' := by
  match a, h1 with
  | some (v, h'), h1 => cases h1; exact ⟨v, h', rfl, rfl⟩
theorem h1_of {a : Option AHeap} {n : ANext} (h1' : h1 a = some n) : ∃ h', a = some h' ∧ n = .val undefA h' := by
  cases a with
  | none => cases h1'
  | some v => cases h1'; exact ⟨v, rfl, rfl⟩

section
variable {ev : Operand → Option AVal} {evc : Operand → Value} (hev : ∀ x v, ev x = some v → VRel ρ env v (evc x))
include hev

theorem evs_rel : ∀ {l : List Operand} {vs : List AVal}, evs ev l = some vs → VRels ρ env vs (l.map evc)
  | [], vs, h => by cases h; exact .nil
  | x :: l, vs, h => by
    have h' : (match ev x with | some v => (match evs ev l with | some r => some (v :: r) | none => none) | none => none) = some vs := h
    cases hx : ev x with
    | none => rw [hx] at h'; cases h'
    | some v =>
      rw [hx] at h'; simp only at h'
      cases hl : evs ev l with
      | none => rw [hl] at h'; cases h'
      | some r => rw [hl] at h'; cases h'; exact .cons (hev x v hx) (evs_rel hl)

theorem evO_rel {x : Option Operand} {v : Option AVal} (h : evO ev x = some v) : ORel (ρ := ρ) (env := env) v (x.map evc) := by
  cases x with
  | none => cases h; exact trivial
  | some x =>
    have h' : (match ev x with | some v => some (some v) | none => none) = some v := h
    cases hx : ev x with
    | none => rw [hx] at h'; cases h'
    | some y => rw [hx] at h'; cases h'; exact hev x y hx

theorem evParts_rel : ∀ {l : List (Nat × Operand)} {vs : List (Nat × AVal)}, evParts ev l = some vs → PartsRel ρ env vs (l.map fun p => (p.1, evc p.2))
  | [], vs, h => by cases h; exact ⟨rfl, by simp⟩
  | p :: l, vs, h => by
    have h' : (match ev p.2 with | some v => (match evParts ev l with | some r => some ((p.1, v) :: r) | none => none) | none => none) = some vs := h
    cases hx : ev p.2 with
    | none => rw [hx] at h'; cases h'
    | some v =>
      rw [hx] at h'; simp only at h'
      cases hl : evParts ev l with
      | none => rw [hl] at h'; cases h'
      | some r =>
        rw [hl] at h'; cases h'
        obtain ⟨e1, e2⟩ := evParts_rel hl
        refine ⟨by simp [e1], fun i a b ha hb => ?_⟩
        cases i with
        | zero => simp at ha hb; subst ha; subst hb; exact ⟨rfl, hev _ v hx⟩
        | succ i => simp at ha; rw [List.map_cons, List.getElem?_cons_succ] at hb; exact e2 i a b ha hb
end

theorem parts_map (ps : Array (Nat × Operand)) (evc : Operand → Value) : (ps.map fun (i, x) => (i, evc x)).toList = ps.toList.map fun p => (p.1, evc p.2) := by
  rw [Array.toList_map]

theorem makeMap_sound (hr : HRel P env okc ρ h w) {rid : Nat} {t : TypeId} (hrid : ρ rid = none) (hn : rid < h.next) (hN : N rid) :
    Makes P env okc N ρ h w (Instr.makeMap t none) (.map rid) (h.put rid (.map [] 0)) := by
  have hgo := Go'.alloc (o := .map [] 0) (ob := .map #[] 0) (i := ⟨w.heap.size, 0, 0, 0⟩) hr hrid hn hN rfl ⟨#[], rfl, trivial⟩
  refine ⟨.map (some w.heap.size), ρ.set rid ⟨w.heap.size, 0, 0, 0⟩, w.alloc (.map #[] 0), ?_, VRel.map (Rho.set_same ρ rid ⟨w.heap.size, 0, 0, 0⟩), hgo⟩
  simp only [Instr.makeMap, Sem.run_bind, run_newObj, Result.andThen_ok, Sem.run_pure]
  rfl

theorem dis_next : (Extern.allNextRows.lookup "internal/race.Disable") = none := by kernel_rfl
theorem dis_gen : (Extern.allGenericRows.lookup "internal/race.Disable") = none := by kernel_rfl
theorem dis_typed : (Extern.allTypedRows.lookup "internal/race.Disable") = none := by kernel_rfl
theorem ena_next : (Extern.allNextRows.lookup "internal/race.Enable") = none := by kernel_rfl
theorem ena_gen : (Extern.allGenericRows.lookup "internal/race.Enable") = none := by kernel_rfl
theorem ena_typed : (Extern.allTypedRows.lookup "internal/race.Enable") = none := by kernel_rfl
theorem acq_next : (Extern.allNextRows.lookup "internal/race.Acquire") = none := by kernel_rfl
theorem acq_gen : (Extern.allGenericRows.lookup "internal/race.Acquire") = none := by kernel_rfl
theorem acq_typed : (Extern.allTypedRows.lookup "internal/race.Acquire") = none := by kernel_rfl
theorem rel_next : (Extern.allNextRows.lookup "internal/race.ReleaseMerge") = none := by kernel_rfl
theorem rel_gen : (Extern.allGenericRows.lookup "internal/race.ReleaseMerge") = none := by kernel_rfl
theorem rel_typed : (Extern.allTypedRows.lookup "internal/race.ReleaseMerge") = none := by kernel_rfl
theorem ldu_next : (Extern.allNextRows.lookup "sync/atomic.LoadUint32") = none := by kernel_rfl
theorem ldu_gen : (Extern.allGenericRows.lookup "sync/atomic.LoadUint32") = none := by kernel_rfl
theorem ldu_typed : (Extern.allTypedRows.lookup "sync/atomic.LoadUint32") = none := by kernel_rfl
theorem stu_next : (Extern.allNextRows.lookup "sync/atomic.StoreUint32") = none := by kernel_rfl
theorem stu_gen : (Extern.allGenericRows.lookup "sync/atomic.StoreUint32") = none := by kernel_rfl
theorem stu_typed : (Extern.allTypedRows.lookup "sync/atomic.StoreUint32") = none := by kernel_rfl
theorem adi_next : (Extern.allNextRows.lookup "sync/atomic.AddInt32") = none := by kernel_rfl
theorem adi_gen : (Extern.allGenericRows.lookup "sync/atomic.AddInt32") = none := by kernel_rfl
theorem adi_typed : (Extern.allTypedRows.lookup "sync/atomic.AddInt32") = none := by kernel_rfl
theorem csi_next : (Extern.allNextRows.lookup "sync/atomic.CompareAndSwapInt32") = none := by kernel_rfl
theorem csi_gen : (Extern.allGenericRows.lookup "sync/atomic.CompareAndSwapInt32") = none := by kernel_rfl
theorem csi_typed : (Extern.allTypedRows.lookup "sync/atomic.CompareAndSwapInt32") = none := by kernel_rfl
theorem next_none {fn : Func} {nm : String} (n1 : fn.name = nm) (n2 : fn.origin = "") (hnext : Extern.allNextRows.lookup nm = none) : Extern.findNext fn = none := by
  simp only [Extern.findNext, n1, n2, hnext, noEscape_next', Option.map_none]
  rfl
theorem atomA_sound (hr : HRel P env okc ρ h w) {f : FuncId} {fn : Func} (hf : P.funcs[f]? = some fn) (hb : fn.body.isNone = true) (n2 : fn.origin = "") {args : List AVal} {args' : List Value} {v : AVal} (ha : VRels ρ env args args') (he : atomA fn.name args h = some (v, h')) :
    ∃ x w', (callFunc f ⟨args'⟩).run P w = .ok (.value x) w' ∧ Go' P env okc N ρ h w ρ h' w' ∧ VRel ρ env v x := by
  unfold atomA at he
  split at he
  · split at he
    rotate_left
    · cases he
    rename_i hn
    cases he
    have := ha.nil_iff
    subst this
    rw [Bool.or_eq_true, beq_iff_eq, beq_iff_eq] at hn
    refine ⟨.tuple #[], w, ?_, .refl hr, .tup rfl (by simp)⟩
    rcases hn with hn | hn
    · exact run_call_mark0 hf (by rw [hn]; decide) hb (next_none hn n2 dis_next) .disable (find_plain hn dis_gen dis_typed (by kernel_rfl)) w
    · exact run_call_mark0 hf (by rw [hn]; decide) hb (next_none hn n2 ena_next) .enable (find_plain hn ena_gen ena_typed (by kernel_rfl)) w
  · rename_i b o
    obtain ⟨x, r, rfl, hx, hr'⟩ := ha.uncons
    have := hr'.nil_iff
    subst this
    split at he
    · rename_i hn
      cases he
      rw [Bool.or_eq_true, beq_iff_eq, beq_iff_eq] at hn
      cases hx with
      | ptr _ hi =>
      refine ⟨.tuple #[], w, ?_, .refl hr, .tup rfl (by simp)⟩
      rcases hn with hn | hn
      · exact run_call_marked hf (by rw [hn]; decide) hb (next_none hn n2 acq_next) .acquire (find_plain hn acq_gen acq_typed (by kernel_rfl)) _ w
      · exact run_call_marked hf (by rw [hn]; decide) hb (next_none hn n2 rel_next) .releaseMerge (find_plain hn rel_gen rel_typed (by kernel_rfl)) _ w
    · split at he
      rotate_left
      · cases he
      rename_i hn
      have hn := eq_of_beq hn
      split at he
      rotate_left
      · cases he
      rename_i n hnum
      cases he
      cases hx with
      | ptr _ hi =>
      have hc := numAt_cell hr hi hnum
      exact ⟨_, w, run_call_load hf (by rw [hn]; decide) hb (next_none hn n2 ldu_next) .u32 (find_plain hn ldu_gen ldu_typed (by kernel_rfl)) hc, .refl hr, .int _ _⟩
  · rename_i b o y
    obtain ⟨x, r, rfl, hx, hr'⟩ := ha.uncons
    obtain ⟨z, r, rfl, hz, hr''⟩ := hr'.uncons
    have := hr''.nil_iff
    subst this
    split at he
    rotate_left
    · cases he
    rename_i hn
    have hn := eq_of_beq hn
    split at he
    rotate_left
    · cases he
    rename_i n hnum
    split at he
    rotate_left
    · cases he
    rename_i h2 hput
    cases he
    rw [hz.of_int]
    cases hx with
    | ptr _ hi =>
    have hc := numAt_cell hr hi hnum
    obtain ⟨hfz, hgo⟩ := putN_sound (N := N) hr hi hc hput
    exact ⟨_, _, run_call_store hf (by rw [hn]; decide) hb (next_none hn n2 stu_next) (find_plain hn stu_gen stu_typed (by kernel_rfl)) hc hfz, hgo, .tup rfl (by simp)⟩
  · rename_i b o y
    obtain ⟨x, r, rfl, hx, hr'⟩ := ha.uncons
    obtain ⟨z, r, rfl, hz, hr''⟩ := hr'.uncons
    have := hr''.nil_iff
    subst this
    split at he
    rotate_left
    · cases he
    rename_i hn
    have hn := eq_of_beq hn
    split at he
    rotate_left
    · cases he
    rename_i n hnum
    split at he
    rotate_left
    · cases he
    rename_i h2 hput
    cases he
    rw [hz.of_int]
    cases hx with
    | ptr _ hi =>
    have hc := numAt_cell hr hi hnum
    obtain ⟨hfz, hgo⟩ := putN_sound (N := N) hr hi hc hput
    exact ⟨_, _, run_call_add hf (by rw [hn]; decide) hb (next_none hn n2 adi_next) .i32 (find_plain hn adi_gen adi_typed (by kernel_rfl)) hc hfz (by rw [wrapF_eq]; rfl), hgo, .int _ _⟩
  · rename_i b o x0 y
    obtain ⟨x, r, rfl, hx, hr'⟩ := ha.uncons
    obtain ⟨z, r, rfl, hz, hr''⟩ := hr'.uncons
    obtain ⟨z2, r, rfl, hz2, hr3⟩ := hr''.uncons
    have := hr3.nil_iff
    subst this
    split at he
    rotate_left
    · cases he
    rename_i hn
    have hn := eq_of_beq hn
    split at he
    rotate_left
    · cases he
    rename_i n hnum
    split at he
    rotate_left
    · cases he
    rename_i heq
    have heq : n = x0 := by rw [eqI_eq] at heq; simpa using heq
    subst heq
    split at he
    rotate_left
    · cases he
    rename_i h2 hput
    cases he
    rw [hz.of_int, hz2.of_int]
    cases hx with
    | ptr _ hi =>
    have hc := numAt_cell hr hi hnum
    obtain ⟨hfz, hgo⟩ := putN_sound (N := N) hr hi hc hput
    exact ⟨_, _, run_call_cas_hit hf (by rw [hn]; decide) hb (next_none hn n2 csi_next) .i32 (find_plain hn csi_gen csi_typed (by kernel_rfl)) hc hfz, hgo, .bool _⟩
  · cases he

/-- A function without a body. -/
theorem externA_sound (hr : HRel P env okc ρ h w) (hNn : ∀ b, h.next ≤ b → N b) {f : FuncId} {args : List AVal} {args' : List Value} {n : ANext} (ha : VRels ρ env args args') (he : externA P f args h = some n) :
    ExecOk P env okc N ρ h w (callFunc f ⟨args'⟩) n := by
  unfold externA at he
  split at he
  rotate_left
  · cases he
  rename_i fn hf
  split at he
  rotate_left
  · cases he
  rename_i hb
  have hmk : ∀ {nm : String} {g : Array Value → Sem Value} {v : AVal} {h' : AHeap}, fn.name = nm → fn.origin = "" → (nm == "runtime.NumGoroutine") = false → Extern.allNextRows.lookup nm = none → Extern.find fn = some g →
      Makes P env okc N ρ h w (g ⟨args'⟩) v h' → ExecOk P env okc N ρ h w (callFunc f ⟨args'⟩) (.val v h') := by
    rintro nm g v h' n1 n2 n3 n4 n5 ⟨x, ρ', w', m1, m2, m3⟩
    exact ⟨.value x, ρ', w', extern_run hf hb n1 n2 n3 n4 n5 m1, m3, .inl ⟨x, rfl, m2⟩⟩
  split at he
  · rename_i v h2 hat
    cases he
    split at hat
    rotate_left
    · cases hat
    rename_i n2
    have n2 := eq_of_beq n2
    obtain ⟨x, w', m1, m2, m3⟩ := atomA_sound (N := N) hr hf hb n2 ha hat
    exact ⟨.value x, ρ, w', m1, m2, .inl ⟨x, rfl, m3⟩⟩
  split at he
  · rename_i b o
    split at he
    rotate_left
    · cases he
    rename_i hnm
    cases he
    simp only [Bool.and_eq_true, beq_iff_eq] at hnm
    obtain ⟨n1, n2⟩ := hnm
    obtain ⟨x, r, rfl, hx, hr'⟩ := ha.uncons
    have := hr'.nil_iff
    subst this
    exact hmk n1 n2 (by decide) noEscape_next (find_plain n1 noEscape_gen noEscape_typed noEscape_row) (.pure' hr rfl hx)
  · rename_i k
    split at he
    rotate_left
    · cases he
    rename_i hnm
    split at he
    rotate_left
    · cases he
    rename_i e hel
    cases he
    simp only [Bool.and_eq_true, beq_iff_eq] at hnm
    obtain ⟨⟨n1, n2⟩, n3⟩ := hnm
    obtain ⟨x, r, rfl, hx, hr'⟩ := ha.uncons
    have := hr'.nil_iff
    subst this
    cases hx
    exact hmk n1 n2 (by decide) noZero_next (find_typed n1 noZero_gen noZero_typed) (noZero_sound hr hNn hel (ble_le n3))
  · rename_i l m c
    split at he
    rotate_left
    · cases he
    rename_i hnm
    simp only [Bool.and_eq_true, beq_iff_eq] at hnm
    obtain ⟨n2, n3⟩ := hnm
    obtain ⟨x, r, rfl, hx, hr'⟩ := ha.uncons
    obtain ⟨y, r, rfl, hy, hr''⟩ := hr'.uncons
    have := hr''.nil_iff
    subst this
    cases hx; cases hy
    split at he
    · rename_i n1
      cases he
      have n1 := eq_of_beq n1
      exact hmk n1 n2 (by decide) count_next (find_plain n1 count_gen count_typed count_row) (.pure' hr (count_run (ble_le n3)) (.int _ _))
    · split at he
      rotate_left
      · cases he
      rename_i n1
      cases he
      have n1 := eq_of_beq n1
      exact hmk n1 n2 (by decide) index_next (find_plain n1 index_gen index_typed index_row) (.pure' hr (index_run (ble_le n3)) (.int _ _))
  · cases he

theorem callFunc_sound (hr : HRel P env okc ρ h w) (hNn : ∀ b, h.next ≤ b → N b) {f : FuncId} {args : List AVal} {args' : List Value} {n : ANext} (ha : VRels ρ env args args') (he : enterA P f args h = some n) :
    ExecOk P env okc N ρ h w (callFunc f ⟨args'⟩) n := by
  unfold enterA at he
  split at he
  · rename_i fc hb
    cases he
    refine ⟨rfl, args', ?_, ha, by rw [hb]; rfl⟩
    unfold bodyOf at hb
    split at hb
    rotate_left
    · cases hb
    rename_i fn hf
    split at hb
    · cases hb
    rename_i hn
    split at hb
    rotate_left
    · cases hb
    rename_i c hc
    have hn : (fn.name == "runtime.NumGoroutine") = false := by simpa using hn
    have hn' : ¬ fn.name = "runtime.NumGoroutine" := by simpa using hn
    simp [callFunc, hf, hn', hc]
  · exact externA_sound hr hNn ha he

theorem list2 {α : Type} {l : List α} {a b : α} (h : l = [a, b]) : (⟨l⟩ : Array α) = #[a, b] := by rw [h]

set_option maxHeartbeats 1000000 in
theorem builtinA_sound (he : EnvOk env) (hF : ∀ f ∈ X.facts, FactOk P env f) (hr : HRel P env okc ρ h w) {rid : Nat} {b : Builtin} {ts : List TypeId} {args : List AVal} {args' : List Value}
    {ty : TypeId} {consts : Array Bool} {n : ANext} (hrid : b = .append → ρ rid = none ∧ rid < h.next ∧ N rid) (ha : VRels ρ env args args') (hb : builtinA P X h rid b ts args = some n) :
    ExecOk P env okc N ρ h w (builtin b ⟨ts⟩ ty consts ⟨args'⟩) n := by
  unfold builtinA at hb
  split at hb
  · rename_i sT xT s x
    obtain ⟨cs, r, rfl, hs, h1⟩ := ha.uncons
    obtain ⟨cx, r, rfl, hx, h2⟩ := h1.uncons
    have := h2.nil_iff; subst this
    obtain ⟨v, h', h3, rfl⟩ := vh_of hb
    obtain ⟨k1, k2, k3⟩ := hrid rfl
    exact .makes (appendA_sound he hr hs hx k1 k2 k3 h3)
  · rename_i dT _ d s
    obtain ⟨cs, r, rfl, hs, h1⟩ := ha.uncons
    obtain ⟨cx, r, rfl, hx, h2⟩ := h1.uncons
    have := h2.nil_iff; subst this
    obtain ⟨v, h', h3, rfl⟩ := vh_of hb
    exact .makes (copyA_sound he hr hs hx h3)
  · rename_i t _ x
    obtain ⟨cx, r, rfl, hx, h2⟩ := ha.uncons
    have := h2.nil_iff; subst this
    obtain ⟨v, h3, rfl⟩ := v1_of hb
    exact .pure hr (lenA_sound hF hr hx h3)
  · rename_i t _ x
    obtain ⟨cx, r, rfl, hx, h2⟩ := ha.uncons
    have := h2.nil_iff; subst this
    obtain ⟨v, h3, rfl⟩ := v1_of hb
    exact .pure hr (capA_sound hx h3)
  · rename_i x l
    obtain ⟨cx, r, rfl, hx, h2⟩ := ha.uncons
    obtain ⟨v, h3, rfl⟩ := v1_of hb
    obtain ⟨y, h4, h5⟩ := maxA_sound (w := w) (P := P) l r x v cx hx h2 h3
    exact .pure hr (s := Builtin.max_ ⟨ts⟩ ty ⟨cx :: r⟩) ⟨y, h4, h5⟩
  · rename_i x l
    obtain ⟨cx, r, rfl, hx, h2⟩ := ha.uncons
    obtain ⟨v, h3, rfl⟩ := v1_of hb
    obtain ⟨y, h4, h5⟩ := maxA_sound (w := w) (P := P) l r x v cx hx h2 h3
    exact .pure hr (s := Builtin.min_ ⟨ts⟩ ty ⟨cx :: r⟩) ⟨y, h4, h5⟩
  · rename_i t ts' m k
    obtain ⟨cs, r, rfl, hs, h1⟩ := ha.uncons
    obtain ⟨cx, r, rfl, hx, h2⟩ := h1.uncons
    have := h2.nil_iff; subst this
    obtain ⟨h', h3, rfl⟩ := h1_of hb
    obtain ⟨w', h4, h5⟩ := deleteA_sound (N := N) (ty := ty) (ts := ts') hr hs hx h3
    exact ⟨.value (.tuple #[]), ρ, w', by simp [builtin, h4], h5, .inl ⟨_, rfl, .undef⟩⟩
  · rename_i t ts' x
    obtain ⟨cx, r, rfl, hx, h2⟩ := ha.uncons
    have := h2.nil_iff; subst this
    obtain ⟨h', h3, rfl⟩ := h1_of hb
    obtain ⟨w', h4, h5⟩ := clearA_sound (N := N) (ty := ty) (ts := ts') he hr hx h3
    exact ⟨.value (.tuple #[]), ρ, w', by simp [builtin, h4], h5, .inl ⟨_, rfl, .undef⟩⟩
  · rename_i x
    obtain ⟨cx, r, rfl, hx, h2⟩ := ha.uncons
    have := h2.nil_iff; subst this
    obtain ⟨v, h3, rfl⟩ := v1_of hb
    exact .pure hr (sliceDataA_sound hx h3)
  · rename_i t _ x n
    obtain ⟨cs, r, rfl, hs, h1⟩ := ha.uncons
    obtain ⟨cx, r, rfl, hx, h2⟩ := h1.uncons
    have := h2.nil_iff; subst this
    obtain ⟨v, h', h3, rfl⟩ := vh_of hb
    exact .makes (unsafeStringA_sound hr hs hx h3)
  · rename_i t v
    obtain ⟨cx, r, rfl, hx, h2⟩ := ha.uncons
    have := h2.nil_iff; subst this
    cases hb
    cases hx with | iface _ hv =>
    exact ⟨rfl, _, rfl, .iface _ hv⟩
  · cases hb
    exact ⟨rfl, rfl⟩
  · cases hb

theorem array_map_list {α β : Type} (l : Array α) (f : α → β) : l.map f = ⟨l.toList.map f⟩ := by
  apply Array.ext'; simp

theorem invoke_method (name : String) (x : Value) (l : List Value) : invoke (.fn (.method name) #[]) (#[x] ++ (⟨l⟩ : Array Value)) = callMethod x name ⟨l⟩ := by
  have e0 : #[x] ++ (⟨l⟩ : Array Value) = ⟨x :: l⟩ := by apply Array.ext'; simp
  have e1 : (⟨x :: l⟩ : Array Value).extract 1 (⟨x :: l⟩ : Array Value).size = ⟨l⟩ := by
    apply Array.ext'
    rw [Array.toList_extract]
    simp
  have e2 : (⟨x :: l⟩ : Array Value)[0]? = some x := rfl
  rw [e0]
  simp only [invoke, e2, e1]

theorem callA_sound (he : EnvOk env) (hF : ∀ f ∈ X.facts, FactOk P env f) (hr : HRel P env okc ρ h w) (hNn : ∀ b, h.next ≤ b → N b) {ev : Operand → Option AVal} {evc : Operand → Value}
    (hev : ∀ x v, ev x = some v → VRel ρ env v (evc x)) {rid : Nat} {c : Call} {ty : TypeId} {n : ANext} (hrid : c.callee = .builtin .append → ρ rid = none ∧ rid < h.next ∧ N rid)
    (hc : callA P X ev h rid c = some n) : ExecOk P env okc N ρ h w (do let d ← resolve evc c ty; invoke d.target d.args) n := by
  unfold callA at hc
  cases ha : evs ev c.args.toList with
  | none => rw [ha] at hc; cases hc
  | some args =>
    rw [ha] at hc; simp only at hc
    have hargs := evs_rel hev ha
    have hmap := array_map_list c.args evc
    split at hc
    · rename_i b hcal
      have : (do let d ← resolve evc c ty; invoke d.target d.args) = (builtin b ⟨c.argTypes.toList⟩ ty (c.args.map fun | .const _ => true | _ => false) ⟨c.args.toList.map evc⟩) := by
        simp only [resolve, hcal, hmap]; rfl
      rw [this]
      exact builtinA_sound he hF hr (fun hb => hrid (by rw [hcal, hb])) hargs hc
    · rename_i f hcal
      split at hc
      · rename_i g first cap hf
        obtain ⟨a', c', e1, e2, e3⟩ := (hev _ _ hf).of_func
        have : (do let d ← resolve evc c ty; invoke d.target d.args) = callFunc g ⟨a' ++ c.args.toList.map evc ++ c'⟩ := by
          simp only [resolve, hcal, hmap, e1, Deferred.ofValue]
          show callFunc g _ = _
          congr 1
          apply Array.ext'; simp
        rw [this]
        exact callFunc_sound hr hNn ((e2.append hargs).append e3) hc
      · rename_i b hf
        have hy := hev _ _ hf
        generalize hcf : evc f = cf at hy
        cases hy with | yield hi =>
        rename_i i
        cases hc
        refine ⟨rfl, i, c.args.toList.map evc, hi, ?_, hargs⟩
        have : (do let d ← resolve evc c ty; invoke d.target d.args) = Instr.yield i.blk ⟨c.args.toList.map evc⟩ := by
          simp only [resolve, hcal, hmap, hcf, Deferred.ofValue]
          show Instr.yield i.blk _ = _
          congr 1
          apply Array.ext'; simp
        rw [this]
      · cases hc
    · rename_i r name hcal
      split at hc
      rotate_left
      · cases hc
      rename_i t v hr'
      have hy := hev _ _ hr'
      generalize hcf : evc r = cf at hy
      cases hy with | iface _ hv =>
      rename_i x
      cases hm : methodA P t v name with
      | none => rw [hm] at hc; cases hc
      | some fr =>
        obtain ⟨f, recv⟩ := fr
        rw [hm] at hc; simp only at hc
        obtain ⟨m1, m2⟩ := methodA_sound (w := w) (fuel := P.types.size + Made.depth - 1) hv hm
        have hd : P.types.size + Made.depth - 1 + 1 = P.types.size + Made.depth := by
          have : 1 ≤ Made.depth := by decide
          omega
        rw [hd] at m1
        have hcf' := callFunc_sound (N := N) (okc := okc) hr hNn (.cons m2 hargs) hc
        have : ∀ W, W = w → (do let d ← resolve evc c ty; invoke d.target d.args : Sem Next).run P W = (callFunc f ⟨x :: c.args.toList.map evc⟩).run P W := by
          rintro W rfl
          have e : (do let d ← resolve evc c ty; invoke d.target d.args : Sem Next) = callMethod (.iface t x) name ⟨c.args.toList.map evc⟩ := by
            simp only [resolve, hcal, hmap, hcf]
            exact invoke_method name _ _
          rw [e]
          simp only [callMethod, Sem.run_bind, run_program, Result.andThen_ok, m1]
          congr 2
          apply Array.ext'; simp
        have hw := this w rfl
        revert hcf'
        cases n with
        | val v h' => rintro ⟨nx, ρ', w', q1, q2, q3⟩; exact ⟨nx, ρ', w', hw.trans q1, q2, q3⟩
        | enter tg args h' =>
          cases tg with
          | fn g => rintro ⟨q0, args', q1, q2⟩; exact ⟨q0, args', hw.trans q1, q2⟩
          | round b => rintro ⟨q0, i, args', q1, q2, q3⟩; exact ⟨q0, i, args', q1, hw.trans q2, q3⟩
        | pan v h' => rintro ⟨q0, x, q1, q2⟩; exact ⟨q0, x, hw.trans q1, q2⟩
        | dfr d h' => rintro ⟨q0, x, q1, q2⟩; exact ⟨q0, x, hw.trans q1, q2⟩
        | recover h' => rintro ⟨q0, q1⟩; exact ⟨q0, hw.trans q1⟩

theorem deferA_sound {ev : Operand → Option AVal} {evc : Operand → Value}
    (hev : ∀ x v, ev x = some v → VRel ρ env v (evc x)) {c : Call} {ty : TypeId} {n : ANext}
    (hc : deferA ev h c = some n) : ExecOk P env okc N ρ h w (do Pure.pure (.defer (← resolve evc c ty))) n := by
  unfold deferA at hc
  split at hc
  rotate_left
  · cases hc
  rename_i args f ha hcal
  split at hc
  rotate_left
  · cases hc
  rename_i g first cap hf
  cases hc
  have hargs := evs_rel hev ha
  have hmap := array_map_list c.args evc
  obtain ⟨a', c', e1, e2, e3⟩ := (hev _ _ hf).of_func
  refine ⟨rfl, { target := .fn (.func g) ⟨c'⟩, args := ⟨a' ++ c.args.toList.map evc⟩ }, ?_, ⟨c', a' ++ c.args.toList.map evc, rfl, e3, e2.append hargs⟩⟩
  have e9 : (⟨a'⟩ : Array Value) ++ (⟨c.args.toList.map evc⟩ : Array Value) = ⟨a' ++ c.args.toList.map evc⟩ := by apply Array.ext'; simp
  simp only [resolve, hcal, hmap, e1, Deferred.ofValue, e9]
  rfl

set_option maxHeartbeats 4000000 in
/-- One operation does in the world what it does abstractly. -/
theorem execA_sound (he : EnvOk env) (hF : ∀ f ∈ X.facts, FactOk P env f) (hr : HRel P env okc ρ h w) (hNn : ∀ b, h.next ≤ b → N b) {ev : Operand → Option AVal} {evc : Operand → Value}
    (hev : ∀ x v, ev x = some v → VRel ρ env v (evc x)) {rid : Nat} {o : Oper} {n : ANext} (hrid : mayAlloc P o.op = true → ρ rid = none ∧ rid < h.next ∧ N rid)
    (hx : execA P X ev h rid o.op = some n) : ExecOk P env okc N ρ h w (execOp evc o) n := by
  unfold execA at hx
  unfold execOp
  generalize ho : o.op = op at hx hrid
  have e1 : ∀ {x : Operand} {b : AVal} {c : Value}, ev x = some b → evc x = c → VRel ρ env b c := fun h1 h2 => h2 ▸ hev _ _ h1
  unfold compOp at hx
  split at hx
  · obtain ⟨v, h1, rfl⟩ := v1_of hx; exact .value hr (hev _ _ h1)
  · obtain ⟨v, h1, rfl⟩ := v1_of hx; exact .value hr (hev _ _ h1)
  · rename_i c a b
    simp only at hx
    split at hx
    · rename_i hc
      obtain ⟨v, h1, rfl⟩ := v1_of hx
      have := (hev _ _ hc).of_bool
      refine ⟨.value (evc a), ρ, w, by simp [this, asBool], .refl hr, .inl ⟨_, rfl, hev _ _ h1⟩⟩
    · rename_i hc
      obtain ⟨v, h1, rfl⟩ := v1_of hx
      have := (hev _ _ hc).of_bool
      refine ⟨.value (evc b), ρ, w, by simp [this, asBool], .refl hr, .inl ⟨_, rfl, hev _ _ h1⟩⟩
    · cases hx
  · obtain ⟨v, h', h1, rfl⟩ := vh_of hx
    obtain ⟨k1, k2, k3⟩ := hrid rfl
    exact .makes (allocA_sound he hr k1 k2 k3 h1)
  · simp only at hx
    split at hx
    rotate_left
    · cases hx
    rename_i v0 hv0
    obtain ⟨v, h', h1, rfl⟩ := vh_of hx
    obtain ⟨k1, k2, k3⟩ := hrid rfl
    exact .makes (boxA_sound he hr (hev _ _ hv0) k1 k2 k3 h1)
  · rename_i t ps
    simp only at hx
    split at hx
    rotate_left
    · cases hx
    rename_i l hl
    obtain ⟨v, h1, rfl⟩ := v1_of hx
    exact .pure hr (buildA_sound he (by rw [parts_map]; exact evParts_rel hev hl) h1)
  · rename_i t nn ps
    simp only at hx
    split at hx
    rotate_left
    · cases hx
    rename_i l hl
    obtain ⟨v, h', h1, rfl⟩ := vh_of hx
    obtain ⟨k1, k2, k3⟩ := hrid rfl
    exact .makes (buildSliceA_sound he hr (by rw [parts_map]; exact evParts_rel hev hl) k1 k2 k3 h1)
  · simp only at hx
    split at hx
    rotate_left
    · cases hx
    rename_i b o hp
    obtain ⟨v, h1, rfl⟩ := v1_of hx
    have hy := hev _ _ hp
    generalize hcf : evc _ = cf at hy
    cases hy with | ptr _ hi =>
    obtain ⟨x, q1, q2⟩ := loadA_sound hr hi h1
    refine .pure hr ⟨x, ?_, q2⟩
    simp [Instr.loadAt, hcf, Instr.sureAddr, q1]
  · simp only at hx
    split at hx
    rotate_left
    · cases hx
    rename_i b o v hp hv
    obtain ⟨h', h1, rfl⟩ := h1_of hx
    have hy := hev _ _ hp
    generalize hcf : evc _ = cf at hy
    cases hy with | ptr _ hi =>
    obtain ⟨w', q1, q2⟩ := storeA_sound (N := N) he hr hi (hev _ _ hv) h1
    refine .unit ⟨w', ?_, q2⟩
    simp [Instr.storeAt, hcf, Instr.sureAddr, q1]
  · rename_i x
    simp only at hx
    split at hx
    · rename_i b o hp
      cases hx
      have hy := hev _ _ hp
      generalize hcf : evc _ = cf at hy
      cases hy with | ptr _ hi => simp only [hcf]; exact .value hr (.ptr _ hi)
    · rename_i f a c hp
      cases hx
      have hy := hev _ _ hp
      obtain ⟨a', c', q1, q2, q3⟩ := hy.of_func
      simp only [q1]
      exact .value hr (.func f q2.1 q3.1 q2.2 q3.2)
    · rename_i t v hp
      cases hx
      have hy := hev _ _ hp
      generalize hcf : evc _ = cf at hy
      cases hy with | iface _ hi => simp only [hcf]; exact .value hr (.iface _ hi)
    · cases hx
  · simp only at hx
    split at hx
    rotate_left
    · cases hx
    rename_i a b ha hb
    obtain ⟨v, h1, rfl⟩ := v1_of hx
    exact .pure hr (binA_sound hF (hev _ _ ha) (hev _ _ hb) h1)
  · simp only at hx
    split at hx
    rotate_left
    · cases hx
    rename_i a ha
    obtain ⟨v, h1, rfl⟩ := v1_of hx
    exact .pure hr (unA_sound hF (hev _ _ ha) h1)
  · rename_i s d x
    simp only at hx
    split at hx
    rotate_left
    · cases hx
    rename_i a ha
    obtain ⟨v, h', h1, rfl⟩ := vh_of hx
    exact .makes (convA_sound hF hr (hev _ _ ha) (fun ⟨e, hd⟩ => hrid (by simp [mayAlloc, hd])) h1)
  · rename_i t x
    simp only at hx
    split at hx
    · cases hx
    · rename_i d v hne hd hv
      cases hx
      refine .pure hr ⟨.iface t (evc x), ?_, .iface _ (hev _ _ hv)⟩
      have hni : ∀ ms, d ≠ .interface ms := hne
      cases d <;> first | (exact absurd rfl (hni _)) | simp [Instr.makeInterface, run_und hd]
    · cases hx
  · rename_i f first cap
    simp only at hx
    split at hx
    rotate_left
    · cases hx
    rename_i a c ha hc
    cases hx
    refine .pure hr ⟨.func (.func f) ⟨first.toList.map evc⟩ ⟨cap.toList.map evc⟩, ?_, (evs_rel hev ha).func (evs_rel hev hc)⟩
    simp only [Instr.makeFunc, array_map_list, Sem.run_pure]
  · rename_i t
    simp only at hx
    cases hx
    obtain ⟨k1, k2, k3⟩ := hrid rfl
    exact .makes (makeMap_sound hr k1 k2 k3)
  · simp only at hx
    split at hx
    rotate_left
    · cases hx
    rename_i l c hl hc
    obtain ⟨v, h', h1, rfl⟩ := vh_of hx
    obtain ⟨k1, k2, k3⟩ := hrid rfl
    exact .makes (makeSliceA_sound he hr (hev _ _ hl) (hev _ _ hc) k1 k2 k3 h1)
  · simp only at hx
    split at hx
    rotate_left
    · cases hx
    rename_i v hv
    obtain ⟨v', h4, rfl⟩ := v1_of hx
    exact .pure hr (arrayAtA_sound (hev _ _ hv) h4)
  · simp only at hx
    split at hx
    rotate_left
    · cases hx
    rename_i v hv
    obtain ⟨v', h', h4, rfl⟩ := vh_of hx
    obtain ⟨k1, k2, k3⟩ := hrid rfl
    exact .makes (rangeMapA_sound hr (hev _ _ hv) k1 k2 k3 h4)
  · simp only at hx
    split at hx
    rotate_left
    · cases hx
    rename_i v hv
    obtain ⟨v', h', h4, rfl⟩ := vh_of hx
    exact .makes (nextA_sound hr (hev _ _ hv) h4)
  · simp only at hx
    split at hx
    rotate_left
    · cases hx
    rename_i v hv
    obtain ⟨v', h4, rfl⟩ := v1_of hx
    exact .pure hr (entryA_sound hr (hev _ _ hv) h4)
  · simp only at hx
    split at hx
    rotate_left
    · cases hx
    rename_i v lo hi mx hv h1 h2 h3
    obtain ⟨v', h4, rfl⟩ := v1_of hx
    exact .pure hr (sliceAtA_sound (hev _ _ hv) (evO_rel hev h1) (evO_rel hev h2) (evO_rel hev h3) h4)
  · simp only at hx
    split at hx
    rotate_left
    · cases hx
    rename_i v hv
    obtain ⟨v', h4, rfl⟩ := v1_of hx
    exact .pure hr (fieldAddrA_sound (hev _ _ hv) h4)
  · simp only at hx
    split at hx
    rotate_left
    · cases hx
    rename_i v hv
    obtain ⟨v', h4, rfl⟩ := v1_of hx
    exact .pure hr (fieldA_sound (hev _ _ hv) h4)
  · simp only at hx
    split at hx
    rotate_left
    · cases hx
    rename_i v n hv hn
    obtain ⟨v', h4, rfl⟩ := v1_of hx
    exact .pure hr (indexAddrA_sound (hev _ _ hv) (hev _ _ hn) h4)
  · simp only at hx
    split at hx
    rotate_left
    · cases hx
    rename_i v n hv hn
    obtain ⟨v', h4, rfl⟩ := v1_of hx
    exact .pure hr (indexA_sound (hev _ _ hv) (hev _ _ hn) h4)
  · simp only at hx
    split at hx
    rotate_left
    · cases hx
    rename_i m k hm hk
    obtain ⟨v', h4, rfl⟩ := v1_of hx
    exact .pure hr (lookupA_sound hr (hev _ _ hm) (hev _ _ hk) h4)
  · simp only at hx
    split at hx
    rotate_left
    · cases hx
    rename_i m k v hm hk hv
    obtain ⟨h', h4, rfl⟩ := h1_of hx
    exact .unit (mapUpdateA_sound hr (hev _ _ hm) (hev _ _ hk) (hev _ _ hv) h4)
  · simp only at hx
    split at hx
    rotate_left
    · cases hx
    rename_i m k v hm hk hv
    obtain ⟨h', h4, rfl⟩ := h1_of hx
    exact .unit (mapUpdateA_sound hr (hev _ _ hm) (hev _ _ hk) (hev _ _ hv) h4)
  · simp only at hx
    split at hx
    rotate_left
    · cases hx
    rename_i v hv
    obtain ⟨v', h4, rfl⟩ := v1_of hx
    exact .pure hr (typeAssertA_sound (hev _ _ hv) h4)
  · simp only at hx
    split at hx
    rotate_left
    · cases hx
    rename_i vs hv
    obtain ⟨v', h4, rfl⟩ := v1_of hx
    obtain ⟨l', q1, q2⟩ := (hev _ _ hv).of_tup
    rw [nthA_eq] at h4
    obtain ⟨x, q3, q4⟩ := q2.get h4
    refine .pure hr ⟨x, ?_, q4⟩
    simp [Instr.extract, q1, q3]
  · rename_i c
    refine callA_sound he hF hr hNn hev (fun hc => hrid ?_) hx
    obtain ⟨callee, args, argTypes⟩ := c
    simp only at hc
    subst hc
    rfl
  · exact deferA_sound hev hx
  · simp only at hx
    split at hx
    rotate_left
    · cases hx
    rename_i t v hv
    cases hx
    have hy := hev _ _ hv
    generalize hcf : evc _ = cf at hy
    cases hy with | iface _ hv' =>
    refine ⟨rfl, _, ?_, .iface _ hv'⟩
    simp [hcf, Instr.panic]
  · cases hx

end
end Go.Eng
