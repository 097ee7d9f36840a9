/- The engine, part Q2: ranging over a function. -/
import Derived.Test.YtggjeecpadnihaaGreatDoorEngQ
set_option linter.unusedVariables false
set_option linter.unusedSimpArgs false
set_option linter.unusedSectionVars false
namespace Go.Eng

section
variable {P : Program} {env : Nat → Value} {ρ ρ' : Rho} {h h' : AHeap} {w w' : World} {X : Cx}

theorem loop_of {okc : FuncId → Code → Bool} (hr : HRel P env okc ρ h w) {l : Nat} {st : LoopState} {pd : Option Code} {f : FuncId} {tm : T AVal} {ps : List Tmp} {as bd : Code} {dd : Nat} {i : BI}
    (hb : h.get l = some (.loop st pd f tm ps as bd dd)) (hi : ρ l = some i) :
    ∃ L, w.heap[i.blk]? = some (.loop L) ∧ ObjRel P env okc ρ i (.loop st pd f tm ps as bd dd) (.loop L) := by
  obtain ⟨ob, h1, h2⟩ := hr.obj l _ i hb rfl hi
  obtain ⟨L, i', rfl, h3⟩ := h2
  exact ⟨L, h1, L, i', rfl, h3⟩

theorem run_getLoop {r : Nat} {L : Loop} (hw : w.heap[r]? = some (.loop L)) : (Instr.getLoop r).run P w = .ok L w := by
  simp [Instr.getLoop, getObj, Sem.run, hw]
theorem run_setLoop {r : Nat} {L L' : Loop} (hw : w.heap[r]? = some (.loop L)) : (setObj r (.loop L')).run P w = .ok () (setAt' w r (.loop L')) := by
  simp [setObj, Sem.run, hw, setAt']

/-- A loop's record is entered. -/
theorem enter_sound {n mask : Nat} {rd : Option Nat} {b : Frame} {s : St} {a : Act} {m : FrameMode} (hst : CSt P env (okcP P) n mask ρ s a m w) (hrd : RdOk ρ b rd) {fn : Func} {c0 : Code} (hfn : bodyOf P b.fn = some (fn, c0)) (hn : n = fn.ntmps)
    (hmask : mask = maskF fn c0) {ps : Array Tmp} {as bd : Code} (h1 : okcP P b.fn as = true) (h2 : okcP P b.fn bd = true) {dd : Nat} {ds : List ADefd} (hx : enterLoopA rd s = some (dd, h', ds)) :
    ∃ ρ' w' l mark, (Instr.enterLoop b.fn a.tmps ps as bd b.roundOf).run P w = .ok (l, mark) w' ∧ (∃ i, ρ' (s.h.next + 1) = some i ∧ i.blk = l) ∧
      Go' P env (okcP P) (fun y => s.h.next ≤ y) ρ s.h w ρ' (h'.put (s.h.next + 1) (.loop .ready none b.fn s.tm ps.toList as bd dd)) w' ∧ DefsRel env ρ' ds (mark ++ a.defers) := by
  have hn2 : ∀ y, s.h.next ≤ y → ρ y = none := fun y hy => hst.heap.next y hy
  have hloop : ∀ (ρ1 : Rho) (h1' : AHeap) (w1 : World) (dd : Nat) (i : BI), Go' P env (okcP P) (fun y => s.h.next ≤ y) ρ s.h w ρ1 h1' w1 → h1'.next = s.h.next + 2 → ρ1 (s.h.next + 1) = none → ρ1 dd = some i →
      Go' P env (okcP P) (fun y => s.h.next ≤ y) ρ s.h w (ρ1.set (s.h.next + 1) ⟨w1.heap.size, 0, 0, 0⟩) (h1'.put (s.h.next + 1) (.loop .ready none b.fn s.tm ps.toList as bd dd))
        (w1.alloc (.loop { state := .ready, pending := none, fn := b.fn, tmps := a.tmps, params := ps, assign := as, body := bd, defers := i.blk })) := by
    intro ρ1 h1' w1 dd i hgo hnx hno hdd
    refine hgo.trans (Go'.alloc (i := ⟨w1.heap.size, 0, 0, 0⟩) hgo.rel hno (by omega) (by omega) rfl ?_)
    have hsub := Rho.sub_set (ρ := ρ1) ⟨w1.heap.size, 0, 0, 0⟩ hno
    refine ⟨_, i, rfl, rfl, rfl, rfl, rfl, rfl, rfl, hsub _ _ hdd, rfl, h1, h2, fn, c0, hfn, ?_, ?_⟩
    · show a.tmps.size = fn.ntmps
      rw [hst.size, hn]
    · rw [← hmask]
      exact (hst.tms.mono hgo.sub).mono hsub
  cases rd with
  | none =>
    have hro : b.roundOf = none := hrd
    have hx' : some (s.h.next, (⟨s.h.next + 2, T.set (.defs (some [])) s.h.tr s.h.next⟩ : AHeap), ADefd.collected s.h.next :: s.ds) = some (dd, h', ds) := hx
    cases hx'
    have hb := Go'.bump (N := fun y => s.h.next ≤ y) hst.heap (n := s.h.next + 2) (by omega)
    have hd := hb.trans (Go'.alloc (N := fun y => s.h.next ≤ y) (b := s.h.next) (o := .defs (some [])) (ob := .deferred (some [])) (i := ⟨w.heap.size, 0, 0, 0⟩) hb.rel (hn2 _ (Nat.le_refl _)) (by show s.h.next < s.h.next + 2; omega) (Nat.le_refl _) rfl rfl)
    have hno : (ρ.set s.h.next ⟨w.heap.size, 0, 0, 0⟩) (s.h.next + 1) = none := by rw [Rho.set_ne _ _ (by omega)]; exact hn2 _ (by omega)
    have hl := hloop _ _ _ s.h.next ⟨w.heap.size, 0, 0, 0⟩ hd rfl hno (Rho.set_same _ _ _)
    refine ⟨_, _, w.heap.size + 1, [{ target := .collected w.heap.size, args := #[] }], ?_, ⟨_, Rho.set_same _ _ _, ?_⟩, hl, ?_⟩
    · rw [hro]
      simp only [Instr.enterLoop, Sem.run_bind, run_newObj, Result.andThen_ok, Sem.run_pure, Array.size_push]
      rfl
    · simp
    · refine ⟨⟨⟨w.heap.size, 0, 0, 0⟩, ?_, rfl⟩, hst.defs.mono hl.sub⟩
      rw [Rho.set_ne _ _ (by omega)]; exact Rho.set_same _ _ _
  | some lo =>
    obtain ⟨i, hi, hro⟩ := hrd
    unfold enterLoopA at hx
    simp only at hx
    split at hx
    rotate_left
    · cases hx
    rename_i st pd f tm ps' as' bd' dd' hget
    cases hx
    obtain ⟨L, hw, L', i', e1, e2, e3, e4, e5, e6, e7, e8, e9, _⟩ := loop_of hst.heap hget hi
    cases e1
    have hb := Go'.bump (N := fun y => s.h.next ≤ y) hst.heap (n := s.h.next + 2) (by omega)
    have hl := hloop _ _ _ dd i' hb rfl (hn2 _ (by omega)) e8
    refine ⟨_, _, w.heap.size, [], ?_, ⟨_, Rho.set_same _ _ _, rfl⟩, hl, hst.defs.mono hl.sub⟩
    rw [hro]
    simp only [Instr.enterLoop, Sem.run_bind, run_getLoop hw, Result.andThen_ok, Sem.run_pure, run_newObj, e9]
    rfl

theorem jumpA_of {j : Option Code} {x : AExit} (h : jumpA j = some x) : (j = none ∧ x = .normal) ∨ (j = some .ret ∧ x = .ret) ∨ ∃ id, j = some (.exit id) ∧ x = .exit id := by
  unfold jumpA at h
  split at h
  · cases h; exact .inl ⟨rfl, rfl⟩
  · cases h; exact .inr (.inl ⟨rfl, rfl⟩)
  · cases h; exact .inr (.inr ⟨_, rfl, rfl⟩)
  · cases h

set_option maxHeartbeats 1000000 in
/-- A range over a function. -/
theorem range_sound {call : CallF} (hc : CallOk P env (okcP P) X.nglob call) {n mask : Nat} {rd : Option Nat} {b : Frame} {cfn : FrameMode → List Frame} {fn : Func} {c0 : Code} (hfn : bodyOf P b.fn = some (fn, c0)) (hn : n = fn.ntmps)
    (hmask : mask = maskF fn c0) {g : Operand} {ps : Array Tmp} {as bd : Code} (h1 : okcP P b.fn as = true) (h2 : okcP P b.fn bd = true) :
    CodeSound P env (okcP P) X n mask rd b cfn ⟨rangeA P X call rd b.fn g ps as bd⟩ (fun k => .code (.rangeFunc g ps as bd) :: k) := by
  intro k s x s' ρ a m w hx hst hg hcs hrd
  have hx' : rangeA P X call rd b.fn g ps as bd s = some (x, s') := hx
  unfold rangeA at hx'
  split at hx'
  rotate_left
  · cases hx'
  rename_i gf first cap hgv
  split at hx'
  rotate_left
  · cases hx'
  rename_i dd h1' ds hent
  obtain ⟨ρ1, w1, l, mark, e1, ⟨il, e2, e2'⟩, e3, e4⟩ := enter_sound hst hrd hfn hn hmask (ps := ps) h1 h2 hent
  obtain ⟨fa, ca, v1, v2, v3⟩ := (evA_rel hg (fun t v hl => hst.tms.slots t v hl) g _ hgv).of_func
  simp only at hx'
  -- the call
  have hargs : VRels ρ1 env (first ++ [AVal.yield (s.h.next + 1)] ++ cap) (fa ++ [.func (.yield l) #[] #[]] ++ ca) := by
    refine ((v2.mono e3.sub).append (.cons ?_ .nil)).append (v3.mono e3.sub)
    have := VRel.yield (env := env) e2
    rw [e2'] at this; exact this
  have hres : (resolve a.eval (rangeCall g l) 0).run P w1 = .ok { target := .fn (.func gf) ⟨ca⟩, args := ⟨fa⟩ ++ #[.func (.yield l) #[] #[]] } w1 := by
    have : rangeCall g l = { callee := .value g, args := #[.const (.func (.yield l) #[] #[])], argTypes := #[] } := rfl
    have e0 : #[Operand.const (Value.func (Fn.yield l) #[] #[])].map a.eval = #[Value.func (Fn.yield l) #[] #[]] := by simp [Act.eval]
    rw [this]
    simp only [resolve, v1, Deferred.ofValue, e0]
    rfl
  have hinv : ∀ (fc : Func × Code), bodyOf P gf = some fc → (invoke (.fn (.func gf) ⟨ca⟩) (⟨fa⟩ ++ #[.func (.yield l) #[] #[]])).run P w1 = .ok (.enter gf ⟨fa ++ [.func (.yield l) #[] #[]] ++ ca⟩) w1 := by
    intro fc hb
    have e : (⟨fa⟩ ++ #[Value.func (.yield l) #[] #[]]) ++ (⟨ca⟩ : Array Value) = ⟨fa ++ [.func (.yield l) #[] #[]] ++ ca⟩ := by apply Array.ext'; simp
    show (callFunc gf ((⟨fa⟩ ++ #[Value.func (.yield l) #[] #[]]) ++ (⟨ca⟩ : Array Value))).run P w1 = _
    rw [e]
    unfold bodyOf at hb
    split at hb
    rotate_left
    · cases hb
    rename_i fn' hf
    split at hb
    · cases hb
    rename_i hnm
    split at hb
    rotate_left
    · cases hb
    rename_i c hcb
    have hn' : ¬ fn'.name = "runtime.NumGoroutine" := by simpa using hnm
    simp [callFunc, hf, hn', hcb]
  have hh : h1'.next = s.h.next + 2 := by
    unfold enterLoopA at hent
    split at hent
    · cases hent; rfl
    · split at hent
      · cases hent; rfl
      · cases hent
  split at hx'
  · -- it returned
    rename_i fc v h' hbody hcall
    split at hx'
    rotate_left
    · cases hx'
    rename_i st pd f' tm' ps' as' bd' dd' hget
    have hbusy : st ≠ .busy := by rintro rfl; simp at hx'
    have hx2 : (match jumpA pd with | some x => some (x, (⟨s.tm, ds, h'.put (s.h.next + 1) (.loop .exhausted pd f' tm' ps' as' bd' dd'), s.um⟩ : St)) | none => none) = some (x, s') := by
      cases st with
      | busy => exact absurd rfl hbusy
      | _ => exact hx'
    cases hj : jumpA pd with
    | none => rw [hj] at hx2; cases hx2
    | some x1 =>
      rw [hj] at hx2
      cases hx2
      obtain ⟨ρ2, w2, fr, en, q1, q2, q3, q4, q5⟩ := hc.fn ρ1 _ w1 e3.rel (hg.mono e3.sub) gf _ _ _ hcall (by rw [hbody]; rfl) _ hargs
        (b.atR { a with defers := mark ++ a.defers } (.inRangeFunc l :: k) :: cfn m)
      cases en with
      | panicked _ => exact q5.elim
      | outgrown => exact q5.elim
      | returned y =>
        have henter := stepR_rangeFunc (P := P) (b := b) (a := a) (k := k) (cs := cfn m) (w := w) e1 hres (hinv fc hbody)
        have hi2 := q4.sub _ _ e2
        obtain ⟨L, hw2, L', i', f1, f2, f3, f4⟩ := loop_of q4.rel hget hi2
        cases f1
        have hstate : (L.state == LoopState.busy) = false := by
          rw [f2]
          cases st with
          | busy => exact absurd rfl hbusy
          | _ => rfl
        rw [e2'] at hw2
        have hend : (Instr.endLoop l).run P w2 = .ok pd (setAt' w2 il.blk (.loop { L with state := .exhausted })) := by
          simp only [Instr.endLoop, Sem.run_bind, run_getLoop hw2, Result.andThen_ok, hstate, Bool.false_eq_true, if_false, run_setLoop hw2, Sem.run_pure, f3, e2']
        have hput : Go' P env (okcP P) (fun y => s.h.next ≤ y) ρ2 h' w2 ρ2 (h'.put (s.h.next + 1) (.loop .exhausted pd f' tm' ps' as' bd' dd')) (setAt' w2 il.blk (.loop { L with state := .exhausted })) :=
          Go'.put q4.rel hget ⟨rfl, rfl⟩ hi2 ⟨{ L with state := .exhausted }, i', rfl, rfl, f3, f4⟩
        have q4' := q4.mono (N' := fun y => s.h.next ≤ y) (fun y hy => by have hy' : h1'.next ≤ y := hy; omega)
        have hall := (e3.trans q4').trans hput
        have hback : Steps P (lone (b.atR a (.code (.rangeFunc g ps as bd) :: k)) (cfn m) w)
            (lone (b.atR { a with defers := mark ++ a.defers } ((pd.map Item.code).toList ++ k)) (cfn m) (setAt' w2 il.blk (.loop { L with state := .exhausted }))) := by
          refine .head henter (Steps.trans q1 (.head ?_ (.one (stepR_endRangeFunc hend))))
          rw [← finish_atR_inRangeFunc l y]; exact step_leave_returned q3
        refine ⟨ρ2, { a with defers := mark ++ a.defers }, m, _, ?_, ⟨(hst.tms.mono e3.sub).mono q4.sub, hst.size, e4.mono q4.sub, hput.rel, hst.mode.mono hall.sub⟩, hall, hcs⟩
        rcases jumpA_of hj with ⟨rfl, rfl⟩ | ⟨rfl, rfl⟩ | ⟨id, rfl, rfl⟩
        · exact hback
        · exact ⟨k, hback⟩
        · exact ⟨k, rfl, hback⟩
  · -- it panicked
    rename_i fc v h' hbody hcall
    cases hx'
    obtain ⟨ρ2, w2, fr, en, q1, q2, q3, q4, q5⟩ := hc.fn ρ1 _ w1 e3.rel (hg.mono e3.sub) gf _ _ _ hcall (by rw [hbody]; rfl) _ hargs
      (b.atR { a with defers := mark ++ a.defers } (.inRangeFunc l :: k) :: cfn m)
    cases en with
    | returned _ => exact q5.elim
    | outgrown => exact q5.elim
    | panicked ch =>
      obtain ⟨y, rfl, hv⟩ := q5
      have henter := stepR_rangeFunc (P := P) (b := b) (a := a) (k := k) (cs := cfn m) (w := w) e1 hres (hinv fc hbody)
      have q4' := q4.mono (N' := fun y => s.h.next ≤ y) (fun y hy => by have hy' : h1'.next ≤ y := hy; omega)
      have hall := e3.trans q4'
      refine ⟨ρ2, { a with defers := mark ++ a.defers }, m, w2, ⟨.inRangeFunc l :: k, y, hv, .head henter (Steps.trans q1 (.one ?_))⟩,
        ⟨(hst.tms.mono e3.sub).mono q4.sub, hst.size, e4.mono q4.sub, q4.rel, hst.mode.mono hall.sub⟩, hall, hcs⟩
      rw [← Frame.raise_atR]; exact step_leave_panicked q3
  · cases hx'

end
end Go.Eng
