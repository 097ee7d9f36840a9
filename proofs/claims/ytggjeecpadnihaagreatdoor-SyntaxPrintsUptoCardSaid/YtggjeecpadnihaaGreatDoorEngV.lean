/- The engine, part V: facts of whole numbers that are not known. -/
import Derived.Test.YtggjeecpadnihaaGreatDoorEngU
import GoSem.ClaimGoes
import Derived.Carry
import Derived.ChangeSame
set_option linter.unusedSimpArgs false
set_option linter.unusedSectionVars false
set_option linter.unusedVariables false
namespace Go.Eng

section
variable {P : Program} {env : Nat → Value}

theorem nofacts : ∀ f ∈ ([] : List Fact), FactOk P env f := fun f hf => by cases hf

/-- An operation of a value that is written out and a number that is not known. -/
theorem fact_right {op : BinOp} {i : Nat} {k : IntKind} {n : Int} {x ans : AVal} (he : env i = .int k n) (hb : ∀ t xo yo, binA P [] op t xo yo x (.int k n) = some ans) : FactOk P env ⟨.bin op, x, .sym i, ans⟩ := by
  intro ρ t xo yo cx cy w hx hy
  have hy' : VRel ρ env (.int k n) cy := by
    cases hy; rw [he]; exact .int k n
  exact binA_sound (facts := []) nofacts hx hy' (hb t xo yo)

theorem fact_left {op : BinOp} {i : Nat} {k : IntKind} {n : Int} {y ans : AVal} (he : env i = .int k n) (hb : ∀ t xo yo, binA P [] op t xo yo (.int k n) y = some ans) : FactOk P env ⟨.bin op, .sym i, y, ans⟩ := by
  intro ρ t xo yo cx cy w hx hy
  have hx' : VRel ρ env (.int k n) cx := by
    cases hx; rw [he]; exact .int k n
  exact binA_sound (facts := []) nofacts hx' hy (hb t xo yo)

theorem binA_lss (k : IntKind) (a b : Int) (t : TypeId) (xo yo : Operand) : binA P [] .lss t xo yo (.int k a) (.int k b) = some (.bool (decide (a < b))) := by
  show (if k = k then arithA .lss k a b else none) = _
  rw [if_pos rfl]
  show some (AVal.bool (ltI a b)) = _
  rw [ltI_eq]
end

section
variable {P : Program} {env : Nat → Value}
/-- A number of another kind. -/
theorem fact_conv {i j : Nat} {k k' : IntKind} {n : Int} {s d : TypeId} (he : env i = .int k n) (he' : env j = .int k' (k'.wrap n)) (hs : P.underlying s = some (.int k)) (hd : P.underlying d = some (.int k')) :
    FactOk P env ⟨.conv s d, .sym i, .nptr, .sym j⟩ := by
  intro ρ cx w hx
  have hcx : cx = .int k n := by cases hx; exact he
  subst hcx
  refine ⟨.int k' (k'.wrap n), ?_, ?_⟩
  · simp [convert, run_und hs, run_und hd, Conv.intToInt]
  · have := VRel.sym (ρ := ρ) (env := env) j
    rw [he'] at this; exact this

theorem wrap_nonneg (n : Int) : 0 ≤ IntKind.u64.wrap n := by
  have h : IntKind.u64.wrap n = n % (2 ^ 64 : Int) := by simp [IntKind.wrap, IntKind.signed, IntKind.bits]
  rw [h]
  exact Int.emod_nonneg _ (by decide)

/-- What is left of a number that is not negative. -/
theorem fact_rem {i : Nat} {k : IntKind} {a : Int} {m r : Nat} (he : env i = .int k a) (h0 : 0 ≤ a) (hr : a % ((m + 1 : Nat) : Int) = (r : Int)) :
    FactOk P env ⟨.bin .rem, .sym i, .int k (Int.ofNat (m + 1)), .int k (Int.ofNat r)⟩ := by
  refine fact_left he fun t xo yo => ?_
  show (if k = k then arithA .rem k a (Int.ofNat (m + 1)) else none) = _
  rw [if_pos rfl]
  show (if eqI (Int.ofNat (m + 1)) 0 then none else some (AVal.int k (Int.tmod a (Int.ofNat (m + 1))))) = _
  have hne : eqI (Int.ofNat (m + 1)) 0 = false := by
    rw [eqI_eq]
    simp only [beq_eq_false_iff_ne]
    rw [Int.ofNat_eq_natCast]; omega
  rw [hne]
  simp only [Bool.false_eq_true, if_false]
  rw [Int.tmod_eq_emod_of_nonneg h0, Int.ofNat_eq_natCast, hr]; rfl

theorem rem_lt (n : Int) (m : Nat) : ∃ r : Nat, r < m + 1 ∧ IntKind.u64.wrap n % ((m + 1 : Nat) : Int) = (r : Int) := by
  have h1 := Int.emod_nonneg (IntKind.u64.wrap n) (show ((m + 1 : Nat) : Int) ≠ 0 by omega)
  have h2 := Int.emod_lt_of_pos (IntKind.u64.wrap n) (show (0 : Int) < ((m + 1 : Nat) : Int) by omega)
  exact ⟨(IntKind.u64.wrap n % ((m + 1 : Nat) : Int)).toNat, by omega, by omega⟩
end

/-- What a comparison of two numbers tells. -/
def cmpB (op : BinOp) (a b : Int) : Bool :=
  match op with
  | .eql => eqI a b
  | .neq => !eqI a b
  | .lss => ltI a b
  | .leq => leI a b
  | .gtr => ltI b a
  | .geq => leI b a
  | _ => false
def isCmp : BinOp → Bool
  | .eql | .neq | .lss | .leq | .gtr | .geq => true
  | _ => false
theorem binA_cmp {P : Program} {op : BinOp} (h : isCmp op = true) (k : IntKind) (a b : Int) (t : TypeId) (xo yo : Operand) : binA P [] op t xo yo (.int k a) (.int k b) = some (.bool (cmpB op a b)) := by
  cases op <;> simp [isCmp] at h <;> (show (if k = k then arithA _ k a b else none) = _; rw [if_pos rfl]; rfl)

theorem and_intro {a b : Bool} (ha : a = true) (hb : b = true) : (a && b) = true := by rw [ha, hb]; rfl

/-! ### No goroutine is started -/
theorem goes_none {P : Program} (h : (P.funcs.toList.all fun fn => !fn.goes) = true) (f : FuncId) : P.goes f = false := by
  have h1 : ∀ g : Nat, (P.funcs[g]?).any Func.goes = false := by
    intro g
    cases hg : P.funcs[g]? with
    | none => rfl
    | some fn =>
      have hm : fn ∈ P.funcs.toList := by
        have := (Array.getElem?_eq_some_iff.1 hg)
        obtain ⟨hlt, rfl⟩ := this
        exact Array.getElem_mem_toList hlt
      have := List.all_eq_true.1 h fn hm
      simpa using this
  have h2 : P.funcs.any Func.goes = false := by
    rw [Bool.eq_false_iff]
    intro ha
    obtain ⟨i, hi, hx⟩ := Array.any_eq_true.1 ha
    have := h1 i
    rw [Array.getElem?_eq_getElem hi] at this
    simp only [Option.any_some] at this
    rw [hx] at this
    cases this
  unfold Program.goes
  rw [h2, Bool.and_false, Bool.or_false]
  rw [List.any_eq_false]
  intro g _
  rw [h1 g]; decide

theorem goesBy_none {P : Program} {c : OpenClaim} (hs : c.start = .entering) (h : (P.funcs.toList.all fun fn => !fn.goes) = true) : false = c.goesBy P := by
  unfold OpenClaim.goesBy Program.goesAt Program.goesFrom
  rw [hs]
  cases P.funcNamed c.func with
  | none => rfl
  | some f => simp only [Option.any_some, goes_none h f, Bool.or_false]

/-! ### The row's last step, where all that was there is as it was -/
section
open Go.RowKit Go.WideShapes Go.ChangeShapes
variable {H : Type} {enc : TypeId × Value → H} {P : Program}

/-- All arguments read as they did. -/
theorem trodAll_below (hl : laidOutB P = true) {W W' : World} (hb : Below W.heap.size W W') {sp : Nat → Bool} : ∀ {ts : List TypeId} {vs : List Value} {ds : List (DataW H)} {ps : List MemPlace}, (∀ t ∈ ts, P.readableRec t = true ∧ t < P.types.size) →
    DataW.TrodAll enc P W 0 (fun _ => true) true ts vs ds ps → (∀ x ∈ ps, x.block < W.heap.size) → (∀ x ∈ ps, sp x.block = true) → DataW.TrodAll enc P W' 0 sp true ts vs ds ps
  | [], vs, ds, ps, _, h, _, _ => by
    obtain ⟨rfl, rfl, rfl⟩ := trodAll_nil h
    exact trodAll_mk0
  | t :: ts, vs, ds, ps, ht, h, hlt, hsp => by
    obtain ⟨v, vs', d, ds', p, q, rfl, rfl, rfl, h1, h2⟩ := trodAll_cons h
    obtain ⟨r1, r2⟩ := ht t (by simp)
    exact trodAll_cons_mk (WideElems.Trod_stays hl r1 r2 h1 (fun x hx => hb.same (hlt x (by simp [hx]))) (fun x hx => hsp x (by simp [hx])))
      (trodAll_below hl hb (fun t' ht' => ht t' (by simp [ht'])) h2 (fun x hx => hlt x (by simp [hx])) (fun x hx => hsp x (by simp [hx])))

/-- The row's last step. -/
theorem post_below {f : Func} {s : ChangeSpec} {fresh handsOn again : Bool} {W W' : World} {args : Array Value} {b : Bool} {ds : List (DataW H)} {before : List MemPlace} {tb : TypeId}
    (hl : laidOutB P = true) (hts : ∀ t ∈ f.params.toList, P.readableRec t = true ∧ t < P.types.size) (hvars : s.vars = [])
    (hW : DataW.Whole enc P f.params.toList s.vars false W args.toList ds [] before) (hres : f.resultTypes = #[tb]) (htb : P.underlying tb = some .bool)
    (hfn : s.fn H ds = { results := [.lit (.bool b)], args := ds }) (hb : Below W.heap.size W W') :
    s.post enc P f false fresh handsOn again W args (.bool b) W' := by
  have hlt : ∀ p ∈ before, p.block < W.heap.size := fun p hp => hW.lt p hp
  have hW0 := hW
  obtain ⟨p, q, hA, hV, rfl, hz, hn⟩ := hW
  rw [hvars] at hV
  obtain ⟨_, rfl⟩ := trodVars_none hV
  have hA' : DataW.TrodAll enc P W 0 (fun _ => true) true f.params.toList args.toList ds p := hA
  have hargs : ∀ sp : Nat → Bool, (∀ x ∈ p ++ [], sp x.block = true) → DataW.TrodAll enc P W' 0 sp true f.params.toList args.toList ds p := fun sp hsp =>
    trodAll_below hl hb hts hA' (fun x hx => hlt x (by simp [hx])) (fun x hx => hsp x (by simp [hx]))
  have hv : ∀ (sp : Nat → Bool), DataW.TrodVars enc P W' sp s.vars ([] : List (DataW H)) [] := fun sp => by rw [hvars]; rfl
  have hr : ∀ (k : Nat) (sp : Nat → Bool) (hd : Bool), DataW.TrodAll enc P W' k sp hd f.resultTypes.toList ((Value.bool b).resultList f.resultTypes.size) ([.lit (.bool b)] : List (DataW H)) [] := fun k sp hd => by
    rw [hres]; exact trodAll_cons_mk (shut_bool htb _) trodAll_mk0
  have hok : ∀ (j : Nat) (t : TypeId) (r : Value), f.resultTypes[j]? = some t → ((Value.bool b).resultList f.resultTypes.size)[j]? = some r → Value.okWide P W' .any 0 t r := ok_one hres rfl (okWide_bool_mk htb _)
  have hfn' : s.fn H (ds ++ []) = { results := [.lit (.bool b)], args := ds } := by rw [List.append_nil]; exact hfn
  refine ⟨ds, [], p ++ [], [], p, [], hW0, by rw [hfn']; exact hr _ _ _, by rw [hfn']; exact hargs _ (fun x hx => by simpa using hlt x hx), by rw [hfn']; exact hv _, World.keptBut_mono (fun x hx => ⟨hx, ?_⟩) (hb.frame (· ∈ p ++ [])), fun _ => ?_⟩
  · exact Or.inr (by simpa using hx)
  · refine ⟨hok, _, _, ([] ++ p) ++ [], ⟨[] ++ p, [], trodAll_append (hargs _ (fun _ _ => rfl)) (hr _ _ _), hv _, rfl, ?_, ?_⟩, ?_⟩
    · intro k off hp
      have hin : MemPlace.cell k off ∈ p ++ [] := by simpa using hp
      rw [hb.frozen (hlt _ hin)]
      exact hz k off hin
    · intro ha
      have := hn ha
      simpa using this
    · intro x hx _
      simpa using hx
end
end Go.Eng
