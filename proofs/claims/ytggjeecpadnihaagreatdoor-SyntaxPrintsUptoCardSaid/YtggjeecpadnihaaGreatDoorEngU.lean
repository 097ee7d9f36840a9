/- The engine, part U: package-level tables; what a closed run says; a function whose closed run is known, inside another run. -/
import Derived.Test.YtggjeecpadnihaaGreatDoorEngT
import Derived.Below
import Derived.OpenShut
import GoSem.ClaimJoined
set_option linter.unusedSimpArgs false
set_option linter.unusedSectionVars false
set_option linter.unusedVariables false
noncomputable section
namespace Go.Eng
open Go.RowKit

/-! ### Values that are written out -/
/-- The number of the value of a type's handle, where one is laid. -/
def KH : Nat := 1000000

def litV : AVal → Bool
  | .bool _ => true
  | .int _ _ => true
  | .str _ _ => true
  | .sym k => Nat.beq k KH
  | _ => false

section
variable {P : Program} {env : Nat → Value} {ρ : Rho} {w w' : World} {hv : Value}

theorem VRel.lit {v : AVal} {x : Value} (hl : litV v = true) (h : VRel ρ env v x) (ρ' : Rho) (env' : Nat → Value) (he : env' KH = env KH) : VRel ρ' env' v x := by
  cases v with
  | bool b => cases h; exact .bool _
  | int k n => cases h; exact .int _ _
  | str l m => cases h; exact .str _ _ ‹_›
  | sym k =>
    have hk : k = KH := Nat.eq_of_beq_eq_true hl
    subst hk
    cases h
    rw [← he]; exact .sym KH
  | _ => cases hl

theorem VRel.lit_one {v : AVal} {x : Value} (hl : litV v = true) (h : VRel ρ env v x) (ho : Value.one (env KH) = true) : Value.one x = true := by
  cases v with
  | bool b => cases h; rfl
  | int k n => cases h; rfl
  | str l m => cases h; rfl
  | sym k =>
    have hk : k = KH := Nat.eq_of_beq_eq_true hl
    subst hk
    cases h
    exact ho
  | _ => cases hl

/-- A table's values. -/
def Tab (hv : Value) (l : List AVal) (xs : List Value) : Prop := l.length = xs.length ∧ ∀ (i : Nat) v x, l[i]? = some v → xs[i]? = some x → litV v = true ∧ VRel (fun _ => none) (fun _ => hv) v x

/-- The package-level tables lie where they lie. -/
def Globs (hv : Value) (w : World) (gl : List (Nat × List AVal)) : Prop := ∀ x ∈ gl, ∃ c e frz, w.heap[x.1]? = some (.cells c e frz) ∧ Tab hv x.2 c.toList

theorem Globs.below {gl : List (Nat × List AVal)} (h : Globs hv w gl) (hb : Below w.heap.size w w') : Globs hv w' gl := by
  intro x hx
  obtain ⟨c, e, frz, h1, h2⟩ := h x hx
  exact ⟨c, e, frz, by rw [hb.block x.1 (lt_of_get h1)]; exact h1, h2⟩

/-! ### The heap in which the tables alone are known -/
def globHeap (es : Nat → TypeId) : List (Nat × List AVal) → AHeap → AHeap
  | [], h => h
  | x :: l, h => globHeap es l (h.put x.1 (.row (es x.1) x.2.length false true (rowOf x.2)))

theorem globHeap_next (es : Nat → TypeId) : ∀ (gl : List (Nat × List AVal)) (h : AHeap), (globHeap es gl h).next = h.next
  | [], _ => rfl
  | x :: l, h => by show (globHeap es l (h.put _ _)).next = _; rw [globHeap_next es l]; rfl

theorem globHeap_get (es : Nat → TypeId) : ∀ (gl : List (Nat × List AVal)) (h : AHeap) (b : Nat) (o : AObj), (globHeap es gl h).get b = some o → h.get b = some o ∨ ∃ l, (b, l) ∈ gl ∧ o = .row (es b) l.length false true (rowOf l)
  | [], h, b, o, hx => .inl hx
  | x :: l, h, b, o, hx => by
    rcases globHeap_get es l _ b o hx with h1 | ⟨l', h1, h2⟩
    · rw [AHeap.get_put] at h1
      split at h1
      · rename_i e
        cases h1
        subst e
        exact .inr ⟨x.2, by simp, rfl⟩
      · exact .inl h1
    · exact .inr ⟨l', by simp [h1], h2⟩

def globH (ng : Nat) (es : Nat → TypeId) (gl : List (Nat × List AVal)) : AHeap := globHeap es gl ⟨ng, .leaf⟩

theorem globH_get {ng : Nat} {es : Nat → TypeId} {gl : List (Nat × List AVal)} {b : Nat} {o : AObj} (h : (globH ng es gl).get b = some o) : ∃ l, (b, l) ∈ gl ∧ o = .row (es b) l.length false true (rowOf l) := by
  rcases globHeap_get es gl _ b o h with h1 | h1
  · cases h1
  · exact h1

/-- Where the tables lie: in the blocks of their numbers. -/
def globR (ng : Nat) (w : World) : Rho := fun b => if b < ng then some ⟨b, 0, (match w.heap[b]? with | some (.cells c _ _) => c.size | _ => 0), 0⟩ else none

def globElem (w : World) (b : Nat) : TypeId := match w.heap[b]? with | some (.cells _ e _) => e | _ => 0

theorem globR_ok (ng : Nat) (w : World) : GlobOk (globR ng w) ng := fun g hg => ⟨_, if_pos hg, rfl, rfl⟩

theorem globH_live (ng : Nat) (es : Nat → TypeId) (gl : List (Nat × List AVal)) (b : Nat) : ¬ liveW ((globH ng es gl).get b) := by
  cases hb : (globH ng es gl).get b with
  | none => exact fun h => h
  | some o =>
    obtain ⟨l, _, rfl⟩ := globH_get hb
    rintro ⟨_, h⟩
    cases h

theorem globH_rel {okc : FuncId → Code → Bool} {ng : Nat} {gl : List (Nat × List AVal)} (hk : env KH = hv) (ho : Value.one hv = true) (hlt : ∀ x ∈ gl, x.1 < ng) (hng : ng ≤ w.heap.size) (hg : Globs hv w gl) :
    HRel P env okc (globR ng w) (globH ng (globElem w) gl) w := by
  refine ⟨?_, ?_, ?_, ?_, ?_⟩
  · intro b o i hb hd hi
    obtain ⟨l, hm, rfl⟩ := globH_get hb
    obtain ⟨c, e, frz, h1, h2, h3⟩ := hg _ hm
    have h1 : w.heap[b]? = some (.cells c e frz) := h1
    have hlen : l.length = c.size := by rw [← Array.length_toList]; exact h2
    have hbn := hlt _ hm
    have hi' : globR ng w b = some ⟨b, 0, c.size, 0⟩ := by unfold globR; rw [if_pos hbn, h1]
    rw [hi'] at hi
    cases hi
    refine ⟨_, h1, c, frz, ?_, rfl, ?_, ?_, ?_, ?_, ?_⟩
    · unfold globElem; rw [h1]
    · show 0 + l.length ≤ c.size; omega
    · intro j v hv
      rw [rowOf_get] at hv
      have hj : j < l.length := by
        rcases Nat.lt_or_ge j l.length with h | h
        · exact h
        · rw [List.getElem?_eq_none h] at hv; cases hv
      have hjc : j < c.size := by omega
      have hx : c.toList[j]? = some c[j] := by rw [Array.getElem?_toList]; exact Array.getElem?_eq_getElem hjc
      obtain ⟨h4, h5⟩ := h3 j v c[j] hv hx
      refine ⟨hj, c[j], ?_, h5.lit h4 _ _ hk, h5.lit_one h4 ho⟩
      show c[0 + j]? = _
      rw [Nat.zero_add]; exact Array.getElem?_eq_getElem hjc
    · intro h; cases h
    · intro h; cases h
    · intro _; exact ⟨rfl, hlen⟩
  · intro b i hi
    unfold globR at hi
    split at hi
    · cases hi; show b < w.heap.size; omega
    · cases hi
  · intro b b' i i' hne hi hi' hl _
    exact absurd hl (globH_live ng _ gl b)
  · intro b hb
    have : ng ≤ b := by rw [globH, globHeap_next] at hb; exact hb
    unfold globR; rw [if_neg (by omega)]
  · intro b hb
    have hb' : ng ≤ b := by rw [globH, globHeap_next] at hb; exact hb
    cases hx : (globH ng (globElem w) gl).get b with
    | none => rfl
    | some o =>
      obtain ⟨l, hm, _⟩ := globH_get hx
      have := hlt _ hm
      have : b < ng := this
      omega

/-! ### What a run says of a call, where nothing that is there may be written -/
theorem closed_calls {okc : FuncId → Code → Bool} {ng : Nat} {call : CallF} (hc : CallOk P env okc ng call) {f : FuncId} {args : List AVal} {v : AVal} {h h' : AHeap} (hx : call (.fn f) args h = some (.ret v, h')) (hb : (bodyOf P f).isSome = true)
    (hr : HRel P env okc ρ h w) (hg : GlobOk ρ ng) (hq : ∀ b, ¬ liveW (h.get b)) {args' : List Value} (ha : VRels ρ env args args') :
    Calls P f ⟨args'⟩ w fun x w' => (∃ y ρ', x = .returned y ∧ VRel ρ' env v y) ∧ Below w.heap.size w w' := by
  intro cs
  obtain ⟨ρ', w', fr, x, q1, q2, q3, q4, q5⟩ := hc.fn ρ h w hr hg f args _ h' hx hb args' ha cs
  cases x with
  | panicked _ => exact q5.elim
  | outgrown => exact q5.elim
  | returned y =>
    refine ⟨.returned y, w', fr, ⟨⟨y, ρ', rfl, q5⟩, ?_⟩, q1, q2, q3⟩
    refine ⟨q4.os, q4.tape, q4.output, q4.size, fun k hk => ?_⟩
    exact (q4.unt k hk (fun b i _ _ => hq b)).1

def isTrueR : Option (AEnd × AHeap) → Nat
  | some (.ret (.bool true), _) => 1
  | _ => 0

theorem isTrueR_of {r : Option (AEnd × AHeap)} (h : isTrueR r = 1) : ∃ h', r = some (.ret (.bool true), h') := by
  unfold isTrueR at h
  split at h
  · exact ⟨_, rfl⟩
  · cases h

/-- A run over the tables alone, that ends true. -/
theorem true_calls {okc : FuncId → Code → Bool} {ng : Nat} {call : CallF} (hk : env KH = hv) (ho : Value.one hv = true) (hc : CallOk P env okc ng call) {f : FuncId} {args : List AVal} {gl : List (Nat × List AVal)} (hlt : ∀ x ∈ gl, x.1 < ng)
    (hx : isTrueR (call (.fn f) args (globH ng (globElem w) gl)) = 1) (hb : (bodyOf P f).isSome = true) (hng : ng ≤ w.heap.size) (hgl : Globs hv w gl) {args' : List Value} (ha : VRels (globR ng w) env args args') :
    Calls P f ⟨args'⟩ w fun x w' => x = .returned (.bool true) ∧ Below w.heap.size w w' := by
  obtain ⟨h', hx'⟩ := isTrueR_of hx
  refine (closed_calls hc hx' hb (globH_rel hk ho hlt hng hgl) (globR_ok ng w) (globH_live ng _ gl) ha).mono ?_
  rintro e w' ⟨⟨y, ρ', rfl, hy⟩, hbw⟩
  exact ⟨by rw [hy.of_bool], hbw⟩

/-! ### A function whose closed run is known, inside another run -/
/-- Are the tables known to the heap as they are written out? -/
def chkG (h : AHeap) : List (Nat × List AVal) → Bool
  | [] => true
  | x :: l => (match h.get x.1 with
    | some (.row _ n false true cs) => Nat.beq n x.2.length && (match readCells cs n 0 with | some r => beqVs r x.2 | none => false)
    | _ => false) && chkG h l

def extOf (f : FuncId) (gl : List (Nat × List AVal)) : CallF := fun t args h =>
  match t, args with
  | .fn g, [] => (match Nat.beq g f && chkG h gl with | true => some (.ret (.bool true), h) | false => none)
  | _, _ => none

theorem readCells_spec : ∀ (k o : Nat) (cs : T AVal) (l : List AVal), readCells cs k o = some l → l.length = k ∧ ∀ i, i < k → cs.get (o + i) = l[i]?
  | 0, o, cs, l, h => by cases h; exact ⟨rfl, fun i hi => absurd hi (Nat.not_lt_zero _)⟩
  | k + 1, o, cs, l, h => by
    unfold readCells at h
    split at h
    rotate_left
    · cases h
    rename_i v hv
    split at h
    rotate_left
    · cases h
    rename_i r hr
    cases h
    obtain ⟨h1, h2⟩ := readCells_spec k (o + 1) cs r hr
    refine ⟨by simp [h1], fun i hi => ?_⟩
    cases i with
    | zero => simpa using hv
    | succ i =>
      have := h2 i (by omega)
      rw [List.getElem?_cons_succ, ← this]
      congr 1; omega

def litG : List (Nat × List AVal) → Bool
  | [] => true
  | x :: l => x.2.all litV && litG l

theorem chkG_globs {okc : FuncId → Code → Bool} {ng : Nat} {h : AHeap} (hk : env KH = hv) (hr : HRel P env okc ρ h w) (hg : GlobOk ρ ng) : ∀ (gl : List (Nat × List AVal)), (∀ x ∈ gl, x.1 < ng) → litG gl = true → chkG h gl = true → Globs hv w gl
  | [], _, _, _ => fun x hx => by cases hx
  | y :: gl, hlt, hl, hc => by
    unfold chkG at hc
    unfold litG at hl
    rw [Bool.and_eq_true] at hc hl
    have rest := chkG_globs hk hr hg gl (fun x hx => hlt x (by simp [hx])) hl.2 hc.2
    intro x hx
    rcases List.mem_cons.1 hx with rfl | hx
    rotate_left
    · exact rest x hx
    have h1 := hc.1
    split at h1
    rotate_left
    · cases h1
    rename_i e n cs hget
    rw [Bool.and_eq_true] at h1
    obtain ⟨hn, h2⟩ := h1
    have hn := Nat.eq_of_beq_eq_true hn
    split at h2
    rotate_left
    · cases h2
    rename_i r hrd
    have hrx := beqVs_eq _ _ h2
    obtain ⟨i, hi, hblk, hsh⟩ := hg x.1 (hlt x (by simp))
    obtain ⟨ob, ho, c, frz, rfl, c2, c3, c4, c5, c6, c7⟩ := hr.obj x.1 _ i hget rfl hi
    obtain ⟨d1, d2⟩ := c7 rfl
    obtain ⟨k1, k2⟩ := readCells_spec n 0 cs r hrd
    refine ⟨c, e, frz, by rw [← hblk]; exact ho, ?_, ?_⟩
    · rw [Array.length_toList]; omega
    · intro j v z hv hz
      have hj : j < n := by
        rcases Nat.lt_or_ge j x.2.length with h | h
        · omega
        · rw [List.getElem?_eq_none h] at hv; cases hv
      have hlv : litV v = true := by
        have := List.all_eq_true.1 hl.1 v (List.mem_of_getElem? hv)
        exact this
      have hcs : cs.get j = some v := by
        have := k2 j hj
        rw [Nat.zero_add] at this
        rw [this, hrx]; exact hv
      obtain ⟨_, z', hz1, hz2, _⟩ := c4 j v hcs
      rw [d1, Nat.zero_add] at hz1
      rw [Array.getElem?_toList] at hz
      rw [hz] at hz1
      cases hz1
      exact ⟨hlv, hz2.lit hlv _ _ hk.symm⟩

/-- What is known of a heap stays known where nothing that is there turns. -/
theorem Go'.of_below {okc : FuncId → Code → Bool} {N : Nat → Prop} {h : AHeap} (hr : HRel P env okc ρ h w) (hb : Below w.heap.size w w') : Go' P env okc N ρ h w ρ h w' := by
  have hrel : HRel P env okc ρ h w' := by
    refine ⟨?_, ?_, hr.inj, hr.next, hr.clean⟩
    · intro b o i h1 h2 h3
      obtain ⟨ob, h4, h5⟩ := hr.obj b o i h1 h2 h3
      exact ⟨ob, by rw [hb.block i.blk (hr.bound b i h3)]; exact h4, h5⟩
    · intro b i h1
      exact Nat.lt_of_lt_of_le (hr.bound b i h1) hb.size
  exact ⟨.refl _, fun _ _ => rfl, hrel, fun B hB hu => ⟨hb.block B hB, hu⟩, hb.size, hb.os, hb.tape, hb.output, Nat.le_refl _, fun _ _ h => h, fun _ _ h => h⟩

theorem extOf_ok {okc : FuncId → Code → Bool} {ng : Nat} {f : FuncId} {gl : List (Nat × List AVal)} (hk : env KH = hv) (hlt : ∀ x ∈ gl, x.1 < ng) (hlit : litG gl = true)
    (hf : ∀ w : World, ng ≤ w.heap.size → Globs hv w gl → Calls P f #[] w fun x w' => x = .returned (.bool true) ∧ Below w.heap.size w w') : CallOk P env okc ng (extOf f gl) := by
  refine ⟨?_, ?_⟩
  · intro ρ h w hr hg f' args e h' hx hb args' ha cs
    unfold extOf at hx
    split at hx
    rotate_left
    · cases hx
    rename_i g heq
    cases heq
    split at hx
    rotate_left
    · cases hx
    rename_i hc
    cases hx
    rw [Bool.and_eq_true] at hc
    obtain ⟨hgf, hch⟩ := hc
    obtain rfl := Nat.eq_of_beq_eq_true hgf
    rw [ha.nil_iff]
    have hng : ng ≤ w.heap.size := by
      rcases Nat.eq_zero_or_pos ng with h0 | h0
      · omega
      · obtain ⟨i, h1, h2, _⟩ := hg (ng - 1) (by omega)
        have := hr.bound _ _ h1
        omega
    obtain ⟨x, w', fr, ⟨rfl, hbw⟩, q1, q2, q3⟩ := hf w hng (chkG_globs hk hr hg gl hlt hlit hch) cs
    exact ⟨ρ, w', fr, _, q1, q2, q3, Go'.of_below hr hbw, .bool true⟩
  · intro ρ h w hr hg b i args e h' hx
    unfold extOf at hx
    split at hx
    · rename_i heq; cases heq
    · cases hx

/-! ### The tables, out of the claim's condition -/
/-- A datum that is written out. -/
def litD : DataW Unit → Option AVal
  | .lit (.string l) => some (.str l.length (packL l))
  | .lit (.int k n) => some (.int k n)
  | .lit (.bool b) => some (.bool b)
  | _ => none

def litDs : List (DataW Unit) → Option (List AVal)
  | [] => some []
  | d :: l => match litD d, litDs l with | some v, some r => some (v :: r) | _, _ => none

def tabD : DataW Unit → Option (List AVal)
  | .agg l => litDs l
  | _ => none

theorem litDs_get : ∀ {l : List (DataW Unit)} {r : List AVal}, litDs l = some r → l.length = r.length ∧ ∀ (i : Nat) d, l[i]? = some d → ∃ v, r[i]? = some v ∧ litD d = some v
  | [], r, h => by cases h; exact ⟨rfl, fun i d hd => by simp at hd⟩
  | d :: l, r, h => by
    unfold litDs at h
    split at h
    · rename_i v r' h1 h2
      cases h
      obtain ⟨h3, h4⟩ := litDs_get h2
      refine ⟨by simp [h3], fun i d' hd => ?_⟩
      cases i with
      | zero => simp at hd; subst hd; exact ⟨v, by simp, h1⟩
      | succ i => simp at hd; obtain ⟨v', h5, h6⟩ := h4 i d' hd; exact ⟨v', by simpa using h5, h6⟩
    · cases h

/-- An element of a table. -/
theorem lit_of_trod {enc : TypeId × Value → Unit} {base : Nat} {sp : Nat → Bool} {held : Bool} {m : Nat} {e : TypeId} {c : Value} {d : DataW Unit} {q : List MemPlace} {v : AVal}
    (hu : P.underlying e = some .string ∨ (∃ k, P.underlying e = some (.int k)) ∨ P.underlying e = some .bool) (h : DataW.trod enc P w base sp held m e [c] = some (d, q)) (hd : litD d = some v) :
    litV v = true ∧ VRel (fun _ => none) (fun _ => hv) v c := by
  rcases hu with hu | ⟨k, hu⟩ | hu
  · obtain ⟨s, h1, h2, _⟩ := DataW.trod_string hu h
    cases h1
    cases h2
    cases hd
    exact ⟨rfl, VRel.of_string s⟩
  · obtain ⟨n, h1, h2, _⟩ := DataW.trod_int hu h
    cases h1
    cases h2
    cases hd
    exact ⟨rfl, .int _ _⟩
  · obtain ⟨b, h1, h2⟩ := DataW.trod_bool hu h
    cases h1
    cases h2
    cases hd
    exact ⟨rfl, .bool _⟩

theorem tab_of_trod {enc : TypeId × Value → Unit} {base : Nat} {sp : Nat → Bool} {held : Bool} {fuel n : Nat} {t e : TypeId} {cs : List Value} {d : DataW Unit} {p : List MemPlace} {l : List AVal}
    (ht : P.underlying t = some (.array n e)) (hc : P.cellsOf e = 1) (hct : P.cellsOf t = n) (hu : P.underlying e = some .string ∨ (∃ k, P.underlying e = some (.int k)) ∨ P.underlying e = some .bool)
    (h : DataW.trod enc P w base sp held fuel t cs = some (d, p)) (hd : tabD d = some l) : Tab hv l cs := by
  obtain ⟨xs, m, rfl, h1, h2, h3, h4⟩ := DataW.trod_array ht h
  cases h1
  have hd' : litDs (xs.map (·.1)) = some l := hd
  obtain ⟨k1, k2⟩ := litDs_get hd'
  have hlen : l.length = cs.length := by rw [← k1, h2, hct]; simp [h3]
  refine ⟨hlen, fun i v x hv hx => ?_⟩
  have hi : i < n := by
    have : i < l.length := by
      rcases Nat.lt_or_ge i l.length with h | h
      · exact h
      · rw [List.getElem?_eq_none h] at hv; cases hv
    rw [← k1] at this; simpa [h3] using this
  have h5 := h4 i hi
  rw [hc, Nat.mul_one] at h5
  have hdr : (cs.drop i).take 1 = [x] := by
    rw [List.take_one, List.head?_drop, hx]; rfl
  rw [hdr] at h5
  have hxi : i < xs.length := by omega
  rw [List.getElem?_eq_getElem hxi] at h5
  obtain ⟨v', h6, h7⟩ := k2 i xs[i].1 (by simp [hxi])
  rw [hv] at h6
  cases h6
  exact lit_of_trod hu h5 h7

theorem laid_mem : ∀ {laid : List (String × DataW Unit)} {ps : List MemPlace}, DataW.LaidVars P w laid ps → ∀ {n : String} {d : DataW Unit}, (n, d) ∈ laid →
    ∃ g t cs fuel p, P.globalNamed n = some g ∧ (P.globals[g]?).map (·.type) = some t ∧ w.var? P n = some cs ∧ DataW.trod (fun _ => ()) P w 0 (fun _ => true) false fuel t cs.toList = some (d, p)
  | [], _, _, _, _, hm => by cases hm
  | x :: laid, ps, h, n, d, hm => by
    obtain ⟨g, t, cs, fuel, p, q, h1, h2, h3, h4, h5, _⟩ := h
    rcases List.mem_cons.1 hm with rfl | hm
    · exact ⟨g, t, cs, fuel, p, h1, h2, h3, h4⟩
    · exact laid_mem h5 hm

/-- A listed variable that is an array of numbers, texts or truths. -/
theorem laid_tab {laid : List (String × DataW Unit)} {ps : List MemPlace} (h : DataW.LaidVars P w laid ps) {n : String} {d : DataW Unit} (hm : (n, d) ∈ laid) {g : Nat} {t e : TypeId} {k : Nat} {l : List AVal}
    (hg : P.globalNamed n = some g) (ht : (P.globals[g]?).map (·.type) = some t) (ht' : P.underlying t = some (.array k e)) (hc : P.cellsOf e = 1) (hct : P.cellsOf t = k)
    (hu : P.underlying e = some .string ∨ (∃ k, P.underlying e = some (.int k)) ∨ P.underlying e = some .bool) (hd : tabD d = some l) : ∃ c e frz, w.heap[g]? = some (.cells c e frz) ∧ Tab hv l c.toList := by
  obtain ⟨g', t', cs, fuel, p, h1, h2, h3, h4⟩ := laid_mem h hm
  obtain rfl := Option.some.inj (hg.symm.trans h1)
  obtain rfl := Option.some.inj (ht.symm.trans h2)
  unfold World.var? at h3
  rw [hg] at h3
  simp only [Option.bind_some] at h3
  split at h3
  · rename_i c e' frz hw
    cases h3
    exact ⟨_, _, _, hw, tab_of_trod ht' hc hct hu h4 hd⟩
  · cases h3

/-- The two halves of a condition that lists a type's handle. -/
theorem laid_parts {laid : List (String × DataW Unit)} (h : laidMetH P laid w) : laidMet P (laid.filter fun x => x.2.handleName?.isNone) w ∧ handlesMet P (laid.filter fun x => x.2.handleName?.isSome) w := by
  unfold laidMetH at h
  generalize hfl : (laid.filter fun x => x.2.handleName?.isSome) = fl at h
  cases fl with
  | nil =>
    have e : (laid.filter fun x => x.2.handleName?.isNone) = laid := by
      rw [List.filter_eq_self]
      intro x hx
      have := (List.filter_eq_nil_iff.1 hfl) x hx
      cases hn : x.2.handleName? with
      | none => rfl
      | some s => rw [hn] at this; exact absurd rfl this
    rw [e]
    exact ⟨h, fun x hx => by cases hx⟩
  | cons y l => exact h

/-- A listed variable that holds a type's handle. -/
theorem laid_handle {laid : List (String × DataW Unit)} (h : handlesMet P laid w) {n : String} {d : DataW Unit} (hm : (n, d) ∈ laid) {g : Nat} {name : List UInt8} {u ty : TypeId} (hf : d.funcsIn?.isNone = true)
    (hn : d.handleName? = some name) (hg : P.globalNamed n = some g) (hu : (P.cutTypes.find? (·.1 == "internal/reflectlite.rtype")).map (·.2) = some u)
    (hty : ((List.range P.types.size).filter fun t => P.rowNamed t name) = [ty]) (hhv : hv = .iface u (.agg #[typeHandle P ty])) : ∃ c e frz, w.heap[g]? = some (.cells c e frz) ∧ Tab hv [.sym KH] c.toList := by
  have h1 := h _ hm
  rw [Option.isNone_iff_eq_none.1 hf] at h1
  obtain ⟨name', u', ty', e1, e2, e3, e4, e5⟩ := h1
  have e1' : d.handleName? = some name' := e1
  rw [hn] at e1'
  cases e1'
  rw [hu] at e2
  cases e2
  have hin : ty' ∈ (List.range P.types.size).filter fun t => P.rowNamed t name := List.mem_filter.2 ⟨List.mem_range.2 e3, e4⟩
  rw [hty] at hin
  obtain rfl := List.mem_singleton.1 hin
  have e5' : w.var? P n = some #[.iface u (.agg #[typeHandle P ty'])] := e5
  unfold World.var? at e5'
  rw [hg] at e5'
  simp only [Option.bind_some] at e5'
  split at e5'
  · rename_i c e' frz hw
    have hc := Option.some.inj e5'
    subst hc
    refine ⟨_, _, _, hw, rfl, fun i v x hv' hx => ?_⟩
    cases i with
    | zero =>
      simp at hv' hx
      subst hv'; subst hx
      refine ⟨rfl, ?_⟩
      rw [← hhv]; exact .sym KH
    | succ i => simp at hv'
  · cases e5'

end
end Go.Eng
