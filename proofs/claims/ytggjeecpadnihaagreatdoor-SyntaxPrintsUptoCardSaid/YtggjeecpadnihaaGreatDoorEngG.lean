/- The engine, part G: parts of aggregates, equality, operators, indexes, fields, what is built. -/
import Derived.Test.YtggjeecpadnihaaGreatDoorEngF
import Derived.ChangeKeysEq
import Derived.Laws.StructEq
set_option linter.unusedSectionVars false
set_option linter.unusedVariables false
set_option linter.unusedSimpArgs false
namespace Go.Eng

section
variable {P : Program} {env : Nat → Value} {okc : FuncId → Code → Bool} {N : Nat → Prop} {ρ ρ' : Rho} {h h' : AHeap} {w w' : World}

/-! ### Parts -/
theorem nthA_eq : ∀ (l : List AVal) (n : Nat), nthA l n = l[n]?
  | [], _ => by simp [nthA]
  | _ :: _, 0 => rfl
  | _ :: l, n + 1 => by simp [nthA, nthA_eq l n]

theorem dropN_eq : ∀ (n : Nat) (l : List AVal), dropN n l = l.drop n
  | 0, l => rfl
  | n + 1, [] => rfl
  | n + 1, _ :: l => by simp [dropN, dropN_eq n l]

theorem takeN_eq : ∀ (n : Nat) (l r : List AVal), takeN n l = some r → r = l.take n ∧ n ≤ l.length
  | 0, l, r, h => by cases h; simp
  | n + 1, [], r, h => by cases h
  | n + 1, v :: l, r, h => by
    unfold takeN at h
    cases h1 : takeN n l with
    | none => rw [h1] at h; cases h
    | some r' =>
      rw [h1] at h; cases h
      obtain ⟨rfl, h2⟩ := takeN_eq n l r' h1
      exact ⟨by simp, by simp; omega⟩

theorem VRels.take {l : List AVal} {l' : List Value} (h : VRels ρ env l l') (n : Nat) : VRels ρ env (l.take n) (l'.take n) := by
  refine ⟨by simp [h.1], fun i v x hv hx => ?_⟩
  rw [List.getElem?_take] at hv hx
  split at hv
  · rename_i hi; rw [if_pos hi] at hx; exact h.2 i v x hv hx
  · cases hv
theorem VRels.drop {l : List AVal} {l' : List Value} (h : VRels ρ env l l') (n : Nat) : VRels ρ env (l.drop n) (l'.drop n) := by
  refine ⟨by simp [h.1], fun i v x hv hx => ?_⟩
  rw [List.getElem?_drop] at hv hx
  exact h.2 _ v x hv hx

theorem partA_sound {t : TypeId} {cs : List AVal} {cs' : List Value} {off : Nat} {v : AVal} (hc : VRels ρ env cs cs') (hp : partA P t cs off = some v) :
    ∃ x, (part t ⟨cs'⟩ off).run P w = .ok x w ∧ VRel ρ env v x := by
  unfold partA at hp
  cases ha : aggA P t with
  | none => rw [ha] at hp; cases hp
  | some b =>
    rw [ha] at hp
    cases b with
    | true =>
      simp only at hp
      cases hs : sizeA P t with
      | none => rw [hs] at hp; cases hp
      | some n =>
        rw [hs] at hp; simp only at hp
        cases h1 : takeN n (dropN off cs) with
        | none => rw [h1] at hp; cases hp
        | some l =>
          rw [h1] at hp; cases hp
          obtain ⟨rfl, _⟩ := takeN_eq _ _ _ h1
          rw [dropN_eq]
          refine ⟨.agg ((⟨cs'⟩ : Array Value).extract off (off + n)), by simp [part, run_agg ha, run_size hs], ?_⟩
          have e : (⟨cs'⟩ : Array Value).extract off (off + n) = ⟨(cs'.drop off).take n⟩ := by
            apply Array.ext'
            simp [List.take_drop]
          rw [e]
          exact ((hc.drop off).take n).agg
    | false =>
      simp only at hp
      rw [nthA_eq] at hp
      obtain ⟨x, hx, hv⟩ := hc.get hp
      refine ⟨x, ?_, hv⟩
      simp [part, run_agg ha, hx]

/-! ### Equality -/
theorem eqFieldsA_sound {d : Nat} {eq : TypeId → AVal → AVal → Option Bool}
    (ih : ∀ t x y r, eq t x y = some r → ∀ cx cy, VRel ρ env x cx → VRel ρ env y cy → (Op.equalIn d t cx cy).run P w = .ok r w) :
    ∀ (fs : List Field) (xs ys : List AVal) (r : Bool), eqFieldsA P eq fs xs ys = some r → ∀ xs' ys', VRels ρ env xs xs' → VRels ρ env ys ys' →
      (Op.eqFields d ⟨xs'⟩ ⟨ys'⟩ fs).run P w = .ok r w
  | [], xs, ys, r, h, xs', ys', _, _ => by cases h; rfl
  | f :: fs, xs, ys, r, h, xs', ys', hx, hy => by
    unfold eqFieldsA at h
    unfold Op.eqFields
    by_cases hn : f.name = "_"
    · rw [if_pos hn] at h
      rw [if_neg (by simpa using hn)]
      exact eqFieldsA_sound ih fs xs ys r h xs' ys' hx hy
    · rw [if_neg hn] at h
      rw [if_pos (by simpa using hn)]
      cases h1 : partA P f.type xs f.offset with
      | none => rw [h1] at h; cases h
      | some a =>
        cases h2 : partA P f.type ys f.offset with
        | none => rw [h1, h2] at h; cases h
        | some b =>
          rw [h1, h2] at h; simp only at h
          obtain ⟨a', ha, hva⟩ := partA_sound (P := P) (w := w) hx h1
          obtain ⟨b', hb, hvb⟩ := partA_sound (P := P) (w := w) hy h2
          simp only [Sem.run_bind, ha, hb, Result.andThen_ok]
          cases h3 : eq f.type a b with
          | none => rw [h3] at h; cases h
          | some bb =>
            rw [h3] at h
            rw [ih f.type a b bb h3 a' b' hva hvb]
            cases bb with
            | true =>
              simp only at h
              simpa using eqFieldsA_sound ih fs xs ys r h xs' ys' hx hy
            | false => cases h; rfl

theorem size_cells {e : TypeId} {n : Nat} (h : sizeA P e = some n) : ∃ i, P.info? e = some i ∧ P.cellsOf e = n := by
  unfold sizeA at h
  cases hi : P.info? e with
  | none => rw [hi] at h; cases h
  | some i => rw [hi] at h; cases h; exact ⟨i, rfl, by unfold Program.cellsOf; rw [hi]; rfl⟩

theorem eqElemsA_sound {d : Nat} {e : TypeId} {size : Nat} {eq : AVal → AVal → Option Bool}
    (ih : ∀ x y r, eq x y = some r → ∀ cx cy, VRel ρ env x cx → VRel ρ env y cy → (Op.equalIn d e cx cy).run P w = .ok r w) :
    ∀ (k j : Nat) (xs ys : List AVal) (r : Bool), eqElemsA P eq e size k (j * size) xs ys = some r → ∀ xs' ys', VRels ρ env xs xs' → VRels ρ env ys ys' →
      (Op.eqItems d e size ⟨xs'⟩ ⟨ys'⟩ (List.range' j k)).run P w = .ok r w
  | 0, j, xs, ys, r, h, xs', ys', _, _ => by cases h; simp [Op.eqItems]
  | k + 1, j, xs, ys, r, h, xs', ys', hx, hy => by
    unfold eqElemsA at h
    rw [List.range'_succ]
    unfold Op.eqItems
    cases h1 : partA P e xs (j * size) with
    | none => rw [h1] at h; cases h
    | some a =>
      cases h2 : partA P e ys (j * size) with
      | none => rw [h1, h2] at h; cases h
      | some b =>
        rw [h1, h2] at h; simp only at h
        obtain ⟨a', ha, hva⟩ := partA_sound (P := P) (w := w) hx h1
        obtain ⟨b', hb, hvb⟩ := partA_sound (P := P) (w := w) hy h2
        simp only [Sem.run_bind, ha, hb, Result.andThen_ok]
        cases h3 : eq a b with
        | none => rw [h3] at h; cases h
        | some bb =>
          rw [h3] at h
          rw [ih a b bb h3 a' b' hva hvb]
          cases bb with
          | true =>
            simp only at h
            rw [← Nat.succ_mul] at h
            simpa using eqElemsA_sound ih k (j + 1) xs ys r h xs' ys' hx hy
          | false => cases h; rfl

set_option maxHeartbeats 4000000 in
def FactOk (P : Program) (env : Nat → Value) (f : Fact) : Prop :=
  match f.key with
  | .bin op => ∀ (ρ : Rho) (t : TypeId) (xo yo : Operand) (cx cy : Value) (w : World), VRel ρ env f.x cx → VRel ρ env f.y cy →
      ∃ r, (do eqGuard op t xo yo cx cy; binOp op t cx cy : Sem Value).run P w = .ok r w ∧ VRel ρ env f.ans r
  | .un op => ∀ (ρ : Rho) (cx : Value) (w : World), VRel ρ env f.x cx → ∃ r, (Op.unary op cx).run P w = .ok r w ∧ VRel ρ env f.ans r
  | .conv s d => ∀ (ρ : Rho) (cx : Value) (w : World), VRel ρ env f.x cx → ∃ r, (convert s d cx).run P w = .ok r w ∧ VRel ρ env f.ans r
  | .eqi => ∀ (ρ : Rho) (cx cy : Value), VRel ρ env f.x cx → VRel ρ env f.y cy → ∃ k a b, cx = .int k a ∧ cy = .int k b ∧ f.ans = .bool (decide (a = b))
  | .len => ∀ (ρ : Rho) (t ty : TypeId) (ts : List TypeId) (cx : Value) (w : World), P.underlying t = some .string → VRel ρ env f.x cx → ∃ r, (Builtin.len_ ⟨t :: ts⟩ ty #[cx]).run P w = .ok r w ∧ VRel ρ env f.ans r

theorem strEq_of {l m l' m' : Nat} (h : strEq l m l' m' = true) : l = l' ∧ m = m' := by
  unfold strEq at h
  cases hb : Nat.beq l l' with
  | true => rw [hb] at h; exact ⟨Nat.eq_of_beq_eq_true hb, Nat.eq_of_beq_eq_true h⟩
  | false => rw [hb] at h; cases h

theorem sameS_eq {x y : AVal} (h : sameS x y = true) : x = y := by
  unfold sameS at h
  split at h
  · simp only [Bool.and_eq_true, decide_eq_true_eq] at h
    obtain ⟨rfl, h2⟩ := h
    rw [eqI_eq] at h2; rw [eq_of_beq h2]
  · rw [Nat.eq_of_beq_eq_true h]
  · obtain ⟨rfl, rfl⟩ := strEq_of h; rfl
  · rfl
  · rw [eq_of_beq h]
  · cases h

theorem factOf_mem {key : FKey} {x y v : AVal} : ∀ {l : List Fact}, factOf key x y l = some v → ∃ f ∈ l, f.key = key ∧ f.x = x ∧ f.y = y ∧ f.ans = v
  | [], h => by cases h
  | f :: l, h => by
    unfold factOf at h
    split at h
    · rename_i hc
      cases h
      simp only [Bool.and_eq_true, decide_eq_true_eq] at hc
      exact ⟨f, by simp, hc.1.1, sameS_eq hc.1.2, sameS_eq hc.2, rfl⟩
    · obtain ⟨g, hg, r⟩ := factOf_mem h
      exact ⟨g, by simp [hg], r⟩

theorem eqiOf_sound {fs : List Fact} (hF : ∀ f ∈ fs, FactOk P env f) {x y : AVal} {r : Bool} (h : eqiOf fs x y = some r) {ρ : Rho} {cx cy : Value} (hx : VRel ρ env x cx) (hy : VRel ρ env y cy) : ∃ k a b, cx = .int k a ∧ cy = .int k b ∧ r = decide (a = b) := by
  unfold eqiOf at h
  split at h
  · rename_i b hf
    cases h
    obtain ⟨f, hf, hk, e1, e2, e3⟩ := factOf_mem hf
    have := hF f hf
    unfold FactOk at this; rw [hk] at this
    obtain ⟨k, a, b', q1, q2, q3⟩ := this ρ cx cy (e1 ▸ hx) (e2 ▸ hy)
    rw [e3] at q3
    cases q3
    exact ⟨k, a, b', q1, q2, rfl⟩
  · cases h

set_option maxHeartbeats 2000000 in
theorem equalA_sound {fs : List Fact} (hF : ∀ f ∈ fs, FactOk P env f) : ∀ (d : Nat) (t : TypeId) (x y : AVal) (r : Bool), equalA P fs d t x y = some r → ∀ (D : Nat), d ≤ D → ∀ cx cy, VRel ρ env x cx → VRel ρ env y cy →
    (Op.equalIn D t cx cy).run P w = .ok r w := by
  intro d
  induction d with
  | zero => intro t x y r h; cases h
  | succ d ih =>
    intro t x y r h D hD cx cy hx hy
    obtain ⟨D, rfl⟩ : ∃ e, D = e + 1 := ⟨D - 1, by omega⟩
    unfold equalA at h
    cases hu : P.underlying t with
    | none => rw [hu] at h; cases h
    | some ds =>
      rw [hu] at h
      cases ds <;> simp only at h <;> try (cases h; done)
      case bool =>
        split at h
        rotate_left
        · cases h
        cases h; cases hx; cases hy
        simp [Op.equalIn, run_und hu]
      case int k =>
        split at h
        · split at h
          rotate_left
          · cases h
          rename_i hk
          cases h; cases hx; cases hy
          simp [Op.equalIn, run_und hu, hk, eqI_eq]
        · obtain ⟨k', a, b, rfl, rfl, rfl⟩ := eqiOf_sound hF h hx hy
          simp [Op.equalIn, run_und hu]
          rw [Bool.eq_iff_iff]; simp
        · obtain ⟨k', a, b, rfl, rfl, rfl⟩ := eqiOf_sound hF h hx hy
          simp [Op.equalIn, run_und hu]
          rw [Bool.eq_iff_iff]; simp
        · cases h
      case string =>
        split at h
        rotate_left
        · cases h
        cases h
        cases hx with | str l n h1 => cases hy with | str l' m h2 =>
        rw [run_equalIn_string w D t _ _ hu, strEq_eq h1 h2]
      case pointer e =>
        split at h
        · cases h; cases hx; cases hy; simp [Op.equalIn, run_und hu]
        · cases h; cases hx; cases hy; simp [Op.equalIn, run_und hu]
        · cases h; cases hx; cases hy; simp [Op.equalIn, run_und hu]
        · split at h
          rotate_left
          · cases h
          rename_i b o b' o' hb
          have hb' := Nat.eq_of_beq_eq_true hb
          subst hb'
          cases hs : sizeA P e with
          | none => rw [hs] at h; cases h
          | some n =>
            rw [hs] at h
            cases n with
            | zero => cases h
            | succ n =>
              simp only at h; cases h
              cases hx with | ptr o hi => cases hy with | ptr o' hi' =>
              rw [hi] at hi'; cases hi'
              simp [Op.equalIn, run_und hu, run_size hs, sameAddr]
              rw [Bool.eq_iff_iff]; simp
        · cases h
      case slice e =>
        split at h
        · cases h; cases hx; cases hy; simp [Op.equalIn, run_und hu]
        · cases h; cases hx; cases hy <;> simp [Op.equalIn, run_und hu]
        · cases h; cases hy; cases hx <;> simp [Op.equalIn, run_und hu]
        · cases h
      case map k e =>
        split at h
        · cases h; cases hx; cases hy; simp [Op.equalIn, run_und hu]
        · cases h; cases hx; cases hy; simp [Op.equalIn, run_und hu]
        · cases h; cases hx; cases hy; simp [Op.equalIn, run_und hu]
        · cases h
      case func ps rs v =>
        split at h
        · cases h; cases hx; cases hy; simp [Op.equalIn, run_und hu]
        · cases h; cases hx; cases hy; simp [Op.equalIn, run_und hu]
        · cases h; cases hx; cases hy; simp [Op.equalIn, run_und hu]
        · cases h
      case interface ms =>
        split at h
        · cases h; cases hx; cases hy; simp [Op.equalIn, run_und hu]
        · cases h; cases hx; cases hy; simp [Op.equalIn, run_und hu]
        · cases h; cases hx; cases hy; simp [Op.equalIn, run_und hu]
        · split at h
          · rename_i tx vx ty vy htt
            subst htt
            cases hi : P.info? tx with
            | none => rw [hi] at h; cases h
            | some i =>
              rw [hi] at h; simp only at h
              split at h
              rotate_left
              · cases h
              rename_i hc
              cases hx with | iface _ hvx => cases hy with | iface _ hvy =>
              simp [Op.equalIn, run_und hu, run_info hi, hc]
              exact ih tx vx vy r h D (by omega) _ _ hvx hvy
          · rename_i tx vx ty vy htt
            cases h
            cases hx with | iface _ hvx => cases hy with | iface _ hvy =>
            simp [Op.equalIn, run_und hu, htt]
        · cases h
      case struct fs =>
        split at h
        rotate_left
        · cases h
        split at h
        · cases h
        · rename_i hp
          obtain ⟨xs', rfl, hxs⟩ := hx.of_agg
          obtain ⟨ys', rfl, hys⟩ := hy.of_agg
          have hu' : P.underlying t = some (.struct (P.fieldsOf t)) := by rw [hu]; unfold Program.fieldsOf; rw [hu]
          have hf : P.fieldsOf t = fs := by unfold Program.fieldsOf; rw [hu]
          rw [run_equalIn_struct w D t _ _ hu' (by simpa using hp), hf]
          exact eqFieldsA_sound (fun t x y r h cx cy hx hy => ih t x y r h D (by omega) cx cy hx hy) _ _ _ _ h _ _ hxs hys
      case array n e =>
        split at h
        rotate_left
        · cases h
        rename_i xs ys size hs
        obtain ⟨i, hi, hc⟩ := size_cells hs
        obtain ⟨xs', rfl, hxs⟩ := hx.of_agg
        obtain ⟨ys', rfl, hys⟩ := hy.of_agg
        rw [run_equalIn_array w D _ _ hu hi, hc, List.range_eq_range']
        exact eqElemsA_sound (fun x y r h cx cy hx hy => ih e x y r h D (by omega) cx cy hx hy) n 0 _ _ _ (by rw [Nat.zero_mul]; exact h) _ _ hxs hys

/-! ### Operators -/
/-- What a fact says. -/
theorem run_guard_pass {op : BinOp} {t : TypeId} {xo yo : Operand} {a b : Value} (h1 : a ≠ .nilIface ∨ b ≠ .nilIface)
    (h2 : (∀ l, a ≠ .agg l) ∨ (∀ l, b ≠ .agg l)) : (eqGuard op t xo yo a b).run P w = .ok () w := by
  unfold eqGuard
  simp only [Sem.run_ite, Sem.run_pure]
  split
  · simp only [Bool.not_true, Bool.false_eq_true, if_false]
    split
    · simp at h1
    · simp at h2
    · rfl
  · simp only [Bool.not_true, Bool.false_eq_true, if_false]
    split
    · simp at h1
    · simp at h2
    · rfl
  · simp

theorem guard_nil {op : BinOp} {t : TypeId} {xo yo : Operand} (hg : AVal.isConst xo = true ∨ AVal.isConst yo = true) : (eqGuard op t xo yo .nilIface .nilIface).run P w = .ok () w := by
  unfold eqGuard
  simp only [Sem.run_ite, Sem.run_pure]
  rcases hg with hg | hg
  · cases xo <;> first | (cases hg; done) | simp
  · cases yo <;> first | (cases hg; done) | simp

theorem niface_of {x : AVal} (h : VRel ρ env x .nilIface) : x = .niface ∨ x = .any ∨ ∃ i, x = .sym i := by
  generalize e : Value.nilIface = z at h
  cases h <;> first | (cases e; done) | exact .inl rfl | exact .inr (.inl rfl) | exact .inr (.inr ⟨_, rfl⟩)
theorem agg_of {x : AVal} {l : Array Value} (h : VRel ρ env x (.agg l)) : (∃ l, x = .agg l) ∨ x = .any ∨ ∃ i, x = .sym i := by
  generalize e : Value.agg l = z at h
  cases h <;> first | (cases e; done) | exact .inl ⟨_, rfl⟩ | exact .inr (.inl rfl) | exact .inr (.inr ⟨_, rfl⟩)

theorem guardA_sound {op : BinOp} {t : TypeId} {xo yo : Operand} {x y : AVal} {a b : Value} (hx : VRel ρ env x a) (hy : VRel ρ env y b)
    (hg : guardA P t xo yo x y = true) : (eqGuard op t xo yo a b).run P w = .ok () w := by
  have hnx : x ≠ .any ∧ ∀ i, x ≠ .sym i := by
    constructor
    · rintro rfl; cases y <;> simp [guardA] at hg
    · rintro i rfl; cases y <;> simp [guardA] at hg
  have hny : y ≠ .any ∧ ∀ i, y ≠ .sym i := by
    constructor
    · rintro rfl; cases x <;> simp [guardA] at hg
    · rintro i rfl; cases x <;> simp [guardA] at hg
  by_cases h1 : x = .niface ∧ y = .niface
  · obtain ⟨rfl, rfl⟩ := h1
    cases hx; cases hy
    simp only [guardA, Bool.or_eq_true] at hg
    exact guard_nil hg
  · by_cases h2 : (∃ l, x = .agg l) ∧ (∃ l, y = .agg l)
    · obtain ⟨⟨l, rfl⟩, ⟨l', rfl⟩⟩ := h2
      obtain ⟨xs, rfl, _⟩ := hx.of_agg
      obtain ⟨ys, rfl, _⟩ := hy.of_agg
      simp only [guardA, Bool.not_eq_true'] at hg
      exact run_eqGuard_agg w op t xo yo _ _ hg
    · refine run_guard_pass ?_ ?_
      · by_cases e : a = .nilIface
        · right; intro e'; subst e; subst e'
          apply h1
          constructor
          · rcases niface_of hx with e | e | ⟨i, e⟩
            · exact e
            · exact absurd e hnx.1
            · exact absurd e (hnx.2 i)
          · rcases niface_of hy with e | e | ⟨i, e⟩
            · exact e
            · exact absurd e hny.1
            · exact absurd e (hny.2 i)
        · exact .inl e
      · by_cases e : ∃ l, a = .agg l
        · right; intro l' e'; obtain ⟨l, rfl⟩ := e; subst e'
          apply h2
          constructor
          · rcases agg_of hx with e | e | ⟨i, e⟩
            · exact e
            · exact absurd e hnx.1
            · exact absurd e (hnx.2 i)
          · rcases agg_of hy with e | e | ⟨i, e⟩
            · exact e
            · exact absurd e hny.1
            · exact absurd e (hny.2 i)
        · left; intro l hl; exact e ⟨l, hl⟩

theorem run_eql {neg : Bool} {t : TypeId} {x y : Value} {r : Bool} (h : (Op.equalIn Op.maxDepth t x y).run P w = .ok r w)
    (hi : ∀ k n, x ≠ .int k n) (hs : ∀ s, x ≠ .string s) (hf : ∀ k n, x ≠ .float k n) (hc : ∀ k a b, x ≠ .complex k a b) :
    (binOp (if neg then .neq else .eql) t x y).run P w = .ok (.bool (r != neg)) w := by
  cases neg
  · simp only [Bool.false_eq_true, if_false]
    cases x <;> first | (exact absurd rfl (hi _ _)) | (exact absurd rfl (hs _)) | (exact absurd rfl (hf _ _)) | (exact absurd rfl (hc _ _ _)) | (simp only [binOp, Op.equal]; simp [h])
  · simp only [if_true]
    cases x <;> first | (exact absurd rfl (hi _ _)) | (exact absurd rfl (hs _)) | (exact absurd rfl (hf _ _)) | (exact absurd rfl (hc _ _ _)) | (simp only [binOp, Op.equal]; simp [h])

theorem equalA_kind {fs : List Fact} {d : Nat} {t : TypeId} {x y : AVal} {r : Bool} (h : equalA P fs d t x y = some r) (hnx : ∀ i, x ≠ .sym i) (hny : ∀ i, y ≠ .sym i) (hb : ¬ (∃ k n k' n', x = .int k n ∧ y = .int k' n')) (hs : ¬ (∃ l m l' m', x = .str l m ∧ y = .str l' m')) :
    (∀ k n, x ≠ .int k n) ∧ (∀ l m, x ≠ .str l m) ∧ (∀ i, x ≠ .sym i) ∧ x ≠ .any := by
  cases d with
  | zero => cases h
  | succ d =>
    unfold equalA at h
    refine ⟨?_, ?_, ?_, ?_⟩
    all_goals intros; intro e; subst e
    · apply hb
      cases y <;> first | exact ⟨_, _, _, _, rfl, rfl⟩ | exact absurd rfl (hny _) | (exfalso; revert h; cases P.underlying t with | none => simp | some ds => cases ds <;> simp)
    · apply hs
      cases y <;> first | exact ⟨_, _, _, _, rfl, rfl⟩ | exact absurd rfl (hny _) | (exfalso; revert h; cases P.underlying t with | none => simp | some ds => cases ds <;> simp)
    · exact hnx _ rfl
    · cases y <;> first | exact absurd rfl (hny _) | (revert h; cases P.underlying t with | none => simp | some ds => cases ds <;> simp)

theorem guard_nosym {t : TypeId} {xo yo : Operand} {x y : AVal} (hg : guardA P t xo yo x y = true) : (∀ i, x ≠ .sym i) ∧ (∀ i, y ≠ .sym i) := by
  constructor
  · rintro i rfl; cases y <;> simp [guardA] at hg
  · rintro i rfl; cases x <;> simp [guardA] at hg

theorem binA_sound {facts : List Fact} (hF : ∀ f ∈ facts, FactOk P env f) {op : BinOp} {t : TypeId} {xo yo : Operand} {x y v : AVal} {cx cy : Value}
    (hx : VRel ρ env x cx) (hy : VRel ρ env y cy) (h : binA P facts op t xo yo x y = some v) :
    ∃ r, (do eqGuard op t xo yo cx cy; binOp op t cx cy : Sem Value).run P w = .ok r w ∧ VRel ρ env v r := by
  have hpass : ∀ {a b : Value}, (a ≠ .nilIface ∨ b ≠ .nilIface) → ((∀ l, a ≠ .agg l) ∨ (∀ l, b ≠ .agg l)) →
      (∃ r, (binOp op t a b).run P w = .ok r w ∧ VRel ρ env v r) → ∃ r, (do eqGuard op t xo yo a b; binOp op t a b : Sem Value).run P w = .ok r w ∧ VRel ρ env v r := by
    rintro a b h1 h2 ⟨r, hr, hv⟩
    exact ⟨r, by simp [run_guard_pass h1 h2, hr], hv⟩
  have heq : ∀ {neg : Bool}, op = (if neg then BinOp.neq else .eql) → eqA P facts neg t xo yo x y = some v → ¬ (∃ k n k' n', x = .int k n ∧ y = .int k' n') → ¬ (∃ l m l' m', x = .str l m ∧ y = .str l' m') →
      ∃ r, (do eqGuard op t xo yo cx cy; binOp op t cx cy : Sem Value).run P w = .ok r w ∧ VRel ρ env v r := by
    intro neg hop he hb hs
    unfold eqA at he
    split at he
    rotate_left
    · cases he
    rename_i hg
    cases hq : equalA P facts 40 t x y with
    | none => rw [hq] at he; cases he
    | some r =>
      rw [hq] at he; cases he
      obtain ⟨k1, k2, k3, k4⟩ := equalA_kind hq (guard_nosym hg).1 (guard_nosym hg).2 hb hs
      have hrun := equalA_sound (w := w) hF 40 t x y r hq Op.maxDepth (by decide) cx cy hx hy
      have hgu := guardA_sound (op := op) (w := w) hx hy hg
      refine ⟨.bool (r != neg), ?_, .bool _⟩
      rw [Sem.run_bind, hgu, Result.andThen_ok, hop]
      refine run_eql hrun ?_ ?_ ?_ ?_
      · intro k n e; subst e
        generalize e : Value.int k n = z at hx
        cases hx <;> first | (cases e; done) | exact k1 _ _ rfl | exact k3 _ rfl | exact k4 rfl
      · intro s e; subst e
        generalize e : Value.string s = z at hx
        cases hx <;> first | (cases e; done) | exact k2 _ _ rfl | exact k3 _ rfl | exact k4 rfl
      · intro k n e; subst e
        generalize e : Value.float k n = z at hx
        cases hx <;> first | (cases e; done) | exact k3 _ rfl | exact k4 rfl
      · intro k a b e; subst e
        generalize e : Value.complex k a b = z at hx
        cases hx <;> first | (cases e; done) | exact k3 _ rfl | exact k4 rfl
  unfold binA at h
  split at h
  · rename_i k a k' b
    cases hx; cases hy
    refine hpass (.inl (by simp)) (.inl (by simp)) ?_
    split at h
    · exact run_shiftA h t
    · exact run_shiftA h t
    · rename_i h1 h2
      split at h
      · rename_i hk; subst hk
        exact run_arithA h ⟨h1, h2⟩ t
      · cases h
  · cases hx with | str l n h1 => cases hy with | str l' m h2 =>
    exact hpass (.inl (by simp)) (.inl (by simp)) (run_strA h h1 h2 t)
  · obtain ⟨f, hf, hk, e1, e2, rfl⟩ := factOf_mem h
    have := hF f hf
    unfold FactOk at this; rw [hk] at this
    exact this ρ t xo yo cx cy w (e1 ▸ hx) (e2 ▸ hy)
  · obtain ⟨f, hf, hk, e1, e2, rfl⟩ := factOf_mem h
    have := hF f hf
    unfold FactOk at this; rw [hk] at this
    exact this ρ t xo yo cx cy w (e1 ▸ hx) (e2 ▸ hy)
  · rename_i _ _ n1 n2
    split at h
    · exact heq (neg := false) rfl h (by rintro ⟨k, n, k', n', rfl, rfl⟩; exact n1 _ _ _ _ rfl rfl) (by rintro ⟨k, n, k', n', rfl, rfl⟩; exact n2 _ _ _ _ rfl rfl)
    · exact heq (neg := true) rfl h (by rintro ⟨k, n, k', n', rfl, rfl⟩; exact n1 _ _ _ _ rfl rfl) (by rintro ⟨k, n, k', n', rfl, rfl⟩; exact n2 _ _ _ _ rfl rfl)
    · cases h

theorem unA_sound {facts : List Fact} (hF : ∀ f ∈ facts, FactOk P env f) {op : UnOp} {x v : AVal} {cx : Value}
    (hx : VRel ρ env x cx) (h : unA facts op x = some v) : ∃ r, (Op.unary op cx).run P w = .ok r w ∧ VRel ρ env v r := by
  cases x <;> try (cases op <;> simp [unA] at h; done)
  case bool b =>
    cases hx
    cases op <;> simp only [unA] at h <;> try (cases h; done)
    cases h
    exact ⟨.bool (!b), by simp [Op.unary], .bool _⟩
  case int k n => cases hx; exact run_unInt h
  case sym i =>
    have h' : factOf (.un op) (.sym i) .nptr facts = some v := by cases op <;> exact h
    obtain ⟨f, hf, hk, e1, e2, rfl⟩ := factOf_mem h'
    have := hF f hf
    unfold FactOk at this; rw [hk] at this
    exact this ρ cx w (e1 ▸ hx)
end
end Go.Eng
