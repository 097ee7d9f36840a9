/- The engine, part H: conversions, slices, indexes, fields, what is built, append, copy, len. -/
import Derived.Test.YtggjeecpadnihaaGreatDoorEngG
set_option linter.unusedSectionVars false
set_option linter.unusedVariables false
set_option linter.unusedSimpArgs false
namespace Go.Eng

section
variable {P : Program} {env : Nat → Value} {okc : FuncId → Code → Bool} {N : Nat → Prop} {ρ ρ' : Rho} {h h' : AHeap} {w w' : World}

/-! ### Indexes and bounds -/
theorem aNat_of {a : AVal} {n : Nat} (h : aNat a = some n) : ∃ k, a = .int k (.ofNat n) := by
  unfold aNat at h; split at h
  · cases h; exact ⟨_, rfl⟩
  · cases h

theorem bounds_ok (k : IntKind) (n y : Nat) (code : BoundsCode) (h : n ≤ y) : (Instr.sliceBound (.int k (n : Int)) y code).run P w = .ok n w := by
  have : (0 : Int) ≤ n ∧ (n : Int) ≤ y := by omega
  simp [Instr.sliceBound, asIntOf, this]

/-- What an optional bound is, of what it is abstractly. -/
def ORel (a : Option AVal) (x : Option Value) : Prop :=
  match a, x with
  | none, none => True
  | some v, some y => VRel ρ env v y
  | _, _ => False

theorem aNatO_of {a : Option AVal} {x : Option Value} {r : Option Nat} (hx : ORel (ρ := ρ) (env := env) a x) (h : aNatO a = some r) :
    (a = none ∧ x = none ∧ r = none) ∨ ∃ (k : IntKind) (n : Nat), r = some n ∧ x = some (.int k (n : Int)) := by
  unfold aNatO at h
  cases a with
  | none =>
    cases h
    cases x with
    | none => exact .inl ⟨rfl, rfl, rfl⟩
    | some y => exact hx.elim
  | some v =>
    simp only at h
    cases hn : aNat v with
    | none => rw [hn] at h; cases h
    | some n =>
      rw [hn] at h; cases h
      obtain ⟨k, rfl⟩ := aNat_of hn
      cases x with
      | none => exact hx.elim
      | some y =>
        have hy : VRel ρ env (.int k (.ofNat n)) y := hx
        cases hy
        exact .inr ⟨k, n, rfl, rfl⟩

theorem run_bounds {len cap : Nat} {isSlice : Bool} {lo hi mx : Option AVal} {lo' hi' mx' : Option Value} {l h m : Option Nat}
    (h1 : ORel (ρ := ρ) (env := env) lo lo') (h2 : ORel (ρ := ρ) (env := env) hi hi') (h3 : ORel (ρ := ρ) (env := env) mx mx')
    (e1 : aNatO lo = some l) (e2 : aNatO hi = some h) (e3 : aNatO mx = some m) (hmh : m.isNone || h.isSome)
    (b1 : l.getD 0 ≤ h.getD len) (b2 : h.getD len ≤ m.getD cap) (b3 : m.getD cap ≤ cap) :
    (Instr.sliceBounds isSlice len cap lo' hi' mx').run P w = .ok (l.getD 0, h.getD len, m.getD cap) w := by
  rcases aNatO_of h1 e1 with ⟨rfl, rfl, rfl⟩ | ⟨k1, n1, rfl, rfl⟩ <;>
  rcases aNatO_of h2 e2 with ⟨rfl, rfl, rfl⟩ | ⟨k2, n2, rfl, rfl⟩ <;>
  rcases aNatO_of h3 e3 with ⟨rfl, rfl, rfl⟩ | ⟨k3, n3, rfl, rfl⟩ <;>
  simp only [Option.getD_none, Option.getD_some, Option.isNone_some, Option.isSome_none, Option.isNone_none, Option.isSome_some, Bool.or_self, Bool.true_or, Bool.or_true, Bool.false_eq_true] at b1 b2 b3 hmh
  all_goals
    unfold Instr.sliceBounds
    simp only [Sem.run_bind, Sem.run_pure, Result.andThen_ok, Option.getD_none, Option.getD_some]
    try rw [bounds_ok _ _ _ _ b3]
    try simp only [Result.andThen_ok]
    try rw [bounds_ok _ _ _ _ b2]
    try simp only [Result.andThen_ok]
    try rw [bounds_ok _ _ _ _ b1]
    try simp only [Result.andThen_ok]
    try rfl

theorem ble_le {a b : Nat} (h : Nat.ble a b = true) : a ≤ b := Nat.le_of_ble_eq_true h

theorem strCut_rel {l n lo hi : Nat} (h1 : lo ≤ hi) (h2 : hi ≤ l) : VRel ρ env (strCut n lo hi) (.string ((byteArr l n).extract lo hi)) := by
  have e : (byteArr l n).extract lo hi = byteArr (hi - lo) (n / 256 ^ lo % 256 ^ (hi - lo)) := by
    apply byteArr_ext
    rw [byteArr_data, bytesL_mod, ByteArray.data_extract, Array.toList_extract, byteArr_data, List.extract_eq_take_drop]
    rw [bytesL_drop, bytesL_take _ _ _ (by omega)]
  rw [e]
  exact .str _ _ (Nat.mod_lt _ (Nat.pow_pos (by decide)))

theorem some_map_addr (B off n : Nat) : (some (⟨B, off, none⟩ : Addr)).map (·.add n) = some ⟨B, off + n, none⟩ := by
  simp [addr_add]

theorem cutO_eq (o l m size : Nat) : cutO o l m size = if m = l then o else o + l * size := by
  unfold cutO
  cases hb : Nat.beq l m with
  | true => have := Nat.eq_of_beq_eq_true hb; rw [if_pos this.symm]
  | false =>
    have : ¬ m = l := fun e => by rw [e, Nat.beq_refl] at hb; cases hb
    rw [if_neg this]

theorem cutA_sound {b o len l hh size : Nat} {cap : Cap} {cx : Value} {v : AVal} (hx : VRel ρ env (.slc b o len cap) cx) (hl : l ≤ hh) (hm : hh ≤ capMin cap)
    (hv : cutA b o l hh size cap = some v) :
    ∃ a c, cx = .slice (some a) len c ∧ capMin cap ≤ c ∧ VRel ρ env v (.slice (if c = l then some a else (some a).map (·.add (l * size))) (hh - l) (c - l)) := by
  cases hx with
  | slcK _ _ c hi =>
    refine ⟨_, c, rfl, Nat.le_refl _, ?_⟩
    simp only [cutA] at hv; cases hv
    rw [cutO_eq]
    split
    · exact .slcK _ _ _ hi
    · rw [some_map_addr, Nat.add_assoc]; exact .slcK _ _ _ hi
  | slcO hi h0 h1 h2 =>
    rename_i lo c i
    refine ⟨_, c, rfl, h1, ?_⟩
    simp only [cutA] at hv
    simp only [capMin] at hm
    cases hb : Nat.beq i.esz size with
    | false => rw [hb] at hv; cases hv
    | true =>
      rw [hb] at hv; cases hv
      have := Nat.eq_of_beq_eq_true hb
      subst this
      by_cases hcl : c = l
      · subst hcl
        rw [if_pos rfl, show hh - c = 0 by omega, Nat.sub_self]
        exact .slcE _ _ hi (.inr (by rw [show lo - c = 0 by omega]))
      · rw [if_neg hcl, some_map_addr, Nat.add_assoc]
        refine .slcO hi (by omega) (by omega) ?_
        have e : l * i.esz + (c - l) * i.esz = c * i.esz := by
          rw [← Nat.add_mul]; congr 1; omega
        omega
  | slcE _ off hi hc =>
    rename_i i
    have hm0 : capMin cap = 0 := by rcases hc with rfl | rfl <;> rfl
    refine ⟨_, 0, rfl, by omega, ?_⟩
    obtain rfl : l = 0 := by omega
    obtain rfl : hh = 0 := by omega
    rw [if_pos rfl]
    rcases hc with rfl | rfl
    · simp only [cutA] at hv; cases hv
      exact .slcE _ _ hi (.inl rfl)
    · simp only [cutA] at hv
      cases hb : Nat.beq i.esz size with
      | false => rw [hb] at hv; cases hv
      | true => rw [hb] at hv; cases hv; exact .slcE _ _ hi (.inr (by simp))

theorem sliceA_sound {t : TypeId} {x : AVal} {cx : Value} {lo hi mx : Option AVal} {lo' hi' mx' : Option Value} {v : AVal} (hx : VRel ρ env x cx)
    (h1 : ORel (ρ := ρ) (env := env) lo lo') (h2 : ORel (ρ := ρ) (env := env) hi hi') (h3 : ORel (ρ := ρ) (env := env) mx mx')
    (hv : sliceA P t x lo hi mx = some v) : ∃ r, (Instr.slice t cx lo' hi' mx').run P w = .ok r w ∧ VRel ρ env v r := by
  unfold sliceA at hv
  cases e1 : aNatO lo with
  | none => rw [e1] at hv; cases hv
  | some l =>
  cases e2 : aNatO hi with
  | none => rw [e1, e2] at hv; cases hv
  | some hh =>
  cases e3 : aNatO mx with
  | none => rw [e1, e2, e3] at hv; cases hv
  | some m =>
  rw [e1, e2, e3] at hv
  simp only at hv
  split at hv
  · -- a text
    rename_i n s hu
    cases hx with | str _ _ hs =>
    cases m with
    | some m => cases hv
    | none =>
      simp only at hv
      split at hv
      rotate_left
      · cases hv
      rename_i hb
      cases hv
      simp only [Bool.and_eq_true] at hb
      have b2 := ble_le hb.1
      have b1 := ble_le hb.2
      have hm : mx' = none := by
        rcases aNatO_of h3 e3 with ⟨_, h, _⟩ | ⟨k, n, h, _⟩
        · exact h
        · cases h
      subst hm
      refine ⟨.string ((byteArr n s).extract (l.getD 0) (hh.getD n)), ?_, strCut_rel b1 b2⟩
      have hr := run_bounds (P := P) (w := w) (isSlice := false) (len := n) (cap := n) (mx := none) (mx' := none) (m := none) h1 h2 trivial e1 e2 rfl rfl b1 (by simpa using b2) (by simp)
      simp only [Instr.slice, Sem.run_bind, run_und hu, Result.andThen_ok, byteArr_size, Option.isSome_none, Bool.false_eq_true, if_false, Sem.run_pure, hr]
  · -- a slice that is nil
    rename_i e hu
    cases hx
    cases hs : sizeA P e with
    | none => rw [hs] at hv; cases hv
    | some size =>
      rw [hs] at hv; simp only at hv
      split at hv
      rotate_left
      · cases hv
      rename_i hb
      cases hv
      simp only [Bool.and_eq_true] at hb
      obtain ⟨⟨⟨b1, b2⟩, b3⟩, b4⟩ := hb
      have b1 := Nat.eq_of_beq_eq_true b1
      have b2 := Nat.eq_of_beq_eq_true b2
      have b3 := Nat.eq_of_beq_eq_true b3
      refine ⟨.slice none 0 0, ?_, .nslc⟩
      have hr := run_bounds (P := P) (w := w) (isSlice := true) (len := 0) (cap := 0) h1 h2 h3 e1 e2 e3 b4 (by omega) (by omega) (by omega)
      simp only [Instr.slice, Sem.run_bind, run_und hu, Result.andThen_ok, hr, run_size hs, Sem.run_pure, b1, b2, b3]
      rfl
  · -- a slice
    rename_i b o n cap e hu
    cases hs : sizeA P e with
    | none => rw [hs] at hv; cases hv
    | some size =>
      rw [hs] at hv; simp only at hv
      cases m with
      | none =>
        simp only at hv
        split at hv
        rotate_left
        · cases hv
        rename_i hb
        simp only [Bool.and_eq_true] at hb
        have b1 := ble_le hb.1
        have b2 := ble_le hb.2
        have hm : mx' = none := by
          rcases aNatO_of h3 e3 with ⟨_, h, _⟩ | ⟨k, n, h, _⟩
          · exact h
          · cases h
        subst hm
        obtain ⟨a, c, rfl, hc, hr⟩ := cutA_sound hx b1 b2 hv
        refine ⟨_, ?_, hr⟩
        have hb := run_bounds (P := P) (w := w) (isSlice := true) (len := n) (cap := c) (mx := none) (mx' := none) (m := none) h1 h2 trivial e1 e2 rfl rfl b1 (by simp; omega) (by simp)
        simp only [Instr.slice, Sem.run_bind, run_und hu, Result.andThen_ok, hb, run_size hs, Sem.run_pure, Option.getD_none]
      | some m =>
        simp only at hv
        split at hv
        rotate_left
        · cases hv
        rename_i hb
        cases hv
        simp only [Bool.and_eq_true] at hb
        obtain ⟨⟨⟨b0, b1⟩, b2⟩, b3⟩ := hb
        have b1 := ble_le b1
        have b2 := ble_le b2
        have b3 := ble_le b3
        have key : ∀ (a : Addr) (c : Nat), capMin cap ≤ c → (Instr.slice t (.slice (some a) n c) lo' hi' mx').run P w =
            .ok (.slice (if m = l.getD 0 then some a else (some a).map (·.add (l.getD 0 * size))) (hh.getD n - l.getD 0) (m - l.getD 0)) w := by
          intro a c hc
          have hb := run_bounds (P := P) (w := w) (isSlice := true) (len := n) (cap := c) h1 h2 h3 e1 e2 e3 (by simpa using b0) b1 (by simpa using b2) (by simp; omega)
          simp only [Instr.slice, Sem.run_bind, run_und hu, Result.andThen_ok, hb, run_size hs, Sem.run_pure, Option.getD_some]
        rw [cutO_eq]
        cases hx with
        | slcK _ _ _ hi =>
          refine ⟨_, key _ _ (Nat.le_refl _), ?_⟩
          split
          · exact .slcK _ _ _ hi
          · rw [some_map_addr, Nat.add_assoc]; exact .slcK _ _ _ hi
        | slcO hi h0 h1 h2 =>
          refine ⟨_, key _ _ h1, ?_⟩
          split
          · exact .slcK _ _ _ hi
          · rw [some_map_addr, Nat.add_assoc]; exact .slcK _ _ _ hi
        | slcE _ off hi hc =>
          have hm0 : capMin cap = 0 := by rcases hc with rfl | rfl <;> rfl
          refine ⟨_, key _ 0 (by omega), ?_⟩
          have e1 : m = 0 := by omega
          have e2 : l.getD 0 = 0 := by omega
          have e3 : hh.getD 0 = 0 := by omega
          rw [e1, e2, e3, if_pos rfl, if_pos rfl]
          exact .slcE _ _ hi (.inl rfl)
  · cases hv

theorem sliceAtA_sound {t : TypeId} {x : AVal} {cx : Value} {lo hi mx : Option AVal} {lo' hi' mx' : Option Value} {v : AVal} (hx : VRel ρ env x cx)
    (h1 : ORel (ρ := ρ) (env := env) lo lo') (h2 : ORel (ρ := ρ) (env := env) hi hi') (h3 : ORel (ρ := ρ) (env := env) mx mx')
    (hv : sliceAtA P t x lo hi mx = some v) : ∃ r, (Instr.sliceAt t cx lo' hi' mx').run P w = .ok r w ∧ VRel ρ env v r := by
  cases hu : P.underlying t with
  | none =>
    unfold sliceAtA at hv; rw [hu] at hv; simp only at hv
    obtain ⟨r, hr, _⟩ := sliceA_sound (w := w) hx h1 h2 h3 hv
    simp [Instr.slice, underlying, hu] at hr
  | some d =>
    by_cases hd : ∃ n e, d = .array n e
    · obtain ⟨n, e, rfl⟩ := hd
      unfold sliceAtA at hv; rw [hu] at hv; simp only at hv
      split at hv
      rotate_left
      · cases hv
      rename_i b o l hh m size e1 e2 e3 hs
      split at hv
      rotate_left
      · cases hv
      rename_i hb
      cases hv
      simp only [Bool.and_eq_true] at hb
      obtain ⟨⟨⟨b0, b1⟩, b2⟩, b3⟩ := hb
      cases hx with | ptr _ hi =>
      have hr := run_bounds (P := P) (w := w) (isSlice := false) (len := n) (cap := n) h1 h2 h3 e1 e2 e3 b0 (ble_le b1) (ble_le b2) (ble_le b3)
      rename_i i
      refine ⟨.slice (some (if m.getD n = l.getD 0 then ⟨i.blk, i.shift + o, none⟩ else (⟨i.blk, i.shift + o, none⟩ : Addr).add (l.getD 0 * size))) (hh.getD n - l.getD 0) (m.getD n - l.getD 0),
        by simp only [Instr.sliceAt, Sem.run_bind, run_und hu, Instr.sureAddr, Sem.run_pure, Result.andThen_ok, hr, run_size hs], ?_⟩
      rw [cutO_eq]
      split
      · exact .slcK _ _ _ hi
      · rw [addr_add, Nat.add_assoc]; exact .slcK _ _ _ hi
    · have e : sliceAtA P t x lo hi mx = sliceA P t x lo hi mx := by
        unfold sliceAtA; rw [hu]; cases d <;> first | rfl | exact absurd ⟨_, _, rfl⟩ hd
      rw [e] at hv
      obtain ⟨r, hr, hvr⟩ := sliceA_sound (w := w) hx h1 h2 h3 hv
      refine ⟨r, ?_, hvr⟩
      simp only [Instr.sliceAt, Sem.run_bind, run_und hu, Result.andThen_ok]
      cases d <;> first | exact hr | exact absurd ⟨_, _, rfl⟩ hd

theorem indexAddrA_sound {t : TypeId} {x ix v : AVal} {cx ci : Value} (hx : VRel ρ env x cx) (hi : VRel ρ env ix ci) (hv : indexAddrA P t x ix = some v) :
    ∃ r, (Instr.indexAt t cx ci).run P w = .ok r w ∧ VRel ρ env v r := by
  unfold indexAddrA at hv
  cases hn : aNat ix with
  | none => rw [hn] at hv; cases hv
  | some i =>
    rw [hn] at hv; simp only at hv
    obtain ⟨k, rfl⟩ := aNat_of hn
    cases hi
    split at hv
    · rename_i e b o n cap hu
      cases hs : sizeA P e with
      | none => rw [hs] at hv; cases hv
      | some size =>
        rw [hs] at hv; simp only at hv
        split at hv
        rotate_left
        · cases hv
        rename_i hb
        cases hv
        have hlt := ble_le hb
        have hb' : (0 : Int) ≤ (i : Int) ∧ (i : Int) < n := by omega
        have key : ∀ (a : Addr) (c : Nat), (Instr.indexAt t (.slice (some a) n c) (.int k (Int.ofNat i))).run P w = .ok (.pointer (some (a.add (i * size)))) w := by
          intro a c
          have hlt' : i < n := by omega
          simp [Instr.indexAt, asIntOf, run_und hu, hlt', run_size hs]
        cases hx with
        | slcK _ _ c hi => exact ⟨_, key _ _, by rw [addr_add, Nat.add_assoc]; exact .ptr _ hi⟩
        | slcO hi h0 h1 h2 => exact ⟨_, key _ _, by rw [addr_add, Nat.add_assoc]; exact .ptr _ hi⟩
        | slcE _ off hi => omega
    · rename_i n e b o hu
      cases hs : sizeA P e with
      | none => rw [hs] at hv; cases hv
      | some size =>
        rw [hs] at hv; simp only at hv
        split at hv
        rotate_left
        · cases hv
        rename_i hb
        cases hv
        have hlt := ble_le hb
        have hb' : (0 : Int) ≤ (i : Int) ∧ (i : Int) < n := by omega
        cases hx with | ptr _ hi =>
        rename_i i'
        have hlt' : i < n := by omega
        refine ⟨.pointer (some ⟨i'.blk, i'.shift + o + i * size, none⟩), ?_, by rw [Nat.add_assoc]; exact .ptr _ hi⟩
        simp [Instr.indexAt, asIntOf, run_und hu, hlt', run_size hs, Instr.sureAddr, addr_add]
    · cases hv

theorem indexA_sound {t : TypeId} {x ix v : AVal} {cx ci : Value} (hx : VRel ρ env x cx) (hi : VRel ρ env ix ci) (hv : indexA P t x ix = some v) :
    ∃ r, (Instr.index t cx ci).run P w = .ok r w ∧ VRel ρ env v r := by
  unfold indexA at hv
  cases hn : aNat ix with
  | none => rw [hn] at hv; cases hv
  | some i =>
    rw [hn] at hv; simp only at hv
    obtain ⟨k, rfl⟩ := aNat_of hn
    cases hi
    split at hv
    · rename_i l m hu
      split at hv
      rotate_left
      · cases hv
      rename_i hb
      cases hv
      have hlt := ble_le hb
      cases hx with | str _ _ hs =>
      refine ⟨.int .u8 (byteAt m i : Nat), ?_, .int _ _⟩
      have hsz : i < (byteArr l m).size := by rw [byteArr_size]; omega
      have hget : (byteArr l m)[i]? = some (UInt8.ofNat (byteAt m i)) := by
        have := bytesL_get l m i (by omega)
        rw [← byteArr_data] at this
        rw [getElem?_pos (byteArr l m) i hsz]
        rw [List.getElem?_eq_getElem (by simp [byteArr_data, bytesL_length]; omega)] at this
        have t : (byteArr l m).data[i] = UInt8.ofNat (byteAt m i) := by simpa using this
        exact congrArg some t
      have hbt : byteAt m i < 256 := Nat.mod_lt _ (by decide)
      simp [Instr.index, asIntOf, run_und hu, hget]
      omega
    · rename_i n e cs hu
      cases hs : sizeA P e with
      | none => rw [hs] at hv; cases hv
      | some size =>
        rw [hs] at hv; simp only at hv
        split at hv
        rotate_left
        · cases hv
        rename_i hb
        have hlt := ble_le hb
        have hb' : (0 : Int) ≤ (i : Int) ∧ (i : Int) < n := by omega
        obtain ⟨cs', rfl, hcs⟩ := hx.of_agg
        obtain ⟨r, hr, hvr⟩ := partA_sound (w := w) hcs hv
        refine ⟨r, ?_, hvr⟩
        have hlt' : i < n := by omega
        simp [Instr.index, asIntOf, run_und hu, hlt', run_size hs, hr]
    · cases hv

theorem fieldOf_of {t : TypeId} {i : Nat} {f : Field} (h : fieldOf P t i = some f) : ∃ fs, P.underlying t = some (.struct fs) ∧ fs[i]? = some f := by
  unfold fieldOf at h
  cases hu : P.underlying t with
  | none => rw [hu] at h; cases h
  | some d => rw [hu] at h; cases d <;> first | (cases h; done) | exact ⟨_, rfl, h⟩

theorem fieldAddrA_sound {t : TypeId} {i : Nat} {x v : AVal} {cx : Value} (hx : VRel ρ env x cx) (hv : fieldAddrA P t x i = some v) :
    ∃ r, (Instr.fieldAt t cx i).run P w = .ok r w ∧ VRel ρ env v r := by
  unfold fieldAddrA at hv
  split at hv
  rotate_left
  · cases hv
  rename_i f b o hf
  obtain ⟨fs, hu, hfi⟩ := fieldOf_of hf
  cases hs : sizeA P f.type with
  | none => rw [hs] at hv; cases hv
  | some n =>
    rw [hs] at hv
    cases n with
    | zero => cases hv
    | succ n =>
      simp only at hv; cases hv
      cases hx with | ptr _ hi =>
      rename_i i'
      refine ⟨.pointer (some ⟨i'.blk, i'.shift + o + f.offset, none⟩), ?_, by rw [Nat.add_assoc]; exact .ptr _ hi⟩
      simp [Instr.fieldAt, run_und hu, hfi, Instr.sureAddr, fieldPlace, run_size hs, addr_add]

theorem fieldA_sound {t : TypeId} {i : Nat} {x v : AVal} {cx : Value} (hx : VRel ρ env x cx) (hv : fieldA P t x i = some v) :
    ∃ r, (Instr.field t cx i).run P w = .ok r w ∧ VRel ρ env v r := by
  unfold fieldA at hv
  split at hv
  rotate_left
  · cases hv
  rename_i f cs hf
  obtain ⟨fs, hu, hfi⟩ := fieldOf_of hf
  obtain ⟨cs', rfl, hcs⟩ := hx.of_agg
  obtain ⟨r, hr, hvr⟩ := partA_sound (w := w) hcs hv
  exact ⟨r, by simp [Instr.field, run_und hu, hfi, asAgg, hr], hvr⟩

/-! ### What is built -/
theorem run_mapM_list {α β : Type} (P : Program) (w : World) (f : α → Sem β) (g : α → β) : ∀ (l : List α), (∀ x ∈ l, (f x).run P w = .ok (g x) w) → (l.mapM f).run P w = .ok (l.map g) w
  | [], _ => rfl
  | x :: l, h => by
    rw [List.mapM_cons]
    simp only [Sem.run_bind, h x (by simp), Result.andThen_ok, run_mapM_list P w f g l (fun y hy => h y (by simp [hy])), Sem.run_pure, List.map_cons]
theorem run_mapM {α β : Type} (P : Program) (w : World) (f : α → Sem β) (g : α → β) (l : Array α) (h : ∀ x ∈ l.toList, (f x).run P w = .ok (g x) w) : (l.mapM f).run P w = .ok (l.map g) w := by
  rw [Array.mapM_eq_mapM_toList]
  simp only [Sem.run_map, run_mapM_list P w f g l.toList h, Result.andThen_ok]
  congr 1
  exact Array.ext' (by simp)

theorem setAt_get : ∀ (cs : List AVal) (off : Nat) (l r : List AVal), setAt cs off l = some r →
    r.length = cs.length ∧ off + l.length ≤ cs.length ∧ ∀ i, r[i]? = if off ≤ i ∧ i < off + l.length then l[i - off]? else cs[i]?
  | cs, 0, [], r, h => by
    cases cs <;> (simp only [setAt] at h; cases h; exact ⟨rfl, by simp, fun i => by rw [if_neg (by simp)]⟩)
  | c :: cs, 0, v :: l, r, h => by
    simp only [setAt] at h
    cases h1 : setAt cs 0 l with
    | none => rw [h1] at h; cases h
    | some r' =>
      rw [h1] at h; cases h
      obtain ⟨e1, e2, e3⟩ := setAt_get cs 0 l r' h1
      refine ⟨by simp [e1], by simp; omega, fun i => ?_⟩
      cases i with
      | zero => simp
      | succ i =>
        rw [List.getElem?_cons_succ, e3, List.length_cons]
        by_cases hi : i < l.length
        · rw [if_pos (by omega), if_pos (by omega)]; simp
        · rw [if_neg (by omega), if_neg (by omega)]; simp
  | c :: cs, n + 1, l, r, h => by
    have h' : (match setAt cs n l with | some r => some (c :: r) | none => none) = some r := by cases l <;> exact h
    cases h1 : setAt cs n l with
    | none => rw [h1] at h'; cases h'
    | some r' =>
      rw [h1] at h'; cases h'
      obtain ⟨e1, e2, e3⟩ := setAt_get cs n l r' h1
      refine ⟨by simp [e1], by simp; omega, fun i => ?_⟩
      cases i with
      | zero => rw [if_neg (by omega)]; rfl
      | succ i =>
        rw [List.getElem?_cons_succ, e3]
        by_cases hi : n ≤ i ∧ i < n + l.length
        · rw [if_pos hi, if_pos (by omega), show i + 1 - (n + 1) = i - n by omega]
        · rw [if_neg hi, if_neg (by omega)]; simp
  | [], 0, v :: l, r, h => by simp [setAt] at h
  | [], n + 1, l, r, h => by simp [setAt] at h

theorem zipIdx_splice : ∀ (l : List Value) (c : Array Value) (off s : Nat), (l.zipIdx s).foldl (fun cs (p : Value × Nat) => cs.setIfInBounds (off + p.2) p.1) c = splice c (off + s) l
  | [], _, _, _ => rfl
  | v :: l, c, off, s => by
    simp only [List.zipIdx_cons, List.foldl_cons, splice]
    rw [zipIdx_splice l, Nat.add_assoc]

theorem fillA_sound (he : EnvOk env) {place place' : Nat → Option (Nat × Nat)} (hp : ∀ i r, place i = some r → place' i = some r) :
    ∀ (parts : List (Nat × AVal)) (parts' : List (Nat × Value)) (cells r : List AVal) (cells' : Array Value), fillA place cells parts = some r → VRels ρ env cells cells'.toList →
      parts.length = parts'.length → (∀ (i : Nat) a b, parts[i]? = some a → parts'[i]? = some b → a.1 = b.1 ∧ VRel ρ env a.2 b.2) →
      ∃ r', Instr.fill place' cells' parts' = some r' ∧ VRels ρ env r r'.toList ∧ r'.size = cells'.size
  | [], parts', cells, r, cells', h, hc, hl, _ => by
    cases h
    have : parts' = [] := by cases parts' with | nil => rfl | cons _ _ => simp at hl
    subst this
    exact ⟨cells', rfl, hc, rfl⟩
  | (i, v) :: rest, parts', cells, r, cells', h, hc, hl, hr => by
    cases parts' with
    | nil => simp at hl
    | cons q rest' =>
      obtain ⟨j, x⟩ := q
      obtain ⟨hij, hvx⟩ := hr 0 _ _ rfl rfl
      simp only at hij hvx
      subst hij
      have hna : v ≠ .any := by rintro rfl; simp [fillA] at h
      have h' : (match place i with
        | none => none
        | some (off, size) => if v.cells.length = size then match setAt cells off v.cells with | some cs => fillA place cs rest | none => none else none) = some r := by
        cases v <;> first | exact h | exact absurd rfl hna
      clear h
      cases hpl : place i with
      | none => rw [hpl] at h'; cases h'
      | some os =>
        obtain ⟨off, size⟩ := os
        rw [hpl] at h'; simp only at h'
        split at h'
        rotate_left
        · cases h'
        rename_i hlen
        cases hset : setAt cells off v.cells with
        | none => rw [hset] at h'; cases h'
        | some cs =>
          rw [hset] at h'; simp only at h'
          obtain ⟨e1, e2, e3⟩ := setAt_get _ _ _ _ hset
          have hcr := cells_rel' he hvx hna
          have hxs : x.cells.size = size := by rw [← Array.length_toList, ← hcr.1]; exact hlen
          have hcs : cells'.size = cells.length := by rw [← Array.length_toList, hc.1]
          have hfold : x.cells.zipIdx.foldl (fun cs (p : Value × Nat) => cs.setIfInBounds (off + p.2) p.1) cells' = splice cells' off x.cells.toList := by
            rw [← Array.foldl_toList, Array.toList_zipIdx, zipIdx_splice]; rfl
          have hnew : VRels ρ env cs (splice cells' off x.cells.toList).toList := by
            have hlen2 : (splice cells' off x.cells.toList).toList.length = cells.length := by rw [Array.length_toList, splice_size, hcs]
            refine ⟨by rw [hlen2, e1], fun k a b ha hb => ?_⟩
            rw [Array.getElem?_toList, splice_get _ _ _ _ (by rw [← hcr.1]; omega)] at hb
            rw [e3] at ha
            rw [← hcr.1] at hb
            split at ha
            · rename_i hk; rw [if_pos hk] at hb; exact hcr.2 _ _ _ ha hb
            · rename_i hk; rw [if_neg hk] at hb; exact hc.2 k a b ha (by rw [Array.getElem?_toList]; exact hb)
          obtain ⟨r', hr', hvr, hsz⟩ := fillA_sound he hp rest rest' cs r _ h' hnew (by simpa using hl) (fun k a b ha hb => hr (k + 1) a b (by simpa using ha) (by simpa using hb))
          refine ⟨r', ?_, hvr, by rw [hsz, splice_size]⟩
          unfold Instr.fill
          rw [hp _ _ hpl]
          simp only
          rw [if_neg (by simp [hxs]; omega)]
          rw [← hfold] at hr'
          exact hr'

def PartsRel (ρ : Rho) (env : Nat → Value) (parts : List (Nat × AVal)) (parts' : List (Nat × Value)) : Prop :=
  parts.length = parts'.length ∧ ∀ (i : Nat) a b, parts[i]? = some a → parts'[i]? = some b → a.1 = b.1 ∧ VRel ρ env a.2 b.2

theorem zero_cells (he : EnvOk env) {z : AVal} {x : Value} (hz : VRel ρ env z x) (hn : z ≠ .any) : VRels ρ env z.cells x.cells.toList := cells_rel' he hz hn

theorem zeroA_ne {t : TypeId} {z : AVal} (h : zeroA P t = some z) : z ≠ .any := by
  unfold zeroA at h
  cases hi : P.info? t with
  | none => rw [hi] at h; cases h
  | some i =>
    rw [hi] at h
    cases hz : i.zero with
    | none => simp only [hz] at h; cases h
    | some v =>
      simp only [hz] at h
      rintro rfl
      unfold ofConst at h
      split at h
      · split at h <;> cases h
      · split at h <;> cases h
      · split at h <;> cases h
      · unfold ofScalar at h; split at h <;> cases h

theorem buildA_sound (he : EnvOk env) {t : TypeId} {parts : List (Nat × AVal)} {parts' : Array (Nat × Value)} {v : AVal} (hp : PartsRel ρ env parts parts'.toList) (hv : buildA P t parts = some v) :
    ∃ r, (Instr.build t parts').run P w = .ok r w ∧ VRel ρ env v r := by
  unfold buildA at hv
  cases hz : zeroA P t with
  | none => rw [hz] at hv; cases hv
  | some z =>
    rw [hz] at hv; simp only at hv
    obtain ⟨z', hzr, hzv⟩ := run_zero (w := w) (ρ := ρ) (env := env) hz
    have hzc := cells_rel' he hzv (zeroA_ne hz)
    split at hv
    · rename_i fs hu
      split at hv
      rotate_left
      · cases hv
      rename_i hall
      cases hf : fillA (placeA P fs) z.cells parts with
      | none => rw [hf] at hv; cases hv
      | some cs =>
        rw [hf] at hv; cases hv
        have hplaces : (fs.mapM fun f => (do pure (f.offset, ← sizeOf f.type) : Sem (Nat × Nat))).run P w = .ok (fs.map fun f => (f.offset, (sizeA P f.type).getD 0)) w := by
          refine run_mapM P w _ _ fs (fun f hf => ?_)
          have : (sizeA P f.type).isSome = true := by
            rw [Array.all_eq_true] at hall
            obtain ⟨i, hi, e⟩ := Array.mem_iff_getElem.1 (Array.mem_toList_iff.1 hf)
            have := hall i hi
            rwa [e] at this
          obtain ⟨n, hn⟩ := Option.isSome_iff_exists.1 this
          simp [run_size hn, hn]
        obtain ⟨r', hr', hvr, _⟩ := fillA_sound he (place := placeA P fs) (place' := fun i => (fs.map fun f => (f.offset, (sizeA P f.type).getD 0))[i]?) (fun i r hr => by
          unfold placeA at hr
          cases hfi : fs[i]? with
          | none => rw [hfi] at hr; cases hr
          | some f =>
            rw [hfi] at hr; simp only at hr
            cases hs : sizeA P f.type with
            | none => rw [hs] at hr; cases hr
            | some n => rw [hs] at hr; cases hr; simp [hfi, hs]) parts parts'.toList z.cells cs z'.cells hf hzc hp.1 hp.2
        refine ⟨.agg r', ?_, ?_⟩
        · simp only [Instr.build, Sem.run_bind, hzr, Result.andThen_ok, run_und hu, hplaces]
          rw [hr']; rfl
        · have := hvr.agg; exact this
    · rename_i n e hu
      cases hs : sizeA P e with
      | none => rw [hs] at hv; cases hv
      | some size =>
        rw [hs] at hv; simp only at hv
        cases hf : fillA (fun i => some (i * size, size)) z.cells parts with
        | none => rw [hf] at hv; cases hv
        | some cs =>
          rw [hf] at hv; cases hv
          obtain ⟨r', hr', hvr, _⟩ := fillA_sound he (place := fun i => some (i * size, size)) (place' := fun i => some (i * size, size)) (fun i r hr => hr) parts parts'.toList z.cells cs z'.cells hf hzc hp.1 hp.2
          refine ⟨.agg r', ?_, hvr.agg⟩
          simp only [Instr.build, Sem.run_bind, hzr, Result.andThen_ok, run_und hu, run_size hs]
          rw [hr']; rfl
    · cases hv

end
end Go.Eng
