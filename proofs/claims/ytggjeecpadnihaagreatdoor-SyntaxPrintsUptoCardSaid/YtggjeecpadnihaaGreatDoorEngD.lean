/- The engine, part D: operations on numbers, texts and values that make no memory: what the evaluator says of them holds of the model. -/
import Derived.Test.YtggjeecpadnihaaGreatDoorEngC
import Derived.Laws.Strings
set_option linter.unusedSectionVars false
set_option linter.unusedVariables false
set_option linter.unusedSimpArgs false
namespace Go.Eng
open Go.Op

section
variable {P : Program} {env : Nat → Value} {ρ : Rho} {w : World}

/-! ### Numbers -/
theorem toNat_ofInt_rest (k : IntKind) (x : Int) : (BitVec.ofInt k.bits x).toNat = restOf k x := by
  rw [BitVec.toNat_ofInt]
  have h := restOf_eq k x
  have h2 : ((2 ^ k.bits : Nat) : Int) = (2 ^ k.bits : Int) := by cases k <;> rfl
  rw [h2]
  omega

theorem ofRest_lt_wrap (k : IntKind) (m : Nat) (h : m < 2 ^ k.bits) : ofRest k m = k.wrap m := ofRest_wrap k m (by exact_mod_cast h)

theorem restOf_lt' (k : IntKind) (x : Int) : restOf k x < 2 ^ k.bits := by
  have := restOf_lt k x
  exact_mod_cast this

theorem pw_eq (k : IntKind) : pw k = 2 ^ k.bits := by cases k <;> rfl

theorem run_arithA {op : BinOp} {k : IntKind} {x y : Int} {v : AVal} (h : arithA op k x y = some v)
    (hop : op ≠ .shl ∧ op ≠ .shr) (t : TypeId) :
    ∃ r, (binOp op t (.int k x) (.int k y)).run P w = .ok r w ∧ VRel ρ env v r := by
  cases op <;> simp only [arithA] at h
  case shl => cases h
  case shr => cases h
  case add =>
    cases h
    refine ⟨.int k (k.wrap (x + y)), ?_, ?_⟩
    · simp [binOp, Op.intArith]
    · rw [wrapF_eq]; exact .int _ _
  case sub =>
    cases h
    refine ⟨.int k (k.wrap (x - y)), ?_, ?_⟩
    · simp [binOp, Op.intArith]
    · rw [wrapF_eq, show Int.add x (Int.neg y) = x - y from rfl]; exact .int _ _
  case mul =>
    cases h
    refine ⟨.int k (k.wrap (x * y)), ?_, ?_⟩
    · simp [binOp, Op.intArith]
    · rw [wrapF_eq]; exact .int _ _
  case quo =>
    split at h
    · cases h
    · rename_i h0
      cases h
      rw [eqI_eq] at h0
      have h0' : y ≠ 0 := by simpa using h0
      refine ⟨.int k (k.wrap (x.tdiv y)), ?_, ?_⟩
      · simp [binOp, Op.intDiv, h0']
      · rw [wrapF_eq]; exact .int _ _
  case rem =>
    split at h
    · cases h
    · rename_i h0
      cases h
      rw [eqI_eq] at h0
      have h0' : y ≠ 0 := by simpa using h0
      refine ⟨.int k (x.tmod y), ?_, .int _ _⟩
      simp [binOp, Op.intDiv, h0']
  case and =>
    cases h
    refine ⟨.int k (k.wrap ((BitVec.ofInt k.bits x &&& BitVec.ofInt k.bits y).toNat)), ?_, ?_⟩
    · simp [binOp, Op.intBits]
    · have e : Nat.land (restOf k x) (restOf k y) = (BitVec.ofInt k.bits x &&& BitVec.ofInt k.bits y).toNat := by
        rw [BitVec.toNat_and, toNat_ofInt_rest, toNat_ofInt_rest]; rfl
      rw [e, ofRest_lt_wrap k _ (BitVec.isLt _)]; exact .int _ _
  case or =>
    cases h
    refine ⟨.int k (k.wrap ((BitVec.ofInt k.bits x ||| BitVec.ofInt k.bits y).toNat)), ?_, ?_⟩
    · simp [binOp, Op.intBits]
    · have e : Nat.lor (restOf k x) (restOf k y) = (BitVec.ofInt k.bits x ||| BitVec.ofInt k.bits y).toNat := by
        rw [BitVec.toNat_or, toNat_ofInt_rest, toNat_ofInt_rest]; rfl
      rw [e, ofRest_lt_wrap k _ (BitVec.isLt _)]; exact .int _ _
  case xor =>
    cases h
    refine ⟨.int k (k.wrap ((BitVec.ofInt k.bits x ^^^ BitVec.ofInt k.bits y).toNat)), ?_, ?_⟩
    · simp [binOp, Op.intBits]
    · have e : Nat.xor (restOf k x) (restOf k y) = (BitVec.ofInt k.bits x ^^^ BitVec.ofInt k.bits y).toNat := by
        rw [BitVec.toNat_xor, toNat_ofInt_rest, toNat_ofInt_rest]; rfl
      rw [e, ofRest_lt_wrap k _ (BitVec.isLt _)]; exact .int _ _
  case andNot =>
    cases h
    refine ⟨.int k (k.wrap ((BitVec.ofInt k.bits x &&& ~~~BitVec.ofInt k.bits y).toNat)), ?_, ?_⟩
    · simp [binOp, Op.intBits]
    · have e : Nat.land (restOf k x) (Nat.sub (Nat.sub (pw k) 1) (restOf k y)) = (BitVec.ofInt k.bits x &&& ~~~BitVec.ofInt k.bits y).toNat := by
        rw [BitVec.toNat_and, BitVec.toNat_not, toNat_ofInt_rest, toNat_ofInt_rest, pw_eq]; rfl
      rw [e, ofRest_lt_wrap k _ (BitVec.isLt _)]; exact .int _ _
  case eql => cases h; exact ⟨.bool (x == y), by simp [binOp, Op.intCmp], by rw [eqI_eq]; exact .bool _⟩
  case neq => cases h; exact ⟨.bool (x != y), by simp [binOp, Op.intCmp], by rw [eqI_eq]; exact .bool _⟩
  case lss => cases h; exact ⟨.bool (decide (x < y)), by simp [binOp, Op.intCmp], by rw [ltI_eq]; exact .bool _⟩
  case leq => cases h; exact ⟨.bool (decide (x ≤ y)), by simp [binOp, Op.intCmp], by rw [leI_eq]; exact .bool _⟩
  case gtr => cases h; exact ⟨.bool (decide (x > y)), by simp [binOp, Op.intCmp], by rw [ltI_eq]; exact .bool _⟩
  case geq => cases h; exact ⟨.bool (decide (x ≥ y)), by simp [binOp, Op.intCmp], by rw [leI_eq]; exact .bool _⟩

theorem minB_eq (a b : Nat) : minB a b = min a b := by
  unfold minB
  cases hb : Nat.ble a b with
  | true => exact (Nat.min_eq_left (Nat.le_of_ble_eq_true hb)).symm
  | false =>
    have : ¬ a ≤ b := fun h => by rw [Nat.ble_eq_true_of_le h] at hb; cases hb
    show b = min a b
    exact (Nat.min_eq_right (by omega)).symm

theorem shrI_eq (x : Int) (n : Nat) : shrI x n = x.fdiv (2 ^ n) := by
  have hp : (2 ^ n : Int) = ((2 ^ n : Nat) : Int) := by rw [Int.natCast_pow]; rfl
  have hpos : 0 < 2 ^ n := Nat.two_pow_pos _
  rw [hp, Int.fdiv_eq_ediv_of_nonneg _ (by omega)]
  cases x with
  | ofNat m =>
    show ((Nat.shiftRight m n : Nat) : Int) = _
    rw [show Nat.shiftRight m n = m / 2 ^ n from Nat.shiftRight_eq_div_pow _ _]; rfl
  | negSucc m =>
    show Int.negSucc (Nat.shiftRight m n) = _
    rw [show Nat.shiftRight m n = m / 2 ^ n from Nat.shiftRight_eq_div_pow _ _]
    obtain ⟨d, hd⟩ : ∃ d, 2 ^ n = d + 1 := ⟨2 ^ n - 1, by omega⟩
    rw [hd]; rfl

theorem run_shiftA {op : BinOp} {k yk : IntKind} {x y : Int} {v : AVal} (h : shiftA op k x y = some v) (t : TypeId) :
    ∃ r, (binOp op t (.int k x) (.int yk y)).run P w = .ok r w ∧ VRel ρ env v r := by
  unfold shiftA at h
  cases y with
  | negSucc m => cases h
  | ofNat y =>
    simp only [minB_eq, shrI_eq] at h
    have h0 : ¬ ((y : Int) < 0) := by omega
    cases op <;> simp only at h <;> try (cases h; done)
    · cases h
      refine ⟨.int k (k.wrap (x * 2 ^ (min y k.bits))), ?_, ?_⟩
      · simp [binOp, Op.shift, h0]
      · rw [wrapF_eq]
        have e : Int.mul x (Int.ofNat (Nat.pow 2 (min y k.bits))) = x * 2 ^ (min y k.bits) := by
          show x * ((2 ^ (min y k.bits) : Nat) : Int) = _
          rw [Int.natCast_pow]; rfl
        rw [e]; exact .int _ _
    · cases h
      exact ⟨.int k (x.fdiv (2 ^ (min y k.bits))), by simp [binOp, Op.shift, h0], .int _ _⟩

theorem run_unInt {op : UnOp} {k : IntKind} {n : Int} {facts : List Fact} {v : AVal} (h : unA facts op (.int k n) = some v) :
    ∃ r, (Op.unary op (.int k n)).run P w = .ok r w ∧ VRel ρ env v r := by
  cases op <;> simp only [unA] at h <;> try (cases h; done)
  · cases h
    refine ⟨.int k (k.wrap (0 - n)), by simp [Op.unary, Op.intArith], ?_⟩
    rw [wrapF_eq, show Int.neg n = 0 - n by rw [Int.zero_sub]; rfl]; exact .int _ _
  · cases h
    refine ⟨.int k (k.wrap ((BitVec.ofInt k.bits (if k.signed then -1 else k.max) ^^^ BitVec.ofInt k.bits n).toNat)), by simp [Op.unary, Op.intBits], ?_⟩
    have e1 : BitVec.ofInt k.bits (if k.signed then -1 else k.max) = BitVec.allOnes k.bits := by cases k <;> decide
    rw [e1, BitVec.allOnes_xor, BitVec.toNat_not, toNat_ofInt_rest]
    have e : Nat.sub (Nat.sub (pw k) 1) (restOf k n) = 2 ^ k.bits - 1 - restOf k n := by rw [pw_eq]; rfl
    have hl : 2 ^ k.bits - 1 - restOf k n < 2 ^ k.bits := by have := Nat.two_pow_pos k.bits; omega
    rw [e, ofRest_lt_wrap k _ hl]; exact .int _ _

/-! ### Texts -/
theorem bytesL_length : ∀ (l n : Nat), (bytesL l n).length = l
  | 0, _ => rfl
  | l + 1, n => by simp [bytesL, bytesL_length l]

theorem bytesL_get : ∀ (l n i : Nat), i < l → (bytesL l n)[i]? = some (UInt8.ofNat (byteAt n i))
  | 0, _, i, h => by omega
  | l + 1, n, 0, _ => by
    have : byteAt n 0 = n % 256 := by show n / 256 ^ 0 % 256 = _; simp
    simp [bytesL, this]
  | l + 1, n, i + 1, h => by
    simp only [bytesL, List.getElem?_cons_succ]
    rw [bytesL_get l (n / 256) i (by omega)]
    congr 2
    show (n / 256) / 256 ^ i % 256 = n / 256 ^ (i + 1) % 256
    rw [Nat.div_div_eq_div_mul, Nat.pow_succ, Nat.mul_comm]

theorem bytesL_append : ∀ (l n l' m : Nat), n < 256 ^ l → bytesL (l + l') (n + m * 256 ^ l) = bytesL l n ++ bytesL l' m
  | 0, n, l', m, h => by
    have : n = 0 := by simpa using h
    subst this; simp [bytesL]
  | l + 1, n, l', m, h => by
    rw [show l + 1 + l' = (l + l') + 1 by omega]
    simp only [bytesL, List.cons_append]
    have e1 : (n + m * 256 ^ (l + 1)) % 256 = n % 256 := by
      rw [Nat.pow_succ, ← Nat.mul_assoc, Nat.add_mul_mod_self_right]
    have e2 : (n + m * 256 ^ (l + 1)) / 256 = n / 256 + m * 256 ^ l := by
      rw [Nat.pow_succ, ← Nat.mul_assoc, Nat.add_mul_div_right _ _ (by decide)]
    rw [e1, e2, bytesL_append l (n / 256) l' m (by
      rw [Nat.div_lt_iff_lt_mul (by decide)]; rw [Nat.pow_succ] at h; omega)]

theorem bytesL_mod : ∀ (l n : Nat), bytesL l (n % 256 ^ l) = bytesL l n
  | 0, _ => rfl
  | l + 1, n => by
    simp only [bytesL]
    have e1 : n % 256 ^ (l + 1) % 256 = n % 256 := by
      rw [Nat.pow_succ, Nat.mul_comm]; exact Nat.mod_mul_right_mod _ _ _
    have e2 : n % 256 ^ (l + 1) / 256 = n / 256 % 256 ^ l := by
      rw [Nat.pow_succ, Nat.mul_comm, Nat.mod_mul_right_div_self]
    rw [e1, e2, bytesL_mod l]

theorem bytesL_drop : ∀ (k l n : Nat), (bytesL l n).drop k = bytesL (l - k) (n / 256 ^ k)
  | 0, l, n => by simp
  | k + 1, 0, n => by simp [bytesL]
  | k + 1, l + 1, n => by
    simp only [bytesL, List.drop_succ_cons]
    rw [bytesL_drop k l, Nat.div_div_eq_div_mul, Nat.pow_succ, Nat.mul_comm 256, Nat.add_sub_add_right]

theorem bytesL_take : ∀ (k l n : Nat), k ≤ l → (bytesL l n).take k = bytesL k n
  | 0, l, n, _ => by simp [bytesL]
  | k + 1, 0, n, h => by omega
  | k + 1, l + 1, n, h => by simp only [bytesL, List.take_succ_cons]; rw [bytesL_take k l _ (by omega)]

theorem packL_lt : ∀ (l : List UInt8), packL l < 256 ^ l.length
  | [] => by decide
  | b :: l => by
    have h1 := packL_lt l
    have h2 : b.toNat < 256 := b.toNat_lt
    simp only [packL, List.length_cons, Nat.pow_succ]
    omega

theorem bytesL_pack : ∀ (l : List UInt8), bytesL l.length (packL l) = l
  | [] => rfl
  | b :: l => by
    have h2 : b.toNat < 256 := b.toNat_lt
    simp only [packL, List.length_cons, bytesL]
    rw [show (b.toNat + 256 * packL l) % 256 = b.toNat by omega, show (b.toNat + 256 * packL l) / 256 = packL l by omega, bytesL_pack l]
    simp

theorem packL_bytes : ∀ (l n : Nat), n < 256 ^ l → packL (bytesL l n) = n
  | 0, n, h => by have : n = 0 := by simpa using h
                  subst this; rfl
  | l + 1, n, h => by
    simp only [bytesL, packL]
    rw [packL_bytes l (n / 256) (by rw [Nat.div_lt_iff_lt_mul (by decide)]; rw [Nat.pow_succ] at h; omega)]
    have : (UInt8.ofNat (n % 256)).toNat = n % 256 := by simp
    rw [this]; omega

theorem byteArr_pack (s : ByteArray) : byteArr s.data.toList.length (packL s.data.toList) = s := by
  unfold byteArr
  rw [bytesL_pack]

theorem byteArr_data (l n : Nat) : (byteArr l n).data.toList = bytesL l n := by simp [byteArr]
theorem byteArr_size (l n : Nat) : (byteArr l n).size = l := by
  show (bytesL l n).toArray.size = l
  simp [bytesL_length]

theorem VRel.of_string (s : ByteArray) : VRel ρ env (.str s.data.toList.length (packL s.data.toList)) (.string s) := by
  have h := VRel.str (ρ := ρ) (env := env) s.data.toList.length (packL s.data.toList) (packL_lt _)
  rwa [byteArr_pack] at h

theorem byteArr_ext {a b : ByteArray} (h : a.data.toList = b.data.toList) : a = b := by
  cases a with | mk a => cases b with | mk b => cases a with | mk a => cases b with | mk b => simp at h; subst h; rfl

theorem byteArr_append {l n l' m : Nat} (h : n < 256 ^ l) : byteArr l n ++ byteArr l' m = byteArr (l + l') (n + m * 256 ^ l) := by
  apply byteArr_ext
  rw [byteArr_data, bytesL_append _ _ _ _ h]
  simp [ByteArray.data_append, byteArr_data]

theorem strCat_lt {l n l' m : Nat} (h : n < 256 ^ l) (h' : m < 256 ^ l') : n + m * 256 ^ l < 256 ^ (l + l') := by
  rw [Nat.pow_add]
  have : (m + 1) * 256 ^ l ≤ 256 ^ l' * 256 ^ l := Nat.mul_le_mul_right _ h'
  rw [Nat.add_mul, Nat.one_mul] at this
  rw [Nat.mul_comm (256 ^ l)]
  omega

theorem strEq_eq {l n l' m : Nat} (h : n < 256 ^ l) (h' : m < 256 ^ l') : strEq l n l' m = ((byteArr l n).toList == (byteArr l' m).toList) := by
  rw [ByteArray.toList_eq, ByteArray.toList_eq, byteArr_data, byteArr_data, Bool.eq_iff_iff, beq_iff_eq]
  unfold strEq
  constructor
  · intro hh
    cases hb : Nat.beq l l' with
    | true =>
      rw [hb] at hh
      have e1 := Nat.eq_of_beq_eq_true hb
      have e2 := Nat.eq_of_beq_eq_true hh
      rw [e1, e2]
    | false => rw [hb] at hh; cases hh
  · intro hh
    have e1 : l = l' := by have := congrArg List.length hh; simpa [bytesL_length] using this
    subst e1
    have e2 : n = m := by have := congrArg packL hh; rwa [packL_bytes _ _ h, packL_bytes _ _ h'] at this
    subst e2
    simp [Nat.beq_refl]

theorem strLess_eq : ∀ (l n l' m : Nat), strLess l n l' m = Op.bytesLess (bytesL l n) (bytesL l' m)
  | 0, _, 0, _ => rfl
  | _ + 1, _, 0, _ => rfl
  | 0, _, _ + 1, _ => rfl
  | l + 1, n, l' + 1, m => by
    simp only [strLess, bytesL, Op.bytesLess]
    have hn : n % 256 < 256 := Nat.mod_lt _ (by decide)
    have hm : m % 256 < 256 := Nat.mod_lt _ (by decide)
    cases hb : Nat.beq (Nat.mod n 256) (Nat.mod m 256) with
    | true =>
      have e : n % 256 = m % 256 := Nat.eq_of_beq_eq_true hb
      simp only [e]
      rw [strLess_eq l]
      simp
      rfl
    | false =>
      have e : n % 256 ≠ m % 256 := fun h => by
        have : Nat.beq (n % 256) (m % 256) = true := by rw [h]; exact Nat.beq_refl _
        rw [show Nat.mod n 256 = n % 256 from rfl, show Nat.mod m 256 = m % 256 from rfl, this] at hb; cases hb
      have ne : (UInt8.ofNat (n % 256) == UInt8.ofNat (m % 256)) = false := by
        rw [beq_eq_false_iff_ne]; intro h
        have := congrArg UInt8.toNat h
        simp at this; exact e this
      simp only [ne, Bool.false_and, Bool.or_false]
      rw [Bool.eq_iff_iff]
      simp only [decide_eq_true_eq, UInt8.lt_iff_toNat_lt]
      rw [Nat.ble_eq]
      simp
      show n % 256 ≤ m % 256 ↔ _
      omega

theorem run_strA {op : BinOp} {l n l' m : Nat} {v : AVal} (h : strA op l n l' m = some v) (hn : n < 256 ^ l) (hm : m < 256 ^ l') (t : TypeId) :
    ∃ r, (binOp op t (.string (byteArr l n)) (.string (byteArr l' m))).run P w = .ok r w ∧ VRel ρ env v r := by
  have hless : Op.bytesLess (byteArr l n).toList (byteArr l' m).toList = strLess l n l' m := by
    rw [strLess_eq, ByteArray.toList_eq, ByteArray.toList_eq, byteArr_data, byteArr_data]
  have heq := (strEq_eq hn hm).symm
  cases op <;> simp only [strA] at h <;> try (cases h; done)
  case add =>
    cases hb : Nat.ble (Nat.add l l') 9223372036854775807 with
    | false => rw [hb] at h; cases h
    | true =>
      rw [hb] at h; cases h
      have hle : l + l' ≤ 9223372036854775807 := Nat.le_of_ble_eq_true hb
      refine ⟨.string (byteArr l n ++ byteArr l' m), ?_, ?_⟩
      · have : ¬ (((byteArr l n).size + (byteArr l' m).size : Nat) : Int) > IntKind.i64.max := by
          rw [byteArr_size, byteArr_size]
          have : IntKind.i64.max = 9223372036854775807 := by decide
          rw [this]; omega
        simp only [binOp, Op.stringOp]
        rw [if_neg this]; rfl
      · rw [byteArr_append hn]
        exact .str _ _ (strCat_lt hn hm)
  case eql => cases h; exact ⟨.bool ((byteArr l n).toList == (byteArr l' m).toList), by simp [binOp, Op.stringOp], by rw [heq]; exact .bool _⟩
  case neq => cases h; exact ⟨.bool (!((byteArr l n).toList == (byteArr l' m).toList)), by simp [binOp, Op.stringOp], by rw [heq]; exact .bool _⟩
  case lss => cases h; exact ⟨.bool (Op.bytesLess (byteArr l n).toList (byteArr l' m).toList), by simp [binOp, Op.stringOp], by rw [hless]; exact .bool _⟩
  case leq => cases h; exact ⟨.bool (Op.bytesLess (byteArr l n).toList (byteArr l' m).toList || (byteArr l n).toList == (byteArr l' m).toList), by simp [binOp, Op.stringOp], by rw [hless, heq]; exact .bool _⟩
  case gtr => cases h; exact ⟨.bool (!(Op.bytesLess (byteArr l n).toList (byteArr l' m).toList || (byteArr l n).toList == (byteArr l' m).toList)), by simp [binOp, Op.stringOp], by rw [hless, heq]; exact .bool _⟩
  case geq => cases h; exact ⟨.bool (!(Op.bytesLess (byteArr l n).toList (byteArr l' m).toList)), by simp [binOp, Op.stringOp], by rw [hless]; exact .bool _⟩

end
end Go.Eng
