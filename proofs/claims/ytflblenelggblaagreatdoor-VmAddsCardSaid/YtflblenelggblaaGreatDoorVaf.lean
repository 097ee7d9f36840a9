/- VmAdds: what is known of the numbers and the texts of the run. -/
import Derived.Test.YtflblenelggblaaGreatDoorEngVB
import Derived.Lib.ItoaNum
import Derived.Test.YtflblenelggblaaGreatDoorEngW
set_option linter.unusedVariables false
namespace Go.Eng

section
variable {P : Program} {env : Nat → Value}

/-- A piece of a text, as the evaluator sees it. -/
def PartOk (env : Nat → Value) (x : AVal) (p : ByteArray) : Prop := ∀ (ρ : Rho) (c : Value), VRel ρ env x c → c = .string p
theorem part_sym {j : Nat} {p : ByteArray} (h : env j = .string p) : PartOk env (.sym j) p := fun ρ c hc => by rw [hc.of_symv, h]
theorem part_str {l m : Nat} : PartOk env (.str l m) (byteArr l m) := fun ρ c hc => by cases hc; rfl

theorem fact_part {c k : Nat} {x : AVal} {s p : ByteArray} (hc : env c = .string s) (hx : PartOk env x p) (hk : env k = .string (s ++ p)) (hs : s.size + p.size ≤ 9223372036854775807) : FactOk P env ⟨.bin .add, .sym c, x, .sym k⟩ := by
  intro ρ t xo yo cx cy w h1 h2
  rw [h1.of_symv, hc, hx ρ cy h2]
  exact ⟨_, run_sadd hs, VRel.at hk⟩

/-- The facts of a text that is put together, piece by piece. -/
def chainF : Nat → Nat → List AVal → List Fact
  | _, _, [] => []
  | c, n, x :: l => ⟨.bin .add, .sym c, x, .sym n⟩ :: chainF n (n + 1) l

/-- The texts on the way. -/
def chainS : ByteArray → List ByteArray → List ByteArray
  | _, [] => []
  | s, p :: l => (s ++ p) :: chainS (s ++ p) l

theorem chain_ok {B : Nat} : ∀ (xs : List AVal) (ps : List ByteArray) (c n : Nat) (s : ByteArray), env c = .string s → xs.length = ps.length → (∀ (i : Nat) x p, xs[i]? = some x → ps[i]? = some p → PartOk env x p ∧ p.size ≤ B) →
    (∀ (i : Nat) q, (chainS s ps)[i]? = some q → env (n + i) = .string q) → s.size + B * ps.length ≤ 9223372036854775807 → ∀ f ∈ chainF c n xs, FactOk P env f
  | [], _, _, _, _, _, _, _, _, _, f, hf => by cases hf
  | x :: xs, [], _, _, _, _, hl, _, _, _, f, hf => by simp at hl
  | x :: xs, p :: ps, c, n, s, hc, hl, hp, hn, hs, f, hf => by
    obtain ⟨h1, h2⟩ := hp 0 x p rfl rfl
    have hn0 : env n = .string (s ++ p) := hn 0 _ rfl
    have hb : B * (p :: ps).length = B + B * ps.length := by rw [List.length_cons, Nat.mul_add, Nat.mul_one, Nat.add_comm]
    rcases List.mem_cons.1 hf with rfl | hf
    · exact fact_part hc h1 hn0 (by omega)
    · refine chain_ok xs ps n (n + 1) (s ++ p) hn0 (by simpa using hl) (fun i y q hy hq => hp (i + 1) y q (by simpa using hy) (by simpa using hq)) (fun i q hq => ?_) (by rw [ByteArray.size_append]; omega) f hf
      have := hn (i + 1) q (by simpa [chainS] using hq)
      rwa [show n + (i + 1) = n + 1 + i by omega] at this
end
end Go.Eng

set_option linter.unusedVariables false
set_option linter.unusedSimpArgs false
namespace Go.Eng
open Go

/-! ### Numbers that wrap round -/
theorem wrap64_shift (x : Int) : ∃ t : Int, IntKind.i64.wrap x = x + 18446744073709551616 * t := by
  have h : IntKind.i64.wrap x = if (x % 18446744073709551616) ≥ 9223372036854775808 then x % 18446744073709551616 - 18446744073709551616 else x % 18446744073709551616 := by
    simp [IntKind.wrap, IntKind.signed, IntKind.bits]
  rw [h]
  split
  · exact ⟨-(x / 18446744073709551616) - 1, by omega⟩
  · exact ⟨-(x / 18446744073709551616), by omega⟩
theorem wrap64_back (x t : Int) (h0 : -9223372036854775808 ≤ x) (h1 : x ≤ 9223372036854775807) : IntKind.i64.wrap (x + 18446744073709551616 * t) = x := by
  have h : IntKind.i64.wrap (x + 18446744073709551616 * t) = if ((x + 18446744073709551616 * t) % 18446744073709551616) ≥ 9223372036854775808 then (x + 18446744073709551616 * t) % 18446744073709551616 - 18446744073709551616 else (x + 18446744073709551616 * t) % 18446744073709551616 := by
    simp [IntKind.wrap, IntKind.signed, IntKind.bits]
  rw [h]
  split <;> omega
/-- Of a division what is left makes it whole again. -/
theorem whole_again (a b : Int) (h0 : -9223372036854775808 ≤ a) (h1 : a ≤ 9223372036854775807) : IntKind.i64.wrap (IntKind.i64.wrap (IntKind.i64.wrap (Int.tdiv a b) * b) + Int.tmod a b) = a := by
  obtain ⟨t, ht⟩ := wrap64_shift (Int.tdiv a b)
  obtain ⟨u, hu⟩ := wrap64_shift ((Int.tdiv a b + 18446744073709551616 * t) * b)
  rw [ht, hu]
  have e := Int.mul_tdiv_add_tmod a b
  have e2 : (Int.tdiv a b + 18446744073709551616 * t) * b + 18446744073709551616 * u + Int.tmod a b = a + 18446744073709551616 * (t * b + u) := by
    rw [Int.add_mul, Int.mul_add, Int.mul_assoc, Int.mul_comm (Int.tdiv a b) b]
    omega
  rw [e2]
  exact wrap64_back a _ h0 h1

theorem nDigits_le : ∀ (k u : Nat), 1 ≤ k → u < 10 ^ k → Lib.nDigits u ≤ k
  | 0, u, h, _ => by omega
  | k + 1, u, _, h => by
    by_cases h1 : u < 10
    · rw [Lib.nDigits_small h1]; omega
    · rw [Lib.nDigits_big h1]
      have hk : 1 ≤ k := by
        rcases Nat.eq_zero_or_pos k with h0 | h0
        · subst h0; simp at h; omega
        · exact h0
      have := nDigits_le k (u / 10) hk (by rw [Nat.pow_succ] at h; omega)
      omega
theorem itoa_le (n : Int) (h0 : -9223372036854775808 ≤ n) (h1 : n ≤ 9223372036854775807) : (Lib.itoa n).length ≤ 20 := by
  unfold Lib.itoa
  split
  · rw [List.length_cons, Lib.decDigits_length]
    have := nDigits_le 19 n.natAbs (by omega) (by omega)
    omega
  · rw [Lib.decDigits_length]
    have := nDigits_le 19 n.toNat (by omega) (by omega)
    omega

/-! ### The values -/
def dg (n : Int) : ByteArray := ⟨(Lib.itoa n).toArray⟩
theorem dg_le (n : Int) (h0 : -9223372036854775808 ≤ n) (h1 : n ≤ 9223372036854775807) : (dg n).size ≤ 20 := by
  have := itoa_le n h0 h1
  simpa [dg, ByteArray.size] using this
def w64 (n : Int) : Int := IntKind.i64.wrap n
theorem w64_range (n : Int) : -9223372036854775808 ≤ w64 n ∧ w64 n ≤ 9223372036854775807 := by
  have h : IntKind.i64.wrap n = if (n % 18446744073709551616) ≥ 9223372036854775808 then n % 18446744073709551616 - 18446744073709551616 else n % 18446744073709551616 := by
    simp [IntKind.wrap, IntKind.signed, IntKind.bits]
  unfold w64
  rw [h]
  split <;> omega

/-- What a truth, a blank, a line's end are to the evaluator. -/
def tA : Bool → AVal
  | true => .str 4 1702195828
  | false => .str 5 435728179558
def piecesA (lt le eq ne gt ge : Bool) : List AVal := [.str 1 32, .sym 13, .str 1 32, .sym 14, .str 1 32, .sym 15, .str 1 32, tA lt, .str 1 32, tA le, .str 1 32, tA eq, .str 1 32, tA ne, .str 1 32, tA gt, .str 1 32, tA ge, .str 1 10, .sym 10, .str 1 10]
def tS : Bool → ByteArray
  | true => byteArr 4 1702195828
  | false => byteArr 5 435728179558
def pieces (a b : Int) (lt le eq ne gt ge : Bool) : List ByteArray := [byteArr 1 32, dg (w64 (a - b)), byteArr 1 32, dg (w64 (a * b)), byteArr 1 32, dg (w64 (-a)), byteArr 1 32, tS lt, byteArr 1 32, tS le, byteArr 1 32, tS eq, byteArr 1 32, tS ne, byteArr 1 32, tS gt, byteArr 1 32, tS ge, byteArr 1 10, dg a, byteArr 1 10]

def headL (a b : Int) : List Value := [.int .i64 a, .int .i64 b, .int .i64 (w64 (a + b)), .int .i64 (w64 (a - b)), .int .i64 (w64 (a * b)), .int .i64 (w64 (-a)), .int .i64 (w64 (Int.tdiv a b)), .int .i64 (w64 (w64 (Int.tdiv a b) * b)), .int .i64 (Int.tmod a b), .bool false,
  .string (dg a), .bool false, .string (dg (w64 (a + b))), .string (dg (w64 (a - b))), .string (dg (w64 (a * b))), .string (dg (w64 (-a))), .bool false, .bool false, .bool false, .bool false]
def lineL (a b : Int) (lt le eq ne gt ge : Bool) : List ByteArray := chainS (dg (w64 (a + b))) (pieces a b lt le eq ne gt ge)
theorem chainS_len : ∀ (ps : List ByteArray) (s : ByteArray), (chainS s ps).length = ps.length
  | [], _ => rfl
  | p :: ps, s => by simp [chainS, chainS_len ps]
theorem chainS_size {B : Nat} : ∀ (ps : List ByteArray) (s : ByteArray) (i : Nat) (q : ByteArray), (∀ p ∈ ps, p.size ≤ B) → (chainS s ps)[i]? = some q → q.size ≤ s.size + B * ps.length
  | [], _, i, q, _, h => by simp [chainS] at h
  | p :: ps, s, 0, q, hp, h => by
    simp [chainS] at h; subst h
    have := hp p (by simp)
    rw [ByteArray.size_append, List.length_cons, Nat.mul_add]; omega
  | p :: ps, s, i + 1, q, hp, h => by
    have := chainS_size ps (s ++ p) i q (fun x hx => hp x (by simp [hx])) (by simpa [chainS] using h)
    have h1 := hp p (by simp)
    rw [ByteArray.size_append] at this
    rw [List.length_cons, Nat.mul_add]; omega
end Go.Eng

set_option linter.unusedVariables false
set_option linter.unusedSimpArgs false
namespace Go.Eng
open Go

section
variable {P : Program} {hv : Value}

def valsL (a b : Int) (lt le eq ne gt ge : Bool) : List Value :=
  headL a b ++ ((lineL a b lt le eq ne gt ge).map Value.string ++ [.int .i64 ((((lineL a b lt le eq ne gt ge).getD 18 ⟨#[]⟩).size : Nat) : Int), .int .i64 ((((lineL a b lt le eq ne gt ge).getD 20 ⟨#[]⟩).size : Nat) : Int)])
theorem line_len (a b : Int) (lt le eq ne gt ge : Bool) : (lineL a b lt le eq ne gt ge).length = 21 := by unfold lineL; rw [chainS_len]; rfl
theorem env_line {a b : Int} {lt le eq ne gt ge : Bool} {i : Nat} {q : ByteArray} (h : (lineL a b lt le eq ne gt ge)[i]? = some q) : envL hv (valsL a b lt le eq ne gt ge) (20 + i) = .string q := by
  have hi : i < 21 := by have := (List.getElem?_eq_some_iff.1 h).1; rwa [line_len] at this
  unfold envL valsL
  rw [List.getD_eq_getElem?_getD, List.getElem?_append_right (by show 20 ≤ 20 + i; omega), show 20 + i - (headL a b).length = i by show 20 + i - 20 = i; omega,
    List.getElem?_append_left (by simp [line_len]; exact hi), List.getElem?_map, h]
  rfl
theorem env_len {a b : Int} {lt le eq ne gt ge : Bool} : envL hv (valsL a b lt le eq ne gt ge) 41 = .int .i64 ((((lineL a b lt le eq ne gt ge).getD 18 ⟨#[]⟩).size : Nat) : Int) ∧ envL hv (valsL a b lt le eq ne gt ge) 42 = .int .i64 ((((lineL a b lt le eq ne gt ge).getD 20 ⟨#[]⟩).size : Nat) : Int) := by
  unfold envL valsL
  constructor
  · rw [List.getD_eq_getElem?_getD, List.getElem?_append_right (by show 20 ≤ 41; omega), show 41 - (headL a b).length = 21 from rfl, List.getElem?_append_right (by simp [line_len])]
    simp [line_len]
  · rw [List.getD_eq_getElem?_getD, List.getElem?_append_right (by show 20 ≤ 42; omega), show 42 - (headL a b).length = 22 from rfl, List.getElem?_append_right (by simp [line_len])]
    simp [line_len]

theorem tS_le (r : Bool) : (tS r).size ≤ 20 := by cases r <;> (unfold tS; rw [byteArr_size]; decide)
theorem pieces_le (a b : Int) (lt le eq ne gt ge : Bool) (h0 : -9223372036854775808 ≤ a) (h1 : a ≤ 9223372036854775807) : ∀ p ∈ pieces a b lt le eq ne gt ge, p.size ≤ 20 := by
  have hw : ∀ n, (dg (w64 n)).size ≤ 20 := fun n => dg_le _ (w64_range n).1 (w64_range n).2
  have hb : ∀ m, (byteArr 1 m).size ≤ 20 := fun m => by rw [byteArr_size]; decide
  intro p hp
  simp only [pieces, List.mem_cons, List.not_mem_nil, or_false] at hp
  rcases hp with rfl | rfl | rfl | rfl | rfl | rfl | rfl | rfl | rfl | rfl | rfl | rfl | rfl | rfl | rfl | rfl | rfl | rfl | rfl | rfl | rfl
  all_goals first | exact hb _ | exact hw _ | exact tS_le _ | exact dg_le a h0 h1

def numF : List Fact := [⟨.bin .add, .sym 0, .sym 1, .sym 2⟩, ⟨.bin .sub, .sym 0, .sym 1, .sym 3⟩, ⟨.bin .mul, .sym 0, .sym 1, .sym 4⟩, ⟨.un .neg, .sym 0, .nptr, .sym 5⟩, ⟨.bin .neq, .sym 0, .sym 0, .bool false⟩, ⟨.bin .neq, .sym 1, .sym 1, .bool false⟩]
def cmpF (lt le eq ne gt ge : Bool) : List Fact := [⟨.bin .lss, .sym 0, .sym 1, .bool lt⟩, ⟨.bin .leq, .sym 0, .sym 1, .bool le⟩, ⟨.bin .eql, .sym 0, .sym 1, .bool eq⟩, ⟨.bin .neq, .sym 0, .sym 1, .bool ne⟩, ⟨.bin .gtr, .sym 0, .sym 1, .bool gt⟩, ⟨.bin .geq, .sym 0, .sym 1, .bool ge⟩, ⟨.bin .lss, .sym 1, .sym 0, .bool gt⟩,
  ⟨.eqi, .sym 0, .sym 1, .bool eq⟩, ⟨.eqi, .sym 1, .sym 0, .bool eq⟩]
def divF : Bool → List Fact
  | true => []
  | false => [⟨.bin .quo, .sym 0, .sym 1, .sym 6⟩, ⟨.bin .mul, .sym 6, .sym 1, .sym 7⟩, ⟨.bin .rem, .sym 0, .sym 1, .sym 8⟩, ⟨.bin .add, .sym 7, .sym 8, .sym 0⟩]
def zeroF (b0 : Bool) : List Fact := [⟨.bin .neq, .sym 1, .int .i64 0, .bool (!b0)⟩, ⟨.bin .eql, .sym 1, .int .i64 0, .bool b0⟩]
def textF (lt le eq ne gt ge : Bool) : List Fact := ⟨.bin .add, .str 0 0, .sym 12, .sym 12⟩ :: (chainF 12 20 (piecesA lt le eq ne gt ge) ++ [⟨.len, .sym 38, .nptr, .sym 41⟩, ⟨.len, .sym 40, .nptr, .sym 42⟩, ⟨.bin .leq, .sym 41, .int .i64 1000, .bool true⟩, ⟨.bin .leq, .sym 42, .int .i64 1000, .bool true⟩, ⟨.bin .eql, .sym 38, .sym 38, .bool true⟩, ⟨.bin .eql, .sym 40, .sym 40, .bool true⟩])
def vmF (lt le eq ne gt ge b0 : Bool) : List Fact := numF ++ (cmpF lt le eq ne gt ge ++ (divF b0 ++ (zeroF b0 ++ textF lt le eq ne gt ge)))

theorem binA_num {op : BinOp} {k : IntKind} {x y z : Int} (h1 : op ≠ .shl) (h2 : op ≠ .shr) (h : arithA op k x y = some (.int k z)) (t : TypeId) (xo yo : Operand) : binA P [] op t xo yo (.int k x) (.int k y) = some (.int k z) := by
  cases op <;> first | exact absurd rfl h1 | exact absurd rfl h2 | (show (if k = k then _ else none) = _; rw [if_pos rfl]; exact h)

variable {a b : Int} {lt le eq ne gt ge : Bool}

theorem numF_ok : ∀ f ∈ numF, FactOk P (envL hv (valsL a b lt le eq ne gt ge)) f := by
  intro f hf
  simp only [numF, List.mem_cons, List.not_mem_nil, or_false] at hf
  rcases hf with rfl | rfl | rfl | rfl | rfl | rfl
  · exact fact_num2 (a := a) (b := b) rfl rfl rfl (binA_num (by decide) (by decide) (by show some (AVal.int _ (wrapF _ _)) = _; rw [wrapF_eq]; rfl))
  · exact fact_num2 (a := a) (b := b) rfl rfl rfl (binA_num (by decide) (by decide) (by show some (AVal.int _ (wrapF _ _)) = _; rw [wrapF_eq]; rfl))
  · exact fact_num2 (a := a) (b := b) rfl rfl rfl (binA_num (by decide) (by decide) (by show some (AVal.int _ (wrapF _ _)) = _; rw [wrapF_eq]; rfl))
  · exact fact_neg (a := a) rfl rfl
  · exact fact_cmp2 (a := a) (b := a) rfl rfl (fun t xo yo => by rw [binA_cmp rfl]; simp [cmpB, eqI_eq])
  · exact fact_cmp2 (a := b) (b := b) rfl rfl (fun t xo yo => by rw [binA_cmp rfl]; simp [cmpB, eqI_eq])

theorem cmpF_ok (h1 : lt = decide (a < b)) (h2 : le = decide (a ≤ b)) (h3 : eq = decide (a = b)) (h4 : ne = !decide (a = b)) (h5 : gt = decide (b < a)) (h6 : ge = decide (b ≤ a)) : ∀ f ∈ cmpF lt le eq ne gt ge, FactOk P (envL hv (valsL a b lt le eq ne gt ge)) f := by
  intro f hf
  simp only [cmpF, List.mem_cons, List.not_mem_nil, or_false] at hf
  rcases hf with rfl | rfl | rfl | rfl | rfl | rfl | rfl | rfl | rfl
  · exact fact_cmp2 (a := a) (b := b) rfl rfl (fun t xo yo => by rw [binA_cmp rfl, h1]; simp [cmpB, ltI_eq])
  · exact fact_cmp2 (a := a) (b := b) rfl rfl (fun t xo yo => by rw [binA_cmp rfl, h2]; simp [cmpB, leI_eq])
  · exact fact_cmp2 (a := a) (b := b) rfl rfl (fun t xo yo => by rw [binA_cmp rfl, h3]; simp [cmpB, eqI_eq]; rw [Bool.eq_iff_iff]; simp)
  · exact fact_cmp2 (a := a) (b := b) rfl rfl (fun t xo yo => by rw [binA_cmp rfl, h4]; simp [cmpB, eqI_eq]; rw [Bool.eq_iff_iff]; simp)
  · exact fact_cmp2 (a := a) (b := b) rfl rfl (fun t xo yo => by rw [binA_cmp rfl, h5]; simp [cmpB, ltI_eq])
  · exact fact_cmp2 (a := a) (b := b) rfl rfl (fun t xo yo => by rw [binA_cmp rfl, h6]; simp [cmpB, leI_eq])
  · exact fact_cmp2 (a := b) (b := a) rfl rfl (fun t xo yo => by rw [binA_cmp rfl, h5]; simp [cmpB, ltI_eq])
  · rw [h3]; exact fact_eqi2 (K := .i64) (a := a) (b := b) rfl rfl
  · have e : decide (a = b) = decide (b = a) := by rw [Bool.eq_iff_iff]; simp; exact ⟨fun h => h.symm, fun h => h.symm⟩
    rw [h3, e]; exact fact_eqi2 (K := .i64) (a := b) (b := a) rfl rfl

theorem divF_ok {b0 : Bool} (h : b0 = decide (b = 0)) (h0 : -9223372036854775808 ≤ a) (h1 : a ≤ 9223372036854775807) : ∀ f ∈ divF b0, FactOk P (envL hv (valsL a b lt le eq ne gt ge)) f := by
  intro f hf
  cases b0 with
  | true => simp [divF] at hf
  | false =>
    have hb : b ≠ 0 := by intro e; simp [e] at h
    have hz : eqI b 0 = false := by rw [eqI_eq]; simpa using hb
    simp only [divF, List.mem_cons, List.not_mem_nil, or_false] at hf
    rcases hf with rfl | rfl | rfl | rfl
    · exact fact_num2 (a := a) (b := b) rfl rfl rfl (binA_num (by decide) (by decide) (by show (if eqI b 0 then none else some (AVal.int _ (wrapF _ _))) = _; rw [hz, wrapF_eq]; rfl))
    · exact fact_num2 (a := w64 (Int.tdiv a b)) (b := b) rfl rfl rfl (binA_num (by decide) (by decide) (by show some (AVal.int _ (wrapF _ _)) = _; rw [wrapF_eq]; rfl))
    · exact fact_num2 (a := a) (b := b) rfl rfl rfl (binA_num (by decide) (by decide) (by show (if eqI b 0 then none else some (AVal.int _ (Int.tmod _ _))) = _; rw [hz]; rfl))
    · exact fact_num2 (a := w64 (w64 (Int.tdiv a b) * b)) (b := Int.tmod a b) rfl rfl rfl (binA_num (by decide) (by decide) (by show some (AVal.int _ (wrapF _ _)) = _; rw [wrapF_eq]; exact congrArg (fun z => some (AVal.int .i64 z)) (whole_again a b h0 h1)))

theorem zeroF_ok {b0 : Bool} (h : b0 = decide (b = 0)) : ∀ f ∈ zeroF b0, FactOk P (envL hv (valsL a b lt le eq ne gt ge)) f := by
  intro f hf
  simp only [zeroF, List.mem_cons, List.not_mem_nil, or_false] at hf
  rcases hf with rfl | rfl
  · exact fact_left (n := b) (k := .i64) rfl (fun t xo yo => by rw [binA_cmp rfl, h]; simp [cmpB, eqI_eq]; rw [Bool.eq_iff_iff]; simp)
  · exact fact_left (n := b) (k := .i64) rfl (fun t xo yo => by rw [binA_cmp rfl, h]; simp [cmpB, eqI_eq]; rw [Bool.eq_iff_iff]; simp)

theorem tA_ok {env : Nat → Value} (r : Bool) : PartOk env (tA r) (tS r) := by cases r <;> exact part_str

theorem byteArr_zero : byteArr 0 0 = ⟨#[]⟩ := by apply byteArr_ext; rw [byteArr_data]; rfl

theorem textF_ok (h0 : -9223372036854775808 ≤ a) (h1 : a ≤ 9223372036854775807) : ∀ f ∈ textF lt le eq ne gt ge, FactOk P (envL hv (valsL a b lt le eq ne gt ge)) f := by
  have hs0 : (dg (w64 (a + b))).size ≤ 20 := dg_le _ (w64_range _).1 (w64_range _).2
  have hp := pieces_le a b lt le eq ne gt ge h0 h1
  have hq : ∀ (i : Nat) q, (lineL a b lt le eq ne gt ge)[i]? = some q → q.size ≤ 500 := fun i q h => by
    have := chainS_size (B := 20) _ _ i q hp h
    have hl : (pieces a b lt le eq ne gt ge).length = 21 := rfl
    rw [hl] at this; omega
  have hq18 : ((lineL a b lt le eq ne gt ge).getD 18 ⟨#[]⟩).size ≤ 500 := hq 18 _ (by rw [List.getD_eq_getElem?_getD, List.getElem?_eq_getElem (by rw [line_len]; omega)]; rfl)
  have hq20 : ((lineL a b lt le eq ne gt ge).getD 20 ⟨#[]⟩).size ≤ 500 := hq 20 _ (by rw [List.getD_eq_getElem?_getD, List.getElem?_eq_getElem (by rw [line_len]; omega)]; rfl)
  have e18 : envL hv (valsL a b lt le eq ne gt ge) 38 = .string ((lineL a b lt le eq ne gt ge).getD 18 ⟨#[]⟩) := env_line (i := 18) (by rw [List.getD_eq_getElem?_getD, List.getElem?_eq_getElem (by rw [line_len]; omega)]; rfl)
  have e20 : envL hv (valsL a b lt le eq ne gt ge) 40 = .string ((lineL a b lt le eq ne gt ge).getD 20 ⟨#[]⟩) := env_line (i := 20) (by rw [List.getD_eq_getElem?_getD, List.getElem?_eq_getElem (by rw [line_len]; omega)]; rfl)
  have c1000 : ∀ n : Nat, n ≤ 500 → cmpB .leq (n : Int) 1000 = true := fun n hn => by simp [cmpB, leI_eq]; omega
  intro f hf
  rcases List.mem_cons.1 hf with rfl | hf
  · refine fact_constS (a := dg (w64 (a + b))) rfl ?_ (by decide) (by omega)
    show Value.string _ = _
    rw [byteArr_zero]
    congr 1
    try (apply byteArr_ext; simp)
  rcases List.mem_append.1 hf with hf | hf
  · refine chain_ok (B := 20) (piecesA lt le eq ne gt ge) (pieces a b lt le eq ne gt ge) 12 20 (dg (w64 (a + b))) rfl rfl (fun i x p hx hp' => ⟨?_, hp p (List.mem_of_getElem? hp')⟩) (fun i q h => env_line h) (by have : (pieces a b lt le eq ne gt ge).length = 21 := rfl; rw [this]; omega) f hf
    match i, hx, hp' with
    | 0, hx, hp' => cases hx; cases hp'; exact part_str
    | 1, hx, hp' => cases hx; cases hp'; exact part_sym rfl
    | 2, hx, hp' => cases hx; cases hp'; exact part_str
    | 3, hx, hp' => cases hx; cases hp'; exact part_sym rfl
    | 4, hx, hp' => cases hx; cases hp'; exact part_str
    | 5, hx, hp' => cases hx; cases hp'; exact part_sym rfl
    | 6, hx, hp' => cases hx; cases hp'; exact part_str
    | 7, hx, hp' => cases hx; cases hp'; exact tA_ok _
    | 8, hx, hp' => cases hx; cases hp'; exact part_str
    | 9, hx, hp' => cases hx; cases hp'; exact tA_ok _
    | 10, hx, hp' => cases hx; cases hp'; exact part_str
    | 11, hx, hp' => cases hx; cases hp'; exact tA_ok _
    | 12, hx, hp' => cases hx; cases hp'; exact part_str
    | 13, hx, hp' => cases hx; cases hp'; exact tA_ok _
    | 14, hx, hp' => cases hx; cases hp'; exact part_str
    | 15, hx, hp' => cases hx; cases hp'; exact tA_ok _
    | 16, hx, hp' => cases hx; cases hp'; exact part_str
    | 17, hx, hp' => cases hx; cases hp'; exact tA_ok _
    | 18, hx, hp' => cases hx; cases hp'; exact part_str
    | 19, hx, hp' => cases hx; cases hp'; exact part_sym rfl
    | 20, hx, hp' => cases hx; cases hp'; exact part_str
    | i + 21, hx, hp' => exact absurd hx (by simp [piecesA])
  · simp only [List.mem_cons, List.not_mem_nil, or_false] at hf
    rcases hf with rfl | rfl | rfl | rfl | rfl | rfl
    · exact fact_slen e18 env_len.1
    · exact fact_slen e20 env_len.2
    · exact fact_left env_len.1 (fun t xo yo => by rw [binA_cmp rfl, c1000 _ hq18])
    · exact fact_left env_len.2 (fun t xo yo => by rw [binA_cmp rfl, c1000 _ hq20])
    · exact fact_sself e18
    · exact fact_sself e20

theorem vmF_ok {b0 : Bool} (h1 : lt = decide (a < b)) (h2 : le = decide (a ≤ b)) (h3 : eq = decide (a = b)) (h4 : ne = !decide (a = b)) (h5 : gt = decide (b < a)) (h6 : ge = decide (b ≤ a)) (hz : b0 = decide (b = 0)) (ha0 : -9223372036854775808 ≤ a) (ha1 : a ≤ 9223372036854775807) :
    ∀ f ∈ vmF lt le eq ne gt ge b0, FactOk P (envL hv (valsL a b lt le eq ne gt ge)) f := by
  intro f hf
  rcases List.mem_append.1 hf with hf | hf
  · exact numF_ok f hf
  rcases List.mem_append.1 hf with hf | hf
  · exact cmpF_ok h1 h2 h3 h4 h5 h6 f hf
  rcases List.mem_append.1 hf with hf | hf
  · exact divF_ok hz ha0 ha1 f hf
  rcases List.mem_append.1 hf with hf | hf
  · exact zeroF_ok hz f hf
  · exact textF_ok ha0 ha1 f hf
end
end Go.Eng
