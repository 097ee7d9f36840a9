/- The engine, part VA: facts of numbers and texts that are not known. -/
import Derived.Test.YtggjeecpadnihaaGreatDoorEngV
set_option linter.unusedVariables false
namespace Go.Eng

section
variable {P : Program} {env : Nat → Value} {ρ : Rho}

theorem VRel.of_symv {i : Nat} {c : Value} (h : VRel ρ env (.sym i) c) : c = env i := by cases h; rfl
theorem VRel.at {i : Nat} {x : Value} (h : env i = x) : VRel ρ env (.sym i) x := by rw [← h]; exact .sym i

/-- Two numbers; the answer is a number of its own. -/
theorem fact_num2 {op : BinOp} {i j k : Nat} {K : IntKind} {a b c : Int} (hi : env i = .int K a) (hj : env j = .int K b) (hk : env k = .int K c) (hb : ∀ t xo yo, binA P [] op t xo yo (.int K a) (.int K b) = some (.int K c)) :
    FactOk P env ⟨.bin op, .sym i, .sym j, .sym k⟩ := by
  intro ρ t xo yo cx cy w hx hy
  rw [hx.of_symv, hy.of_symv, hi, hj]
  obtain ⟨r, h1, h2⟩ := binA_sound (facts := []) (ρ := ρ) (env := env) (w := w) nofacts (.int K a) (.int K b) (hb t xo yo)
  rw [h2.of_int] at h1
  exact ⟨_, h1, VRel.at hk⟩
/-- Two numbers; the answer is a truth. -/
theorem fact_cmp2 {op : BinOp} {i j : Nat} {K : IntKind} {a b : Int} {r : Bool} (hi : env i = .int K a) (hj : env j = .int K b) (hb : ∀ t xo yo, binA P [] op t xo yo (.int K a) (.int K b) = some (.bool r)) :
    FactOk P env ⟨.bin op, .sym i, .sym j, .bool r⟩ := by
  intro ρ t xo yo cx cy w hx hy
  rw [hx.of_symv, hy.of_symv, hi, hj]
  exact binA_sound (facts := []) (ρ := ρ) (env := env) (w := w) nofacts (.int K a) (.int K b) (hb t xo yo)
theorem fact_eqi2 {i j : Nat} {K : IntKind} {a b : Int} (hi : env i = .int K a) (hj : env j = .int K b) : FactOk P env ⟨.eqi, .sym i, .sym j, .bool (decide (a = b))⟩ := by
  intro ρ cx cy hx hy
  exact ⟨K, a, b, by rw [hx.of_symv, hi], by rw [hy.of_symv, hj], rfl⟩
theorem fact_neg {i k : Nat} {K : IntKind} {a : Int} (hi : env i = .int K a) (hk : env k = .int K (K.wrap (-a))) : FactOk P env ⟨.un .neg, .sym i, .nptr, .sym k⟩ := by
  intro ρ cx w hx
  rw [hx.of_symv, hi]
  have h := unA_sound (P := P) (env := env) (ρ := ρ) (w := w) (facts := []) nofacts (op := .neg) (x := .int K a) (v := .int K (wrapF K (Int.neg a))) (.int K a) rfl
  obtain ⟨r, h1, h2⟩ := h
  rw [h2.of_int, wrapF_eq] at h1
  exact ⟨_, h1, VRel.at hk⟩

/-! ### Texts -/
theorem run_sadd {t : TypeId} {xo yo : Operand} {a b : ByteArray} {w : World} (h : a.size + b.size ≤ 9223372036854775807) :
    (do eqGuard .add t xo yo (.string a) (.string b); binOp .add t (.string a) (.string b) : Sem Value).run P w = .ok (.string (a ++ b)) w := by
  have hg : (eqGuard .add t xo yo (.string a) (.string b)).run P w = .ok () w := run_guard_pass (.inl (by simp)) (.inl (by simp))
  rw [Sem.run_bind, hg, Result.andThen_ok]
  have : ¬ ((a.size + b.size : Nat) : Int) > IntKind.i64.max := by
    have : IntKind.i64.max = 9223372036854775807 := by decide
    rw [this]; omega
  simp only [binOp, Op.stringOp]
  rw [if_neg this]; rfl
/-- A text that is not known, and one that is. -/
theorem fact_sconst {i k l m : Nat} {a : ByteArray} (hi : env i = .string a) (hk : env k = .string (a ++ byteArr l m)) (hm : m < 256 ^ l) (hs : a.size + l ≤ 9223372036854775807) : FactOk P env ⟨.bin .add, .sym i, .str l m, .sym k⟩ := by
  intro ρ t xo yo cx cy w hx hy
  rw [hx.of_symv, hi]
  cases hy
  exact ⟨_, run_sadd (by rw [byteArr_size]; exact hs), VRel.at hk⟩
theorem fact_constS {i k l m : Nat} {a : ByteArray} (hi : env i = .string a) (hk : env k = .string (byteArr l m ++ a)) (hm : m < 256 ^ l) (hs : l + a.size ≤ 9223372036854775807) : FactOk P env ⟨.bin .add, .str l m, .sym i, .sym k⟩ := by
  intro ρ t xo yo cx cy w hx hy
  rw [hy.of_symv, hi]
  cases hx
  exact ⟨_, run_sadd (by rw [byteArr_size]; exact hs), VRel.at hk⟩
theorem fact_ssyms {i j k : Nat} {a b : ByteArray} (hi : env i = .string a) (hj : env j = .string b) (hk : env k = .string (a ++ b)) (hs : a.size + b.size ≤ 9223372036854775807) : FactOk P env ⟨.bin .add, .sym i, .sym j, .sym k⟩ := by
  intro ρ t xo yo cx cy w hx hy
  rw [hx.of_symv, hi, hy.of_symv, hj]
  exact ⟨_, run_sadd hs, VRel.at hk⟩
/-- A text is what it is. -/
theorem fact_sself {i : Nat} {a : ByteArray} (hi : env i = .string a) : FactOk P env ⟨.bin .eql, .sym i, .sym i, .bool true⟩ := by
  intro ρ t xo yo cx cy w hx hy
  rw [hx.of_symv, hi, hy.of_symv, hi]
  have hg : (eqGuard .eql t xo yo (.string a) (.string a)).run P w = .ok () w := run_guard_pass (.inl (by simp)) (.inl (by simp))
  exact ⟨.bool true, by rw [Sem.run_bind, hg, Result.andThen_ok]; simp [binOp, Op.stringOp], .bool _⟩
theorem fact_slen {i j : Nat} {a : ByteArray} (hi : env i = .string a) (hj : env j = .int .i64 a.size) : FactOk P env ⟨.len, .sym i, .nptr, .sym j⟩ := by
  intro ρ t ty ts cx w ht hx
  rw [hx.of_symv, hi]
  exact ⟨.int .i64 a.size, by simp [Builtin.len_, run_und ht, goInt], VRel.at hj⟩
end
end Go.Eng
