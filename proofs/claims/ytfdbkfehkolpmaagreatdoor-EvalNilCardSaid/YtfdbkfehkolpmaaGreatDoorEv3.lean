/- EvalNil: what the law calls, by closed runs and by Small's contract; the law's own walk. -/
import Derived.Test.YtfdbkfehkolpmaaGreatDoorEvalNilRun
import Derived.Test.YtfdbkfehkolpmaaGreatDoorEv2
namespace Go.Proofs.YtfdbkfehkolpmaaGreatDoor
open Go Go.Proofs Go.Eng Go.RowKit
set_option linter.unusedVariables false
set_option linter.unusedSimpArgs false
noncomputable section

def isValR (v : AVal) : Option (AEnd × AHeap) → Nat
  | some (.ret u, _) => (match beqV u v with | true => 1 | false => 0)
  | _ => 0
theorem isValR_of {v : AVal} {r : Option (AEnd × AHeap)} (h : isValR v r = 1) : ∃ h', r = some (.ret v, h') := by
  unfold isValR at h
  split at h
  · rename_i u h'
    split at h
    · rename_i hb
      exact ⟨h', by rw [beqV_eq _ _ hb]⟩
    · cases h
  · cases h

/-- A run over the tables alone, that ends with a value. -/
theorem val_calls {P : Program} {env : Nat → Value} {hv : Value} {w : World} {okc : FuncId → Code → Bool} {ng : Nat} {call : CallF} (hk : env KH = hv) (ho : Value.one hv = true) (hc : CallOk P env okc ng call) {f : FuncId} {args : List AVal} {v : AVal} {gl : List (Nat × List AVal)} (hlt : ∀ x ∈ gl, x.1 < ng)
    (hx : isValR v (call (.fn f) args (globH ng (globElem w) gl)) = 1) (hb : (bodyOf P f).isSome = true) (hng : ng ≤ w.heap.size) (hgl : Globs hv w gl) {args' : List Value} (ha : VRels (globR ng w) env args args') :
    Calls P f ⟨args'⟩ w fun x w' => (∃ y ρ', x = .returned y ∧ VRel ρ' env v y) ∧ Below w.heap.size w w' := by
  obtain ⟨h', hx'⟩ := isValR_of hx
  exact closed_calls hc hx' hb (globH_rel hk ho hlt hng hgl) (globR_ok ng w) (globH_live ng _ gl) ha

theorem vrels1 {ρ : Rho} {env : Nat → Value} {a : AVal} {l : List Value} (h : VRels ρ env [a] l) : ∃ x, l = [x] ∧ VRel ρ env a x := by
  match l, h.1 with
  | [x], _ => exact ⟨x, rfl, h.2 0 _ _ rfl rfl⟩
theorem vrels2 {ρ : Rho} {env : Nat → Value} {a b : AVal} {l : List Value} (h : VRels ρ env [a, b] l) : ∃ x y, l = [x, y] ∧ VRel ρ env a x ∧ VRel ρ env b y := by
  match l, h.1 with
  | [x, y], _ => exact ⟨x, y, rfl, h.2 0 _ _ rfl rfl, h.2 1 _ _ rfl rfl⟩
theorem vrels3 {ρ : Rho} {env : Nat → Value} {a b c : AVal} {l : List Value} (h : VRels ρ env [a, b, c] l) : ∃ x y z, l = [x, y, z] ∧ VRel ρ env a x ∧ VRel ρ env b y ∧ VRel ρ env c z := by
  match l, h.1 with
  | [x, y, z], _ => exact ⟨x, y, z, rfl, h.2 0 _ _ rfl rfl, h.2 1 _ _ rfl rfl, h.2 2 _ _ rfl rfl⟩
theorem vrel_str0 {ρ : Rho} {env : Nat → Value} {x : Value} (h : VRel ρ env (.str 0 0) x) : x = .string ⟨#[]⟩ := by cases h; rfl

theorem eval_run (es : Nat → TypeId) : isValR (.tup [.agg [.int .i64 0, .int .i64 0, .str 0 0], .int .i64 1]) (callF Tryz.prog X0 noExt 100 (.fn 6) [.agg (symsFrom 0 5), .sym 6, .nptr, .nslc] (globH 8 es gl)) = 1 := by kernel_rfl
theorem text_run (es : Nat → TypeId) : isValR (.tup [.str 0 0, .int .i64 1]) (callF Tryz.prog X0 noExt 100 (.fn 7) [.sym 5, .sym 6, .nptr, .nslc] (globH 8 es gl)) = 1 := by kernel_rfl
theorem below_run (es : Nat → TypeId) : isValR (.bool true) (callF Tryz.prog X0 noExt 100 (.fn 8) [.agg [.int .i64 1, .int .i64 1, .str 0 0], .agg [.int .i64 1, .int .i64 2, .str 0 0]] (globH 8 es gl)) = 1 := by kernel_rfl
end
end Go.Proofs.YtfdbkfehkolpmaaGreatDoor
