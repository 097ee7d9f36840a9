/- VmAdds: what the run takes by contract (Show, Digits, lives), and the six runs' meaning. -/
import Derived.Test.YtflblenelggblaaGreatDoorVmAddsRun
import Derived.Test.YtflblenelggblaaGreatDoorVa1
import Derived.Test.YtflblenelggblaaGreatDoorVaf
import Derived.Test.YtflblenelggblaaGreatDoorBd
namespace Go.Proofs.YtflblenelggblaaGreatDoor
open Go Go.Proofs Go.Eng Go.RowKit
set_option linter.unusedVariables false
set_option linter.unusedSimpArgs false

theorem vrels1 {ρ : Rho} {env : Nat → Value} {a : AVal} {l : List Value} (h : VRels ρ env [a] l) : ∃ x, l = [x] ∧ VRel ρ env a x := by
  match l, h.1 with
  | [x], _ => exact ⟨x, rfl, h.2 0 _ _ rfl rfl⟩
theorem vrels2 {ρ : Rho} {env : Nat → Value} {a b : AVal} {l : List Value} (h : VRels ρ env [a, b] l) : ∃ x y, l = [x, y] ∧ VRel ρ env a x ∧ VRel ρ env b y := by
  match l, h.1 with
  | [x, y], _ => exact ⟨x, y, rfl, h.2 0 _ _ rfl rfl, h.2 1 _ _ rfl rfl⟩
theorem vrels3 {ρ : Rho} {env : Nat → Value} {a b c : AVal} {l : List Value} (h : VRels ρ env [a, b, c] l) : ∃ x y z, l = [x, y, z] ∧ VRel ρ env a x ∧ VRel ρ env b y ∧ VRel ρ env c z := by
  match l, h.1 with
  | [x, y, z], _ => exact ⟨x, y, z, rfl, h.2 0 _ _ rfl rfl, h.2 1 _ _ rfl rfl, h.2 2 _ _ rfl rfl⟩
theorem vrel_str0 {ρ : Rho} {env : Nat → Value} {x : Value} (h : VRel ρ env (.str 0 0) x) : x = .string ⟨#[]⟩ := by cases h; rfl

theorem pow_lits : tb Rows.laid_internal_strconv_uint64pow10 = Lib.pow10Tab.map fun z => AVal.int .u64 z := by kernel_rfl
theorem pow_named : Tryz.prog.globalNamed "internal/strconv.uint64pow10" = some 2 := by kernel_rfl
theorem tab_of {w : World} (h : Globs hv w gl) : Lib.TabIs Tryz.prog w "internal/strconv.uint64pow10" .u64 Lib.pow10Tab := by
  obtain ⟨c, e, frz, h1, hl, h2⟩ := h (2, tb Rows.laid_internal_strconv_uint64pow10) (by simp [gl])
  rw [pow_lits] at hl h2
  unfold Lib.TabIs World.var?
  rw [pow_named]
  simp only [Option.bind_some]
  simp only at h1
  rw [h1]
  simp only
  congr 1
  apply Array.ext'
  apply List.ext_getElem?
  intro i
  by_cases hi : i < Lib.pow10Tab.length
  · have hi2 : i < c.toList.length := by rw [← hl]; simpa using hi
    have e1 : (Lib.pow10Tab.map fun z => AVal.int .u64 z)[i]? = some (.int .u64 Lib.pow10Tab[i]) := by rw [List.getElem?_map, List.getElem?_eq_getElem hi]; rfl
    obtain ⟨_, k⟩ := h2 i _ _ e1 (List.getElem?_eq_getElem hi2)
    rw [List.getElem?_eq_getElem hi2, k.of_int]
    simp [List.getElem?_map, List.getElem?_eq_getElem hi]
  · rw [List.getElem?_eq_none (by rw [← hl]; simpa using hi), List.getElem?_eq_none (by simpa using hi)]

def dgS (j : Nat) : Option AVal := match Nat.beq j 0 with
  | true => some (.sym 10)
  | false => match Nat.ble 2 j && Nat.ble j 5 with
    | true => some (.sym (Nat.add 10 j))
    | false => none
noncomputable def showChk : List AVal → AHeap → Option AVal := fun args h => match args with
  | [.ptr b o, .agg [.int .i64 n, .sym j, .str l m]] =>
    match Nat.beq o 0 && (eqI n 1 && (Nat.beq l 0 && Nat.beq m 0)) with
    | true => (match h.get b with
      | some (.row _ _ false _ cs) => (match cs.get 0 with
        | some (.bool true) => (match cs.get 3 with
          | some (.slc _ _ _ _) => dgS j
          | some .nslc => dgS j
          | _ => none)
        | _ => none)
      | _ => none)
    | false => none
  | _ => none
def digChk : List AVal → AHeap → Option AVal := fun args _ => match args with
  | [.sym j] => dgS j
  | _ => none

theorem dgS_of {a b : Int} {lt le eq ne gt ge : Bool} {j : Nat} {v : AVal} (ha0 : -9223372036854775808 ≤ a) (ha1 : a ≤ 9223372036854775807) (h : dgS j = some v) :
    ∃ n k, v = .sym k ∧ envL hv (valsL a b lt le eq ne gt ge) j = .int .i64 n ∧ envL hv (valsL a b lt le eq ne gt ge) k = .string (dg n) ∧ -9223372036854775808 ≤ n ∧ n ≤ 9223372036854775807 := by
  match j, h with
  | 0, h => cases h; exact ⟨a, 10, rfl, rfl, rfl, ha0, ha1⟩
  | 1, h => cases h
  | 2, h => cases h; exact ⟨w64 (a + b), 12, rfl, rfl, rfl, (w64_range _).1, (w64_range _).2⟩
  | 3, h => cases h; exact ⟨w64 (a - b), 13, rfl, rfl, rfl, (w64_range _).1, (w64_range _).2⟩
  | 4, h => cases h; exact ⟨w64 (a * b), 14, rfl, rfl, rfl, (w64_range _).1, (w64_range _).2⟩
  | 5, h => cases h; exact ⟨w64 (-a), 15, rfl, rfl, rfl, (w64_range _).1, (w64_range _).2⟩
  | j + 6, h =>
    exfalso
    have e : (Nat.ble 2 (j + 6) && Nat.ble (j + 6) 5) = false := by
      have : Nat.ble (j + 6) 5 = false := by
        cases hq : Nat.ble (j + 6) 5 with
        | false => rfl
        | true => exact absurd (Nat.le_of_ble_eq_true hq) (by omega)
      rw [this, Bool.and_false]
    unfold dgS at h
    rw [show Nat.beq (j + 6) 0 = false from rfl, e] at h
    cases h

section
variable {a b : Int} {lt le eq ne gt ge : Bool}
theorem envK : envL hv (valsL a b lt le eq ne gt ge) KH = hv := envL_K (by
  have : (valsL a b lt le eq ne gt ge).length = 43 := by
    unfold valsL; rw [List.length_append, List.length_append, List.length_map, line_len]; rfl
  rw [this]; decide)

theorem dig_ok (ha0 : -9223372036854775808 ≤ a) (ha1 : a ≤ 9223372036854775807) : CallOk Tryz.prog (envL hv (valsL a b lt le eq ne gt ge)) (okcP Tryz.prog) 5 (extV 16 gl digChk) := by
  refine extV_ok envK gl_lt gl_lit ?_
  intro ρ h w args v args' hr hc ha hng hg
  unfold digChk at hc
  split at hc
  · rename_i j
    obtain ⟨n, k, rfl, e1, e2, h0, h1⟩ := dgS_of (b := b) (lt := lt) (le := le) (eq := eq) (ne := ne) (gt := gt) (ge := ge) ha0 ha1 hc
    obtain ⟨x, rfl, hx⟩ := vrels1 ha
    rw [hx.of_symv, e1]
    refine (digits_any n h0 h1 w).mono ?_
    rintro e w' ⟨rfl, hb⟩
    exact ⟨⟨_, rfl, VRel.at e2⟩, hb⟩
  · cases hc

theorem show_ok (ha0 : -9223372036854775808 ≤ a) (ha1 : a ≤ 9223372036854775807) : CallOk Tryz.prog (envL hv (valsL a b lt le eq ne gt ge)) (okcP Tryz.prog) 5 (extV 200 gl showChk) := by
  refine extV_ok envK gl_lt gl_lit ?_
  intro ρ h w args v args' hr hc ha hng hg
  unfold showChk at hc
  split at hc
  · rename_i b' o n0 j l m
    split at hc
    · rename_i hq
      simp only [Bool.and_eq_true] at hq
      obtain ⟨q1, q2, q3, q4⟩ := hq
      obtain rfl := Nat.eq_of_beq_eq_true q1
      obtain rfl := Nat.eq_of_beq_eq_true q3
      obtain rfl := Nat.eq_of_beq_eq_true q4
      have q2' : n0 = 1 := by rw [eqI_eq] at q2; simpa using q2
      subst q2'
      split at hc
      · rename_i e sz ro cs hget
        split at hc
        · rename_i hc0
          have key : dgS j = some v ∧ ∃ u, cs.get 3 = some u ∧ ∀ x, VRel ρ (envL hv (valsL a b lt le eq ne gt ge)) u x → ∃ so len cap, x = .slice so len cap := by
            split at hc
            · rename_i b1 o1 len1 cap1 h3
              refine ⟨hc, _, h3, ?_⟩
              intro x hx
              cases hx <;> exact ⟨_, _, _, rfl⟩
            · rename_i h3
              refine ⟨hc, _, h3, ?_⟩
              intro x hx
              cases hx; exact ⟨_, _, _, rfl⟩
            · cases hc
          obtain ⟨hd, u, h3, hu⟩ := key
          obtain ⟨n, k, rfl, e1, e2, h0, h1⟩ := dgS_of (b := b) (lt := lt) (le := le) (eq := eq) (ne := ne) (gt := gt) (ge := ge) ha0 ha1 hd
          obtain ⟨x, y, rfl, hx, hy⟩ := vrels2 ha
          obtain ⟨l2, rfl, hl2⟩ := hy.of_agg
          obtain ⟨p, q, r, rfl, hp, hq, hr3⟩ := vrels3 hl2
          rw [hp.of_int, hq.of_symv, e1, vrel_str0 hr3]
          cases hx with
          | @ptr _ _ i hρ =>
          obtain ⟨ob, k1, k2⟩ := hr.obj _ _ _ hget rfl hρ
          obtain ⟨c, frz, rfl, r1, r2, r3, r4, r5, r6⟩ := k2
          obtain ⟨s0, s1⟩ := r6 rfl
          obtain ⟨_, x0, x1, x2, _⟩ := r3 0 _ hc0
          obtain ⟨_, y0, y1, y2, _⟩ := r3 3 _ h3
          rw [x2.of_bool] at x1
          obtain ⟨so, len, cap, rfl⟩ := hu _ y2
          rw [s0] at x1 y1 ⊢
          have g0 : w.cell? ⟨i.blk, 0, none⟩ = some (.bool true) := (Lib.cell_of_heap k1 0).trans (by simpa using x1)
          have g3 : w.cell? ⟨i.blk, 3, none⟩ = some (.slice so len cap) := (Lib.cell_of_heap k1 3).trans (by simpa using y1)
          refine (show_int i.blk so len cap n w h0 h1 (itoa_le n h0 h1) g0 g3 (fun w' hb => tab_of (hg.below hb))).mono ?_
          rintro e' w' ⟨rfl, hb⟩
          exact ⟨⟨_, rfl, VRel.at e2⟩, hb⟩
        · cases hc
      · cases hc
    · cases hc
  · cases hc
end
end Go.Proofs.YtflblenelggblaaGreatDoor
