/- The engine, part I: new memory: alloc, box, make, literals of slices, append, copy. -/
import Derived.Test.YtggjeecpadnihaaGreatDoorEngH
set_option linter.unusedSectionVars false
set_option linter.unusedVariables false
set_option linter.unusedSimpArgs false
namespace Go.Eng
open Go.Instr (fill)

section
variable {P : Program} {env : Nat → Value} {okc : FuncId → Code → Bool} {N : Nat → Prop} {ρ ρ' : Rho} {h h' : AHeap} {w w' : World}

/-- What an operation that may make a block comes to. -/
def Makes (P : Program) (env : Nat → Value) (okc : FuncId → Code → Bool) (N : Nat → Prop) (ρ : Rho) (h : AHeap) (w : World) (s : Sem Value) (v : AVal) (h' : AHeap) : Prop :=
  ∃ x ρ' w', s.run P w = .ok x w' ∧ VRel ρ' env v x ∧ Go' P env okc N ρ h w ρ' h' w'

theorem newVar_run (t : TypeId) (v : Value) : (newVar t v).run P w = .ok ⟨w.heap.size, 0, none⟩ (w.alloc (.cells v.cells t)) := by
  simp [newVar, newRow]

theorem newRow_run (t : TypeId) (c : Array Value) : (newRow t c).run P w = .ok ⟨w.heap.size, 0, none⟩ (w.alloc (.cells c t)) := by
  simp [newRow]

theorem allocA_sound (he : EnvOk env) (hr : HRel P env okc ρ h w) {rid : Nat} {t : TypeId} {v : AVal} (hrid : ρ rid = none) (hn : rid < h.next) (hN : N rid)
    (ha : allocA P h rid t = some (v, h')) : Makes P env okc N ρ h w (Instr.alloc t true (.tuple #[])) v h' := by
  unfold allocA at ha
  cases hz : zeroA P t with
  | none => rw [hz] at ha; cases ha
  | some z =>
    rw [hz] at ha; simp only at ha
    split at ha
    rotate_left
    · cases ha
    rename_i hs
    cases ha
    obtain ⟨z', hzr, hzv⟩ := run_zero (w := w) (ρ := ρ) (env := env) hz
    have hc := cells_rel he hzv hs
    obtain ⟨i, e1, e2, hgo⟩ := newRow_sound (N := N) (e := t) hr (scalars_one he hc hs) hc hrid hn hN
    refine ⟨.pointer (some ⟨w.heap.size, 0, none⟩), ρ.set rid i, w.alloc (.cells z'.cells t), ?_, ?_, hgo⟩
    · simp only [Instr.alloc, Sem.run_bind, hzr, Result.andThen_ok, newVar_run, Sem.run_pure]
    · have := VRel.ptr (env := env) 0 (Rho.set_same ρ rid i)
      rw [e1, e2] at this; exact this

theorem boxA_sound (he : EnvOk env) (hr : HRel P env okc ρ h w) {rid : Nat} {t : TypeId} {v a : AVal} {x : Value} (hx : VRel ρ env a x) (hrid : ρ rid = none) (hn : rid < h.next) (hN : N rid)
    (ha : boxA h rid t a = some (v, h')) : Makes P env okc N ρ h w (Instr.box t x) v h' := by
  unfold boxA at ha
  split at ha
  rotate_left
  · cases ha
  rename_i hs
  cases ha
  have hc := cells_rel he hx hs
  obtain ⟨i, e1, e2, hgo⟩ := newRow_sound (N := N) (e := t) hr (scalars_one he hc hs) hc hrid hn hN
  refine ⟨.pointer (some ⟨w.heap.size, 0, none⟩), ρ.set rid i, w.alloc (.cells x.cells t), ?_, ?_, hgo⟩
  · simp only [Instr.box, Sem.run_bind, newVar_run, Result.andThen_ok, Sem.run_pure]
  · have := VRel.ptr (env := env) 0 (Rho.set_same ρ rid i)
    rw [e1, e2] at this; exact this

theorem repeatA_acc : ∀ (n : Nat) (z acc : List AVal), repeatA n z acc = repeatA n z [] ++ acc
  | 0, z, acc => rfl
  | n + 1, z, acc => by
    rw [repeatA, repeatA_acc n z (z ++ acc), repeatA, repeatA_acc n z (z ++ [])]; simp

theorem repeatA_len : ∀ (n : Nat) (z : List AVal), (repeatA n z []).length = n * z.length
  | 0, z => by simp [repeatA]
  | n + 1, z => by rw [repeatA, repeatA_acc]; simp [repeatA_len n z, Nat.add_mul]

theorem repeatA_get : ∀ (n : Nat) (z : List AVal) (i : Nat), i < n * z.length → (repeatA n z [])[i]? = z[i % z.length]?
  | 0, z, i, h => by simp at h
  | n + 1, z, i, h => by
    rw [repeatA, repeatA_acc]
    by_cases hi : i < n * z.length
    · rw [List.getElem?_append_left (by rw [repeatA_len]; exact hi), repeatA_get n z i hi]
    · rw [List.getElem?_append_right (by rw [repeatA_len]; omega), repeatA_len]
      have : i = (i - n * z.length) + n * z.length := by omega
      rw [this, Nat.add_mul_mod_self_right, Nat.add_sub_cancel, List.append_nil]
      rw [Nat.mod_eq_of_lt]
      rw [Nat.add_mul] at h; omega

theorem zeros_rel {z : List AVal} {z' : Array Value} (hz : VRels ρ env z z'.toList) (n : Nat) (h0 : n ≠ 0 → 0 < z.length) :
    VRels ρ env (repeatA n z []) ((Array.range (n * z.length)).map (z'[· % z'.size]!)).toList := by
  have hzs : z'.size = z.length := by rw [← Array.length_toList]; exact hz.1.symm
  refine ⟨by simp [repeatA_len], fun i v x hv hx => ?_⟩
  have hi : i < n * z.length := by
    rcases Nat.lt_or_ge i (n * z.length) with hh | hh
    · exact hh
    · rw [List.getElem?_eq_none (by rw [repeatA_len]; exact hh)] at hv; cases hv
  rw [repeatA_get _ _ _ hi] at hv
  have hn : n ≠ 0 := by rintro rfl; simp at hi
  have hlt : i % z.length < z.length := Nat.mod_lt _ (h0 hn)
  refine hz.2 (i % z.length) v x hv ?_
  rw [Array.getElem?_toList] at hx ⊢
  rw [Array.getElem?_map, Array.getElem?_range] at hx
  rw [if_pos hi] at hx
  simp only [Option.map_some, Option.some.injEq] at hx
  rw [← hx, hzs]
  rw [getElem!_pos z' (i % z.length) (by omega)]
  exact Array.getElem?_eq_getElem (by omega)

theorem repeatA_scalar {z : List AVal} (h : z.all AVal.scalar = true) : ∀ n, (repeatA n z []).all AVal.scalar = true
  | 0 => rfl
  | n + 1 => by rw [repeatA, repeatA_acc, List.all_append, repeatA_scalar h n]; simpa using h

theorem buildSliceA_sound (he : EnvOk env) (hr : HRel P env okc ρ h w) {rid : Nat} {t : TypeId} {len : Nat} {parts : List (Nat × AVal)} {parts' : Array (Nat × Value)} {v : AVal}
    (hp : PartsRel ρ env parts parts'.toList) (hrid : ρ rid = none) (hn : rid < h.next) (hN : N rid) (hb : buildSliceA P h rid t len parts = some (v, h')) :
    Makes P env okc N ρ h w (Instr.buildSlice t len parts') v h' := by
  unfold buildSliceA at hb
  split at hb
  rotate_left
  · cases hb
  rename_i e hu
  cases hs : sizeA P e with
  | none => rw [hs] at hb; cases hb
  | some size =>
  cases hz : zeroA P e with
  | none => rw [hs, hz] at hb; cases hb
  | some z =>
    rw [hs, hz] at hb; simp only at hb
    split at hb
    rotate_left
    · cases hb
    rename_i hc
    simp only [Bool.and_eq_true, decide_eq_true_eq] at hc
    obtain ⟨hzl, hle⟩ := hc
    have hle := ble_le hle
    cases hf : fillA (fun i => some (i * size, size)) (repeatA len z.cells []) parts with
    | none => rw [hf] at hb; cases hb
    | some cs =>
      rw [hf] at hb; simp only at hb
      split at hb
      rotate_left
      · cases hb
      rename_i hsc
      cases hb
      obtain ⟨z', hzr, hzv⟩ := run_zero (w := w) (ρ := ρ) (env := env) hz
      have hzc := cells_rel' he hzv (zeroA_ne hz)
      -- the zeros
      have hzero : ∃ zz : Array Value, (len * size = 0 ∧ zz = #[] ∨ len * size ≠ 0 ∧ zz = z'.cells) ∧
          VRels ρ env (repeatA len z.cells []) ((Array.range (len * size)).map (zz[· % zz.size]!)).toList := by
        by_cases h0 : len * size = 0
        · refine ⟨#[], .inl ⟨h0, rfl⟩, ?_⟩
          have : repeatA len z.cells [] = [] := List.length_eq_zero_iff.1 (by rw [repeatA_len, hzl]; exact h0)
          rw [this, h0]
          have e0 : ((Array.range 0).map fun x => (#[] : Array Value)[x % (#[] : Array Value).size]!).toList = [] := by simp
          rw [e0]; exact .nil
        · refine ⟨z'.cells, .inr ⟨h0, rfl⟩, ?_⟩
          have := zeros_rel hzc len (fun hh => by rw [hzl]; rcases Nat.eq_zero_or_pos size with e | e; exact absurd (by rw [e, Nat.mul_zero]) h0; exact e)
          rw [hzl] at this; exact this
      obtain ⟨zz, hzz, hzrel⟩ := hzero
      obtain ⟨r', hr', hvr, _⟩ := fillA_sound he (place := fun i => some (i * size, size)) (place' := fun i => some (i * size, size)) (fun i r hr => hr) parts parts'.toList _ cs _ hf hzrel hp.1 hp.2
      obtain ⟨i, e1, e2, hgo⟩ := newRow_sound (N := N) (e := e) hr (scalars_one he hvr hsc) hvr hrid hn hN
      refine ⟨.slice (some ⟨w.heap.size, 0, none⟩) len len, ρ.set rid i, w.alloc (.cells r' e), ?_, ?_, hgo⟩
      · unfold Instr.buildSlice
        simp only [Sem.run_bind, run_und hu, Result.andThen_ok, run_size hs]
        rw [if_neg (by omega)]
        rcases hzz with ⟨h0, rfl⟩ | ⟨h0, rfl⟩
        · rw [if_pos h0]
          simp only [Sem.run_bind, Sem.run_pure, Result.andThen_ok, hr', newRow_run]
        · rw [if_neg h0]
          simp only [Sem.run_bind, Sem.run_pure, Result.andThen_ok, hzr, hr', newRow_run]
      · have := VRel.slcK (env := env) 0 len len (Rho.set_same ρ rid i)
        rw [e1, e2] at this; exact this

theorem wrap_small (n : Nat) (h : n ≤ 1048576) : IntKind.i64.wrap (Int.ofNat n) = (n : Int) := by
  have := ofRest_wrap .i64 n (by have : (2 : Int) ^ IntKind.i64.bits = 18446744073709551616 := by decide
                                 rw [this]; omega)
  rw [show (Int.ofNat n) = (n : Int) from rfl, ← this]
  unfold ofRest
  have : Nat.ble (hw .i64) n = false := by
    rw [Bool.eq_false_iff]; intro hh
    have := ble_le hh
    simp only [hw] at this; omega
  simp only [IntKind.signed, this]; rfl

theorem makeSliceA_sound (he : EnvOk env) (hr : HRel P env okc ρ h w) {rid : Nat} {t : TypeId} {l c v : AVal} {l' c' : Value} (hl : VRel ρ env l l') (hcv : VRel ρ env c c')
    (hrid : ρ rid = none) (hn : rid < h.next) (hN : N rid) (hb : makeSliceA P h rid t l c = some (v, h')) :
    Makes P env okc N ρ h w (Instr.makeSlice t l' c') v h' := by
  unfold makeSliceA at hb
  split at hb
  rotate_left
  · cases hb
  rename_i e ln cp hu h1 h2
  obtain ⟨k1, rfl⟩ := aNat_of h1
  obtain ⟨k2, rfl⟩ := aNat_of h2
  cases hl; cases hcv
  split at hb
  rotate_left
  · cases hb
  rename_i size bytes z hs hby hz
  split at hb
  rotate_left
  · cases hb
  rename_i hc
  cases hb
  simp only [Bool.and_eq_true, decide_eq_true_eq] at hc
  obtain ⟨⟨⟨⟨hzl, hc1⟩, hc2⟩, hc3⟩, hsc⟩ := hc
  have hc1 := ble_le hc1
  have hc2 := ble_le hc2
  have hc3 := ble_le hc3
  obtain ⟨z', hzr, hzv⟩ := run_zero (w := w) (ρ := ρ) (env := env) hz
  have hzc := cells_rel' he hzv (zeroA_ne hz)
  have hinfo : ∃ i, P.info? e = some i ∧ i.bytes = bytes := by
    unfold bytesA at hby
    cases hi : P.info? e with
    | none => rw [hi] at hby; cases hby
    | some i => rw [hi] at hby; cases hby; exact ⟨i, rfl, rfl⟩
  obtain ⟨ti, hti, htb⟩ := hinfo
  have hzero : ∃ zz : Array Value, (cp * size = 0 ∧ zz = #[] ∨ cp * size ≠ 0 ∧ zz = z'.cells) ∧
      VRels ρ env (repeatA cp z.cells []) ((Array.range (cp * size)).map (zz[· % zz.size]!)).toList := by
    by_cases h0 : cp * size = 0
    · refine ⟨#[], .inl ⟨h0, rfl⟩, ?_⟩
      have : repeatA cp z.cells [] = [] := List.length_eq_zero_iff.1 (by rw [repeatA_len, hzl]; exact h0)
      rw [this, h0]
      have e0 : ((Array.range 0).map fun x => (#[] : Array Value)[x % (#[] : Array Value).size]!).toList = [] := by simp
      rw [e0]; exact .nil
    · refine ⟨z'.cells, .inr ⟨h0, rfl⟩, ?_⟩
      have := zeros_rel hzc cp (fun hh => by rw [hzl]; rcases Nat.eq_zero_or_pos size with e | e; exact absurd (by rw [e, Nat.mul_zero]) h0; exact e)
      rw [hzl] at this; exact this
  obtain ⟨zz, hzz, hzrel⟩ := hzero
  obtain ⟨i, e1, e2, hgo⟩ := newRow_sound (N := N) (e := e) hr (scalars_one he hzrel (repeatA_scalar hsc cp)) hzrel hrid hn hN
  refine ⟨.slice (some ⟨w.heap.size, 0, none⟩) ln cp, ρ.set rid i, w.alloc (.cells ((Array.range (cp * size)).map (zz[· % zz.size]!)) e), ?_, ?_, hgo⟩
  · have w1 : IntKind.i64.wrap (Int.ofNat ln) = (ln : Int) := wrap_small ln (by omega)
    have w2 : IntKind.i64.wrap (Int.ofNat cp) = (cp : Int) := wrap_small cp hc1
    have hbc : (bytes : Int) * cp ≤ 68719476736 := by
      have : bytes * cp ≤ 68719476736 := Nat.le_trans (Nat.mul_le_mul hc2 hc1) (by decide)
      rw [← Int.natCast_mul]; omega
    have hbc' : ¬ ((bytes : Int) * (cp : Int) > 2 ^ 48) := by omega
    unfold Instr.makeSlice
    simp only [Sem.run_bind, run_und hu, Result.andThen_ok, asInt, asIntOf, Sem.run_pure, run_info hti, htb, w1, w2]
    have c1 : decide ((cp : Int) < 0) = false := by rw [decide_eq_false_iff_not]; omega
    have c2 : decide ((bytes : Int) * (cp : Int) > 2 ^ 48) = false := decide_eq_false hbc'
    have c3 : decide ((ln : Int) < 0) = false := by rw [decide_eq_false_iff_not]; omega
    have c4 : decide ((ln : Int) > (cp : Int)) = false := by rw [decide_eq_false_iff_not]; omega
    simp only [c1, c2, c3, c4, Bool.or_self, Bool.false_eq_true, if_false, Sem.run_bind, Sem.run_pure, Result.andThen_ok, run_askRoom, run_size hs, Int.toNat_natCast]
    rcases hzz with ⟨h0, rfl⟩ | ⟨h0, rfl⟩
    · rw [if_pos h0]
      simp only [Sem.run_bind, Sem.run_pure, Result.andThen_ok, newRow_run]
    · rw [if_neg h0]
      simp only [Sem.run_bind, Sem.run_pure, Result.andThen_ok, hzr, newRow_run]
  · have := VRel.slcK (env := env) 0 ln cp (Rho.set_same ρ rid i)
    rw [e1, e2] at this; exact this
end
end Go.Eng
