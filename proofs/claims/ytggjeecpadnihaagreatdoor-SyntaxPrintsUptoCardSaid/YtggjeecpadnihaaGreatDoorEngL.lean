/- The engine, part L: unsafe strings, maps, interfaces. -/
import Derived.Test.YtggjeecpadnihaaGreatDoorEngK
import Derived.MapKept
import Derived.Lib.UnsafeStr
set_option linter.unusedSectionVars false
set_option linter.unusedVariables false
set_option linter.unusedSimpArgs false
namespace Go.Eng

section
variable {P : Program} {env : Nat → Value} {okc : FuncId → Code → Bool} {N : Nat → Prop} {ρ ρ' : Rho} {h h' : AHeap} {w w' : World}

theorem sliceDataA_sound {ts : Array TypeId} {ty : TypeId} {x v : AVal} {cx : Value} (hx : VRel ρ env x cx) (ha : sliceDataA x = some v) :
    ∃ r, (Builtin.unsafeSliceData_ ts ty #[cx]).run P w = .ok r w ∧ VRel ρ env v r := by
  unfold sliceDataA at ha
  split at ha
  · cases ha; cases hx; exact ⟨_, rfl, .nptr⟩
  · cases ha
    cases hx with
    | slcK _ _ c hi => exact ⟨_, Lib.run_unsafeSliceData_row w ts ty _ _ _ (by omega), .ptr _ hi⟩
    | slcE _ off hi hc => rcases hc with hc | hc <;> cases hc
  · cases ha
    cases hx with
    | slcO hi h0 h1 h2 => exact ⟨_, Lib.run_unsafeSliceData_row w ts ty _ _ _ (by omega), .ptr _ hi⟩
  · cases ha

/-! ### Maps -/
theorem forIn_unit {α : Type} (g : α → PUnit → Sem (ForInStep PUnit)) : ∀ l : List α, (∀ x ∈ l, (g x ⟨⟩).run P w = .ok (.yield ⟨⟩) w) → (forIn l (⟨⟩ : PUnit) g).run P w = .ok ⟨⟩ w
  | [], _ => rfl
  | x :: l, h => by
    rw [List.forIn_cons]
    simp only [Sem.run_bind, h x (by simp), Result.andThen_ok]
    exact forIn_unit g l (fun y hy => h y (by simp [hy]))

theorem keyOk_sound : ∀ (d : Nat) (t : TypeId) (v : AVal), keyOk P d t v = true → ∀ (D : Nat), d ≤ D → ∀ (em : Bool) (x : Value), VRel ρ env v x → (Instr.checkKey em D t x).run P w = .ok () w
  | 0, t, v, h, _, _, _, _, _ => by cases h
  | d + 1, t, v, h, D, hD, em, x, hx => by
    obtain ⟨D, rfl⟩ : ∃ k, D = k + 1 := ⟨D - 1, by omega⟩
    unfold keyOk at h
    split at h
    · rename_i hu; cases hx; simp [Instr.checkKey, run_und hu]
    · rename_i k _ _ hu; cases hx; simp [Instr.checkKey, run_und hu]
    · rename_i hu; cases hx; simp [Instr.checkKey, run_und hu]
    · rename_i fs cs hu
      obtain ⟨cs', rfl, hcs⟩ := hx.of_agg
      unfold Instr.checkKey
      simp only [Sem.run_bind, run_und hu, Result.andThen_ok]
      rw [← Array.forIn_toList]
      rw [forIn_unit]
      · rfl
      · intro f hf
        have := List.all_eq_true.1 h f hf
        simp only [Bool.or_eq_true, beq_iff_eq] at this
        by_cases hn : f.name = "_"
        · simp [hn]
        · rcases this with h1 | h1
          · exact absurd h1 hn
          · cases hp : partA P f.type cs f.offset with
            | none => rw [hp] at h1; cases h1
            | some a =>
              rw [hp] at h1
              obtain ⟨y, hy, hvy⟩ := partA_sound (P := P) (w := w) hcs hp
              have := keyOk_sound d f.type a h1 D (by omega) em y hvy
              simp [hn, hy, this]
    · cases h

theorem sameNow_equal {kT : TypeId} {kd : TypeDesc} {k x : Value} {b : Bool} (hu : P.underlying kT = some kd) (h : Instr.sameNow kd k x = some b) : (Op.equal kT k x).run P w = .ok b w := by
  unfold Op.equal
  have hd : Op.maxDepth = (Op.maxDepth - 1) + 1 := by decide
  rw [hd]
  unfold Instr.sameNow at h
  split at h
  · rename_i i k a k' b'
    split at h
    · rename_i hk; subst hk; cases h; simp [Op.equalIn, run_und hu]
    · cases h
  · cases h; simp [Op.equalIn, run_und hu]
  · cases h; simp [Op.equalIn, run_und hu]
  · cases h

theorem findNow_asking {kT : TypeId} {kd : TypeDesc} {k : Value} (hu : P.underlying kT = some kd) : ∀ (es : List MapEntry) (i : Nat) (r : Option (Nat × Value)),
    Instr.findNow kd k es i = some r → (Instr.findAsking kT k es i).run P w = .ok r w
  | [], i, r, h => by cases h; rfl
  | e :: es, i, r, h => by
    unfold Instr.findNow at h
    unfold Instr.findAsking
    split at h
    · rename_i hs
      cases h
      simp [sameNow_equal (P := P) (w := w) hu hs]
    · rename_i hs
      simp [sameNow_equal (P := P) (w := w) hu hs, findNow_asking hu es (i + 1) r h]
    · cases h

theorem findKey_asking {kT : TypeId} {kd : TypeDesc} {k : Value} {es : List MapEntry} {r : Option (Nat × Value)} (hu : P.underlying kT = some kd)
    (h : (Instr.findAsking kT k es).run P w = .ok r w) : (Instr.findKey kT k es).run P w = .ok r w := by
  simp only [Instr.findKey, Sem.run_bind, run_und hu, Result.andThen_ok]
  split
  · rename_i r' hr'
    have := findNow_asking (P := P) (w := w) hu es 0 r' hr'
    rw [this] at h
    simpa using h
  · exact h

/-- What finding a key comes to. -/
def Found (ρ : Rho) (env : Nat → Value) (es : List (AVal × AVal × Nat)) (es' : List MapEntry) (i : Nat) (r : Option (Nat × AVal × Nat)) (r' : Option (Nat × Value)) : Prop :=
  match r with
  | none => r' = none
  | some (j, v, _) => ∃ x n e, r' = some (j, x) ∧ VRel ρ env v x ∧ j = i + n ∧ es'[n]? = some e ∧ VRel ρ env (keyAt es n) e.key

theorem findA_sound {kT : TypeId} {k : AVal} {ck : Value} (hk : VRel ρ env k ck) : ∀ (es : List (AVal × AVal × Nat)) (es' : List MapEntry) (i : Nat) (r : Option (Nat × AVal × Nat)),
    findA P kT k es i = some r → EntRel env ρ es es' → ∃ r', (Instr.findAsking kT ck es' i).run P w = .ok r' w ∧ Found ρ env es es' i r r'
  | [], es', i, r, h, he => by
    cases h
    cases es' with
    | nil => exact ⟨none, rfl, rfl⟩
    | cons _ _ => exact he.elim
  | (k', v, born) :: es, es', i, r, h, he => by
    cases es' with
    | nil => exact he.elim
    | cons e es' =>
      obtain ⟨e1, e2, e3, e4⟩ := he
      unfold findA at h
      unfold Instr.findAsking
      cases hq : equalA P [] 40 kT k k' with
      | none => rw [hq] at h; cases h
      | some b =>
        rw [hq] at h
        have hrun := equalA_sound (w := w) (fs := []) (fun f hf => by cases hf) 40 kT k k' b hq Op.maxDepth (by decide) ck e.key hk e1
        have hrun' : (Op.equal kT ck e.key).run P w = .ok b w := hrun
        cases b with
        | true =>
          cases h
          exact ⟨some (i, e.val), by simp [hrun'], e.val, 0, e, rfl, e2, rfl, rfl, e1⟩
        | false =>
          simp only at h
          obtain ⟨r', h1, h2⟩ := findA_sound hk es es' (i + 1) r h e4
          refine ⟨r', by simp [hrun', h1], ?_⟩
          unfold Found at h2 ⊢
          split
          · simpa using h2
          · simp only at h2
            obtain ⟨x, n, e', a1, a2, a3, a4, a5⟩ := h2
            exact ⟨x, n + 1, e', a1, a2, by omega, by simpa using a4, a5⟩

theorem lookupA_sound (hr : HRel P env okc ρ h w) {t : TypeId} {x k v : AVal} {cx ck : Value} {ok : Bool} (hx : VRel ρ env x cx) (hk : VRel ρ env k ck)
    (ha : lookupA P h t x k ok = some v) : ∃ r, (Instr.lookup t cx ck ok).run P w = .ok r w ∧ VRel ρ env v r := by
  unfold lookupA at ha
  split at ha
  rotate_left
  · cases ha
  rename_i kT eT hu
  split at ha
  rotate_left
  · cases ha
  rename_i hko
  have hck := fun em => keyOk_sound (w := w) 40 kT k hko 10000 (by decide) em ck hk
  cases hz : zeroA P eT with
  | none => rw [hz] at ha; cases ha
  | some z =>
    rw [hz] at ha; simp only at ha
    obtain ⟨z', hz1, hz2⟩ := run_zero (w := w) (ρ := ρ) (env := env) hz
    obtain ⟨kd, hkd⟩ : ∃ kd, P.underlying kT = some kd := by
      cases hkd : P.underlying kT with
      | none => unfold keyOk at hko; rw [hkd] at hko; simp at hko
      | some kd => exact ⟨kd, rfl⟩
    split at ha
    · cases hx
      cases ha
      have hf : (Instr.findKey kT ck []).run P w = .ok none w := findKey_asking hkd rfl
      refine ⟨if ok then .tuple #[z', .bool false] else z', ?_, ?_⟩
      · simp [Instr.lookup, run_und hu, hck, hf, hz1]
      · cases ok
        · exact hz2
        · exact (VRels.cons hz2 (.cons (.bool false) .nil)).tup
    · rename_i b
      cases hx with | map hi =>
      split at ha
      rotate_left
      · cases ha
      rename_i es clock hb
      obtain ⟨es', hw, he⟩ := map_of hr hb hi
      cases hfa : findA P kT k es 0 with
      | none => rw [hfa] at ha; cases ha
      | some r =>
        rw [hfa] at ha
        obtain ⟨r', h1, h2⟩ := findA_sound (w := w) hk es es'.toList 0 r hfa he
        have hf := findKey_asking hkd h1
        cases r with
        | none =>
          cases ha
          have h2 : r' = none := h2
          subst h2
          refine ⟨if ok then .tuple #[z', .bool false] else z', ?_, ?_⟩
          · simp [Instr.lookup, run_und hu, run_getObj_map hw, hck, hf, hz1]
          · cases ok
            · exact hz2
            · exact (VRels.cons hz2 (.cons (.bool false) .nil)).tup
        | some p =>
          obtain ⟨j, v', born⟩ := p
          cases ha
          obtain ⟨y, n, e, rfl, a2, _⟩ := h2
          refine ⟨if ok then .tuple #[y, .bool true] else y, ?_, ?_⟩
          · simp [Instr.lookup, run_und hu, run_getObj_map hw, hck, hf]
          · cases ok
            · exact a2
            · exact (VRels.cons a2 (.cons (.bool true) .nil)).tup
    · cases ha

theorem EntRel.push : ∀ {es : List (AVal × AVal × Nat)} {es' : List MapEntry} {k v : AVal} {n : Nat} {e : MapEntry}, EntRel env ρ es es' → VRel ρ env k e.key → VRel ρ env v e.val → e.born = n →
    EntRel env ρ (es ++ [(k, v, n)]) (es' ++ [e])
  | [], [], _, _, _, _, _, h1, h2, h3 => ⟨h1, h2, h3, trivial⟩
  | [], _ :: _, _, _, _, _, h, _, _, _ => h.elim
  | (_, _, _) :: _, [], _, _, _, _, h, _, _, _ => h.elim
  | (_, _, _) :: _, _ :: _, _, _, _, _, h, h1, h2, h3 => ⟨h.1, h.2.1, h.2.2.1, EntRel.push h.2.2.2 h1 h2 h3⟩

theorem EntRel.modify {k v : AVal} {ck cv : Value} (hk : VRel ρ env k ck) (hv : VRel ρ env v cv) : ∀ {es : List (AVal × AVal × Nat)} {es' : List MapEntry} (i : Nat), EntRel env ρ es es' →
    EntRel env ρ (modAt (fun e => (k, v, e.2.2)) es i) (es'.modify i fun e => { e with key := ck, val := cv })
  | [], [], i, _ => by cases i <;> exact trivial
  | [], _ :: _, _, h => h.elim
  | (_, _, _) :: _, [], _, h => h.elim
  | (_, _, _) :: _, e :: es', 0, h => ⟨hk, hv, h.2.2.1, h.2.2.2⟩
  | (_, _, _) :: es, e :: es', i + 1, h => by
    simp only [modAt, List.modify_succ_cons]
    exact ⟨h.1, h.2.1, h.2.2.1, EntRel.modify hk hv i h.2.2.2⟩

theorem EntRel.erase : ∀ {es : List (AVal × AVal × Nat)} {es' : List MapEntry} (i : Nat), EntRel env ρ es es' → EntRel env ρ (dropAt es i) (es'.eraseIdx i)
  | [], [], i, _ => by cases i <;> exact trivial
  | [], _ :: _, _, h => h.elim
  | (_, _, _) :: _, [], _, h => h.elim
  | (_, _, _) :: _, e :: es', 0, h => h.2.2.2
  | (_, _, _) :: es, e :: es', i + 1, h => by
    simp only [dropAt, List.eraseIdx_cons_succ]
    exact ⟨h.1, h.2.1, h.2.2.1, EntRel.erase i h.2.2.2⟩

theorem byteArr_beq (a : ByteArray) : (a == a) = true := by
  first
    | exact beq_self_eq_true a
    | exact decide_eq_true rfl
    | (obtain ⟨d⟩ := a; exact beq_self_eq_true d)

theorem sameKs_sound {a k : AVal} {x y : Value} {n : Nat} (h : sameKs [a] [k] = true) (ha : VRel ρ env a x) (hk : VRel ρ env k y) : Instr.sameBits n x y = true := by
  unfold sameKs at h
  split at h
  · rename_i heq _; cases heq
  · rename_i heq heq'; cases heq; cases heq'; cases ha; cases hk
    simp only [Bool.and_eq_true, decide_eq_true_eq, eqI_eq, beq_iff_eq] at h
    obtain ⟨⟨rfl, rfl⟩, _⟩ := h
    simp [Instr.sameBits]
  · rename_i heq heq'; cases heq; cases heq'; cases ha; cases hk
    simp only [Bool.and_eq_true] at h
    obtain ⟨rfl, rfl⟩ := strEq_of h.1
    simp only [Instr.sameBits]
    exact byteArr_beq _
  · rename_i heq heq'; cases heq; cases heq'; cases ha; cases hk
    simp only [Bool.and_eq_true, beq_iff_eq] at h
    obtain ⟨rfl, _⟩ := h
    simp [Instr.sameBits]
  · cases h

theorem sameKs_split : ∀ {a k : AVal} {l l' : List AVal}, sameKs (a :: l) (k :: l') = true → sameKs [a] [k] = true ∧ sameKs l l' = true := by
  intro a k l l' h
  unfold sameKs at h
  split at h
  · rename_i heq _; cases heq
  · rename_i heq heq'; cases heq; cases heq'
    simp only [Bool.and_eq_true] at h
    exact ⟨by simp only [sameKs, Bool.and_true, Bool.and_eq_true]; exact h.1, h.2⟩
  · rename_i heq heq'; cases heq; cases heq'
    simp only [Bool.and_eq_true] at h
    exact ⟨by simp only [sameKs, Bool.and_true]; exact h.1, h.2⟩
  · rename_i heq heq'; cases heq; cases heq'
    simp only [Bool.and_eq_true] at h
    exact ⟨by simp only [sameKs, Bool.and_true]; exact h.1, h.2⟩
  · cases h

theorem sameKs_list {n : Nat} : ∀ {l l' : List AVal} {xs ys : List Value}, sameKs l l' = true → VRels ρ env l xs → VRels ρ env l' ys →
    xs.length = ys.length ∧ ((xs.zip ys).all fun (x, y) => Instr.sameBits n x y) = true
  | [], [], xs, ys, _, hx, hy => by rw [hx.nil_iff, hy.nil_iff]; exact ⟨rfl, rfl⟩
  | [], _ :: _, _, _, h, _, _ => by simp [sameKs] at h
  | a :: _, [], _, _, h, _, _ => by cases a <;> simp [sameKs] at h
  | a :: l, k :: l', xs, ys, h, hx, hy => by
    obtain ⟨x, r, rfl, hx1, hx2⟩ := hx.uncons
    obtain ⟨y, s, rfl, hy1, hy2⟩ := hy.uncons
    obtain ⟨h1, h2⟩ := sameKs_split h
    obtain ⟨e1, e2⟩ := sameKs_list (n := n) h2 hx2 hy2
    refine ⟨by simp [e1], ?_⟩
    simp only [List.zip_cons_cons, List.all_cons, Bool.and_eq_true]
    exact ⟨sameKs_sound h1 hx1 hy1, e2⟩

theorem sameKey_sound {a k : AVal} {x y : Value} (h : sameKey a k = true) (ha : VRel ρ env a x) (hk : VRel ρ env k y) : Instr.sameBits 10000 x y = true := by
  unfold sameKey at h
  split at h
  · obtain ⟨xs, rfl, hxs⟩ := ha.of_agg
    obtain ⟨ys, rfl, hys⟩ := hk.of_agg
    obtain ⟨e1, e2⟩ := sameKs_list (n := 9999) h hxs hys
    unfold Instr.sameBits
    simp only [List.size_toArray, e1, beq_self_eq_true, Bool.true_and]
    exact e2
  · exact sameKs_sound h ha hk

theorem key_und {kT : TypeId} {k : AVal} (h : keyOk P 40 kT k = true) : ∃ kd, P.underlying kT = some kd := by
  cases hkd : P.underlying kT with
  | none => unfold keyOk at h; rw [hkd] at h; simp at h
  | some kd => exact ⟨kd, rfl⟩

theorem mapUpdateA_sound (hr : HRel P env okc ρ h w) {t : TypeId} {m k v : AVal} {cm ck cv : Value} (hm : VRel ρ env m cm) (hk : VRel ρ env k ck) (hv : VRel ρ env v cv)
    (ha : mapUpdateA P h t m k v = some h') : ∃ w', (Instr.mapUpdate t cm ck cv).run P w = .ok () w' ∧ Go' P env okc N ρ h w ρ h' w' := by
  unfold mapUpdateA at ha
  split at ha
  rotate_left
  · cases ha
  rename_i kT eT b hu
  split at ha
  rotate_left
  · cases ha
  rename_i hko
  have hck := fun em => keyOk_sound (w := w) 40 kT k hko 10000 (by decide) em ck hk
  obtain ⟨kd, hkd⟩ := key_und hko
  cases hm with | map hi =>
  rename_i i
  split at ha
  rotate_left
  · cases ha
  rename_i es clock hb
  obtain ⟨es', hw, he⟩ := map_of hr hb hi
  cases hfa : findA P kT k es 0 with
  | none => rw [hfa] at ha; cases ha
  | some r =>
    rw [hfa] at ha
    obtain ⟨r', h1, h2⟩ := findA_sound (w := w) hk es es'.toList 0 r hfa he
    have hf := findKey_asking hkd h1
    cases r with
    | none =>
      cases ha
      have h2 : r' = none := h2
      subst h2
      refine ⟨setAt' w i.blk (.map (es'.push { key := ck, val := cv, born := clock }) (clock + 1)), ?_, ?_⟩
      · simp [Instr.mapUpdate, run_und hu, run_getObj_map hw, hck, hf, MapKept.run_setObj_map _ hw, setAt']
      · refine Go'.put hr hb ⟨rfl, rfl⟩ hi ⟨_, rfl, ?_⟩
        simp only [Array.toList_push]
        exact he.push hk hv rfl
    | some p =>
      obtain ⟨j, v', born⟩ := p
      obtain ⟨y, n, e, rfl, a2, a3, a4, a5⟩ := h2
      obtain rfl : j = n := by omega
      simp only at ha
      split at ha
      rotate_left
      · cases ha
      rename_i hsk
      cases ha
      have hsb := sameKey_sound hsk a5 hk
      refine ⟨setAt' w i.blk (.map (es'.modify j fun e => { e with key := ck, val := cv }) clock), ?_, ?_⟩
      · have a4' : es'[j]? = some e := by simpa using a4
        simp [Instr.mapUpdate, run_und hu, run_getObj_map hw, hck, hf, MapKept.run_setObj_map _ hw, setAt', a4', Instr.keyThatStays, hsb]
      · refine Go'.put hr hb ⟨rfl, rfl⟩ hi ⟨_, rfl, ?_⟩
        rw [Array.toList_modify]
        exact he.modify hk hv j

theorem deleteA_sound (hr : HRel P env okc ρ h w) {t ty : TypeId} {ts : List TypeId} {m k : AVal} {cm ck : Value} (hm : VRel ρ env m cm) (hk : VRel ρ env k ck)
    (ha : deleteA P h t m k = some h') : ∃ w', (Builtin.delete_ ⟨t :: ts⟩ ty #[cm, ck]).run P w = .ok (.tuple #[]) w' ∧ Go' P env okc N ρ h w ρ h' w' := by
  unfold deleteA at ha
  split at ha
  rotate_right
  · cases ha
  · rename_i kT eT hu
    split at ha
    rotate_left
    · cases ha
    rename_i hko
    cases ha
    have hck := fun em => keyOk_sound (w := w) 40 kT k hko 10000 (by decide) em ck hk
    cases hm
    exact ⟨w, by simp [Builtin.delete_, run_und hu, hck], .refl hr⟩
  · rename_i kT eT b hu
    split at ha
    rotate_left
    · cases ha
    rename_i hko
    have hck := fun em => keyOk_sound (w := w) 40 kT k hko 10000 (by decide) em ck hk
    obtain ⟨kd, hkd⟩ := key_und hko
    cases hm with | map hi =>
    rename_i i
    split at ha
    rotate_left
    · cases ha
    rename_i es clock hb
    obtain ⟨es', hw, he⟩ := map_of hr hb hi
    cases hfa : findA P kT k es 0 with
    | none => rw [hfa] at ha; cases ha
    | some r =>
      rw [hfa] at ha
      obtain ⟨r', h1, h2⟩ := findA_sound (w := w) hk es es'.toList 0 r hfa he
      have hf := findKey_asking hkd h1
      cases r with
      | none =>
        cases ha
        have h2 : r' = none := h2
        subst h2
        refine ⟨setAt' w i.blk (.map es' clock), ?_, ?_⟩
        · simp [Builtin.delete_, run_und hu, run_getObj_map hw, hck, hf, MapKept.run_setObj_map _ hw, setAt']
        · rw [setAt'_same hw]; exact .refl hr
      | some p =>
        obtain ⟨j, v', born⟩ := p
        obtain ⟨y, n, e, rfl, a2, a3, a4, a5⟩ := h2
        obtain rfl : j = n := by omega
        cases ha
        refine ⟨setAt' w i.blk (.map (es'.eraseIdxIfInBounds j) clock), ?_, ?_⟩
        · simp [Builtin.delete_, run_und hu, run_getObj_map hw, hck, hf, MapKept.run_setObj_map _ hw, setAt']
        · refine Go'.put hr hb ⟨rfl, rfl⟩ hi ⟨_, rfl, ?_⟩
          have hjs : j < es'.size := by
            have := (List.getElem?_eq_some_iff.1 a4).1
            simpa using this
          have : (es'.eraseIdxIfInBounds j).toList = es'.toList.eraseIdx j := by
            unfold Array.eraseIdxIfInBounds
            rw [dif_pos hjs]; simp
          rw [this]
          exact he.erase j

end
end Go.Eng
