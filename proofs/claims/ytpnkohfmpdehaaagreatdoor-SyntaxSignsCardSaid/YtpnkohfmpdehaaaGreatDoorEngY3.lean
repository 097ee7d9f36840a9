/- The engine, part Y3: the compiled evaluator is the evaluator: what is built; any operation. -/
import Derived.Test.YtpnkohfmpdehaaaGreatDoorEngY2
set_option linter.unusedSimpArgs false
set_option linter.unusedSectionVars false
set_option linter.unusedVariables false
namespace Go.Eng

theorem takeN_spec : ∀ (n : Nat) (l r : List AVal), takeN n l = some r → l = r ++ dropN n l ∧ r.length = n
  | 0, l, r, h => by cases h; exact ⟨by cases l <;> rfl, rfl⟩
  | n + 1, v :: l, r, h => by
    unfold takeN at h
    split at h
    · rename_i r' hr
      cases h
      obtain ⟨h1, h2⟩ := takeN_spec n l r' hr
      exact ⟨by show v :: l = v :: (r' ++ dropN n l); rw [← h1], by simp [h2]⟩
    · cases h
  | n + 1, [], r, h => by cases h

theorem setAt_zero : ∀ (l b c : List AVal), l.length = b.length → setAt (b ++ c) 0 l = some (l ++ c)
  | [], [], c, _ => by cases c <;> rfl
  | v :: l, w :: b, c, h => by
    have ih := setAt_zero l b c (by simpa using h)
    show (match setAt (b ++ c) 0 l with | some r => some (v :: r) | none => none) = _
    rw [ih]; rfl
  | [], _ :: _, _, h => by simp at h
  | _ :: _, [], _, h => by simp at h

theorem setAt_mid : ∀ (a l b c : List AVal), l.length = b.length → setAt (a ++ (b ++ c)) a.length l = some (a ++ (l ++ c))
  | [], l, b, c, h => setAt_zero l b c h
  | x :: a, l, b, c, h => by
    have ih := setAt_mid a l b c h
    show (match setAt (a ++ (b ++ c)) a.length l with | some r => some (x :: r) | none => none) = _
    rw [ih]; rfl

section
variable {P : Program} {X : Cx}

theorem segF_zero (l : List AVal) (r : List Seg) (vs : Vs) (tm : T AVal) {cs : List AVal} (h : (segF (.zero l :: r)).f vs tm = some cs) : ∃ cs', (segF r).f vs tm = some cs' ∧ cs = l ++ cs' := by
  have h' : bO none (many l) ((segF r).f vs tm) = some cs := h
  rw [bO_some] at h'
  split at h'
  · rename_i cs' hc
    cases h'; exact ⟨cs', hc, rfl⟩
  · cases h'

theorem segN_spec {size : Nat} {v : AVal} {r : Option (List AVal)} {cs : List AVal} (h : segN size v r = some cs) : ∃ cs', r = some cs' ∧ cs = v.cells ++ cs' ∧ v ≠ .any ∧ v.cells.length = size := by
  unfold segN at h
  rw [bB_eq] at h
  split at h
  · rename_i hc
    rw [Bool.and_eq_true, notAny_eq, lenL_eq, cellsK_eq] at hc
    rw [bO_some] at h
    split at h
    · cases h; exact ⟨_, rfl, by rw [cellsK_eq], hc.1, Nat.eq_of_beq_eq_true hc.2⟩
    · cases h
  · cases h

theorem segF_part (x : Acc) (size : Nat) (r : List Seg) (vs : Vs) (tm : T AVal) {cs : List AVal} (h : (segF (.part x size :: r)).f vs tm = some cs) :
    ∃ cs', (segF r).f vs tm = some cs' ∧ cs = (x.f vs tm).cells ++ cs' ∧ x.f vs tm ≠ .any ∧ (x.f vs tm).cells.length = size := by
  by_cases h1 : size = 1
  · subst h1
    have h' : seg1 (x.f vs tm) ((segF r).f vs tm) = some cs := h
    unfold seg1 at h'
    rw [bB_eq, scal_eq] at h'
    split at h'
    · rename_i hs
      rw [bO_some] at h'
      split at h'
      · rename_i cs' hc
        cases h'
        refine ⟨cs', hc, by rw [scalar_cells hs]; rfl, ?_, by rw [scalar_cells hs]; rfl⟩
        intro hany; rw [hany] at hs; cases hs
      · cases h'
    · exact segN_spec h'
  · have h' : segN size (x.f vs tm) ((segF r).f vs tm) = some cs := by
      match size, h1, h with
      | 0, _, h => exact h
      | n + 2, _, h => exact h
    exact segN_spec h'

theorem placed_cons {place : Nat → Option (Nat × Nat)} {i : Nat} {x : Operand} {l : List (Nat × Operand)} {r : List (Nat × Nat × Operand)} (h : placed place ((i, x) :: l) = some r) :
    ∃ off size r', place i = some (off, size) ∧ placed place l = some r' ∧ r = (off, size, x) :: r' := by
  unfold placed at h
  split at h
  · rename_i off size r' h1 h2
    cases h; exact ⟨off, size, r', h1, h2, rfl⟩
  · cases h

section
variable {e : Env} {vs : Vs} {tm : T AVal} {loc : Loc} (hE : EnvRel e vs tm loc)
include hE

theorem segs_ok {place : Nat → Option (Nat × Nat)} : ∀ (parts : List (Nat × Operand)) (l : List (Nat × Nat × Operand)) (pos : Nat) (z pre : List AVal) (segs : List Seg) (cs : List AVal),
    placed place parts = some l → segsOf X e l pos z = some segs → (segF segs).f vs tm = some cs → pre.length = pos →
    ∃ ps, evParts (evA X loc tm) parts = some ps ∧ fillA place (pre ++ z) ps = some (pre ++ cs)
  | [], l, pos, z, pre, segs, cs, hp, hs, hf, hl => by
    cases hp
    cases hs
    obtain ⟨cs', h1, rfl⟩ := segF_zero _ _ _ _ hf
    have : some ([] : List AVal) = some cs' := h1
    cases this
    exact ⟨[], rfl, by show some _ = some _; rw [List.append_nil]⟩
  | (i, x) :: parts, l, pos, z, pre, segs, cs, hp, hs, hf, hl => by
    obtain ⟨off, size, l', hpl, hp', rfl⟩ := placed_cons hp
    unfold segsOf at hs
    split at hs
    rotate_left
    · cases hs
    rename_i z0 s hle htk hsrc
    split at hs
    rotate_left
    · cases hs
    rename_i zm r htm hr
    have hle' := Nat.le_of_ble_eq_true hle
    obtain ⟨hz, hz0⟩ := takeN_spec _ _ _ htk
    obtain ⟨hzm, hzml⟩ := takeN_spec _ _ _ htm
    have hsv := hE.src (X := X) x
    rw [hsrc] at hsv
    obtain ⟨hev, hpos⟩ := hsv
    -- what the segment at this place says
    have key : ∀ (sg : Seg) (cs1 : List AVal), sg = segS e size s → (segF (sg :: r)).f vs tm = some cs1 →
        ∃ cs', (segF r).f vs tm = some cs' ∧ cs1 = ((acSrc e.n s).f vs tm).cells ++ cs' ∧ (acSrc e.n s).f vs tm ≠ .any ∧ ((acSrc e.n s).f vs tm).cells.length = size := by
      intro sg cs1 hsg hf1
      cases s with
      | pos p => subst hsg; exact segF_part _ _ _ _ _ hf1
      | slot t => subst hsg; exact segF_part _ _ _ _ _ hf1
      | val v =>
        unfold segS at hsg
        simp only at hsg
        cases hc : (notAny v && Nat.beq (lenL (cellsK v)) size) with
        | false => rw [hc] at hsg; subst hsg; exact segF_part _ _ _ _ _ hf1
        | true =>
          rw [hc] at hsg; subst hsg
          rw [Bool.and_eq_true, notAny_eq, lenL_eq, cellsK_eq] at hc
          obtain ⟨cs', h1, h2⟩ := segF_zero _ _ _ _ hf1
          exact ⟨cs', h1, by rw [h2, cellsK_eq]; rfl, hc.1, Nat.eq_of_beq_eq_true hc.2⟩
    have key2 : ∃ cs', (segF r).f vs tm = some cs' ∧ cs = z0 ++ (((acSrc e.n s).f vs tm).cells ++ cs') ∧ (acSrc e.n s).f vs tm ≠ .any ∧ ((acSrc e.n s).f vs tm).cells.length = size := by
      cases hs
      cases z0 with
      | nil =>
        obtain ⟨cs', h1, h2, h3, h4⟩ := key _ cs rfl hf
        exact ⟨cs', h1, h2, h3, h4⟩
      | cons w z0 =>
        obtain ⟨cs1, g1, g2⟩ := segF_zero _ _ _ _ hf
        obtain ⟨cs', h1, h2, h3, h4⟩ := key _ cs1 rfl g1
        exact ⟨cs', h1, by rw [g2, h2], h3, h4⟩
    obtain ⟨cs', c1, c2, c3, c4⟩ := key2
    obtain ⟨ps, e1, e2⟩ := segs_ok parts l' (off + size) (dropN size (dropN (off - pos) z)) (pre ++ z0 ++ ((acSrc e.n s).f vs tm).cells) r cs' hp' hr c1 (by simp [hl, hz0, c4]; omega)
    refine ⟨(i, (acSrc e.n s).f vs tm) :: ps, ?_, ?_⟩
    · have : evParts (evA X loc tm) ((i, x) :: parts) = match evA X loc tm x with | some v => (match evParts (evA X loc tm) parts with | some r => some ((i, v) :: r) | none => none) | none => none := rfl
      rw [this, hev, e1]
    · have hset : setAt (pre ++ z) off ((acSrc e.n s).f vs tm).cells = some (pre ++ z0 ++ ((acSrc e.n s).f vs tm).cells ++ dropN size (dropN (off - pos) z)) := by
        have h1 : pre ++ z = (pre ++ z0) ++ (zm ++ dropN size (dropN (off - pos) z)) := by rw [← hzm, List.append_assoc, ← hz]
        have h2 : off = (pre ++ z0).length := by simp [hl, hz0]; omega
        rw [h1, h2, setAt_mid _ _ _ _ (by rw [c4, hzml])]
        have : off - pos = (pre ++ z0).length - pos := by rw [← h2]
        rw [← this]; simp
      have hfill : fillA place (pre ++ z) ((i, (acSrc e.n s).f vs tm) :: ps) = match place i with
          | none => none
          | some (off, size) => if ((acSrc e.n s).f vs tm).cells.length = size then (match setAt (pre ++ z) off ((acSrc e.n s).f vs tm).cells with | some cs => fillA place cs ps | none => none) else none := by
        cases hv : (acSrc e.n s).f vs tm <;> first | rfl | exact absurd hv c3
      rw [hfill, hpl]
      simp only [c4, if_true, hset]
      rw [e2, c2]; simp

theorem segsFor_ok {place : Nat → Option (Nat × Nat)} {z : List AVal} {parts : List (Nat × Operand)} {segs : List Seg} (h : segsFor X e place z parts = some segs) {cs : List AVal} (hf : (segF segs).f vs tm = some cs) :
    ∃ ps, evParts (evA X loc tm) parts = some ps ∧ fillA place z ps = some cs := by
  unfold segsFor at h
  split at h
  · rename_i l hl
    exact segs_ok hE parts l 0 z [] segs cs hl h hf rfl
  · cases h

theorem kBuild_ok (t : TypeId) (parts : Array (Nat × Operand)) {k : VK} (hk : kBuild P X e t parts.toList = some k) : OpOk P X (.v k) (.build t parts) (evA X loc tm) vs tm := by
  intro h rid v hv
  show (match evParts (evA X loc tm) parts.toList with | some l => v1 h (buildA P t l) | none => none) = _
  unfold kBuild at hk
  rw [zeroK_eq, undK_eq] at hk
  split at hk
  rotate_left
  · cases hk
  rename_i z fs hz hu
  rw [placeK_eq] at hk
  split at hk
  rotate_left
  · cases hk
  rename_i segs hall hsg
  cases hk
  have hv' : bO none agO ((segF segs).f vs tm) = some v := hv
  rw [bO_some] at hv'
  split at hv'
  rotate_left
  · cases hv'
  rename_i cs hcs
  cases hv'
  obtain ⟨ps, h1, h2⟩ := segsFor_ok hE hsg hcs
  rw [h1]
  simp only [sizeK_eq] at hall
  unfold buildA
  rw [hz, hu]
  simp only [hall, if_true, h2]
  rfl

theorem kBuildSlice_ok (t : TypeId) (n : Nat) (parts : Array (Nat × Operand)) {k : AK} (hk : kBuildSlice P X e t n parts.toList = some k) : OpOk P X (.a k) (.buildSlice t n parts) (evA X loc tm) vs tm := by
  intro h rid v h' hv
  show (match evParts (evA X loc tm) parts.toList with | some l => vh (buildSliceA P h rid t n l) | none => none) = _
  unfold kBuildSlice at hk
  rw [undK_eq] at hk
  split at hk
  rotate_left
  · cases hk
  rename_i el hu
  rw [sizeK_eq, zeroK_eq] at hk
  split at hk
  rotate_left
  · cases hk
  rename_i size z hsz hz
  split at hk
  rotate_left
  · cases hk
  rename_i segs hcond hsg
  cases hk
  have hv' : bO none (slK el n h rid) ((segF segs).f vs tm) = some (v, h') := hv
  rw [bO_some] at hv'
  split at hv'
  rotate_left
  · cases hv'
  rename_i cs hcs
  obtain ⟨ps, h1, h2⟩ := segsFor_ok hE hsg hcs
  rw [h1]
  unfold slK at hv'
  rw [bB_eq, allS_eq] at hv'
  split at hv'
  rotate_left
  · cases hv'
  rename_i hall
  cases hv'
  show vh (buildSliceA P h rid t n ps) = _
  unfold buildSliceA
  rw [hu]
  simp only [hsz, hz]
  rw [if_pos hcond, h2]
  simp only [hall, if_true]
  rw [putO_eq]
  unfold rowK newRowA rowOf
  rw [lenL_eq, wrK_eq]; rfl

/-- Any operation. -/
theorem kOp_ok (hn : plainNames P = true) (op : Op) : OpOk P X (kOp P X e op) op (evA X loc tm) vs tm := by
  have gen := kGen_ok (P := P) (X := X) hE op
  unfold kOp
  split
  · split
    · rename_i a ha; exact kLoad_ok hE _ _ ha
    · exact gen
  · split
    · rename_i a x ha hx; exact kStore_ok hE _ _ _ ha hx
    · exact gen
  · split
    · rename_i x hx; exact kFieldAddr_ok hE _ _ _ hx
    · exact gen
  · split
    · rename_i x i hx hi; exact kIndexAddr_ok hE _ _ _ hx hi
    · exact gen
  · split
    · rename_i x y hx hy; exact kBin_ok hE _ _ _ _ _ hx hy
    · exact gen
  · split
    · rename_i c a b hc ha hb; exact kPick_ok hE _ _ _ hc ha hb
    · exact gen
  · split
    · rename_i x hx; exact kExtract_ok hE _ _ hx
    · exact gen
  · split
    · rename_i k hk; exact kBuild_ok hE _ _ hk
    · exact gen
  · split
    · rename_i k hk; exact kBuildSlice_ok hE _ _ _ hk
    · exact gen
  · split
    · rename_i k hk; exact kAlloc_ok hE _ hk
    · exact gen
  · split
    · rename_i x hx; exact kBox_ok hE _ _ hx
    · exact gen
  · split
    · rename_i hc
      split
      · rename_i t ts x ht hx
        split
        · rename_i a ha; exact kLen_ok hE _ hc ht hx ha
        · exact gen
      · exact gen
    · rename_i f hc
      split
      · rename_i fc l hb hl; exact kCall_ok hE hn _ hc hb hl
      · exact gen
    · exact gen
  · exact gen

end
end
end Go.Eng
