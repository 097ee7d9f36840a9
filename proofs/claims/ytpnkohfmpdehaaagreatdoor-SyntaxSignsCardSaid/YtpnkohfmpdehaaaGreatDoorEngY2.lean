/- The engine, part Y2: the compiled evaluator is the evaluator: operations. -/
import Derived.Test.YtpnkohfmpdehaaaGreatDoorEngY1
set_option linter.unusedSimpArgs false
set_option linter.unusedSectionVars false
set_option linter.unusedVariables false
namespace Go.Eng

section
variable {P : Program} {X : Cx}

def OpOk (P : Program) (X : Cx) (o : OpK) (op : Op) (ev : Operand → Option AVal) (vs : Vs) (tm : T AVal) : Prop :=
  match o with
  | .v g => ∀ h rid v, g.f vs tm h = some v → execA P X ev h rid op = some (.val v h)
  | .a g => ∀ h rid v h', g.f vs tm h rid = some (v, h') → execA P X ev h rid op = some (.val v h')
  | .s g => ∀ h rid h', g.f vs tm h = some h' → execA P X ev h rid op = some (.val undefA h')
  | .call f g => ∀ h rid, execA P X ev h rid op = some (.enter (.fn f) (g.f vs tm) h)
  | .g g => ∀ h rid, g.f vs tm h rid = execA P X ev h rid op

section
variable {e : Env} {vs : Vs} {tm : T AVal} {loc : Loc} (hE : EnvRel e vs tm loc)
include hE

theorem kGen_ok (op : Op) : OpOk P X (kGen P X e op) op (evA X loc tm) vs tm := by
  intro h rid
  show (compOp P X op).f (evK X e vs tm) h rid = (compOp P X op).f (evA X loc tm) h rid
  rw [hE.evK]

/-! ### loads and stores -/
omit hE in
theorem ldS_eq {t : TypeId} (ht : aggA P t = some false) (h : AHeap) (a : AVal) : ldS h a = match a with | .ptr b o => loadA P h t b o | _ => none := by
  unfold ldS
  rw [onPtr_eq]
  cases a <;> try rfl
  rename_i b o
  show ld2 h b o = loadA P h t b o
  unfold ld2 loadA
  rw [onRow_eq, getO_eq, ht]
  cases h.get b with
  | none => rfl
  | some ob => cases ob <;> first | rfl | exact getV_eq _ _

theorem kLoad_ok (t : TypeId) (x : Operand) {a : Acc} (ha : accOf X e x = some a) : OpOk P X (.v (kLoad P t a)) (.load t x) (evA X loc tm) vs tm := by
  intro h rid v hv
  show (match evA X loc tm x with | some (.ptr b o) => v1 h (loadA P h t b o) | _ => none) = _
  rw [hE.acc ha]
  unfold kLoad at hv
  rw [aggK_eq] at hv
  have key : (match a.f vs tm with | .ptr b o => loadA P h t b o | _ => none) = some v := by
    split at hv
    · rename_i ht
      rw [← ldS_eq ht]; exact hv
    · have hv' : ldG P t h (a.f vs tm) = some v := hv
      unfold ldG at hv'
      rw [onPtr_eq] at hv'
      cases hx : a.f vs tm <;> rw [hx] at hv' <;> first | exact hv' | cases hv'
  cases hx : a.f vs tm <;> rw [hx] at key <;> first | cases key | skip
  rename_i b o
  have key' : loadA P h t b o = some v := key
  show v1 h (loadA P h t b o) = _
  rw [key']; rfl

omit hE in
theorem scalar_cells {v : AVal} (h : v.scalar = true) : v.cells = [v] := by cases v <;> first | rfl | cases h

omit hE in
theorem stS_ok {t : TypeId} (ht : sizeA P t = some 1) (h h' : AHeap) (v a : AVal) : stS P t h v a = some h' → (match a with | .ptr b o => storeA P h t b o v | _ => none) = some h' := by
  intro hx
  unfold stS at hx
  rw [bB_eq, scal_eq] at hx
  split at hx
  · rename_i hs
    rw [onPtr_eq] at hx
    cases a <;> first | cases hx | skip
    rename_i b o
    have hx : st2 h v b o = some h' := hx
    unfold st2 at hx
    rw [onRow_eq, getO_eq] at hx
    show storeA P h t b o v = _
    unfold storeA putCells
    rw [ht, scalar_cells hs]
    cases hg : h.get b with
    | none => rw [hg] at hx; cases hx
    | some ob =>
      rw [hg] at hx
      cases ob <;> first | cases hx | skip
      rename_i e n op ro cs
      have hx' : st3 h b o v e n op ro cs = some h' := hx
      unfold st3 at hx'
      cases ro with
      | true => cases hx'
      | false =>
        simp only [bB] at hx'
        cases hb : Nat.ble (Nat.succ o) n with
        | false => rw [hb] at hx'; cases hx'
        | true =>
          rw [hb] at hx'
          have hle := Nat.le_of_ble_eq_true hb
          cases hx'
          have : (decide (o + 1 ≤ n) && ([v] : List AVal).all AVal.scalar) = true := by
            simp [hs]; exact hle
          simp only [List.length_singleton, if_true]
          rw [if_pos this, putO_eq, setV_eq]; rfl
  · unfold stG at hx
    rw [onPtr_eq] at hx
    cases a <;> first | exact hx | cases hx

theorem kStore_ok (t : TypeId) (x y : Operand) {a b : Acc} (ha : accOf X e x = some a) (hb : accOf X e y = some b) : OpOk P X (.s (kStore P t a b)) (.store t x y) (evA X loc tm) vs tm := by
  intro h rid h' hv
  show (match evA X loc tm x, evA X loc tm y with | some (.ptr b o), some v => h1 (storeA P h t b o v) | _, _ => none) = _
  rw [hE.acc ha, hE.acc hb]
  have key : (match a.f vs tm with | .ptr c o => storeA P h t c o (b.f vs tm) | _ => none) = some h' := by
    unfold kStore at hv
    rw [sizeK_eq] at hv
    split at hv
    · rename_i ht
      exact stS_ok ht h h' _ _ hv
    · have hv' : stG P t h (b.f vs tm) (a.f vs tm) = some h' := hv
      unfold stG at hv'
      rw [onPtr_eq] at hv'
      cases hx : a.f vs tm <;> rw [hx] at hv' <;> first | exact hv' | cases hv'
  cases hx : a.f vs tm <;> rw [hx] at key <;> first | cases key | skip
  rename_i c o
  have key' : storeA P h t c o (b.f vs tm) = some h' := key
  show h1 (storeA P h t c o (b.f vs tm)) = _
  rw [key']; rfl

/-! ### addresses -/
theorem kFieldAddr_ok (t : TypeId) (x : Operand) (i : Nat) {a : Acc} (ha : accOf X e x = some a) : OpOk P X (.v (kFieldAddr P t a i)) (.fieldAddr t x i) (evA X loc tm) vs tm := by
  intro h rid v hv
  show (match evA X loc tm x with | some w => v1 h (fieldAddrA P t w i) | none => none) = _
  rw [hE.acc ha]
  show v1 h (fieldAddrA P t (a.f vs tm) i) = _
  have key : fieldAddrA P t (a.f vs tm) i = some v := by
    unfold kFieldAddr at hv
    rw [fieldK_eq] at hv
    unfold fieldAddrA
    split at hv
    · rename_i f hf
      rw [hf]
      rw [sizeK_eq] at hv
      split at hv
      · rename_i n hn
        have hv' : onPtr (fa2 f.offset) noneA (a.f vs tm) = some v := hv
        rw [onPtr_eq] at hv'
        cases hx : a.f vs tm <;> rw [hx] at hv' <;> first | cases hv' | skip
        simp only [hn]
        rfl
      · cases hv
    · cases hv
  rw [key]; rfl

theorem kIndexAddr_ok (t : TypeId) (x y : Operand) {a i : Acc} (ha : accOf X e x = some a) (hi : accOf X e y = some i) : OpOk P X (.v (kIndexAddr P t a i)) (.indexAddr t x y) (evA X loc tm) vs tm := by
  intro h rid v hv
  show (match evA X loc tm x, evA X loc tm y with | some v, some n => v1 h (indexAddrA P t v n) | _, _ => none) = _
  rw [hE.acc ha, hE.acc hi]
  show v1 h (indexAddrA P t (a.f vs tm) (i.f vs tm)) = _
  have key : indexAddrA P t (a.f vs tm) (i.f vs tm) = some v := by
    unfold kIndexAddr at hv
    rw [undK_eq] at hv
    split at hv
    · rename_i el hel
      rw [sizeK_eq] at hv
      split at hv
      · rename_i size hsz
        have hv' : ixS size (i.f vs tm) (a.f vs tm) = some v := hv
        unfold ixS at hv'
        rw [onSlc_eq] at hv'
        cases hx : a.f vs tm <;> rw [hx] at hv' <;> first | cases hv' | skip
        rename_i b o n c
        have hv2 : ix2 size (i.f vs tm) b o n c = some v := hv'
        unfold ix2 at hv2
        rw [onInt_eq] at hv2
        cases hy : i.f vs tm <;> rw [hy] at hv2 <;> first | cases hv2 | skip
        rename_i k m
        cases m with
        | negSucc m => cases hv2
        | ofNat m =>
          have hv3 : ix3 size b o n m = some v := hv2
          unfold ix3 at hv3
          rw [bB_eq] at hv3
          unfold indexAddrA
          simp only [aNat, hel, hsz]
          exact hv3
      · cases hv
    · exact hv
  rw [key]; rfl

/-! ### whole numbers -/
omit hE in
theorem sameK_eq (k k' : IntKind) : sameK k k' = true ↔ k = k' := by cases k <;> cases k' <;> simp [sameK, kNum]

omit hE in
theorem wrapF_small (k : IntKind) (m : Nat) (h : m ≤ mxK k) : wrapF k (.ofNat m) = .ofNat m := by
  rw [wrapF_eq]
  have hw0 : (m : Int) < hw k := by
    unfold mxK at h
    have : 0 < hw k := by cases k <;> decide
    have h' : m ≤ hw k - 1 := h
    omega
  unfold IntKind.wrap
  cases k <;> simp [hw, IntKind.bits, IntKind.signed] at hw0 ⊢ <;> omega

omit hE in
theorem addI_eq (k : IntKind) (x y : Int) : addI k x y = wrapF k (Int.add x y) := by
  cases x with
  | negSucc m => rfl
  | ofNat m =>
    cases y with
    | negSucc n => rfl
    | ofNat n =>
      show bB (wrapF k (Int.add (.ofNat m) (.ofNat n))) (.ofNat (Nat.add m n)) (Nat.ble (Nat.add m n) (mxK k)) = _
      cases hb : Nat.ble (Nat.add m n) (mxK k) with
      | false => rfl
      | true =>
        have := Nat.le_of_ble_eq_true hb
        show Int.ofNat (m + n) = wrapF k (.ofNat (m + n))
        exact (wrapF_small k _ this).symm

omit hE in
theorem subI_eq (k : IntKind) (x y : Int) : subI k x y = wrapF k (Int.add x (Int.neg y)) := by
  cases x with
  | negSucc m => rfl
  | ofNat m =>
    cases y with
    | negSucc n => rfl
    | ofNat n =>
      show bB (wrapF k (Int.add (.ofNat m) (Int.neg (.ofNat n)))) (.ofNat (Nat.sub m n)) (Nat.ble n m && Nat.ble m (mxK k)) = _
      cases hb : (Nat.ble n m && Nat.ble m (mxK k)) with
      | false => rfl
      | true =>
        rw [Bool.and_eq_true] at hb
        have h1 := Nat.le_of_ble_eq_true hb.1
        have h2 := Nat.le_of_ble_eq_true hb.2
        have e : Int.add (.ofNat m) (Int.neg (.ofNat n)) = .ofNat (m - n) := by
          show (m : Int) + -(n : Int) = ((m - n : Nat) : Int)
          omega
        rw [e, wrapF_small k _ (by omega)]; rfl

omit hE in
theorem arK_eq (op : BinOp) (k k' : IntKind) (a b : Int) : (isShift op = true ∨ k = k') → arK op k a b = (match op with
    | .shl => shiftA .shl k a b
    | .shr => shiftA .shr k a b
    | op => if k = k' then arithA op k a b else none) := by
  intro h
  cases op <;> simp [isShift] at h <;> first | rfl | (subst h; simp [arK, rAdd, rSub, rEq, rNe, rLt, rLe, rGt, rGe, arithA, addI_eq, subI_eq])

omit hE in
theorem biS_ok (op : BinOp) (t : TypeId) (xo yo : Operand) (x y : AVal) (v : AVal) (h : biS (arK op) (isShift op) (binA P X.facts op t xo yo) y x = some v) : binA P X.facts op t xo yo x y = some v := by
  unfold biS at h
  rw [onInt_eq] at h
  split at h
  rotate_left
  · exact h
  rename_i k n
  unfold bi2 at h
  rw [onInt_eq] at h
  split at h
  rotate_left
  · exact h
  rename_i k' n'
  unfold bi4 at h
  rw [bB_eq] at h
  split at h
  rotate_left
  · cases h
  rename_i hs
  rw [Bool.or_eq_true, sameK_eq] at hs
  rw [arK_eq op k k' n n' hs] at h
  exact h

theorem kBin_ok (op : BinOp) (t : TypeId) (x y : Operand) (yt : TypeId) {a b : Acc} (ha : accOf X e x = some a) (hb : accOf X e y = some b) : OpOk P X (.v (kBin P X op t x y a b)) (.binOp op t x y yt) (evA X loc tm) vs tm := by
  intro h rid v hv
  show (match evA X loc tm x, evA X loc tm y with | some a, some b => v1 h (binA P X.facts op t x y a b) | _, _ => none) = _
  rw [hE.acc ha, hE.acc hb]
  show v1 h (binA P X.facts op t x y (a.f vs tm) (b.f vs tm)) = _
  rw [biS_ok op t x y _ _ v hv]; rfl

/-! ### choices, parts -/
theorem kPick_ok (c x y : Operand) {k a b : Acc} (hk : accOf X e c = some k) (ha : accOf X e x = some a) (hb : accOf X e y = some b) : OpOk P X (.v (kPick k a b)) (.pick c x y) (evA X loc tm) vs tm := by
  intro h rid v hv
  show (match evA X loc tm c with | some (.bool true) => v1 h (evA X loc tm x) | some (.bool false) => v1 h (evA X loc tm y) | _ => none) = _
  rw [hE.acc hk, hE.acc ha, hE.acc hb]
  have hv' : onBool (pickB (a.f vs tm) (b.f vs tm)) noneL none (k.f vs tm) = some v := hv
  rw [onBool_eq] at hv'
  cases hx : k.f vs tm <;> rw [hx] at hv' <;> first | cases hv' | skip
  rename_i q
  cases q <;> (have hv2 : some _ = some v := hv'; cases hv2; rfl)

theorem kExtract_ok (x : Operand) (i : Nat) {a : Acc} (ha : accOf X e x = some a) : OpOk P X (.v (kExtract a i)) (.extract x i) (evA X loc tm) vs tm := by
  intro h rid v hv
  show (match evA X loc tm x with | some (.tup vs) => v1 h (nthA vs i) | _ => none) = _
  rw [hE.acc ha]
  have hv' : onBool (fun _ => none) (fun l => nthA l i) none (a.f vs tm) = some v := hv
  rw [onBool_eq] at hv'
  cases hx : a.f vs tm <;> rw [hx] at hv' <;> first | cases hv' | skip
  rename_i l
  have key : nthA l i = some v := hv'
  show v1 h (nthA l i) = _
  rw [key]; rfl

/-! ### new blocks -/
theorem kAlloc_ok (t : TypeId) {k : AK} (hk : kAlloc P t = some k) : OpOk P X (.a k) (.alloc t) (evA X loc tm) vs tm := by
  intro h rid v h' hv
  show vh (allocA P h rid t) = _
  unfold kAlloc at hk
  rw [zeroK_eq] at hk
  unfold allocA
  split at hk
  · rename_i z hz
    rw [hz]
    split at hk
    · rename_i hs
      cases hk
      have hv' : some (AVal.ptr rid 0, putO h rid (.row t z.cells.length false false (rowOf z.cells))) = some (v, h') := hv
      cases hv'
      simp only [hs, if_true]
      rw [putO_eq]; rfl
    · cases hk
  · cases hk

omit hE in
theorem bxS_ok (t : TypeId) (h h' : AHeap) (rid : Nat) (x v : AVal) (hx : bxS t h rid x = some (v, h')) : boxA h rid t x = some (v, h') := by
  unfold bxS at hx
  rw [bB_eq, scal_eq] at hx
  unfold boxA
  split at hx
  · rename_i hs
    cases hx
    rw [scalar_cells hs, if_pos (by simp [hs]), putO_eq]
    rfl
  · unfold bxG at hx
    rw [bB_eq, allS_eq, cellsK_eq] at hx
    split at hx
    · rename_i hs
      cases hx
      rw [if_pos hs, putO_eq]
      unfold rowK newRowA rowOf
      rw [lenL_eq, wrK_eq]
    · cases hx

theorem kBox_ok (t : TypeId) (x : Operand) {a : Acc} (ha : accOf X e x = some a) : OpOk P X (.a (kBox t a)) (.box t x) (evA X loc tm) vs tm := by
  intro h rid v h' hv
  show (match evA X loc tm x with | some v => vh (boxA h rid t v) | none => none) = _
  rw [hE.acc ha]
  show vh (boxA h rid t (a.f vs tm)) = _
  rw [bxS_ok t h h' rid _ v hv]; rfl

/-! ### lengths, calls -/
theorem accs_evs : ∀ {l : List Operand} {r : List Acc}, accs X e l = some r → evs (evA X loc tm) l = some ((kArgs r).f vs tm)
  | [], r, h => by cases h; rfl
  | x :: l, r, h => by
    unfold accs at h
    split at h
    · rename_i a r' h1 h2
      cases h
      have ih := accs_evs h2
      have e1 : evs (evA X loc tm) (x :: l) = match evA X loc tm x with | some v => (match evs (evA X loc tm) l with | some r => some (v :: r) | none => none) | none => none := rfl
      rw [e1, hE.acc h1, ih]; rfl
    · cases h

theorem kLen_ok (c : Call) (hc : c.callee = .builtin .len) {t : TypeId} {ts : List TypeId} (ht : c.argTypes.toList = t :: ts) {x : Operand} (hx : c.args.toList = [x]) {a : Acc} (ha : accOf X e x = some a) :
    OpOk P X (.v (kLen P X t a)) (.call c) (evA X loc tm) vs tm := by
  intro h rid v hv
  show callA P X (evA X loc tm) h rid c = _
  have e1 : evs (evA X loc tm) c.args.toList = some [a.f vs tm] := by
    rw [hx]
    have e1 : evs (evA X loc tm) [x] = match evA X loc tm x with | some v => (match evs (evA X loc tm) [] with | some r => some (v :: r) | none => none) | none => none := rfl
    rw [e1, hE.acc ha]; rfl
  unfold callA
  rw [e1]
  simp only [hc, ht]
  show v1 h (lenA P X.facts h t (a.f vs tm)) = _
  have key : lenA P X.facts h t (a.f vs tm) = some v := by
    unfold kLen at hv
    rw [undK_eq] at hv
    split at hv
    · rename_i el hel
      have hv' : onSlc lnS (some (.int .i64 0)) (lenA P X.facts h t) (a.f vs tm) = some v := hv
      rw [onSlc_eq] at hv'
      split at hv'
      · rename_i b o n c' hx
        rw [hx]; unfold lenA; rw [hel]; exact hv'
      · rename_i hx
        rw [hx]; unfold lenA; rw [hel]; exact hv'
      · exact hv'
    · rename_i hel
      have hv' : onStr lnT (lenA P X.facts h t) (a.f vs tm) = some v := hv
      rw [onStr_eq] at hv'
      split at hv'
      · rename_i l n hx
        rw [hx]; unfold lenA; rw [hel]; exact hv'
      · exact hv'
    · exact hv
  rw [key]; rfl

theorem kCall_ok (hn : plainNames P = true) (c : Call) {f : FuncId} (hc : c.callee = .value (.func f)) {fc : Func × Code} (hb : bodyK P f = some fc) {l : List Acc} (hl : accs X e c.args.toList = some l) :
    OpOk P X (.call f (kArgs l)) (.call c) (evA X loc tm) vs tm := by
  intro h rid
  show callA P X (evA X loc tm) h rid c = _
  unfold callA
  rw [accs_evs hE hl]
  simp only [hc]
  show enterA P f ([] ++ (kArgs l).f vs tm ++ []) h = _
  rw [bodyK_eq hn] at hb
  unfold enterA
  rw [hb]
  simp

end
end
end Go.Eng
