/- The engine, part J: append, copy, len, cap. -/
import Derived.Test.YtggjeecpadnihaaGreatDoorEngI
set_option linter.unusedSectionVars false
set_option linter.unusedVariables false
set_option linter.unusedSimpArgs false
namespace Go.Eng
open Go.Builtin

section
variable {P : Program} {env : Nat → Value} {okc : FuncId → Code → Bool} {N : Nat → Prop} {ρ ρ' : Rho} {h h' : AHeap} {w w' : World}

/-! ### Sources of append and copy -/
theorem cellsOfBytes_len : ∀ (l m : Nat), (cellsOfBytes l m).length = l
  | 0, _ => rfl
  | l + 1, m => by simp [cellsOfBytes, cellsOfBytes_len l]

theorem cellsOfBytes_rel : ∀ (l m : Nat), VRels ρ env (cellsOfBytes l m) ((bytesL l m).map fun b => Value.int .u8 b.toNat)
  | 0, _ => .nil
  | l + 1, m => by
    simp only [cellsOfBytes, bytesL, List.map_cons]
    refine .cons ?_ (cellsOfBytes_rel l _)
    have : (UInt8.ofNat (m % 256)).toNat = m % 256 := by simp
    rw [this]; exact .int _ _

theorem cellsOfBytes_one (l m : Nat) : ∀ x ∈ (bytesL l m).map (fun b => Value.int .u8 (b.toNat : Int)), Value.one x = true := by
  intro x hx
  obtain ⟨b, _, rfl⟩ := List.mem_map.1 hx
  rfl

theorem cell_heap {w W : World} (e : W.heap = w.heap) (a : Addr) : W.cell? a = w.cell? a := by simp [World.cell?, e]

/-- Cells read in a world with the same heap. -/
theorem loads_in {B off : Nat} {c : Array Value} {e : TypeId} {frz : Nat × Nat} (hw : w.heap[B]? = some (.cells c e frz)) (l' : List Value)
    (hg : ∀ j x, l'[j]? = some x → c[off + j]? = some x) (k : Nat) (hk : k ≤ l'.length) (W : World) (hW : W.heap = w.heap) :
    (loadCells ⟨B, off, none⟩ k).run P W = .ok ⟨l'.take k⟩ W := by
  have h1 : W.heap[B]? = some (.cells c e frz) := by rw [hW]; exact hw
  have := run_loadCells' (P := P) h1 (l'.take k) (off := off) (fun j x hx => by
    rw [List.getElem?_take] at hx
    split at hx
    · exact hg j x hx
    · cases hx)
  rwa [List.length_take, Nat.min_eq_left hk] at this

/-- What append and copy read of their source. -/
theorem cellsFrom_sound (hr : HRel P env okc ρ h w) {size n : Nat} {x : AVal} {cx : Value} {l : List AVal} (hx : VRel ρ env x cx) (hc : cellsFrom h size x = some (n, l)) :
    ∃ l', VRels ρ env l l' ∧ l.length = n * size ∧ (∀ y ∈ l', Value.one y = true) ∧ (∀ W, (lenOf cx).run P W = .ok n W) ∧
      ∀ k, k ≤ n → ∀ W : World, W.heap = w.heap → (firstCells size k cx).run P W = .ok ⟨l'.take (k * size)⟩ W := by
  unfold cellsFrom at hc
  split at hc
  · cases hc; cases hx
    refine ⟨[], .nil, by simp, by simp, fun W => rfl, fun k hk W _ => ?_⟩
    obtain rfl : k = 0 := by omega
    simp [firstCells]
  · rename_i b o m cap
    cases hcells : cellsAt h b o (m * size) with
    | none => rw [hcells] at hc; cases hc
    | some l1 =>
      rw [hcells] at hc; cases hc
      have hget : ∀ (i : BI), ρ b = some i → ∃ l', VRels ρ env l l' ∧ l.length = n * size ∧ (∀ y ∈ l', Value.one y = true) ∧
          ∀ k, k ≤ n → ∀ W : World, W.heap = w.heap → (loadCells ⟨i.blk, i.shift + o, none⟩ (k * size)).run P W = .ok ⟨l'.take (k * size)⟩ W := by
        intro i hi
        unfold cellsAt at hcells
        split at hcells
        rotate_left
        · cases hcells
        rename_i e nn op ro cs hb
        obtain ⟨c, frz, hw, _, _, h3, _, _⟩ := row_of hr hb hi
        obtain ⟨l', hl, hk, hone, _, hg⟩ := run_readCells nn h3 (n * size) o l hcells
        refine ⟨l', hl, hk, hone, fun k hk' W hW => ?_⟩
        exact loads_in hw l' hg (k * size) (by rw [← hl.1, hk]; exact Nat.mul_le_mul_right _ hk') W hW
      cases hx with
      | slcK _ _ c hi =>
        obtain ⟨l', a1, a2, a3, a4⟩ := hget _ hi
        exact ⟨l', a1, a2, a3, fun W => rfl, fun k hk W hW => a4 k hk W hW⟩
      | slcO hi h0 h1 h2 =>
        obtain ⟨l', a1, a2, a3, a4⟩ := hget _ hi
        exact ⟨l', a1, a2, a3, fun W => rfl, fun k hk W hW => a4 k hk W hW⟩
      | slcE _ off hi hcap =>
        obtain ⟨l', a1, a2, a3, a4⟩ := hget _ hi
        refine ⟨l', a1, a2, a3, fun W => rfl, fun k hk W hW => ?_⟩
        obtain rfl : k = 0 := by omega
        simp [firstCells, loadCells, loadCellsFrom]
  · rename_i m s
    split at hc
    rotate_left
    · cases hc
    rename_i hs
    cases hc
    obtain rfl := Nat.eq_of_beq_eq_true hs
    cases hx with | str _ _ hlt =>
    refine ⟨_, cellsOfBytes_rel _ _, by rw [cellsOfBytes_len, Nat.mul_one], cellsOfBytes_one _ _, fun W => by simp [lenOf, byteArr_size], fun k hk W _ => ?_⟩
    simp only [firstCells, Sem.run_pure]
    congr 1
    apply Array.ext'
    rw [Array.toList_map, ByteArray.data_extract, Array.toList_extract, byteArr_data, List.extract_eq_take_drop]
    simp [List.map_take]
  · cases hc

theorem growBy_le (n : Nat) : ∀ (r c : Nat), c ≤ n + (n + 768) / 4 → growBy n r c ≤ n + (n + 768) / 4
  | 0, c, h => h
  | r + 1, c, h => by
    unfold growBy
    split
    · exact h
    · exact growBy_le n r _ (by omega)

theorem nextcap_le (n c : Nat) (h : c < n) : nextslicecap n c ≤ 2 * n + 200 := by
  unfold nextslicecap
  split
  · omega
  · split
    · omega
    · have := growBy_le n 4 c (by omega); omega

theorem drew_heap (w : World) : w.drew.heap = w.heap := rfl

/-- The zero cells behind a grown row. -/
theorem zeroCells_size (z : Array Value) (n : Nat) : (zeroCells z n).size = n * z.size := by simp [zeroCells]

theorem append_fits {sT xT ty e : TypeId} {dx : TypeDesc} {size len cap n : Nat} {base : Option Addr} {cx : Value} {new : Array Value} {w' : World}
    (hu : P.underlying sT = some (.slice e)) (hux : P.underlying xT = some dx) (hnint : ∀ k, dx ≠ .int k) (hsz : sizeA P e = some size)
    (hlen : (lenOf cx).run P w = .ok n w) (hfit : len + n ≤ cap) (hload : (firstCells size n cx).run P w = .ok new w)
    (hst : match base with | some a => (storeCells (a.add (len * size)) new.toList).run P w = .ok () w' | none => w' = w) :
    (append_ #[sT, xT] ty #[.slice base len cap, cx]).run P w = .ok (.slice base (len + n) cap) w' := by
  have hz : (match dx with | .int _ => true | _ => false) = false := by
    cases dx <;> first | rfl | exact absurd rfl (hnint _)
  unfold append_
  simp only [List.getElem?_toArray, List.getElem?_cons_zero, List.getElem?_cons_succ, Sem.run_bind, run_und hu, run_und hux, Result.andThen_ok, run_size hsz, Sem.run_pure, hz,
    Bool.false_eq_true, if_false, hlen, Bool.not_false, if_true, hload]
  rw [if_pos hfit]
  cases base with
  | none => simp only at hst; subst hst; simp only [Sem.run_bind, hload, Result.andThen_ok, Sem.run_pure]
  | some a => simp only at hst; simp only [Sem.run_bind, hload, Result.andThen_ok, hst, Sem.run_pure]

theorem append_grows {sT xT ty e : TypeId} {dx : TypeDesc} {ti : TypeInfo} {size bytes len cap n : Nat} {base : Option Addr} {cx : Value} {old new z : Array Value} {zv : Value}
    (hu : P.underlying sT = some (.slice e)) (hux : P.underlying xT = some dx) (hnint : ∀ k, dx ≠ .int k) (hsz : sizeA P e = some size) (hi : P.info? e = some ti) (hb : ti.bytes = bytes)
    (hb1 : 1 ≤ bytes) (hb2 : bytes ≤ 65536) (hsmall : len + n ≤ 1048576) (hzv : ∀ W, (zeroValue e).run P W = .ok zv W) (hz' : zv.cells = z)
    (hlen : (lenOf cx).run P w = .ok n w) (hgrow : ¬ len + n ≤ cap) (hold : (firstCells size len (.slice base len cap)).run P w.drew = .ok old w.drew)
    (hnew : (firstCells size n cx).run P w.drew = .ok new w.drew) :
    ∃ nc, len + n ≤ nc ∧ (append_ #[sT, xT] ty #[.slice base len cap, cx]).run P w =
      .ok (.slice (some ⟨w.heap.size, 0, none⟩) (len + n) nc) (w.drew.alloc (.cells (old ++ new ++ zeroCells z (nc - (len + n))) e)) := by
  have hz : (match dx with | .int _ => true | _ => false) = false := by
    cases dx <;> first | rfl | exact absurd rfl (hnint _)
  refine ⟨Question.cut (.appendCap (len + n) cap e) (w.tape w.drawn (.appendCap (len + n) cap e)), by simp only [Question.cut]; omega, ?_⟩
  have hcap : cap < len + n := by omega
  have hnext := nextcap_le (len + n) cap hcap
  have hbig : nextslicecap (len + n) cap * bytes ≤ 281474976710656 := by
    refine Nat.le_trans (Nat.mul_le_mul (Nat.le_trans hnext (by omega : 2 * (len + n) + 200 ≤ 2100000)) hb2) (by decide)
  have h1 : ¬ (((len + n : Nat) : Int) > IntKind.i64.max ∧ (False ∨ bytes = 0)) := by
    rintro ⟨_, h | h⟩
    · exact h
    · omega
  have h2 : ¬ (nextslicecap (len + n) cap * bytes > 2 ^ 48) := by
    have : (2 : Nat) ^ 48 = 281474976710656 := by decide
    omega
  unfold append_
  simp only [List.getElem?_toArray, List.getElem?_cons_zero, List.getElem?_cons_succ, Sem.run_bind, run_und hu, run_und hux, Result.andThen_ok, run_size hsz, Sem.run_pure, hz,
    Bool.false_eq_true, if_false, hlen, Bool.not_false, if_true]
  rw [if_neg hgrow]
  simp only [Sem.run_bind, run_info hi, Result.andThen_ok, hb]
  rw [if_neg h1]
  simp only [Sem.run_bind, run_info hi, Result.andThen_ok, hb]
  rw [if_neg h2]
  simp only [Sem.run_bind, run_choose, Question.forced, Bool.false_eq_true, if_false, Result.andThen_ok, run_info hi, run_askRoom, World.drew_eq, hold, hnew, hzv, newRow_run, Sem.run_pure, hz', World.size_drew]

/-- The new row of an append that grows. -/
theorem grow_go (hr : HRel P env okc ρ h w) {rid : Nat} {e : TypeId} {old new : List AVal} {old' new' : List Value} {size len n nc : Nat} {z : Array Value}
    (ho : VRels ρ env old old') (hn' : VRels ρ env new new') (ho1 : ∀ x ∈ old', Value.one x = true) (hn1 : ∀ x ∈ new', Value.one x = true)
    (lo : old.length = len * size) (ln : new.length = n * size) (hnc : len + n ≤ nc) (hz : z.size = size) (hsz : sizeA P e = some size) (h1 : 1 ≤ size)
    (hrid : ρ rid = none) (hn : rid < h.next) (hN : N rid) :
    ∃ ρ', Go' P env okc N ρ h w ρ' (newRowA h rid e (old ++ new) true) (w.drew.alloc (.cells (⟨old'⟩ ++ ⟨new'⟩ ++ zeroCells z (nc - (len + n))) e)) ∧
      VRel ρ' env (.slc rid 0 (len + n) (.op size (len + n))) (.slice (some ⟨w.heap.size, 0, none⟩) (len + n) nc) := by
  have hd : HRel P env okc ρ h w.drew := hr.heap_eq rfl
  have hg := newRowOpen_sound (N := N) (e := e) (frz := (0, 0)) hd (zeroCells z (nc - (len + n))).toList (l := old ++ new) (l' := old' ++ new') (esz := size)
    (fun x hx => by rcases List.mem_append.1 hx with hx | hx; exact ho1 x hx; exact hn1 x hx) (ho.append hn') hrid hn hN hsz h1 (by intro off _ hh; simp at hh)
  have ec : (⟨old'⟩ ++ ⟨new'⟩ ++ zeroCells z (nc - (len + n)) : Array Value) = ⟨(old' ++ new') ++ (zeroCells z (nc - (len + n))).toList⟩ := by
    apply Array.ext'; simp
  have hlen : (old' ++ new').length + (zeroCells z (nc - (len + n))).toList.length = nc * size := by
    rw [List.length_append, ← ho.1, ← hn'.1, lo, ln, Array.length_toList, zeroCells_size, hz, ← Nat.add_mul, ← Nat.add_mul]
    congr 1; omega
  refine ⟨_, (Go'.drew hr).trans (by rw [ec]; exact hg), ?_⟩
  have := VRel.slcO (env := env) (b := rid) (o := 0) (len := len + n) (lo := len + n) (c := nc) (Rho.set_same ρ rid ⟨w.drew.heap.size, 0, (old' ++ new').length + (zeroCells z (nc - (len + n))).toList.length, size⟩) (Nat.le_refl _) hnc
    (by simp only; rw [hlen]; omega)
  exact this

theorem info_of_bytes {e : TypeId} {bytes : Nat} (h : bytesA P e = some bytes) : ∃ i, P.info? e = some i ∧ i.bytes = bytes := by
  unfold bytesA at h
  cases hi : P.info? e with
  | none => rw [hi] at h; cases h
  | some i => rw [hi] at h; cases h; exact ⟨i, rfl, rfl⟩

theorem run_zero' {t : TypeId} {z : AVal} (h : zeroA P t = some z) : ∃ v, (∀ W, (zeroValue t).run P W = .ok v W) ∧ VRel ρ env z v := by
  unfold zeroA at h
  cases hi : P.info? t with
  | none => rw [hi] at h; cases h
  | some i =>
    rw [hi] at h
    cases hz : i.zero with
    | none => simp only [hz] at h; cases h
    | some v =>
      simp only [hz] at h
      exact ⟨v, fun W => by simp [zeroValue, run_info hi, hz], ofConst_rel h⟩

theorem slc_op_cases {b o len es lo : Nat} {x : Value} (h : VRel ρ env (.slc b o len (.op es lo)) x) :
    (∃ i c, ρ b = some i ∧ es = i.esz ∧ (len ≤ lo ∧ lo ≤ c) ∧ i.shift + o + c * i.esz = i.total ∧ x = .slice (some ⟨i.blk, i.shift + o, none⟩) len c) ∨
    (∃ i off, ρ b = some i ∧ es = i.esz ∧ (len = 0 ∧ lo = 0) ∧ x = .slice (some ⟨i.blk, off, none⟩) 0 0) := by
  generalize hc : Cap.op es lo = cap at h
  generalize hb : AVal.slc b o len cap = a at h
  cases h <;> try (cases hb; done)
  · cases hb; cases hc
  · rename_i hi h0 h1 h2; cases hb; cases hc; exact .inl ⟨_, _, hi, rfl, ⟨h0, h1⟩, h2, rfl⟩
  · rename_i hi hcap
    cases hb; subst hc
    rcases hcap with hcap | hcap
    · cases hcap
    · cases hcap; exact .inr ⟨_, _, hi, rfl, ⟨rfl, rfl⟩, rfl⟩

theorem appendZ_sound (he : EnvOk env) (hr : HRel P env okc ρ h w) {rid : Nat} {sT xT ty e : TypeId} {k : IntKind} {s x v : AVal} {cs cx : Value}
    (hu : P.underlying sT = some (.slice e)) (hux : P.underlying xT = some (.int k)) (hs : VRel ρ env s cs) (hx : VRel ρ env x cx)
    (hrid : ρ rid = none) (hn : rid < h.next) (hN : N rid) (ha : appendZ P h rid e s x = some (v, h')) :
    Makes P env okc N ρ h w (append_ #[sT, xT] ty #[cs, cx]) v h' := by
  unfold appendZ at ha
  split at ha
  rotate_left
  · cases ha
  rename_i n
  split at ha
  rotate_left
  · cases ha
  rename_i size bytes z hsz hby hz
  split at ha
  rotate_left
  · cases ha
  rename_i hc
  simp only [Bool.and_eq_true, decide_eq_true_eq] at hc
  obtain ⟨⟨⟨⟨⟨c1, c2⟩, c3⟩, c4⟩, hzl⟩, hzs⟩ := hc
  have c1 := ble_le c1
  have c2 := ble_le c2
  have c3 := ble_le c3
  have c4 := ble_le c4
  cases hs; cases hx
  obtain ⟨ti, hti, htb⟩ := info_of_bytes hby
  obtain ⟨zv, hzr, hzv⟩ := run_zero' (ρ := ρ) (env := env) hz
  have hzc := cells_rel' he hzv (zeroA_ne hz)
  have hzsz : zv.cells.size = size := by rw [← Array.length_toList, ← hzc.1]; exact hzl
  have hwr : IntKind.i64.wrap (Int.ofNat n) = (n : Int) := wrap_small n c4
  have hbytes : (n : Int) * (bytes : Int) ≤ 68719476736 := by
    have : n * bytes ≤ 68719476736 := Nat.le_trans (Nat.mul_le_mul c4 c3) (by decide)
    rw [← Int.natCast_mul]; omega
  have hbig : ¬ ((n : Int) * (bytes : Int) > 2 ^ 48) := by omega
  have hneg : ¬ ((n : Int) < 0) := by omega
  have hz1 : (match (TypeDesc.int k) with | .int _ => true | _ => false) = true := rfl
  have hnz : ∀ W : World, (if n * size = 0 then (pure #[] : Sem (Array Value)) else do pure (zeroCells (← zeroValue e).cells n)).run P W = .ok (zeroCells zv.cells n) W := by
    intro W
    by_cases h0 : n * size = 0
    · rw [if_pos h0]
      have : n = 0 := by rcases Nat.mul_eq_zero.1 h0 with h | h; exact h; omega
      subst this
      simp [zeroCells]
    · rw [if_neg h0]
      simp [hzr]
  cases hb : Nat.beq n 0 with
  | true =>
    rw [hb] at ha; simp only at ha; cases ha
    obtain rfl := Nat.eq_of_beq_eq_true hb
    refine ⟨_, ρ, w, ?_, .nslc, .refl hr⟩
    unfold append_
    simp only [List.getElem?_toArray, List.getElem?_cons_zero, List.getElem?_cons_succ, Sem.run_bind, run_und hu, run_und hux, Result.andThen_ok, run_size hsz, Sem.run_pure, hz1, if_true, asInt, asIntOf, hwr,
      if_neg hneg, run_info hti, htb, if_neg hbig, Int.toNat_natCast, Bool.not_true, Bool.false_eq_true, if_false, Nat.zero_add, Nat.add_zero, Nat.le_refl, hnz]
  | false =>
    rw [hb] at ha; simp only at ha; cases ha
    have hn0 : n ≠ 0 := fun e => by subst e; rw [Nat.beq_refl] at hb; cases hb
    have hnext := nextcap_le n 0 (by omega)
    have hbig2 : nextslicecap n 0 * bytes ≤ 281474976710656 :=
      Nat.le_trans (Nat.mul_le_mul (Nat.le_trans hnext (by omega : 2 * n + 200 ≤ 2100000)) c3) (by decide)
    have h1 : ¬ ((n : Int) > IntKind.i64.max ∧ (True ∨ bytes = 0)) := by
      rintro ⟨h, _⟩
      have : IntKind.i64.max = 9223372036854775807 := by decide
      omega
    have h2 : ¬ (nextslicecap n 0 * bytes > 2 ^ 48) := by
      have : (2 : Nat) ^ 48 = 281474976710656 := by decide
      omega
    have hcut : n ≤ Question.cut (.appendCap n 0 e) (w.tape w.drawn (.appendCap n 0 e)) := by simp only [Question.cut]; omega
    have hrun : (append_ #[sT, xT] ty #[.slice none 0 0, .int .i64 (Int.ofNat n)]).run P w =
        .ok (.slice (some ⟨w.heap.size, 0, none⟩) n (Question.cut (.appendCap n 0 e) (w.tape w.drawn (.appendCap n 0 e))))
          (w.drew.alloc (.cells (#[] ++ zeroCells zv.cells n ++ zeroCells zv.cells (Question.cut (.appendCap n 0 e) (w.tape w.drawn (.appendCap n 0 e)) - n)) e)) := by
      unfold append_
      simp only [List.getElem?_toArray, List.getElem?_cons_zero, List.getElem?_cons_succ, Sem.run_bind, run_und hu, run_und hux, Result.andThen_ok, run_size hsz, Sem.run_pure, hz1, if_true, asInt, asIntOf, hwr,
        if_neg hneg, run_info hti, htb, if_neg hbig, Int.toNat_natCast, Bool.not_true, Bool.false_eq_true, if_false, Nat.zero_add, if_neg (show ¬ n ≤ 0 by omega)]
      rw [if_neg h1]
      simp only [Sem.run_bind, run_info hti, Result.andThen_ok, htb]
      rw [if_neg h2]
      simp only [Sem.run_bind, run_choose, Question.forced, Bool.false_eq_true, if_false, Result.andThen_ok, run_info hti, run_askRoom, World.drew_eq, firstCells, hnz, hzr, newRow_run, Sem.run_pure, World.size_drew]
    have hrel : VRels ρ env (repeatA n z.cells []) (zeroCells zv.cells n).toList := by
      have := zeros_rel hzc n (fun hh => by rw [hzl]; omega)
      rw [hzl] at this
      rw [← hzsz] at this
      exact this
    obtain ⟨ρ', hgo, hv⟩ := grow_go (N := N) (z := zv.cells) (len := 0) (n := n) hr (VRels.nil) hrel (by simp) (scalars_one he hrel (repeatA_scalar hzs n)) (by simp) (by rw [repeatA_len, hzl]) (by omega) hzsz hsz c1 hrid hn hN
      (nc := Question.cut (.appendCap n 0 e) (w.tape w.drawn (.appendCap n 0 e)))
    simp only [Nat.zero_add] at hv
    refine ⟨_, ρ', _, hrun, hv, ?_⟩
    simpa using hgo

set_option maxHeartbeats 2000000 in
theorem appendA_sound (he : EnvOk env) (hr : HRel P env okc ρ h w) {rid : Nat} {sT xT ty : TypeId} {s x v : AVal} {cs cx : Value} (hs : VRel ρ env s cs) (hx : VRel ρ env x cx)
    (hrid : ρ rid = none) (hn : rid < h.next) (hN : N rid) (ha : appendA P h rid sT xT s x = some (v, h')) :
    Makes P env okc N ρ h w (append_ #[sT, xT] ty #[cs, cx]) v h' := by
  unfold appendA at ha
  split at ha
  · rename_i e k hu hux
    exact appendZ_sound he hr hu hux hs hx hrid hn hN ha
  rotate_left
  · cases ha
  rename_i e dx hnint hu hux
  split at ha
  rotate_left
  · cases ha
  rename_i size bytes z hsz hby hz
  cases hcf : cellsFrom h size x with
  | none => rw [hcf] at ha; cases ha
  | some nl =>
    obtain ⟨n, new⟩ := nl
    rw [hcf] at ha; simp only at ha
    by_cases hcond : (Nat.ble 1 size && Nat.ble 1 bytes && Nat.ble bytes 65536 && Nat.ble n 1048576 && decide (z.cells.length = size) && new.all AVal.scalar) = true
    rotate_left
    · rw [Bool.not_eq_true] at hcond; simp only [hcond, Bool.not_false, if_true] at ha; cases ha
    simp only [hcond, Bool.not_true, Bool.false_eq_true, if_false] at ha
    simp only [Bool.and_eq_true, decide_eq_true_eq] at hcond
    obtain ⟨⟨⟨⟨⟨c1, c2⟩, c3⟩, c4⟩, hzl⟩, hnsc⟩ := hcond
    have c1 := ble_le c1
    have c2 := ble_le c2
    have c3 := ble_le c3
    have c4 := ble_le c4
    obtain ⟨new', hnew, hnl, hn1, hlen, hfirst⟩ := cellsFrom_sound hr hx hcf
    obtain ⟨ti, hti, htb⟩ := info_of_bytes hby
    obtain ⟨zv, hzr, hzv⟩ := run_zero' (ρ := ρ) (env := env) hz
    have hzc := cells_rel' he hzv (zeroA_ne hz)
    have hzs : zv.cells.size = size := by rw [← Array.length_toList, ← hzc.1]; exact hzl
    have hnewfull : ∀ W : World, W.heap = w.heap → (firstCells size n cx).run P W = .ok ⟨new'⟩ W := by
      intro W hW
      have := hfirst n (Nat.le_refl _) W hW
      rwa [List.take_of_length_le (by rw [← hnew.1, hnl]; exact Nat.le_refl _)] at this
    have hfits : ∀ base len c w', len + n ≤ c → (match base with | some a => (storeCells (a.add (len * size)) new').run P w = .ok () w' | none => w' = w) →
        (append_ #[sT, xT] ty #[.slice base len c, cx]).run P w = .ok (.slice base (len + n) c) w' := by
      intro base len c w' hfit hst
      refine append_fits (new := ⟨new'⟩) hu hux (fun k hk => hnint k hk) hsz (hlen w) hfit (hnewfull w rfl) ?_
      cases base with
      | none => exact hst
      | some a => exact hst
    have hgrows : ∀ base len c (old : List AVal) (old' : List Value), ¬ len + n ≤ c → len + n ≤ 1048576 → VRels ρ env old old' → (∀ y ∈ old', Value.one y = true) → old.length = len * size →
        (firstCells size len (.slice base len c)).run P w.drew = .ok ⟨old'⟩ w.drew →
        ∀ h1 : AHeap, Go' P env okc N ρ h w ρ h1 w →
        Makes P env okc N ρ h w (append_ #[sT, xT] ty #[.slice base len c, cx]) (.slc rid 0 (len + n) (.op size (len + n))) (newRowA h1 rid e (old ++ new) true) := by
      intro base len c old old' hno hsm ho ho1 hol hold h1 hgo1
      obtain ⟨nc, hnc, hrun⟩ := append_grows (ty := ty) hu hux (fun k hk => hnint k hk) hsz hti htb c2 c3 hsm hzr rfl (hlen w) hno hold (hnewfull w.drew rfl)
      obtain ⟨ρ', hgo, hv⟩ := grow_go (N := N) (z := zv.cells) hgo1.rel ho hnew ho1 hn1 hol hnl hnc hzs hsz c1 hrid (Nat.lt_of_lt_of_le hn hgo1.next) hN
      exact ⟨_, ρ', _, hrun, hv, hgo1.trans hgo⟩
    split at ha
    · -- onto nil
      cases hs
      cases hb : Nat.beq n 0 with
      | true =>
        rw [hb] at ha; simp only [if_true] at ha; cases ha
        obtain rfl := Nat.eq_of_beq_eq_true hb
        exact ⟨_, ρ, w, hfits none 0 0 w (by omega) rfl, .nslc, .refl hr⟩
      | false =>
        rw [hb] at ha; simp only [Bool.false_eq_true, if_false] at ha; cases ha
        have hn0 : n ≠ 0 := fun e => by subst e; rw [Nat.beq_refl] at hb; cases hb
        have := hgrows none 0 0 [] [] (by omega) (by omega) .nil (by simp) (by simp) (by simp [firstCells]) h (.refl hr)
        simpa using this
    · -- onto a slice
      rename_i b o len cap
      cases hb : Nat.beq n 0 with
      | true =>
        rw [hb] at ha; simp only [if_true] at ha
        obtain rfl := Nat.eq_of_beq_eq_true hb
        cases hle : Nat.ble len (capMin cap) with
        | false => rw [hle] at ha; cases ha
        | true =>
          rw [hle] at ha; cases ha
          have hle := ble_le hle
          have hn0 : new' = [] := List.length_eq_zero_iff.1 (by rw [← hnew.1, hnl]; simp)
          have hkeep : ∀ a c, len ≤ c → cs = .slice (some a) len c → Makes P env okc N ρ h w (append_ #[sT, xT] ty #[cs, cx]) (.slc b o len cap) h := by
            rintro a c hc rfl
            exact ⟨_, ρ, w, hfits (some a) len c w (by omega) (by rw [hn0]; rfl), hs, .refl hr⟩
          cases hs with
          | slcK _ _ c hi => exact hkeep _ c hle rfl
          | slcO hi h0 h1 h2 => exact hkeep _ _ (Nat.le_trans h0 h1) rfl
          | slcE _ off hi hc => exact hkeep _ 0 (Nat.le_refl _) rfl
      | false =>
        rw [hb] at ha; simp only [Bool.false_eq_true, if_false] at ha
        have hn0 : n ≠ 0 := fun e => by subst e; rw [Nat.beq_refl] at hb; cases hb
        split at ha
        rotate_left
        · cases ha
        rename_i hsm
        have hsm := ble_le hsm
        cases cap with
        | kn c =>
          simp only at ha
          cases hfit : Nat.ble (len + n) c with
          | true =>
            rw [hfit] at ha; simp only at ha
            have hfit := ble_le hfit
            cases hp : putCells h b (o + len * size) new with
            | none => rw [hp] at ha; cases ha
            | some h1 =>
              rw [hp] at ha; cases ha
              cases hs with
              | slcK _ _ _ hi =>
                rename_i i
                obtain ⟨w', hrun, hgo⟩ := putCells_sound (N := N) he hr hi hnew hp
                refine ⟨_, ρ, w', hfits _ len c w' hfit (by simp only [addr_add, Nat.add_assoc]; exact hrun), ?_, hgo⟩
                exact .slcK _ _ _ hi
              | slcE _ off hi hc =>
                rcases hc with hc | hc
                · cases hc; omega
                · cases hc
          | false =>
            rw [hfit] at ha; simp only at ha
            have hno : ¬ len + n ≤ c := fun hh => by rw [Nat.ble_eq_true_of_le hh] at hfit; cases hfit
            cases hcells : cellsAt h b o (len * size) with
            | none => rw [hcells] at ha; cases ha
            | some old =>
              rw [hcells] at ha; cases ha
              cases hs with
              | slcK _ _ _ hi =>
                rename_i i
                obtain ⟨l', a1, a2, a3, a4⟩ := cellsAt_sound (w := w.drew) (hr.heap_eq rfl) hi hcells
                exact hgrows (some ⟨i.blk, i.shift + o, none⟩) len c old l' hno hsm a1 a3 a2 a4 h (.refl hr)
              | slcE _ off hi hc =>
                rename_i i
                obtain ⟨l', a1, a2, a3, _⟩ := cellsAt_sound hr hi hcells
                have e0 : l' = [] := List.length_eq_zero_iff.1 (by rw [← a1.1, a2]; simp)
                rcases hc with hc | hc
                · cases hc
                  exact hgrows _ 0 0 old l' hno hsm a1 a3 a2 (by subst e0; simp [firstCells, loadCells, loadCellsFrom]) h (.refl hr)
                · cases hc
        | op es lo =>
          simp only at ha
          cases hroom : Nat.ble (len + n) lo with
          | true =>
            rw [hroom] at ha; simp only at ha
            have hroom := ble_le hroom
            split at ha
            rotate_left
            · cases ha
            rename_i h1 hes hp
            cases ha
            obtain rfl := Nat.eq_of_beq_eq_true hes
            rcases slc_op_cases hs with ⟨i, c, hi, hes', ⟨h0, h1'⟩, h2, rfl⟩ | ⟨i, off, hi, hes', ⟨h0, h1'⟩, rfl⟩
            rotate_left
            · omega
            subst hes'
            obtain ⟨w', hrun, hgo⟩ := putCells_sound (N := N) he hr hi hnew hp
            refine ⟨_, ρ, w', hfits _ len c w' (by omega) (by simp only [addr_add, Nat.add_assoc]; exact hrun), ?_, hgo⟩
            exact .slcO hi hroom h1' h2
          | false =>
          rw [hroom] at ha; simp only at ha
          split at ha
          rotate_left
          · cases ha
          rename_i e1 m ccs hbk
          split at ha
          rotate_left
          · cases ha
          rename_i hc0
          simp only [Bool.and_eq_true, decide_eq_true_eq] at hc0
          obtain ⟨hes, hee⟩ := hc0
          rw [hee] at hbk
          clear hee e1
          obtain rfl := Nat.eq_of_beq_eq_true hes
          have hlive : liveW (some (AObj.row e m true false ccs)) := ⟨rfl, rfl⟩
          have hkill : Go' P env okc N ρ h w ρ (h.put b .dead) w := Go'.kill hr b hbk
          -- what stands in the block
          have hblk : ∀ i, ρ b = some i → _ := fun i hi => row_of hr hbk hi
          cases hfast : (Nat.beq o 0 && Nat.beq m (len * es)) with
          | true =>
            rw [hfast] at ha; simp only at ha; cases ha
            simp only [Bool.and_eq_true] at hfast
            obtain rfl := Nat.eq_of_beq_eq_true hfast.1
            obtain rfl := Nat.eq_of_beq_eq_true hfast.2
            -- a new block
            have hgrow : ∀ (i : BI) (c : Nat) (a : Addr) (ol : List Value), ρ b = some i → ¬ len + n ≤ c → ol.length = len * es →
                (∀ j v, ccs.get j = some v → j < len * es ∧ ∃ x, ol[j]? = some x ∧ VRel ρ env v x ∧ Value.one x = true) →
                (firstCells es len (.slice (some a) len c)).run P w.drew = .ok ⟨ol⟩ w.drew →
                Makes P env okc N ρ h w (append_ #[sT, xT] ty #[.slice (some a) len c, cx]) (.slc rid 0 (len + n) (.op es (len + n)))
                  ((h.put b .dead).put rid (.row e (len * es + n * es) true false (writeCells ccs new (len * es)))) := by
              intro i c a ol hi hno hol hcells hold
              obtain ⟨nc, hnc, hrun⟩ := append_grows (ty := ty) hu hux (fun k hk => hnint k hk) hsz hti htb c2 c3 hsm hzr rfl (hlen w) hno hold (hnewfull w.drew rfl)
              have hd : HRel P env okc ρ (h.put b .dead) w.drew := hkill.rel.heap_eq rfl
              have hrest : (zeroCells zv.cells (nc - (len + n))).size = (nc - (len + n)) * es := by rw [zeroCells_size, hzs]
              have htot : ol.length + new'.length + (nc - (len + n)) * es = nc * es := by
                rw [hol, ← hnew.1, hnl, ← Nat.add_mul, ← Nat.add_mul]; congr 1; omega
              have hgo2 := Go'.alloc (N := N) (b := rid) (o := .row e (len * es + n * es) true false (writeCells ccs new (len * es)))
                (ob := .cells (⟨ol⟩ ++ ⟨new'⟩ ++ zeroCells zv.cells (nc - (len + n))) e) (i := ⟨w.drew.heap.size, 0, nc * es, es⟩) hd hrid hn hN rfl
                ⟨_, (0, 0), rfl, by simp only [Array.size_append, List.size_toArray, hrest]; omega, by
                    have : (len + n) * es ≤ nc * es := Nat.mul_le_mul_right _ hnc
                    rw [Nat.add_mul] at this; simp only; omega, ?_, by intro _ off _ hh; simp at hh, fun _ => ⟨hsz, c1⟩, by simp⟩
              · refine ⟨_, _, _, hrun, ?_, (hkill.trans (Go'.drew hkill.rel)).trans hgo2⟩
                have := VRel.slcO (env := env) (b := rid) (o := 0) (len := len + n) (lo := len + n) (c := nc) (Rho.set_same ρ rid ⟨w.drew.heap.size, 0, nc * es, es⟩) (Nat.le_refl _) hnc (by simp only; omega)
                exact this
              · intro j v hv
                rw [writeCells_get] at hv
                simp only [Nat.zero_add]
                by_cases hj : len * es ≤ j ∧ j < len * es + new.length
                · rw [if_pos hj] at hv
                  obtain ⟨x, hx2, hvx⟩ := hnew.get hv
                  refine ⟨by omega, x, ?_, hvx.mono (Rho.sub_set _ hrid), hn1 x (List.mem_of_getElem? hx2)⟩
                  have hxl : j - len * es < new'.length := by rw [← hnew.1]; omega
                  rw [Array.getElem?_append_left (by simp only [Array.size_append, List.size_toArray]; omega), Array.getElem?_append_right (by simp only [List.size_toArray]; omega)]
                  simp only [List.size_toArray, hol, List.getElem?_toArray]; exact hx2
                · rw [if_neg hj] at hv
                  obtain ⟨hjl, x, hx2, hvx, hone⟩ := hcells j v hv
                  refine ⟨by omega, x, ?_, hvx.mono (Rho.sub_set _ hrid), hone⟩
                  rw [Array.getElem?_append_left (by simp only [Array.size_append, List.size_toArray]; omega), Array.getElem?_append_left (by simp only [List.size_toArray]; omega)]
                  simp only [List.getElem?_toArray]; exact hx2
            rcases slc_op_cases hs with ⟨i, c, hi, hes', ⟨h0, h1⟩, h2, rfl⟩ | ⟨i, off, hi, hes', ⟨rfl, rfl⟩, rfl⟩
            rotate_left
            · obtain ⟨c0, frz, hw, t1, t2, t3, _, _⟩ := hblk i hi
              refine hgrow i 0 _ [] hi (by omega) (by simp) (fun j v hv => ?_) (by simp [firstCells, loadCells, loadCellsFrom])
              have := (t3 j v hv).1
              omega
            · subst hes'
              obtain ⟨c0, frz, hw, t1, t2, t3, t4, t5⟩ := hblk i hi
              by_cases hfit : len + n ≤ c
              · -- in place
                have hmul : (len + n) * i.esz ≤ c * i.esz := Nat.mul_le_mul_right _ hfit
                rw [Nat.add_mul] at hmul
                have hnl' : new'.length = n * i.esz := by rw [← hnew.1]; exact hnl
                have hstore := run_storeCells (P := P) (B := i.blk) (off := i.shift + 0 + len * i.esz) new' 0 c0 w hw hn1 (by omega) (t4 rfl)
                refine ⟨_, ρ.set rid i, _, hfits (some ⟨i.blk, i.shift + 0, none⟩) len c _ hfit (by simp only [addr_add]; exact hstore), ?_, ?_⟩
                · exact .slcO (Rho.set_same ρ rid i) (Nat.le_refl _) hfit (by omega)
                · refine Go'.move hr hbk hlive hi hrid hn hN rfl ⟨_, frz, rfl, by rw [splice_size]; exact t1, by omega, ?_, ?_, t5.1, by simp⟩
                  · intro j v hv
                    rw [writeCells_get] at hv
                    rw [splice_get _ _ _ _ (by omega)]
                    by_cases hj : len * i.esz ≤ j ∧ j < len * i.esz + new.length
                    · rw [if_pos hj] at hv
                      obtain ⟨x, hx2, hvx⟩ := hnew.get hv
                      refine ⟨by omega, x, ?_, hvx.mono (Rho.sub_set _ hrid), hn1 x (List.mem_of_getElem? hx2)⟩
                      rw [if_pos (by omega), show i.shift + j - (i.shift + 0 + len * i.esz + 0) = j - len * i.esz by omega]; exact hx2
                    · rw [if_neg hj] at hv
                      obtain ⟨hjl, x, hx2, hvx, hone⟩ := t3 j v hv
                      refine ⟨by omega, x, ?_, hvx.mono (Rho.sub_set _ hrid), hone⟩
                      rw [if_neg (by omega)]; exact hx2
                  · intro _ off hoff; rw [splice_size] at hoff; exact t4 rfl off hoff
              · -- the cells of the block, as they are
                let ol := (c0.toList.drop i.shift).take (len * i.esz)
                have hol : ol.length = len * i.esz := by simp only [ol, List.length_take, List.length_drop, Array.length_toList]; omega
                have hog : ∀ j x, ol[j]? = some x → c0[i.shift + 0 + j]? = some x := by
                  intro j x hx2
                  simp only [ol, List.getElem?_take, List.getElem?_drop, Array.getElem?_toList] at hx2
                  split at hx2
                  · simpa using hx2
                  · cases hx2
                refine hgrow i c _ ol hi hfit hol (fun j v hv => ?_) ?_
                · obtain ⟨hjl, x, hx2, hvx, hone⟩ := t3 j v hv
                  refine ⟨hjl, x, ?_, hvx, hone⟩
                  simp only [ol, List.getElem?_take, List.getElem?_drop, Array.getElem?_toList]
                  rw [if_pos hjl]; exact hx2
                · have := loads_in (P := P) hw ol (off := i.shift + 0) hog (len * i.esz) (by omega) w.drew rfl
                  rw [List.take_of_length_le (by omega)] at this
                  exact this
          | false =>
            rw [hfast] at ha; simp only at ha
            split at ha
            rotate_left
            · cases ha
            cases hrd : readCells ccs (len * es) o with
            | none => rw [hrd] at ha; cases ha
            | some old =>
              rw [hrd] at ha; cases ha
              rcases slc_op_cases hs with ⟨i, c, hi, hes', ⟨h0, h1⟩, h2, rfl⟩ | ⟨i, off, hi, hes', ⟨rfl, rfl⟩, rfl⟩
              rotate_left
              · have e0 : old = [] := by
                  have : readCells ccs 0 o = some old := by simpa using hrd
                  cases this; rfl
                subst e0
                have := hgrows (some ⟨i.blk, off, none⟩) 0 0 [] [] (by omega) hsm .nil (by simp) (by simp) (by simp [firstCells, loadCells, loadCellsFrom]) (h.put b .dead) hkill
                exact this
              · subst hes'
                obtain ⟨c0, frz, hw, t1, t2, t3, t4, t5⟩ := hblk i hi
                obtain ⟨old', ho, hol, ho1, hob, hog⟩ := run_readCells m t3 (len * i.esz) o old hrd
                have hol' : old'.length = len * i.esz := by rw [← ho.1]; exact hol
                by_cases hfit : len + n ≤ c
                · have hmul : (len + n) * i.esz ≤ c * i.esz := Nat.mul_le_mul_right _ hfit
                  rw [Nat.add_mul] at hmul
                  have hnl' : new'.length = n * i.esz := by rw [← hnew.1]; exact hnl
                  have hstore := run_storeCells (P := P) (B := i.blk) (off := i.shift + o + len * i.esz) new' 0 c0 w hw hn1 (by omega) (t4 rfl)
                  refine ⟨_, ρ.set rid ⟨i.blk, i.shift + o, i.total, i.esz⟩, _, hfits (some ⟨i.blk, i.shift + o, none⟩) len c _ hfit (by simp only [addr_add]; exact hstore), ?_, ?_⟩
                  · exact .slcO (o := 0) (Rho.set_same ρ rid ⟨i.blk, i.shift + o, i.total, i.esz⟩) (Nat.le_refl _) hfit (by simp only; omega)
                  · refine Go'.move hr hbk hlive hi hrid hn hN rfl ⟨_, frz, rfl, by rw [splice_size]; exact t1, by simp only [List.length_append]; omega, ?_, ?_, t5.1, by simp⟩
                    · intro j v hv
                      rw [rowOf_get] at hv
                      rw [splice_get _ _ _ _ (by omega)]
                      have hall := ho.append hnew
                      obtain ⟨x, hx2, hvx⟩ := hall.get hv
                      have hjlt : j < (old ++ new).length := by
                        rcases Nat.lt_or_ge j (old ++ new).length with hh | hh
                        · exact hh
                        · rw [List.getElem?_eq_none hh] at hv; cases hv
                      rw [List.length_append] at hjlt
                      refine ⟨by rw [List.length_append]; exact hjlt, x, ?_, hvx.mono (Rho.sub_set _ hrid), ?_⟩
                      · simp only
                        by_cases hj : j < len * i.esz
                        · rw [if_neg (by omega)]
                          rw [List.getElem?_append_left (by omega)] at hx2
                          exact hog j x hx2
                        · rw [if_pos (by omega), show i.shift + o + j - (i.shift + o + len * i.esz + 0) = j - len * i.esz by omega]
                          rw [List.getElem?_append_right (by omega), hol'] at hx2
                          exact hx2
                      · rcases List.mem_append.1 (List.mem_of_getElem? hx2) with hm | hm
                        · exact ho1 x hm
                        · exact hn1 x hm
                    · intro _ off hoff; rw [splice_size] at hoff; exact t4 rfl off hoff
                · refine hgrows (some ⟨i.blk, i.shift + o, none⟩) len c old old' hfit hsm ho ho1 hol ?_ (h.put b .dead) hkill
                  have := loads_in (P := P) hw old' (off := i.shift + o) hog (len * i.esz) (by omega) w.drew rfl
                  rw [List.take_of_length_le (by omega)] at this
                  exact this
    · cases ha

end
end Go.Eng
