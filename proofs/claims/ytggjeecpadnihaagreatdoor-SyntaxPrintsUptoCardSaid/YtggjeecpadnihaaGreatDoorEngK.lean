/- The engine, part K: copy, len, cap, conversions, unsafe strings. -/
import Derived.Test.YtggjeecpadnihaaGreatDoorEngJ
import Derived.Laws.BytesString
import Derived.Lib.UnsafeStr
set_option linter.unusedSectionVars false
set_option linter.unusedVariables false
set_option linter.unusedSimpArgs false
namespace Go.Eng
open Go.Builtin

section
variable {P : Program} {env : Nat → Value} {okc : FuncId → Code → Bool} {N : Nat → Prop} {ρ ρ' : Rho} {h h' : AHeap} {w w' : World}

theorem Makes.pure' (hr : HRel P env okc ρ h w) {s : Sem Value} {v : AVal} {x : Value} (hs : s.run P w = .ok x w) (hv : VRel ρ env v x) : Makes P env okc N ρ h w s v h :=
  ⟨x, ρ, w, hs, hv, .refl hr⟩

theorem copyA_sound (he : EnvOk env) (hr : HRel P env okc ρ h w) {dT ty : TypeId} {ts : List TypeId} {d s v : AVal} {cd cs : Value} (hd : VRel ρ env d cd) (hs : VRel ρ env s cs)
    (ha : copyA P h dT d s = some (v, h')) : Makes P env okc N ρ h w (copy_ ⟨dT :: ts⟩ ty #[cd, cs]) v h' := by
  unfold copyA at ha
  split at ha
  rotate_left
  · cases ha
  rename_i e hu
  cases hsz : sizeA P e with
  | none => rw [hsz] at ha; cases ha
  | some size =>
    rw [hsz] at ha; simp only at ha
    cases hcf : cellsFrom h size s with
    | none => rw [hcf] at ha; cases ha
    | some nl =>
      obtain ⟨n, l⟩ := nl
      rw [hcf] at ha
      obtain ⟨l', hl, hll, hone, hlen, hfirst⟩ := cellsFrom_sound hr hs hcf
      have hrun : ∀ base dl c w', (match base with | some a => (storeCells a (l'.take (min n dl * size))).run P w = .ok () w' | none => w' = w) →
          (copy_ ⟨dT :: ts⟩ ty #[.slice base dl c, cs]).run P w = .ok (.int .i64 (min n dl : Nat)) w' := by
        intro base dl c w' hst
        have hf := hfirst (min n dl) (Nat.min_le_left _ _) w rfl
        unfold copy_
        simp only [List.getElem?_toArray, List.getElem?_cons_zero, List.getElem?_cons_succ, Sem.run_bind, run_und hu, Result.andThen_ok, hlen w, run_size hsz]
        rw [show Nat.min n dl = min n dl from rfl, hf]
        simp only [Result.andThen_ok]
        cases base with
        | none => simp only at hst; subst hst; rfl
        | some a => simp only at hst; simp only [Sem.run_bind, hst, Result.andThen_ok]; rfl
      cases d with
      | slc b o len cap =>
        simp only at ha
        cases ht : takeN (minB n len * size) l with
        | none => rw [ht] at ha; cases ha
        | some l1 =>
          rw [ht] at ha; simp only at ha
          rw [minB_eq] at ha ht
          obtain ⟨rfl, _⟩ := takeN_eq _ _ _ ht
          split at ha
          · rename_i h0
            cases ha
            have hkeep : ∀ a c, cd = .slice (some a) len c → Makes P env okc N ρ h w (copy_ ⟨dT :: ts⟩ ty #[cd, cs]) (.int .i64 0) h := by
              rintro a c rfl
              have := hrun (some a) len c w (by simp only; rw [h0]; simp [storeCells])
              rw [h0] at this
              exact .pure' hr this (.int _ _)
            cases hd with
            | slcK _ _ c hi => exact hkeep _ _ rfl
            | slcO hi h0 h1 h2 => exact hkeep _ _ rfl
            | slcE _ off hi hc => exact hkeep _ _ rfl
          · rename_i h0
            cases hp : putCells h b o (l.take (min n len * size)) with
            | none => rw [hp] at ha; cases ha
            | some h1 =>
              rw [hp] at ha; cases ha
              have hgo : ∀ i : BI, ρ b = some i → ∀ c, Makes P env okc N ρ h w (copy_ ⟨dT :: ts⟩ ty #[.slice (some ⟨i.blk, i.shift + o, none⟩) len c, cs]) (.int .i64 (.ofNat (min n len))) h' := by
                intro i hi c
                obtain ⟨w', hst, hg⟩ := putCells_sound (N := N) he hr hi (hl.take _) hp
                exact ⟨_, ρ, w', hrun _ len c w' hst, .int _ _, hg⟩
              cases hd with
              | slcK _ _ c hi => exact hgo _ hi _
              | slcO hi h0 h1 h2 => exact hgo _ hi _
              | slcE _ off hi hc => exact absurd (by simp) h0
      | nslc =>
        cases ha; cases hd
        have := hrun none 0 0 w rfl
        rw [Nat.min_zero] at this
        exact .pure' hr this (.int _ _)
      | _ => cases ha

theorem EntRel.len : ∀ {es : List (AVal × AVal × Nat)} {es' : List MapEntry}, EntRel env ρ es es' → es.length = es'.length
  | [], [], _ => rfl
  | [], _ :: _, h => h.elim
  | (_, _, _) :: _, [], h => h.elim
  | (_, _, _) :: _, _ :: _, h => by simp [EntRel.len h.2.2.2]

/-- A map's block. -/
theorem map_of (hr : HRel P env okc ρ h w) {b : Nat} {es : List (AVal × AVal × Nat)} {clock : Nat} {i : BI} (hb : h.get b = some (.map es clock)) (hi : ρ b = some i) :
    ∃ es', w.heap[i.blk]? = some (.map es' clock) ∧ EntRel env ρ es es'.toList := by
  obtain ⟨ob, hw, es', rfl, h1⟩ := hr.obj b _ i hb rfl hi
  exact ⟨es', hw, h1⟩

theorem run_getObj_map {r clock : Nat} {es : Array MapEntry} (hw : w.heap[r]? = some (.map es clock)) : (getObj r).run P w = .ok (.map es clock) w := by
  simp [getObj, Sem.run, hw]

theorem lenA_sound {facts : List Fact} (hF : ∀ f ∈ facts, FactOk P env f) (hr : HRel P env okc ρ h w) {t ty : TypeId} {ts : List TypeId} {x v : AVal} {cx : Value} (hx : VRel ρ env x cx)
    (ha : lenA P facts h t x = some v) : ∃ r, (len_ ⟨t :: ts⟩ ty #[cx]).run P w = .ok r w ∧ VRel ρ env v r := by
  unfold lenA at ha
  split at ha
  · rename_i l m hu
    cases ha; cases hx
    exact ⟨_, by simp [len_, run_und hu, byteArr_size, goInt], .int _ _⟩
  · rename_i b o n cap e hu
    cases ha
    cases hx <;> exact ⟨_, by simp [len_, run_und hu, goInt], .int _ _⟩
  · rename_i e hu
    cases ha; cases hx
    exact ⟨_, by simp [len_, run_und hu, goInt], .int _ _⟩
  · rename_i k e hu
    cases ha; cases hx
    exact ⟨_, by simp [len_, run_und hu, goInt], .int _ _⟩
  · rename_i b k e hu
    cases hx with | map hi =>
    split at ha
    · rename_i es clock hb
      cases ha
      obtain ⟨es', hw, he⟩ := map_of hr hb hi
      refine ⟨.int .i64 es'.size, by simp [len_, run_und hu, run_getObj_map hw, goInt], ?_⟩
      have := he.len
      have e2 : es'.toList.length = es'.size := Array.length_toList
      rw [← e2, ← this]; exact .int _ _
    · cases ha
  · rename_i i hu
    obtain ⟨f, hf, hk, e1, e2, rfl⟩ := factOf_mem ha
    have := hF f hf
    unfold FactOk at this; rw [hk] at this
    exact this ρ t ty ts cx w hu (e1 ▸ hx)
  · rename_i hu
    cases ha
    exact ⟨_, by simp [len_, run_und hu, goInt], .int _ _⟩
  · cases ha

theorem capA_sound {t ty : TypeId} {ts : List TypeId} {x v : AVal} {cx : Value} (hx : VRel ρ env x cx)
    (ha : capA P t x = some v) : ∃ r, (cap_ ⟨t :: ts⟩ ty #[cx]).run P w = .ok r w ∧ VRel ρ env v r := by
  unfold capA at ha
  split at ha
  · rename_i b o n c e hu
    cases ha
    generalize hc : Cap.kn c = cp at hx
    cases hx with
    | slcK _ _ _ hi => cases hc; exact ⟨_, by simp [cap_, run_und hu, goInt], .int _ _⟩
    | slcO hi h0 h1 h2 => cases hc
    | slcE _ off hi hcp =>
      rcases hcp with hcp | hcp
      · subst hcp; cases hc; exact ⟨_, by simp [cap_, run_und hu, goInt], .int _ _⟩
      · subst hcp; cases hc
  · rename_i e hu
    cases ha; cases hx
    exact ⟨_, by simp [cap_, run_und hu, goInt], .int _ _⟩
  · cases ha

theorem max2A_sound {big : Bool} {x y v : AVal} {cx cy : Value} (hx : VRel ρ env x cx) (hy : VRel ρ env y cy) (ha : max2A big x y = some v) :
    ∃ r, (if big then max2 cx cy else min2 cx cy).run P w = .ok r w ∧ VRel ρ env v r := by
  unfold max2A at ha
  split at ha
  rotate_left
  · cases ha
  rename_i k a k' b
  split at ha
  rotate_left
  · cases ha
  rename_i hk
  subst hk
  cases ha; cases hx; cases hy
  cases big with
  | true =>
    refine ⟨.int k (if b > a then b else a), by simp [max2], ?_⟩
    have : (if ltI a b = true then b else a) = (if b > a then b else a) := by
      rw [ltI_eq]; simp
    simp only [this]; exact .int _ _
  | false =>
    refine ⟨.int k (if b < a then b else a), by simp [min2], ?_⟩
    have : (if ltI b a = true then b else a) = (if b < a then b else a) := by
      rw [ltI_eq]; simp
    simp only [this]; exact .int _ _

theorem maxA_sound {big : Bool} : ∀ (l : List AVal) (l' : List Value) (x v : AVal) (cx : Value), VRel ρ env x cx → VRels ρ env l l' → maxA big x l = some v →
    ∃ r, (l'.foldlM (if big then max2 else min2) cx).run P w = .ok r w ∧ VRel ρ env v r
  | [], l', x, v, cx, hx, hl, ha => by
    cases ha; rw [hl.nil_iff]; exact ⟨cx, rfl, hx⟩
  | y :: l, l', x, v, cx, hx, hl, ha => by
    obtain ⟨cy, r', rfl, hy, hr⟩ := hl.uncons
    unfold maxA at ha
    cases h1 : max2A big x y with
    | none => rw [h1] at ha; cases ha
    | some z =>
      rw [h1] at ha
      obtain ⟨cz, hz, hvz⟩ := max2A_sound (P := P) (w := w) hx hy h1
      obtain ⟨r, hrr, hv⟩ := maxA_sound l r' z v cz hvz hr ha
      refine ⟨r, ?_, hv⟩
      simp only [List.foldlM_cons, Sem.run_bind]
      have : ((if big = true then max2 else min2) cx cy) = (if big = true then max2 cx cy else min2 cx cy) := by cases big <;> rfl
      rw [this, hz]
      exact hrr

/-! ### Conversions -/
theorem bytesOfCells_eq : ∀ {l : List AVal} {k m : Nat}, bytesOfCells l = some (k, m) →
    ∃ ns : List Nat, l = ns.map (fun n => AVal.int .u8 (.ofNat n)) ∧ k = ns.length ∧ m = packL (ns.map UInt8.ofNat) ∧ ∀ n ∈ ns, n ≤ 255
  | [], k, m, h => by cases h; exact ⟨[], rfl, rfl, rfl, by simp⟩
  | v :: l, k, m, h => by
    unfold bytesOfCells at h
    split at h
    · rename_i heq; cases heq
    · rename_i n l' heq
      cases heq
      cases h1 : bytesOfCells l with
      | none => rw [h1] at h; cases h
      | some km =>
        obtain ⟨k', m'⟩ := km
        rw [h1] at h; simp only at h
        split at h
        rotate_left
        · cases h
        rename_i hn
        cases h
        obtain ⟨ns, rfl, rfl, rfl, h4⟩ := bytesOfCells_eq h1
        have hn := ble_le hn
        refine ⟨n :: ns, rfl, rfl, ?_, ?_⟩
        · simp only [List.map_cons, packL]
          have : (UInt8.ofNat n).toNat = n := by simp; omega
          rw [this]; rfl
        · intro x hx
          cases hx with
          | head => exact hn
          | tail _ hx => exact h4 x hx
    · cases h

theorem ints_of {ns : List Nat} {l' : List Value} (h : VRels ρ env (ns.map fun n => AVal.int .u8 (.ofNat n)) l') : l' = ns.map fun (n : Nat) => Value.int .u8 (n : Int) := by
  induction ns generalizing l' with
  | nil => exact h.nil_iff
  | cons n ns ih =>
    obtain ⟨x, r, rfl, hx, hr⟩ := h.uncons
    cases hx
    rw [ih hr]; rfl

theorem push_bytes (ns : List Nat) (s : ByteArray) : (ns.map fun (n : Nat) => (n : Int)).foldl (fun r n => r.push (UInt8.ofNat n.toNat)) s = ⟨s.data ++ (ns.map UInt8.ofNat).toArray⟩ := by
  induction ns generalizing s with
  | nil => simp
  | cons n ns ih =>
    simp only [List.map_cons, List.foldl_cons, Int.toNat_natCast]
    rw [ih]
    apply byteArr_ext
    simp [ByteArray.push]

theorem bytes_string {ns : List Nat} : (⟨(ByteArray.empty.data ++ (ns.map UInt8.ofNat).toArray)⟩ : ByteArray) = byteArr ns.length (packL (ns.map UInt8.ofNat)) := by
  apply byteArr_ext
  rw [byteArr_data]
  have := bytesL_pack (ns.map UInt8.ofNat)
  rw [List.length_map] at this
  rw [this]
  have e : ByteArray.empty.data = #[] := rfl
  rw [e]; simp

theorem freeze_alloc (w : World) (c : Array Value) (e : TypeId) :
    (w.alloc (.cells c e)).freeze ⟨w.heap.size, c.size, none⟩ 1 = w.alloc (.cells c e (c.size, c.size + 1)) := by
  unfold World.freeze World.alloc
  simp only [Nat.succ_ne_zero, if_false]
  congr 1
  apply Array.ext_getElem?
  intro i
  rw [Array.getElem?_modify]
  by_cases hi : w.heap.size = i
  · subst hi; simp
  · rw [if_neg hi, Array.getElem?_push, Array.getElem?_push, if_neg (by omega), if_neg (by omega)]

theorem stringBytes_sound (hr : HRel P env okc ρ h w) {rid : Nat} {e : TypeId} {l m : Nat}
    (hsz : sizeA P e = some 1) (hrid : ρ rid = none) (hn : rid < h.next) (hN : N rid) :
    Makes P env okc N ρ h w (Conv.stringToBytes e (byteArr l m)) (.slc rid 0 l (.op 1 l)) (newRowA h rid e (cellsOfBytes l m) true) := by
  have hlen : (byteArr l m).data.size = l := byteArr_size l m
  let q := Question.appendCap l 0 e
  let nc := q.cut (w.tape w.drawn q)
  have hnc : l ≤ nc := by simp only [nc, q, Question.cut]; omega
  let rest : List Value := List.replicate (nc - l) (.int .u8 0)
  have hgo := newRowOpen_sound (N := N) (e := e) (esz := 1) (frz := (l + (nc - l), l + (nc - l) + 1)) (hr.heap_eq (w' := w.drew) rfl) rest (cellsOfBytes_one l m) (cellsOfBytes_rel l m) hrid hn hN hsz (Nat.le_refl _)
    (by intro off hoff; simp only [List.length_map, bytesL_length, rest, List.length_replicate] at hoff; simp only; omega)
  refine ⟨.slice (some ⟨w.heap.size, 0, none⟩) l nc, _, _, ?_, ?_, (Go'.drew hr).trans hgo⟩
  · have hcells : ((byteArr l m).data.map (fun b => Value.int .u8 b.toNat) ++ Array.replicate (nc - l) (.int .u8 0)) = ⟨(bytesL l m).map (fun b => Value.int .u8 (b.toNat : Int)) ++ rest⟩ := by
      apply Array.ext'
      simp [rest, byteArr_data]
    have hsz2 : (⟨(bytesL l m).map (fun b => Value.int .u8 (b.toNat : Int)) ++ rest⟩ : Array Value).size = l + (nc - l) := by
      simp [rest, bytesL_length]
    unfold Conv.stringToBytes
    simp only [Sem.run_bind, run_choose, Question.forced, Bool.false_eq_true, if_false, Result.andThen_ok, byteArr_size, World.drew_eq]
    rw [show Question.cut (.appendCap l 0 e) (w.tape w.drawn (.appendCap l 0 e)) = nc from rfl, hcells]
    simp only [newRow_run, Result.andThen_ok, World.size_drew, Sem.run_pure]
    have hshape : (w.drew.alloc (.cells ⟨(bytesL l m).map (fun b => Value.int .u8 (b.toNat : Int)) ++ rest⟩ e)).shape? w.heap.size = some (e, l + (nc - l)) := by
      unfold World.shape?
      rw [alloc_get, World.size_drew, if_pos rfl]
      simp only [hsz2]
    unfold markStringish
    simp only [Sem.run_bind, run_shape, hshape, Result.andThen_ok, run_freeze]
    have hf := freeze_alloc w.drew ⟨(bytesL l m).map (fun b => Value.int .u8 (b.toNat : Int)) ++ rest⟩ e
    rw [hsz2, World.size_drew] at hf
    rw [hf]
  · have := VRel.slcO (env := env) (b := rid) (o := 0) (len := l) (lo := l) (c := nc) (Rho.set_same ρ rid ⟨w.drew.heap.size, 0, ((bytesL l m).map (fun b => Value.int .u8 (b.toNat : Int))).length + rest.length, 1⟩) (Nat.le_refl _) hnc
      (by simp only [List.length_map, bytesL_length, rest, List.length_replicate]; omega)
    exact this

theorem shape_of {w : World} {B : Nat} {c : Array Value} {e : TypeId} {frz : Nat × Nat} (hw : w.heap[B]? = some (.cells c e frz)) : w.shape? B = some (e, c.size) := by
  simp [World.shape?, hw]

theorem convA_sound {facts : List Fact} (hF : ∀ f ∈ facts, FactOk P env f) (hr : HRel P env okc ρ h w) {rid : Nat} {src dst : TypeId} {x v : AVal} {cx : Value} (hx : VRel ρ env x cx)
    (hrid : (∃ e, P.underlying dst = some (.slice e)) → ρ rid = none ∧ rid < h.next ∧ N rid) (ha : convA P facts h rid src dst x = some (v, h')) :
    Makes P env okc N ρ h w (convert src dst cx) v h' := by
  unfold convA at ha
  split at ha
  · rename_i i
    split at ha
    · cases ha
    cases hf : factOf (.conv src dst) (.sym i) .nptr facts with
    | none => rw [hf] at ha; cases ha
    | some v' =>
      rw [hf] at ha; cases ha
      obtain ⟨f, hmem, hk, e1, e2, rfl⟩ := factOf_mem hf
      have := hF f hmem
      unfold FactOk at this; rw [hk] at this
      obtain ⟨r, hr', hv⟩ := this ρ cx w (e1 ▸ hx)
      exact .pure' hr hr' hv
  · rename_i k n
    cases hx
    split at ha
    · rename_i ds k' hs hd
      cases ha
      refine .pure' hr (x := .int k' (k'.wrap n)) ?_ (by rw [wrapF_eq]; exact .int _ _)
      simp [convert, run_und hs, run_und hd, Conv.intToInt]
    · rename_i ds hs hd
      cases ha
      refine .pure' hr (x := .string (Utf8.encode n)) ?_ (.of_string _)
      simp [convert, run_und hs, run_und hd, Conv.intToString]
    · cases ha
  · rename_i l m
    cases hx with | str _ _ hlt =>
    split at ha
    · rename_i ds hs hd
      cases ha
      refine .pure' hr (x := .string (byteArr l m)) ?_ (.str _ _ hlt)
      simp [convert, run_und hs, run_und hd]
    · rename_i ds e hs hd
      split at ha
      · rename_i he hsz
        cases ha
        obtain ⟨h1, h2, h3⟩ := hrid ⟨e, hd⟩
        obtain ⟨x, ρ', w', hrun, hv, hgo⟩ := stringBytes_sound (N := N) (l := l) (m := m) hr hsz h1 h2 h3
        refine ⟨x, ρ', w', ?_, hv, hgo⟩
        simp only [convert, Sem.run_bind, run_und hs, run_und hd, Result.andThen_ok, run_und he]
        exact hrun
      · cases ha
    · cases ha
  · cases hx
    split at ha
    rotate_left
    · cases ha
    rename_i e hs hd
    split at ha
    rotate_left
    · cases ha
    rename_i he
    cases ha
    refine .pure' hr (x := .string .empty) ?_ ?_
    · rw [run_convert_bytes_string w src dst e _ _ _ hs he hd]; rfl
    · have := VRel.str (ρ := ρ) (env := env) 0 0 (by decide)
      exact this
  · cases hx
    split at ha
    · rename_i t hs hd
      cases ha
      refine .pure' hr (x := .pointer none) ?_ .nptr
      simp [convert, run_und hs, run_und hd, Conv.unsafePointer]
    · rename_i t hs hd
      cases ha
      refine .pure' hr (x := .pointer none) ?_ .nptr
      simp [convert, run_und hs, run_und hd, Conv.unsafePointer]
    · cases ha
  · rename_i b o
    cases hx with | ptr _ hi =>
    rename_i i
    split at ha
    · rename_i t e n op ro cs hs hd hb
      cases hsz : sizeA P t with
      | none => rw [hsz] at ha; cases ha
      | some sz =>
        rw [hsz] at ha
        cases sz with
        | zero => cases ha
        | succ sz =>
          simp only at ha
          split at ha
          rotate_left
          · cases ha
          rename_i hb1
          cases ha
          have hb1 := ble_le hb1
          obtain ⟨c, frz, hw, t1, t2, _⟩ := row_of hr hb hi
          refine .pure' hr (x := .pointer (some ⟨i.blk, i.shift + o, none⟩)) ?_ (.ptr _ hi)
          have hshape := shape_of hw
          have : ¬ (c.size ≤ i.shift + o) := by omega
          simp [convert, run_und hs, run_und hd, Conv.unsafePointer, Conv.seenAt, viewAt, hshape, cellsIn, run_size hsz, this]
    · rename_i u e n ro cs hs hd hb
      cases hsz : sizeA P u with
      | none => rw [hsz] at ha; cases ha
      | some sz =>
        rw [hsz] at ha
        cases sz with
        | zero => cases ha
        | succ sz =>
          simp only at ha
          split at ha
          rotate_left
          · cases ha
          rename_i hl
          cases ha
          obtain ⟨c, frz, hw, t1, t2, _, _, _, t6⟩ := row_of hr hb hi
          obtain ⟨t7, t8⟩ := t6 rfl
          refine .pure' hr (x := .pointer (some ⟨i.blk, i.shift + o, none⟩)) ?_ (.ptr _ hi)
          have hshape := shape_of hw
          rw [t1, ← t8] at hshape
          rw [t7, Nat.zero_add]
          simp [convert, run_und hs, run_und hd, Conv.unsafePointer, Conv.seenAt, viewAt, hshape, run_size hsz, variablesAt, hl]
    · cases ha
  · rename_i b o n cap
    split at ha
    · rename_i e hs hd
      split at ha
      rotate_left
      · cases ha
      rename_i he
      cases hc : cellsAt h b o n with
      | none => rw [hc] at ha; cases ha
      | some l =>
        rw [hc] at ha; simp only at ha
        cases hbc : bytesOfCells l with
        | none => rw [hbc] at ha; cases ha
        | some km =>
          obtain ⟨k, m⟩ := km
          rw [hbc] at ha; cases ha
          obtain ⟨ns, rfl, rfl, rfl, hns⟩ := bytesOfCells_eq hbc
          have key : ∀ (a : Addr) (c : Nat), cx = .slice (some a) n c → (loadCells a n).run P w = .ok ⟨ns.map fun (n : Nat) => Value.int .u8 (n : Int)⟩ w →
              Makes P env okc N ρ h w (convert src dst cx) (.str ns.length (packL (ns.map UInt8.ofNat))) h := by
            rintro a c rfl hload
            refine .pure' hr (x := .string (byteArr ns.length (packL (ns.map UInt8.ofNat)))) ?_ ?_
            · rw [run_convert_bytes_string w src dst e _ _ _ hs he hd]
              have := run_bytesToString (P := P) w a n c (ns.map fun (n : Nat) => (n : Int)) (by rw [hload]; congr 1; apply Array.ext'; simp)
              rw [this, push_bytes, bytes_string]
            · have := packL_lt (ns.map UInt8.ofNat)
              rw [List.length_map] at this
              exact .str _ _ this
          cases hx with
          | slcK _ _ c hi =>
            obtain ⟨l', a1, a2, a3, a4⟩ := cellsAt_sound hr hi hc
            rw [ints_of a1] at a4
            exact key _ _ rfl a4
          | slcO hi h0 h1 h2 =>
            obtain ⟨l', a1, a2, a3, a4⟩ := cellsAt_sound hr hi hc
            rw [ints_of a1] at a4
            exact key _ _ rfl a4
          | slcE _ off hi hcp =>
            obtain ⟨l', a1, a2, a3, a4⟩ := cellsAt_sound hr hi hc
            have : ns = [] := by
              have : ns.length = 0 := by simpa using a2
              exact List.length_eq_zero_iff.1 this
            subst this
            exact key _ _ rfl (by simp [loadCells, loadCellsFrom])
    · cases ha
  · cases ha

end
end Go.Eng
