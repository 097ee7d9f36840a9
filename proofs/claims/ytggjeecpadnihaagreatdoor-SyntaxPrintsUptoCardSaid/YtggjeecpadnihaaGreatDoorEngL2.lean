/- The engine, part L2: unsafe strings, interfaces, what is outside. -/
import Derived.Test.YtggjeecpadnihaaGreatDoorEngL
import Derived.KernelRfl
set_option linter.unusedSectionVars false
set_option linter.unusedVariables false
set_option linter.unusedSimpArgs false
namespace Go.Eng

section
variable {P : Program} {env : Nat → Value} {okc : FuncId → Code → Bool} {N : Nat → Prop} {ρ ρ' : Rho} {h h' : AHeap} {w w' : World}

theorem liesAt_at {e : TypeId} (hc : P.cellsOf e = 1) (count off n : Nat) (hn : off + n ≤ count) : liesAt P P.depth e count off e n = true := by
  have hd : P.depth = (2 * (P.types.size + Made.depth) + 1) + 1 := rfl
  rw [hd]
  simp only [liesAt, Bool.or_eq_true]
  left
  rw [hd]
  simp [rowAt, hc, hn, sameLayout, Nat.mod_one]

theorem freeze_eq {B off n : Nat} {c : Array Value} {e : TypeId} {frz : Nat × Nat} (hw : w.heap[B]? = some (.cells c e frz)) (hn : n ≠ 0) :
    ∃ frz', w.freeze ⟨B, off, none⟩ n = setAt' w B (.cells c e frz') := by
  refine ⟨if frz.1 == frz.2 then (off, off + n) else (min frz.1 off, max frz.2 (off + n)), ?_⟩
  unfold World.freeze setAt'
  rw [if_neg hn]
  congr 1
  apply Array.ext_getElem?
  intro j
  simp only [Array.getElem?_modify, Array.getElem?_setIfInBounds]
  by_cases hj : B = j
  · subst hj
    obtain ⟨hlt, hget⟩ := Array.getElem?_eq_some_iff.1 hw
    simp [hlt, hget]
  · simp [hj]

theorem unsafeStringA_sound (hr : HRel P env okc ρ h w) {pt ty : TypeId} {ts : List TypeId} {x n v : AVal} {cx cn : Value} (hx : VRel ρ env x cx) (hn : VRel ρ env n cn)
    (ha : unsafeStringA P h pt x n = some (v, h')) : Makes P env okc N ρ h w (Builtin.unsafeString_ ⟨pt :: ts⟩ ty #[cx, cn]) v h' := by
  have hdef : ∀ (p : Option Addr) (k : IntKind) (m : Nat), (Builtin.unsafeString_ ⟨pt :: ts⟩ ty #[.pointer p, .int k (m : Int)]) =
      (do
        let n ← asInt (.int k (m : Int))
        if n < 0 then runtimePanic (.error "unsafe.String: len out of range")
        if n > IntKind.i64.max then unsupported (.unsafePointer "String: a length above the largest int")
        match p with
        | none =>
          if n = 0 then pure (.string .empty)
          else runtimePanic (.error "unsafe.String: ptr is nil and len is not zero")
        | some a =>
          if n = 0 then pure (.string .empty)
          else if ← variablesAt a (← elemOf pt) n.toNat then do
            let s ← loadBytes a .empty n.toNat
            freeze a n.toNat
            pure (.string s)
          else unsupported (.unsafePointer "String: not so many bytes at ptr") : Sem Value) := by
    intro p k m; rfl
  have hmax : IntKind.i64.max = 9223372036854775807 := rfl
  have hempty : VRel ρ env (.str 0 0) (.string .empty) := VRel.str (ρ := ρ) (env := env) 0 0 (by decide)
  unfold unsafeStringA at ha
  split at ha
  · cases hx; cases hn; cases ha
    refine .pure' hr (x := .string .empty) ?_ hempty
    rw [show (Int.ofNat 0) = ((0 : Nat) : Int) from rfl, hdef]
    simp [asInt, asIntOf, hmax]
  · cases hx; cases hn; cases ha
    refine .pure' hr (x := .string .empty) ?_ hempty
    rw [show (Int.ofNat 0) = ((0 : Nat) : Int) from rfl, hdef]
    simp [asInt, asIntOf, hmax]
  · rename_i b o k n hn0
    cases hx with | ptr _ hi =>
    cases hn
    rename_i i
    split at ha
    rotate_left
    · cases ha
    rename_i u e m op cs hu hb
    split at ha
    rotate_left
    · cases ha
    rename_i hc
    simp only [Bool.and_eq_true, decide_eq_true_eq] at hc
    obtain ⟨⟨⟨c1, rfl⟩, c3⟩, c4⟩ := hc
    have c3 := ble_le c3
    have c4 := ble_le c4
    cases hrd : readCells cs n o with
    | none => rw [hrd] at ha; cases ha
    | some l =>
      rw [hrd] at ha; simp only at ha
      cases hbc : bytesOfCells l with
      | none => rw [hbc] at ha; cases ha
      | some km =>
        obtain ⟨k', x⟩ := km
        rw [hbc] at ha; cases ha
        obtain ⟨ns, rfl, rfl, rfl, hns⟩ := bytesOfCells_eq hbc
        obtain ⟨c, frz, hw, t1, t2, t3, t4, t5⟩ := row_of hr hb hi
        have hn0' : n ≠ 0 := by
          intro h0; subst h0
          exact hn0 rfl
        obtain ⟨l', a1, a2, a3, a4, a5⟩ := run_readCells (i := i) m t3 n o _ hrd
        have hl' := ints_of a1
        have hlen : ns.length = n := by simpa using a2
        obtain ⟨frz', hfz⟩ := freeze_eq (off := i.shift + o) hw hn0'
        have hshape := shape_of hw
        have hlies : liesAt P P.depth u (c.size / P.cellsOf u) (i.shift + o) u n = true := by
          apply liesAt_at c1
          rw [c1, Nat.div_one]; omega
        have hcell : ∀ j y, (ns.map UInt8.ofNat)[j]? = some y → w.cell? ((⟨i.blk, i.shift + o, none⟩ : Addr).add j) = some (.int .u8 y.toNat) := by
          intro j y hy
          rw [addr_add, cell_of hw]
          simp only [List.getElem?_map, Option.map_eq_some_iff] at hy
          obtain ⟨z, hz, rfl⟩ := hy
          refine a5 j _ ?_
          rw [hl', List.getElem?_map, hz]
          have := hns z (List.mem_of_getElem? hz)
          simp; omega
        have hlb := Lib.run_loadBytes (P := P) w (ns.map UInt8.ofNat) ⟨i.blk, i.shift + o, none⟩ .empty hcell
        rw [List.length_map, hlen] at hlb
        refine ⟨.string ⟨ByteArray.empty.data ++ (ns.map UInt8.ofNat).toArray⟩, ρ, setAt' w i.blk (.cells c u frz'), ?_, ?_, ?_⟩
        · rw [show (Int.ofNat n) = ((n : Nat) : Int) from rfl, hdef]
          have e1 : ¬ ((n : Int) < 0) := by omega
          have e2 : ¬ ((9223372036854775807 : Int) < (n : Int)) := by omega
          have e3 : ¬ ((n : Int) = 0) := by omega
          have e4 : ¬ (n = 0) := hn0'
          simp [asInt, asIntOf, hmax, e1, e2, e3, e4, variablesAt, hshape, elemOf, run_und hu, hlies, hlb, hfz]
        · rw [bytes_string]
          have := packL_lt (ns.map UInt8.ofNat)
          rw [List.length_map] at this
          exact .str _ _ this
        · refine Go'.put hr hb ⟨rfl, rfl⟩ hi ⟨c, frz', rfl, t1, t2, t3, by simp, t5.1, t5.2⟩
  · cases ha

theorem typeAssertA_sound {x v : AVal} {cx : Value} {xT asserted : TypeId} {ok : Bool} (hx : VRel ρ env x cx) (ha : typeAssertA P x asserted ok = some v) :
    ∃ r, (Instr.typeAssert cx xT asserted ok).run P w = .ok r w ∧ VRel ρ env v r := by
  have holds : ∀ {v : AVal} {c : Value}, VRel ρ env v c → VRel ρ env (holdsA ok v) (if ok then .tuple #[c, .bool true] else c) := by
    intro v c hv
    cases ok
    · exact hv
    · exact (VRels.cons hv (.cons (.bool true) .nil)).tup
  have fails : ∀ {v : AVal}, failsA P asserted ok = some v → ok = true ∧ ∃ z, (zeroValue asserted).run P w = .ok z w ∧ VRel ρ env v (.tuple #[z, .bool false]) := by
    intro v hv
    unfold failsA at hv
    cases ok with
    | false => cases hv
    | true =>
      refine ⟨rfl, ?_⟩
      cases hz : zeroA P asserted with
      | none => rw [hz] at hv; cases hv
      | some z =>
        rw [hz] at hv; cases hv
        obtain ⟨z', h1, h2⟩ := run_zero (w := w) (ρ := ρ) (env := env) hz
        exact ⟨z', h1, (VRels.cons h2 (.cons (.bool false) .nil)).tup⟩
  unfold typeAssertA at ha
  split at ha
  · rename_i want hu
    cases hx
    obtain ⟨rfl, z, h1, h2⟩ := fails ha
    exact ⟨_, by simp [Instr.typeAssert, run_und hu, h1], h2⟩
  · rename_i want t y hu
    cases hx with | iface _ hy =>
    cases hi : P.info? t with
    | none => rw [hi] at ha; cases ha
    | some inf =>
      rw [hi] at ha; simp only at ha
      cases hm : Instr.missingMethod want inf.methods with
      | none =>
        rw [hm] at ha; cases ha
        exact ⟨_, by simp [Instr.typeAssert, run_und hu, run_info hi, hm], holds (.iface t hy)⟩
      | some m =>
        rw [hm] at ha
        obtain ⟨rfl, z, h1, h2⟩ := fails ha
        exact ⟨_, by simp [Instr.typeAssert, run_und hu, run_info hi, hm, h1], h2⟩
  · rename_i d hne hu
    cases hx
    obtain ⟨rfl, z, h1, h2⟩ := fails ha
    refine ⟨_, ?_, h2⟩
    have hni : ∀ ms, d ≠ .interface ms := hne
    cases d <;> first | (exact absurd rfl (hni _)) | simp [Instr.typeAssert, run_und hu, h1]
  · rename_i d t y hne hu
    cases hx with | iface _ hy =>
    have hni : ∀ ms, d ≠ .interface ms := hne
    split at ha
    · rename_i ht
      subst ht
      cases ha
      refine ⟨_, ?_, holds hy⟩
      cases d <;> first | (exact absurd rfl (hni _)) | simp [Instr.typeAssert, run_und hu]
    · rename_i ht
      obtain ⟨rfl, z, h1, h2⟩ := fails ha
      refine ⟨_, ?_, h2⟩
      cases d <;> first | (exact absurd rfl (hni _)) | simp [Instr.typeAssert, run_und hu, h1, ht]
  · cases ha

theorem methodA_sound {t : TypeId} {v r : AVal} {x : Value} {name : String} {f : FuncId} {fuel : Nat} (hx : VRel ρ env v x) (ha : methodA P t v name = some (f, r)) :
    (method (fuel + 1) t x name).run P w = .ok (f, x) w ∧ VRel ρ env r x := by
  unfold methodA at ha
  cases hi : P.info? t with
  | none => rw [hi] at ha; cases ha
  | some inf =>
    rw [hi] at ha; simp only at ha
    cases hm : inf.methods.find? (fun m => m.name == name) with
    | none => rw [hm] at ha; cases ha
    | some m =>
      rw [hm] at ha; simp only at ha
      unfold method
      simp only [Sem.run_bind, run_info hi, Result.andThen_ok, hm]
      split at ha
      · rename_i f' e hp hf hu
        cases ha
        refine ⟨?_, hx⟩
        simp [hp, follow, hf, receiverAt, run_und hu, Place.get]
      · cases ha
      · rename_i f' d hne hp hf hu
        cases ha
        refine ⟨?_, hx⟩
        have hni : ∀ e, d ≠ .pointer e := hne
        cases d <;> first | (exact absurd rfl (hni _)) | simp [hp, follow, hf, receiverAt, run_und hu, Place.get]
      · cases ha

theorem noEscape_next : (Extern.allNextRows.lookup "internal/abi.NoEscape") = none := by kernel_rfl
theorem noEscape_next' : (Extern.allNextRows.lookup "") = none := by kernel_rfl
theorem noEscape_gen : (Extern.allGenericRows.lookup "internal/abi.NoEscape") = none := by kernel_rfl
theorem noEscape_typed : (Extern.allTypedRows.lookup "internal/abi.NoEscape") = none := by kernel_rfl
theorem noEscape_row : (Extern.allRows.lookup "internal/abi.NoEscape") = some Extern.AbiNoEscape.same := by kernel_rfl

end
end Go.Eng
