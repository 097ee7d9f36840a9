/- A strings.Builder that lies at the front of a struct of the call's own: copyCheck, WriteString, String. -/
import Derived.Test.YtflblenelggblaaGreatDoorProg
import Derived.WalkKit
import Derived.RegionTactic
import Derived.Lib.Strings
import Derived.Lib.Slices
import Derived.Lib.Walk
import Derived.Lib.Builder
import Derived.Lib.AppendStr
import Derived.Lib.UnsafeStr
import Derived.Lib.Hide
import Derived.Laws.Externs
import Derived.Laws.BitsLemmas
import Derived.Deep.LoopGhost
import Derived.Deep.QuietTactic
import Derived.BigQuiet
import Derived.IntWalk
import Derived.Deep.Slices
import Derived.Test.YtflblenelggblaaGreatDoorShelf
import Derived.Deep.RegionHeld3
import Derived.Deep.RegionLaw
import Derived.Tactics
import Derived.Tactics2
import Derived.Laws.Pointers
import Derived.Laws.IdiomStrings
import Derived.Lib.AppendIntMem
namespace Go.Proofs.YtflblenelggblaaGreatDoor
open Go.RowKit Go.Proofs
set_option linter.unusedVariables false
set_option linter.unusedSimpArgs false

/-- A builder at the front of block b, of a struct type T, with what lies behind it; it holds the bytes l. -/
def BufAt (T : TypeId) (rest : List Value) (B b : Nat) (l : List UInt8) (w : World) : Prop :=
  B ≤ b ∧ ∃ p v, (p = .pointer none ∨ p = .pointer (some ⟨b, 0, none⟩)) ∧ w.heap[b]? = some (.cells ⟨p :: v :: rest⟩ T (0, 0)) ∧ w.ownsRow B 5 1 v l.length (Lib.byteCells l)

theorem ownsRow_below {w w' : World} {base : Nat} {e : TypeId} {size : Nat} {v : Value} {n : Nat} {xs : List Value} (h : w.ownsRow base e size v n xs) (hb : Below w.heap.size w w') : w'.ownsRow base e size v n xs := by
  refine ⟨h.1, ?_⟩
  rcases h.2 with h2 | ⟨g, cap, cur, h1, h2, h3, h4⟩
  · exact .inl h2
  · exact .inr ⟨g, cap, cur, h1, h2, (hb.block g (Array.getElem?_eq_some_iff.1 h3).1).trans h3, h4⟩

theorem setCell_row' {w : World} {b o : Nat} {c : Array Value} {t : TypeId} {fr : Nat × Nat} {v : Value} (h : w.heap[b]? = some (.cells c t fr)) :
    (w.setCell ⟨b, o, none⟩ v).heap[b]? = some (.cells (c.setIfInBounds o v) t fr) := by
  have hlt : b < w.heap.size := (Array.getElem?_eq_some_iff.1 h).1
  have he : w.heap[b] = .cells c t fr := by have := Array.getElem?_eq_some_iff.1 h; exact this.2
  show (w.heap.modify b _)[b]? = _
  rw [Array.getElem?_eq_getElem (by simpa using hlt), Array.getElem_modify, if_pos rfl, he]
  rfl

/-- What writing leaves alone: all blocks but b and the rows of bytes. -/
structure Wr (b : Nat) (w w' : World) : Prop where
  size : w.heap.size ≤ w'.heap.size
  block : ∀ k, k < w.heap.size → k ≠ b → (∀ cs fr, w.heap[k]? ≠ some (.cells cs 5 fr)) → w'.heap[k]? = w.heap[k]?
theorem Wr.refl (b : Nat) (w : World) : Wr b w w := ⟨Nat.le_refl _, fun _ _ _ _ => rfl⟩
theorem Wr.trans {b : Nat} {u v w : World} (h : Wr b u v) (k : Wr b v w) : Wr b u w :=
  ⟨Nat.le_trans h.size k.size, fun i hi hb hn => by
    have e := h.block i hi hb hn
    rw [k.block i (Nat.lt_of_lt_of_le hi h.size) hb (fun cs fr => by rw [e]; exact hn cs fr), e]⟩
theorem Wr.of {b : Nat} {w w' : World} (h : Below w.heap.size w w') : Wr b w w' := ⟨h.size, fun k hk _ _ => h.block k hk⟩
theorem Wr.setB {b o : Nat} {w w' : World} (h : Wr b w w') (v : Value) : Wr b w (w'.setCell ⟨b, o, none⟩ v) :=
  h.trans ⟨by simp [World.setCell], fun k hk hb _ => Below.heap_setCell _ _ _ _ hb⟩
theorem Wr.cell {b : Nat} {w w' : World} (h : Wr b w w') {k : Nat} {cs : Array Value} {T : TypeId} {fr : Nat × Nat} (hk : w.heap[k]? = some (.cells cs T fr)) (hb : k ≠ b) (hT : T ≠ 5) : w'.heap[k]? = some (.cells cs T fr) := by
  rw [h.block k (Array.getElem?_eq_some_iff.1 hk).1 hb (fun cs' fr' e => by rw [hk] at e; cases e; exact hT rfl), hk]

theorem str_len (l : List UInt8) (s : ByteArray) : (l ++ s.data.toList).length = l.length + s.size := by rw [List.length_append, Array.length_toList]; rfl
theorem byteCells_app (l : List UInt8) (s : ByteArray) : Lib.byteCells (l ++ s.data.toList) = Lib.byteCells l ++ Lib.strCells s := by simp [Lib.byteCells, Lib.strCells]
theorem byteCells_str (s : ByteArray) : Lib.strCells s = Lib.byteCells s.data.toList := rfl

theorem BufAt.lt {T : TypeId} {rest : List Value} {B b : Nat} {l : List UInt8} {w : World} (h : BufAt T rest B b l w) : b < w.heap.size := by
  obtain ⟨_, p, v, _, hb, _⟩ := h
  exact (Array.getElem?_eq_some_iff.1 hb).1
theorem BufAt.fresh {T : TypeId} {rest : List Value} {B : Nat} {w : World} (hB : B ≤ w.heap.size) : BufAt T rest B w.heap.size [] (w.alloc (.cells ⟨.pointer none :: .slice none 0 0 :: rest⟩ T)) :=
  ⟨hB, .pointer none, .slice none 0 0, .inl rfl, heap_alloc_new _ _, World.ownsRow_nil _ _ _ _⟩
theorem BufAt.block {T : TypeId} {rest : List Value} {B b : Nat} {l : List UInt8} {w : World} (h : BufAt T rest B b l w) : ∃ p v, w.heap[b]? = some (.cells ⟨p :: v :: rest⟩ T (0, 0)) := by
  obtain ⟨_, p, v, _, hb, _⟩ := h; exact ⟨p, v, hb⟩
/-- What goes on above all that there is leaves a builder as it is. -/
theorem BufAt.below {T : TypeId} {rest : List Value} {B b : Nat} {l : List UInt8} {w w' : World} (h : BufAt T rest B b l w) (hb : Below w.heap.size w w') : BufAt T rest B b l w' := by
  obtain ⟨hB, p, v, hp, hk, hown⟩ := h
  refine ⟨hB, p, v, hp, (hb.block b (Array.getElem?_eq_some_iff.1 hk).1).trans hk, ownsRow_below hown hb⟩

theorem run_underlying_pb : True := trivial

set_option maxHeartbeats 1000000 in
set_option maxRecDepth 100000 in
/-- copyCheck: behind it the builder tells its own address. -/
theorem copyCheck_any {T : TypeId} {rest : List Value} (hl : liesAt Tryz.prog Tryz.prog.depth T ((rest.length + 2) / Tryz.prog.cellsOf T) 0 293 1 = true) (B b : Nat) (l : List UInt8) (w : World) (h : BufAt T rest B b l w) :
    Calls Tryz.prog 248 #[.pointer (some ⟨b, 0, none⟩)] w fun e w' => e = .returned (.tuple #[]) ∧ (w' = w ∨ w' = w.setCell ⟨b, 0, none⟩ (.pointer (some ⟨b, 0, none⟩))) ∧ ∃ v, w'.heap[b]? = some (.cells ⟨.pointer (some ⟨b, 0, none⟩) :: v :: rest⟩ T (0, 0)) ∧ w.ownsRow B 5 1 v l.length (Lib.byteCells l) := by
  obtain ⟨hB, p, v, hp, hb, hown⟩ := h
  obtain ⟨j, hj, hjs⟩ := Option.map_eq_some_iff.1 (show (Tryz.prog.info? 293).map (·.size) = some 2 by kernel_rfl)
  have h0 : w.cell? ⟨b, 0, none⟩ = some p := by simp [World.cell?, hb]
  have hsh : w.shape? b = some (T, rest.length + 2) := by simp [World.shape?, hb]
  have hz : 0 < rest.length + 2 := by omega
  have hfz : w.frozen? ⟨b, 0, none⟩ = false := by simp [World.frozen?, hb]
  have HB := Lib.hid hb
  have HO := Lib.hid hown
  clear hb hown
  rcases hp with rfl | rfl
  · have FIN : Hid ((w.setCell ⟨b, 0, none⟩ (.pointer (some ⟨b, 0, none⟩))).heap[b]? = some (.cells ⟨.pointer (some ⟨b, 0, none⟩) :: v :: rest⟩ T (0, 0))) := Lib.hid (by
      simp [World.setCell, Array.getElem?_modify, HB.out])
    go_enter Tryz.func248, Tryz.ntmps248
    go_wp2
    rw [Lib.run_to_unsafe w ⟨b, 0, none⟩ Tryz.underlying291 Tryz.underlying356 hj (by rw [hjs]; decide) hsh hz]
    simp only [Result.andThen]
    rw [Oper.upon_value]
    go_wp2
    rw [run_callFunc_extern Tryz.func258 (by kernel_rfl) (by kernel_rfl) (by kernel_rfl) (e := Extern.AbiNoEscape.same) (by kernel_rfl)]
    rw [Lib.run_noEscape]
    simp only [Result.andThen]
    rw [Oper.upon_value]
    go_wp2
    rw [Lib.run_from_unsafe w ⟨b, 0, none⟩ Tryz.underlying356 Tryz.underlying291 hj hsh hl]
    simp only [Result.andThen]
    rw [Oper.upon_value]
    go_wp2
    go_end0
    exact ⟨rfl, .inr rfl, v, FIN.out, HO.out⟩
  · go_enter Tryz.func248, Tryz.ntmps248
    go_wp2
    rw [Lib.run_neq_ptr_same w _ Tryz.underlying291 hj]
    go_wp2
    go_end0
    exact ⟨rfl, .inl rfl, v, HB.out, HO.out⟩

set_option maxHeartbeats 2000000 in
set_option maxRecDepth 100000 in
/-- WriteString. -/
theorem writeString_any {T : TypeId} {rest : List Value} (hT : T ≠ 5) (hl : liesAt Tryz.prog Tryz.prog.depth T ((rest.length + 2) / Tryz.prog.cellsOf T) 0 293 1 = true) (B b : Nat) (l : List UInt8) (s : ByteArray) (w : World) (h : BufAt T rest B b l w) (hn : l.length + s.size ≤ 140737488355328) :
    Calls Tryz.prog 238 #[.pointer (some ⟨b, 0, none⟩), .string s] w fun e w' => e = .returned (.tuple #[.int .i64 s.size, .nilIface]) ∧ BufAt T rest B b (l ++ s.data.toList) w' ∧ Below B w w' ∧ Wr b w w' := by
  have hblt := h.lt
  have hB := h.1
  obtain ⟨i0, hi, hz0, hz1, hz2⟩ := info_parts (show (Tryz.prog.info? 5).map (fun i => (i.zero, i.size, i.bytes)) = some (some (.int .u8 0), 1, 1) by kernel_rfl)
  have HC := Lib.hid (copyCheck_any hl B b l w h)
  have HN := Lib.hid hn
  clear h hn
  go_enter Tryz.func238, Tryz.ntmps238
  go_wp2_with fail
  go_at_call 248
  refine HC.out.mono ?_
  rintro e w1 ⟨rfl, hw1, v, hk, hown0⟩
  simp only
  have hb01 : Below B w w1 := by
    rcases hw1 with rfl | rfl
    · exact Below.refl _ _
    · exact (Below.refl B w).setCell (p := ⟨b, 0, none⟩) hB _
  have hwr1 : Wr b w w1 := by
    rcases hw1 with rfl | rfl
    · exact Wr.refl _ _
    · exact (Wr.refl b w).setB _
  have hne0 : v.ownBlock ≠ some b := Lib.ownBlock_ne (e := 5) (T := T) (by
    rcases hw1 with rfl | rfl
    · exact hown0
    · exact hown0.kept (row := some b) ⟨rfl, rfl, rfl, by simp [World.setCell], fun k _ hk => Below.heap_setCell _ _ _ _ (fun e => hk (by simp [e]))⟩ (.inr (by
        intro e
        rcases hown0.2 with ⟨rfl, _⟩ | ⟨g, cap, cur, rfl, _, hg, _⟩
        · simp [Value.ownBlock] at e
        · simp only [Value.ownBlock, Option.some.injEq] at e
          subst e
          have h2 := setCell_row' (o := 0) (v := .pointer (some ⟨g, 0, none⟩)) hg
          rw [h2] at hk
          simp only [Option.some.injEq, Obj.cells.injEq] at hk
          exact hT hk.2.1.symm))) hk hT
  have hown : w1.ownsRow B 5 1 v l.length (Lib.byteCells l) := by
    rcases hw1 with rfl | rfl
    · exact hown0
    · exact hown0.kept (row := some b) ⟨rfl, rfl, rfl, by simp [World.setCell], fun k _ hk => Below.heap_setCell _ _ _ _ (fun e => hk (by simp [e]))⟩ (.inr hne0)
  have hz1' : w.heap.size = w1.heap.size := by
    rcases hw1 with rfl | rfl
    · rfl
    · simp [World.setCell]
  have hb1 : b < w1.heap.size := by omega
  have c0 : w1.cell? ⟨b, 0, none⟩ = some (.pointer (some ⟨b, 0, none⟩)) := (Lib.cell_of_heap hk 0).trans rfl
  have c1 : w1.cell? ⟨b, 1, none⟩ = some v := (Lib.cell_of_heap hk 1).trans rfl
  have HK := Lib.hid hk
  have HR := Lib.hid (And.intro hb01 hwr1)
  have HNE := Lib.hid hne0
  have HN2 : Hid (l.length + s.size ≤ maxLen) := Lib.hid (by have := HN.out; unfold maxLen; omega)
  clear hk hb01 hwr1 hw1 hown0 HC hne0
  go_wp2_with (at_builtin; refine Lib.wpList_append_own_string _ rfl _ _ 160 9 rfl B 5 i0 Tryz.underlying160 Tryz.underlying9 hi hz0 hz1 hz2 _ _ _ rfl hown s rfl ?c1 ?c2 ?c5 ?_)
  case c1 => exact HN2.out
  case c2 => exact HN.out
  case c5 => omega
  intro v' w2 hown' hgrow _
  obtain ⟨ao, n', cap, rfl⟩ : ∃ ao n' cap, v' = .slice ao n' cap := by
    rcases hown'.2 with ⟨hv, _⟩ | ⟨g, cap, cur, hv, _⟩
    · exact ⟨_, _, _, hv⟩
    · exact ⟨_, _, _, hv⟩
  have hk2 : w2.heap[b]? = some (.cells ⟨.pointer (some ⟨b, 0, none⟩) :: v :: rest⟩ T (0, 0)) := by
    rw [hgrow.block b hb1 (fun e => HNE.out e.symm)]
    exact HK.out
  have d0 : w2.cell? ⟨b, 0, none⟩ = some (.pointer (some ⟨b, 0, none⟩)) := (Lib.cell_of_heap hk2 0).trans rfl
  have d1 : w2.cell? ⟨b, 1, none⟩ = some v := (Lib.cell_of_heap hk2 1).trans rfl
  have f1 : w2.frozen? ⟨b, 1, none⟩ = false := Lib.frozen_of_heap hk2 1
  have FIN : Hid (BufAt T rest B b (l ++ s.data.toList) (w2.setCell ⟨b, 1, none⟩ (.slice ao n' cap)) ∧ Below B w (w2.setCell ⟨b, 1, none⟩ (.slice ao n' cap)) ∧ Wr b w (w2.setCell ⟨b, 1, none⟩ (.slice ao n' cap))) := by
    refine Lib.hid ?_
    have hown2 : w2.ownsRow B 5 1 (.slice ao n' cap) (l ++ s.data.toList).length (Lib.byteCells (l ++ s.data.toList)) := by
      have e : (l ++ s.data.toList).length = l.length + s.size := str_len l s
      rw [e]
      have e2 := byteCells_app l s
      rw [e2]; exact hown'
    have hne2 := Lib.ownBlock_ne hown2 hk2 hT
    refine ⟨⟨hB, _, .slice ao n' cap, .inr rfl, ?_, ?_⟩, ?_, ?_⟩
    · simp [World.setCell, Array.getElem?_modify, hk2]
    · exact hown2.kept (row := some b) ⟨rfl, rfl, rfl, by simp [World.setCell], fun k _ hk => Below.heap_setCell _ _ _ _ (fun e => hk (by simp [e]))⟩ (.inr hne2)
    · exact ((HR.out.1).grown hgrow (by have := HR.out.1.size; omega) (fun k hk => (hown.lt k hk).1)).setCell (p := ⟨b, 1, none⟩) hB _
    · refine HR.out.2.trans (Wr.setB ⟨hgrow.size, fun k hk' hb' hn' => hgrow.block k hk' ?_⟩ _)
      intro e
      rcases hown.2 with ⟨rfl, _⟩ | ⟨g, cap, cur, rfl, _, hg, _⟩
      · simp [Value.ownBlock] at e
      · simp only [Value.ownBlock, Option.some.injEq] at e
        subst e
        exact hn' _ _ hg
  clear HK HR HNE hown hown' hgrow hk2 hB
  go_wp2
  go_ret2
  exact ⟨rfl, FIN.out⟩

/-! ### String -/
set_option maxHeartbeats 2000000 in
set_option maxRecDepth 100000 in
theorem bldString_some (B b : Nat) (l : List UInt8) (T : TypeId) (rest : List Value) (w : World) (h : BufAt T rest B b l w) (h0 : l ≠ []) :
    Calls Tryz.prog 212 #[.pointer (some ⟨b, 0, none⟩)] w fun e w' => e = .returned (.string ⟨l.toArray⟩) ∧ Below B w w' := by
  obtain ⟨hB, p, v, _, hbk, hown⟩ := h
  have hl0 : l.length ≠ 0 := by simpa using h0
  obtain ⟨g, cap, cur, rfl, hbg, hg, hnc, hcm, hcs, htake⟩ : ∃ g cap cur, v = .slice (some ⟨g, 0, none⟩) l.length cap ∧ B ≤ g ∧ w.heap[g]? = some (.cells cur 5 (0, 0)) ∧ l.length ≤ cap ∧ cap ≤ maxLen ∧ cur.size = cap * 1 ∧ cur.toList.take (l.length * 1) = Lib.byteCells l := by
    rcases hown.2 with ⟨_, hz⟩ | ⟨g, cap, cur, hv, r⟩
    · exact absurd hz hl0
    · exact ⟨g, cap, cur, hv, r⟩
  have c1 : w.drew.cell? ⟨b, 1, none⟩ = some (.slice (some ⟨g, 0, none⟩) l.length cap) := (Lib.cell_of_heap (w := w.drew) hbk 1).trans rfl
  have hSD : (Builtin.unsafeSliceData_ #[160] 310 #[.slice (some ⟨g, 0, none⟩) l.length cap]).run Tryz.prog w.drew = .ok (.pointer (some ⟨g, 0, none⟩)) w.drew :=
    Lib.run_unsafeSliceData_row _ _ _ _ _ _ (by omega)
  have hUS : (Builtin.unsafeString_ #[310, 3] 9 #[.pointer (some ⟨g, 0, none⟩), .int .i64 l.length]).run Tryz.prog w.drew = .ok (.string ⟨l.toArray⟩) (w.drew.freeze ⟨g, 0, none⟩ l.length) := by
    refine Lib.run_unsafeString_row w.drew 310 3 9 5 Tryz.underlying310 (by kernel_rfl) g cur.size (by have hg' : w.drew.heap[g]? = some (.cells cur 5 (0, 0)) := hg; simp [World.shape?, hg']) l h0 (by omega) (by unfold maxLen at hcm; omega) ?_
    intro j x hx
    have := hown.cells (g := g) rfl j (.int .u8 x.toNat) (by simp [Lib.byteCells, hx])
    exact this
  have FIN : Hid (Below B w (w.drew.freeze ⟨g, 0, none⟩ l.length)) := Lib.hid (Lib.below_freeze (Below.drew (Below.refl B w)) (p := ⟨g, 0, none⟩) hbg _)
  clear hown hbk hg hnc hcm hcs htake hbg hB h0 hl0
  go_enter Tryz.func212, Tryz.ntmps212
  go_wp2
  go_region
  all_goals (go_wp2; go_ret; exact ⟨rfl, FIN.out⟩)
set_option maxHeartbeats 2000000 in
set_option maxRecDepth 100000 in
theorem bldString_nil (B b : Nat) (T : TypeId) (rest : List Value) (w : World) (h : BufAt T rest B b [] w) (hBw : B ≤ w.heap.size) :
    Calls Tryz.prog 212 #[.pointer (some ⟨b, 0, none⟩)] w fun e w' => e = .returned (.string ⟨#[]⟩) ∧ Below B w w' := by
  obtain ⟨hB, p, v, _, hbk, hown⟩ := h
  have hUS : ∀ (q : Option Addr) (W : World), (Builtin.unsafeString_ #[310, 3] 9 #[.pointer q, .int .i64 0]).run Tryz.prog W = .ok (.string .empty) W := fun q W => Lib.run_unsafeString_none W _ _ _ q
  have hlt : b < w.heap.size := (Array.getElem?_eq_some_iff.1 hbk).1
  rcases hown.2 with ⟨rfl, _⟩ | ⟨g, cap, cur, rfl, hbg, hg, _, _, _, _⟩
  · have c1 : w.drew.cell? ⟨b, 1, none⟩ = some (.slice none 0 0) := (Lib.cell_of_heap (w := w.drew) hbk 1).trans rfl
    have hSD : (Builtin.unsafeSliceData_ #[160] 310 #[.slice none 0 0]).run Tryz.prog w.drew = .ok (.pointer none) w.drew := rfl
    clear hown hbk hB
    go_enter Tryz.func212, Tryz.ntmps212
    go_wp2
    go_region
    all_goals (go_wp2; go_ret; exact ⟨rfl, Below.drew (Below.refl B w)⟩)
  · by_cases hc0 : cap = 0
    · subst hc0
      have c1 : w.drew.cell? ⟨b, 1, none⟩ = some (.slice (some ⟨g, 0, none⟩) 0 0) := (Lib.cell_of_heap (w := w.drew) hbk 1).trans rfl
      have hSD : (Builtin.unsafeSliceData_ #[160] 310 #[.slice (some ⟨g, 0, none⟩) 0 0]).run Tryz.prog w.drew = .ok (.pointer (some ⟨w.drew.heap.size, 0, none⟩)) (w.drew.alloc (.view ⟨g, 0, none⟩ 5)) :=
        Lib.run_unsafeSliceData_zero w.drew _ _ 5 Tryz.underlying310 ⟨g, 0, none⟩ 0 (5, cur.size) (by have hg' : w.drew.heap[g]? = some (.cells cur 5 (0, 0)) := hg; simp [World.shape?, hg'])
      have hbk2 : (w.drew.alloc (.view ⟨g, 0, none⟩ 5)).heap[b]? = _ := (Lib.alloc_old w.drew _ b hlt).trans hbk
      have c2 : (w.drew.alloc (.view ⟨g, 0, none⟩ 5)).cell? ⟨b, 1, none⟩ = some (.slice (some ⟨g, 0, none⟩) 0 0) := (Lib.cell_of_heap hbk2 1).trans rfl
      have c3 : (w.alloc (.view ⟨g, 0, none⟩ 5)).drew.cell? ⟨b, 1, none⟩ = some (.slice (some ⟨g, 0, none⟩) 0 0) := c2
      have c0 : w.cell? ⟨b, 1, none⟩ = some (.slice (some ⟨g, 0, none⟩) 0 0) := c1
      clear hown hbk hbk2 hg hB hbg
      go_enter Tryz.func212, Tryz.ntmps212
      go_wp2
      go_region
      all_goals (go_wp2; go_ret; exact ⟨rfl, (Below.drew (Below.refl B w)).alloc hBw _⟩)
    · have c1 : w.drew.cell? ⟨b, 1, none⟩ = some (.slice (some ⟨g, 0, none⟩) 0 cap) := (Lib.cell_of_heap (w := w.drew) hbk 1).trans rfl
      have hSD : (Builtin.unsafeSliceData_ #[160] 310 #[.slice (some ⟨g, 0, none⟩) 0 cap]).run Tryz.prog w.drew = .ok (.pointer (some ⟨g, 0, none⟩)) w.drew :=
        Lib.run_unsafeSliceData_row _ _ _ _ _ _ hc0
      clear hc0 hown hbk hg hB hbg
      go_enter Tryz.func212, Tryz.ntmps212
      go_wp2
      go_region
      all_goals (go_wp2; go_ret; exact ⟨rfl, Below.drew (Below.refl B w)⟩)
theorem bldString_any (B b : Nat) (l : List UInt8) (T : TypeId) (rest : List Value) (w : World) (h : BufAt T rest B b l w) (hBw : B ≤ w.heap.size) :
    Calls Tryz.prog 212 #[.pointer (some ⟨b, 0, none⟩)] w fun e w' => e = .returned (.string ⟨l.toArray⟩) ∧ Below B w w' := by
  cases l with
  | nil => exact bldString_nil B b T rest w h hBw
  | cons x r => exact bldString_some B b (x :: r) T rest w h (by simp)
end Go.Proofs.YtflblenelggblaaGreatDoor

namespace Go.Proofs.YtflblenelggblaaGreatDoor
open Go.RowKit Go.Proofs Go.Deep
set_option linter.unusedVariables false
set_option linter.unusedSimpArgs false

def catL (l : List ByteArray) : List UInt8 := l.flatMap fun s => s.data.toList
theorem catL_snoc (l : List ByteArray) (s : ByteArray) : catL (l ++ [s]) = catL l ++ s.data.toList := by simp [catL]
theorem catL_take {l : List ByteArray} {i : Nat} {s : ByteArray} (h : l[i]? = some s) : catL (l.take (i + 1)) = catL (l.take i) ++ s.data.toList := by
  rw [List.take_add_one, h]; simp [catL]
theorem catL_len {l : List ByteArray} {i : Nat} {s : ByteArray} (h : l[i]? = some s) : (catL (l.take i)).length + s.size ≤ (catL l).length := by
  have e : catL l = catL (l.take (i + 1)) ++ catL (l.drop (i + 1)) := by rw [catL, catL, catL, ← List.flatMap_append, List.take_append_drop]
  rw [catL_take h] at e
  have e2 : s.data.toList.length = s.size := by rw [Array.length_toList]; rfl
  rw [e, List.length_append, List.length_append, e2]; omega

set_option maxHeartbeats 2000000 in
set_option maxRecDepth 100000 in
/-- put, at any texts. -/
theorem hput_any (hT : 295 ≠ 5) (rest : List Value) (hl : liesAt Tryz.prog Tryz.prog.depth 295 ((rest.length + 2) / Tryz.prog.cellsOf 295) 0 293 1 = true) (B b g cap : Nat) (l : List UInt8) (ls : List ByteArray) (w : World) (cs : Array Value) (fr : Nat × Nat)
    (h : BufAt 295 rest B b l w) (hg : w.heap[g]? = some (.cells cs 9 fr)) (hcs : ∀ (i : Nat) (s : ByteArray), ls[i]? = some s → cs[i]? = some (Value.string s)) (hgb : g ≠ b) (hn : l.length + (catL ls).length ≤ 140737488355328) (hls : ls.length ≤ 9223372036854775807) (hgB : B ≤ g) :
    Calls Tryz.prog 223 #[.pointer (some ⟨b, 0, none⟩), .slice (some ⟨g, 0, none⟩) ls.length cap] w fun e w' => e = .returned (.tuple #[]) ∧ BufAt 295 rest B b (l ++ catL ls) w' ∧ Below B w w' ∧ Wr b w w' := by
  have HG := Lib.hid hg
  have HCS := Lib.hid hcs
  have HN := Lib.hid hn
  have HH := Lib.hid h
  have HL := Lib.hid hl
  clear hg hcs hn h hl
  go_enter Tryz.func223, Tryz.ntmps223
  go_wp2_with fail
  go_loopg [8] ls.length (fun kx s8 wr => ∃ i : Nat, s8 = .int .i64 i ∧ i ≤ ls.length ∧ ls.length - i ≤ kx ∧ Aside (BufAt 295 rest B b (l ++ catL (ls.take i)) wr ∧ Below B w wr ∧ Wr b w wr))
  case atStart => exact ⟨0, rfl, by omega, by omega, by simpa [catL] using HH.out, Below.refl _ _, Wr.refl _ _⟩
  case round =>
    obtain ⟨i, rfl, hi, hk, hA⟩ := hrel
    by_cases hil : i < ls.length
    · have hx : ls[i]? = some ls[i] := List.getElem?_eq_getElem hil
      have hc := HCS.out i _ hx
      have hx3 := hA.out.2.2.cell HG.out hgb (by decide)
      have d0 : wr.cell? ⟨g, i, none⟩ = some (.string ls[i]) := (Lib.cell_of_heap hx3 i).trans hc
      have HCALL := Lib.hid (writeString_any hT HL.out B b _ ls[i] wr hA.out.1 (by have := catL_len hx; have := HN.out; rw [List.length_append]; omega))
      have HX := Lib.hid hx
      have HA := Lib.hid hA.out
      have hi1 : (i : Int) < (ls.length : Int) := by omega
      have hi0 : (0 : Int) ≤ (i : Int) := by omega
      generalize ls[i] = s at *
      clear hc hx3 hx hA
      go_wp2_with fail
      go_at_call 238
      refine HCALL.out.mono ?_
      rintro e w2 ⟨rfl, hb2, hB2, hW2⟩
      have HR := Lib.hid (And.intro hb2 (And.intro (HA.out.2.1.trans hB2) (HA.out.2.2.trans hW2)))
      clear HCALL hb2 hB2 hW2 d0
      simp only
      go_wp2_with fail
      go_roundg (ls.length - (i + 1))
      case measure => omega
      case rel => exact ⟨i + 1, by go_num, by omega, Nat.le_refl _, by rw [catL_take HX.out, ← List.append_assoc]; exact HR.out.1, HR.out.2⟩
    · obtain rfl : i = ls.length := by omega
      have HA := Lib.hid hA.out
      clear hA
      go_wp2_with fail
      go_end0
      refine ⟨rfl, ?_⟩
      have := HA.out
      rwa [List.take_length] at this
end Go.Proofs.YtflblenelggblaaGreatDoor

namespace Go.Proofs.YtflblenelggblaaGreatDoor
open Go.RowKit Go.Proofs Go.Deep Go.Sort
set_option linter.unusedVariables false
set_option linter.unusedSimpArgs false

def itoaB (n : Int) : ByteArray := ⟨(Lib.itoa n).toArray⟩
theorem is_made (hb : Nat) (w : World) (h : w.cell? ⟨hb, 0, none⟩ = some (.bool true)) : Calls Tryz.prog 208 #[.pointer (some ⟨hb, 0, none⟩)] w fun e w' => e = .returned (.bool true) ∧ w = w' := by
  go_enter Tryz.func208, Tryz.ntmps208
  go_wp2
  go_ret
  exact ⟨rfl, rfl⟩
set_option maxRecDepth 100000 in
theorem check_int (n : Int) (len : Int) (w : World) : Calls Tryz.prog 197 #[.agg #[.int .i64 1, .int .i64 n, .string ⟨#[]⟩], .int .i64 len] w fun e w' => e = .returned (.int .i64 0) ∧ Below w.heap.size w w' := by
  go_enter Tryz.func197, Tryz.ntmps197
  go_wp2
  go_ret
  exact ⟨rfl, (Below.refl _ _).alloc (Nat.le_refl _) _⟩

def PutPost (T : TypeId) (rest : List Value) (B b : Nat) (l : List UInt8) (w : World) (e : Ending) (w' : World) : Prop :=
  e = .returned (.tuple #[]) ∧ BufAt T rest B b l w' ∧ Below B w w'

set_option maxRecDepth 100000 in
set_option maxHeartbeats 1000000 in
theorem value_int (rest : List Value) (hl : liesAt Tryz.prog Tryz.prog.depth 295 ((rest.length + 2) / Tryz.prog.cellsOf 295) 0 293 1 = true) (B b : Nat) (l : List UInt8) (n deep : Int) (w : World) (h : BufAt 295 rest B b l w) (hB : B ≤ w.heap.size) (h0 : -9223372036854775808 ≤ n) (h1 : n ≤ 9223372036854775807) (hn : l.length + (Lib.itoa n).length ≤ 140737488355328)
    (htab : ∀ w', Below w.heap.size w w' → Lib.TabIs Tryz.prog w' "internal/strconv.uint64pow10" .u64 Lib.pow10Tab) :
    Calls Tryz.prog 211 #[.pointer (some ⟨b, 0, none⟩), .agg #[.int .i64 1, .int .i64 n, .string ⟨#[]⟩], .int .i64 deep] w (PutPost 295 rest B b (l ++ Lib.itoa n) w) := by
  have HT := Lib.hid htab
  have HH := Lib.hid h
  have HL := Lib.hid hl
  have HN := Lib.hid hn
  obtain ⟨W1, hW1⟩ : ∃ W1, W1 = w.alloc (.cells #[.int .i64 1, .int .i64 n, .string ⟨#[]⟩] 83) := ⟨_, rfl⟩
  have hb1 : Below w.heap.size w W1 := by rw [hW1]; exact (Below.refl _ _).alloc (Nat.le_refl _) _
  have HI := Lib.hid (Tryz.strconv_Itoa n h0 h1 W1 (htab W1 hb1))
  have HB1 := Lib.hid hb1
  have HBB := Lib.hid hB
  have hs1 : W1.heap.size = w.heap.size + 1 := by rw [hW1]; exact Array.size_push ..
  clear htab h hl hn h0 h1 hb1
  go_enter Tryz.func211, Tryz.ntmps211
  go_wp2_with fail
  rw [← hW1]
  go_at_call 160
  refine HI.out.mono ?_
  rintro e w2 ⟨rfl, k, os, rfl⟩
  simp only
  have hb2 : Below W1.heap.size W1 (grow (W1.drewN k) os) := Lib.below_grow _ _ (Nat.le_refl _) _ _
  obtain ⟨W2, hW2⟩ : ∃ W2, W2 = grow (W1.drewN k) os := ⟨_, rfl⟩
  rw [← hW2] at hb2 ⊢
  clear hW2
  obtain ⟨W3, hW3⟩ : ∃ W3, W3 = W2.alloc (.cells #[.string ⟨(Lib.itoa n).toArray⟩] 9) := ⟨_, rfl⟩
  have hb3 : Below W2.heap.size W2 W3 := by rw [hW3]; exact (Below.refl _ _).alloc (Nat.le_refl _) _
  have hg3 : W3.heap[W2.heap.size]? = some (.cells #[.string ⟨(Lib.itoa n).toArray⟩] 9 (0, 0)) := by rw [hW3]; exact heap_alloc_new _ _
  have hb13 : Below W1.heap.size W1 W3 := hb2.trans (hb3.mono hb2.size)
  have hb03 : Below w.heap.size w W3 := HB1.out.trans (hb13.mono (by omega))
  have hlt := HH.out.lt
  have HP := Lib.hid (hput_any (by decide) rest HL.out B b W2.heap.size 1 l [⟨(Lib.itoa n).toArray⟩] W3 _ _ (HH.out.below hb03) hg3 (fun i s hs => by
    match i, hs with
    | 0, hs => cases hs; rfl
    | i + 1, hs => cases hs) (by have := hb2.size; omega) (by have := HN.out; simpa [catL] using this) (by simp) (by have := hb2.size; have := HBB.out; omega))
  have HB3 := Lib.hid (hb03.mono HBB.out)
  clear hb3 hg3 hb13 hb03 hb2 HI HT HB1 HH hW1
  go_wp2_with fail
  rw [← hW3]
  go_at_call 223
  refine HP.out.mono ?_
  rintro e w5 ⟨rfl, q1, q2, q3⟩
  have FIN : Hid (PutPost 295 rest B b (l ++ Lib.itoa n) w (.returned (.tuple #[])) w5) := Lib.hid ⟨rfl, by simpa [catL] using q1, HB3.out.trans q2⟩
  clear q1 q2 q3 HP HB3 HN hW3
  simp only
  go_wp2_with fail
  go_end0
  exact FIN.out
end Go.Proofs.YtflblenelggblaaGreatDoor

namespace Go.Proofs.YtflblenelggblaaGreatDoor
open Go.RowKit Go.Proofs Go.Deep Go.Sort
set_option linter.unusedVariables false
set_option linter.unusedSimpArgs false

def ShowPost (n : Int) (w : World) (e : Ending) (w' : World) : Prop := e = .returned (.string ⟨(Lib.itoa n).toArray⟩) ∧ Below w.heap.size w w'

set_option maxRecDepth 100000 in
set_option maxHeartbeats 1000000 in
theorem show_int (hb : Nat) (so : Option Addr) (len cap : Nat) (n : Int) (w : World) (h0 : -9223372036854775808 ≤ n) (h1 : n ≤ 9223372036854775807) (hn : (Lib.itoa n).length ≤ 20)
    (hm : w.cell? ⟨hb, 0, none⟩ = some (.bool true)) (hc : w.cell? ⟨hb, 3, none⟩ = some (.slice so len cap))
    (htab : ∀ w', Below w.heap.size w w' → Lib.TabIs Tryz.prog w' "internal/strconv.uint64pow10" .u64 Lib.pow10Tab) :
    Calls Tryz.prog 200 #[.pointer (some ⟨hb, 0, none⟩), .agg #[.int .i64 1, .int .i64 n, .string ⟨#[]⟩]] w (ShowPost n w) := by
  have hlt : hb < w.heap.size := World.block_lt_of_cell? w _ hc
  have HT := Lib.hid htab
  have HN := Lib.hid hn
  have H01 := Lib.hid (And.intro h0 h1)
  obtain ⟨W1, hW1⟩ : ∃ W1, W1 = w.alloc (.cells #[.int .i64 1, .int .i64 n, .string ⟨#[]⟩] 83) := ⟨_, rfl⟩
  have hb1 : Below w.heap.size w W1 := by rw [hW1]; exact (Below.refl _ _).alloc (Nat.le_refl _) _
  have hs1 : W1.heap.size = w.heap.size + 1 := by rw [hW1]; exact Array.size_push ..
  have hbk : W1.heap[w.heap.size]? = some (.cells #[.int .i64 1, .int .i64 n, .string ⟨#[]⟩] 83 (0, 0)) := by rw [hW1]; exact heap_alloc_new _ _
  have c0 : W1.cell? ⟨hb, 0, none⟩ = some (.bool true) := (hb1.cell (p := ⟨hb, 0, none⟩) hlt).trans hm
  have c3 : W1.cell? ⟨hb, 3, none⟩ = some (.slice so len cap) := (hb1.cell (p := ⟨hb, 3, none⟩) hlt).trans hc
  have k0 : W1.cell? ⟨w.heap.size, 0, none⟩ = some (.int .i64 1) := (Lib.cell_of_heap hbk 0).trans rfl
  have k1 : W1.cell? ⟨w.heap.size, 1, none⟩ = some (.int .i64 n) := (Lib.cell_of_heap hbk 1).trans rfl
  have k2 : W1.cell? ⟨w.heap.size, 2, none⟩ = some (.string ⟨#[]⟩) := (Lib.cell_of_heap hbk 2).trans rfl
  have HB1 := Lib.hid hb1
  clear htab hn h0 h1 hm hc hb1 hbk
  go_enter Tryz.func200, Tryz.ntmps200
  go_wp2_with fail
  rw [← hW1]
  clear hW1
  have hs1' : w.heap.size < W1.heap.size := by omega
  have hs0 : hb < W1.heap.size := by omega
  have HS1 := Lib.hid hs1
  clear hs1
  go_region_held3 (fun w' => w'.cell? ⟨hb, 0, none⟩ = some (.bool true) ∧ w'.cell? ⟨hb, 3, none⟩ = some (.slice so len cap) ∧ w'.cell? ⟨w.heap.size, 0, none⟩ = some (.int .i64 1) ∧ w'.cell? ⟨w.heap.size, 1, none⟩ = some (.int .i64 n) ∧ w'.cell? ⟨w.heap.size, 2, none⟩ = some (.string ⟨#[]⟩))
    (first
      | go_keep
      | (go_split_ands
         exact ⟨(hbv.cell (p := ⟨hb, 0, none⟩) (by simpa using hs0)).trans (by assumption), (hbv.cell (p := ⟨hb, 3, none⟩) (by simpa using hs0)).trans (by assumption), (hbv.cell (p := ⟨w.heap.size, 0, none⟩) (by simpa using hs1')).trans (by assumption), (hbv.cell (p := ⟨w.heap.size, 1, none⟩) (by simpa using hs1')).trans (by assumption), (hbv.cell (p := ⟨w.heap.size, 2, none⟩) (by simpa using hs1')).trans (by assumption)⟩))
      ((first
        | (go_at_call 208; refine (is_made hb _ (by assumption)).mono ?_; rintro e w2 ⟨rfl, rfl⟩)
        | (go_at_call 197; refine (check_int n _ _).mono ?_; rintro e w2 ⟨rfl, hbv⟩)))
  have e0 : w2.cell? ⟨w.heap.size, 0, none⟩ = some (.int .i64 1) := (hbv.cell (p := ⟨w.heap.size, 0, none⟩) (by simpa using hs1')).trans k0
  have e1 : w2.cell? ⟨w.heap.size, 1, none⟩ = some (.int .i64 n) := (hbv.cell (p := ⟨w.heap.size, 1, none⟩) (by simpa using hs1')).trans k1
  have e2 : w2.cell? ⟨w.heap.size, 2, none⟩ = some (.string ⟨#[]⟩) := (hbv.cell (p := ⟨w.heap.size, 2, none⟩) (by simpa using hs1')).trans k2
  have hs2 : w.heap.size < w2.heap.size := by have := hbv.size; simp at this; omega
  have hB2 : Below w.heap.size w w2 := HB1.out.trans ((show Below W1.heap.size W1 w2 from (Below.drew (Below.refl _ _)).trans (by simpa using hbv)).mono (by omega))
  have HB2 := Lib.hid hB2
  obtain ⟨W3, hW3⟩ : ∃ W3, W3 = w2.alloc (.cells #[.pointer none, .slice none 0 0, .pointer (some ⟨hb, 0, none⟩)] 295) := ⟨_, rfl⟩
  have hbuf : BufAt 295 [.pointer (some ⟨hb, 0, none⟩)] w2.heap.size w2.heap.size [] W3 := by rw [hW3]; exact BufAt.fresh (Nat.le_refl _)
  have hb3 : Below w2.heap.size w2 W3 := by rw [hW3]; exact (Below.refl _ _).alloc (Nat.le_refl _) _
  have hbb3 : Below w.heap.size w W3 := hB2.trans (hb3.mono (by omega))
  have HV := Lib.hid (value_int [.pointer (some ⟨hb, 0, none⟩)] (by kernel_rfl) w2.heap.size w2.heap.size [] n 2 W3 hbuf hb3.size H01.out.1 H01.out.2 (by have := HN.out; simp only [List.length_nil]; omega) (fun w' hb' => HT.out w' (hbb3.trans (hb'.mono hbb3.size))))
  have HB3 := Lib.hid hbb3
  have hs3 := hb3.size
  clear hbuf hb3 hbb3 hB2 hbv k0 k1 k2 c0 c3 HB1 HT H01
  go_wp2_with fail
  rw [← hW3]
  clear hW3
  go_at_call 211
  refine HV.out.mono ?_
  rintro e w4 ⟨rfl, q1, q2⟩
  have HS := Lib.hid (bldString_any w2.heap.size w2.heap.size _ _ _ w4 q1 (Nat.le_trans hs3 q2.size))
  have HB4 := Lib.hid (HB3.out.trans (q2.mono (by omega)))
  clear q1 q2 HV HB3
  simp only
  go_wp2_with fail
  go_at_call 212
  refine HS.out.mono ?_
  rintro e w5 ⟨rfl, q3⟩
  have FIN : Hid (ShowPost n w (.returned (.string ⟨(Lib.itoa n).toArray⟩)) w5) := Lib.hid ⟨rfl, HB4.out.trans (q3.mono (by omega))⟩
  have hsz : ¬ (200 : Int) < ((⟨(Lib.itoa n).toArray⟩ : ByteArray).size : Int) := by have := HN.out; simp [ByteArray.size]; omega
  simp only [List.nil_append]
  generalize (⟨(Lib.itoa n).toArray⟩ : ByteArray) = sb at *
  clear q3 HS HB4 HN
  go_wp2
  go_ret
  exact FIN.out
end Go.Proofs.YtflblenelggblaaGreatDoor
