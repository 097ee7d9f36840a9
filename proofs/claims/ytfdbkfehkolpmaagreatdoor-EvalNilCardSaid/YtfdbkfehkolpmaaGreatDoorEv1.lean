/- Small: the count of an expression's parts, at any expression that came in. -/
import Derived.Test.YtfdbkfehkolpmaaGreatDoorProg
import Derived.WalkKit
import Derived.Deep.QuietTactic
import Derived.BigQuiet
import Derived.Deep.LoopGhost
import Derived.Deep.Slices
import Derived.IntWalk
import Derived.Lib.Hide
namespace Go.Proofs.YtfdbkfehkolpmaaGreatDoor
open Go.RowKit Go.Proofs Go.Deep
set_option linter.unusedVariables false
set_option linter.unusedSimpArgs false

/-- All but one block is as it was. -/
structure But (cb : Nat) (w w' : World) : Prop where
  os : w'.os = w.os
  tape : w'.tape = w.tape
  output : w'.output = w.output
  size : w.heap.size ≤ w'.heap.size
  block : ∀ k, k < w.heap.size → k ≠ cb → w'.heap[k]? = w.heap[k]?
theorem But.refl (cb : Nat) (w : World) : But cb w w := ⟨rfl, rfl, rfl, Nat.le_refl _, fun _ _ _ => rfl⟩
theorem But.trans {cb : Nat} {a b c : World} (h : But cb a b) (k : But cb b c) : But cb a c :=
  ⟨k.os.trans h.os, k.tape.trans h.tape, k.output.trans h.output, Nat.le_trans h.size k.size, fun i hi hn => (k.block i (Nat.lt_of_lt_of_le hi h.size) hn).trans (h.block i hi hn)⟩
theorem But.of {cb : Nat} {w w' : World} (h : Below w.heap.size w w') : But cb w w' := ⟨h.os, h.tape, h.output, h.size, fun k hk _ => h.block k hk⟩
theorem But.below {cb B : Nat} {w w' : World} (h : But cb w w') (hB : B ≤ cb) (hw : B ≤ w.heap.size) : Below B w w' := ⟨h.os, h.tape, h.output, h.size, fun k hk => h.block k (by omega) (by omega)⟩
theorem But.cell {cb : Nat} {w w' : World} (h : But cb w w') {p : Addr} (hp : p.block < w.heap.size) (hne : p.block ≠ cb) : w'.cell? p = w.cell? p := World.cell?_of_block (h.block p.block hp hne)
theorem But.drewN {cb n : Nat} {a w : World} (h : But cb a w) : But cb a (w.drewN n) := ⟨h.os, h.tape, h.output, h.size, h.block⟩
theorem But.drew {cb : Nat} {a w : World} (h : But cb a w) : But cb a w.drew := ⟨h.os, h.tape, h.output, h.size, h.block⟩

theorem setCell_row {w : World} {b o : Nat} {c : Array Value} {t : TypeId} {fr : Nat × Nat} {v : Value} (h : w.heap[b]? = some (.cells c t fr)) :
    (w.setCell ⟨b, o, none⟩ v).heap[b]? = some (.cells (c.setIfInBounds o v) t fr) := by
  have hlt : b < w.heap.size := (Array.getElem?_eq_some_iff.1 h).1
  have he : w.heap[b] = .cells c t fr := by have := Array.getElem?_eq_some_iff.1 h; exact this.2
  show (w.heap.modify b _)[b]? = _
  rw [Array.getElem?_eq_getElem (by simpa using hlt), Array.getElem_modify, if_pos rfl, he]
  rfl

/-- The count. -/
def Cnt (w : World) (cb : Nat) (k : Int) : Prop := w.heap[cb]? = some (.cells #[.int .i64 k] 42 (0, 0))
theorem Cnt.cell {w : World} {cb : Nat} {k : Int} (h : Cnt w cb k) : w.cell? ⟨cb, 0, none⟩ = some (.int .i64 k) := by unfold Cnt at h; simp [World.cell?, h]
theorem Cnt.frozen {w : World} {cb : Nat} {k : Int} (h : Cnt w cb k) : w.frozen? ⟨cb, 0, none⟩ = false := by unfold Cnt at h; simp [World.frozen?, h]
theorem Cnt.lt {w : World} {cb : Nat} {k : Int} (h : Cnt w cb k) : cb < w.heap.size := (Array.getElem?_eq_some_iff.1 h).1
theorem Cnt.set {w : World} {cb : Nat} {k : Int} (h : Cnt w cb k) (n : Int) : Cnt (w.setCell ⟨cb, 0, none⟩ (.int .i64 n)) cb n ∧ But cb w (w.setCell ⟨cb, 0, none⟩ (.int .i64 n)) := by
  have hb : Below 0 w (w.setCell ⟨cb, 0, none⟩ (.int .i64 n)) := (Below.refl 0 w).setCell (Nat.zero_le _) _
  exact ⟨setCell_row h, hb.os, hb.tape, hb.output, hb.size, fun k hk hn => Below.heap_setCell _ _ _ _ hn⟩

theorem more_any (cb : Nat) (k deep : Int) (w : World) (h : Cnt w cb k) (hk : 0 ≤ k) (hk2 : k ≤ 4096) :
    Calls Tryz.prog 20 #[.pointer (some ⟨cb, 0, none⟩), .int .i64 deep] w fun e w' => e = .returned (.bool (decide (k + 1 ≤ 4096) && decide (deep ≤ 48))) ∧ Cnt w' cb (k + 1) ∧ But cb w w' := by
  have c1 := h.cell
  have f1 := h.frozen
  have hw : IntKind.i64.wrap (k + 1) = k + 1 := IntWalk.i64_in _ (by omega)
  have HS := Lib.hid (h.set (k + 1))
  clear h
  by_cases h1 : k + 1 ≤ 4096
  · have hd : decide (k + 1 ≤ 4096) = true := decide_eq_true h1
    rw [hd]
    go_enter Tryz.func20, Tryz.ntmps20
    go_wp2
    go_ret
    exact ⟨by rw [Bool.true_and]; rfl, HS.out.1, HS.out.2⟩
  · have hd : decide (k + 1 ≤ 4096) = false := decide_eq_false h1
    rw [hd]
    go_enter Tryz.func20, Tryz.ntmps20
    go_wp2
    go_ret
    exact ⟨rfl, HS.out.1, HS.out.2⟩

set_option maxRecDepth 100000 in
/-- An expression that came in, opened: its kids. -/
theorem expr_open {H : Type} {enc : TypeId × Value → H} {W : World} {base : Nat} {sp : Nat → Bool} {held : Bool} {n : Nat} {cs : List Value} {x : DataW H × List MemPlace} (h : DataW.trod enc Tryz.prog W base sp held n 25 cs = some x) :
    ∃ c0 c1 c2 c3 c4, cs = [c0, c1, c2, c3, c4] ∧ ((c3 = .slice none 0 0) ∨ ∃ (a : Addr) (len cap : Nat), c3 = .slice (some a) len cap ∧ len ≤ maxLen ∧
      ∀ i, i < len → ∃ cs' m x', m < n ∧ W.cells? base (a.add (i * 5)) 5 = some cs' ∧ DataW.trod enc Tryz.prog W base sp held m 25 cs' = some x') := by
  obtain ⟨xs, m, rfl, _, hl, _, hf⟩ := DataW.trod_struct Tryz.underlying25 h
  have hc : Tryz.prog.cellsOf 25 = 5 := by kernel_rfl
  rw [hc] at hl
  match cs, hl with
  | [c0, c1, c2, c3, c4], _ =>
    refine ⟨c0, c1, c2, c3, c4, rfl, ?_⟩
    have h3 := hf 3 _ rfl
    have hc3 : Tryz.prog.cellsOf 23 = 1 := by kernel_rfl
    have h3 : DataW.trod enc Tryz.prog W base sp held _ 23 [c3] = xs[3]? := h3
    have hlen : xs.length = 5 := by assumption
    rw [List.getElem?_eq_getElem (by omega)] at h3
    rcases DataW.trod_slice Tryz.underlying23 h3 with ⟨e, _⟩ | ⟨a, len, cap, elems, rest, n', e1, e2, _, _, hlc, hcm, hel, hx, _⟩
    · exact .inl (List.cons.inj e).1
    · refine .inr ⟨a, len, cap, (List.cons.inj e2).1, by omega, fun i hi => ?_⟩
      have := hx i hi
      rw [hc, List.getElem?_eq_getElem (by omega)] at this
      obtain ⟨cs', q1, q2⟩ := Option.bind_eq_some_iff.1 this
      exact ⟨cs', n', _, by omega, q1, q2⟩
end Go.Proofs.YtfdbkfehkolpmaaGreatDoor
