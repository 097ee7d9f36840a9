/- Regions whose order is open, whose operations read what was there and whose callees only add to it: one walk, in the order of the text. -/
import Derived.Test.YtggjeecpadnihaaGreatDoorProg
import Derived.WalkKit
import Derived.BigQuiet
import Derived.IntWalk
import Derived.Test.YtggjeecpadnihaaGreatDoorSyA
import Derived.Laws.AppendOwn
import Derived.Deep.LoopGhost
namespace Go.Proofs.YtggjeecpadnihaaGreatDoor
open Go Go.Proofs Go.RowKit

/-- A world that has grown above W. -/
structure Up (W : World) where
  w : World
  h : Below W.heap.size W w
instance Up.made (W : World) : Nonempty (Up W) := ⟨⟨W, RowKit.Below.refl _ _⟩⟩
theorem Up.cell {W : World} {p : Addr} {v : Value} (h : W.cell? p = some v) (x : Up W) : x.w.cell? p = some v := (x.h.cell (World.block_lt_of_cell? W _ h)).trans h
theorem Up.call {P : Program} {W : World} {f : FuncId} {args : Array Value} {v : Value} (h : ∀ w, Below W.heap.size W w → Calls P f args w fun e w' => e = .returned v ∧ Below w.heap.size w w') (x : Up W) :
    Calls P f args x.w fun e w'' => e = .returned v ∧ ∃ y : Up W, w'' = y.w :=
  (h x.w x.h).mono fun _ w'' ⟨he, hb⟩ => ⟨he, ⟨w'', x.h.trans (RowKit.Below.mono hb x.h.size)⟩, rfl⟩
theorem wp_region_up {P : Program} {W w : World} {id : Nat} {Q : Exit → Act → World → Prop} {a : Act} {l : List Oper} (hm : P.follows .mixedOrders = true) (hB : Region.lexB .any l.toArray = true) (hw : Below W.heap.size W w)
    (h : wpQuiet P l.toArray (fun w' => ∃ x : Up W, w' = x.w) (fun a' => ∀ w', (∃ x : Up W, w' = x.w) → Q .normal a' w') l a) : (Code.region id l.toArray true).wp P Q a w :=
  wp_region_quiet (C := fun w' => ∃ x : Up W, w' = x.w) hm hB ⟨⟨_, hw.drew⟩, rfl⟩ (by simpa using h)
end Go.Proofs.YtggjeecpadnihaaGreatDoor

namespace Go.Proofs.YtggjeecpadnihaaGreatDoor
open Go Go.Proofs Go.Eng Go.RowKit Go.Sx Go.Deep
set_option linter.unusedVariables false
set_option linter.unusedSimpArgs false

/-- A row of bytes of the call's own. -/
def BytesAt (w : World) (base : Nat) (v : Value) (l : List UInt8) : Prop := w.ownsRow base 5 1 v l.length (Lib.byteCells l)
theorem bytes_start (w : World) (c : UInt8) : BytesAt (w.alloc (.cells #[.int .u8 c.toNat] 5)) w.heap.size (.slice (some ⟨w.heap.size, 0, none⟩) 1 1) [c] :=
  ⟨rfl, .inr ⟨w.heap.size, 1, _, rfl, Nat.le_refl _, heap_alloc_new _ _, Nat.le_refl _, by decide, rfl, rfl⟩⟩
theorem bytes_pushed {wr w' W1 : World} {base B : Nat} {v v' : Value} {l x : List UInt8} {o : Obj} (h : BytesAt wr base v l) (ho : w'.ownsRow base 5 1 v' (l.length + x.length) (Lib.byteCells l ++ Lib.byteCells x))
    (hg : (wr.alloc o).grownBy w' v.ownBlock) (hb : Below B W1 wr) (hB : B ≤ base) (hw : B ≤ wr.heap.size) : BytesAt w' base v' (l ++ x) ∧ Below B W1 w' := by
  constructor
  · unfold BytesAt
    rw [List.length_append, Lib.byteCells_append]; exact ho
  · exact (hb.alloc hw o).grown hg (by show B ≤ (wr.heap.push o).size; rw [Array.size_push]; omega) (fun j hj => Nat.le_trans hB (World.ownsRow.lt h j hj).1)
theorem bytes_text {w : World} {base : Nat} {v : Value} {l : List UInt8} (h : BytesAt w base v l) (hl : 0 < l.length) : (convert 79 9 v).run Tryz.prog w = .ok (.string ⟨l.toArray⟩) w := by
  obtain ⟨h1, h2 | ⟨g, cap, cur, rfl, hb, hc, hn, hm, hs, ht⟩⟩ := h
  · omega
  · refine run_convert_bytes_back (P := Tryz.prog) w 79 9 5 ⟨g, 0, none⟩ cap l Tryz.underlying79 Tryz.underlying5 Tryz.underlying9 (fun j hj => ?_)
    have e : (cur.toList.take (l.length * 1))[j]? = some (.int .u8 (l[j].toNat : Int)) := by
      rw [ht, Lib.byteCells, List.getElem?_map, List.getElem?_eq_getElem hj]; rfl
    have e2 : cur[j]? = some (.int .u8 (l[j].toNat : Int)) := by
      rw [List.getElem?_take_of_lt (by omega)] at e
      rwa [Array.getElem?_toList] at e
    have e3 : (⟨g, 0, none⟩ : Addr).add j = ⟨g, j, none⟩ := by simp [Addr.add] <;> omega
    rw [e3, Lib.cell_of_heap hc j, e2]

set_option maxRecDepth 100000 in
set_option maxHeartbeats 1000000 in
theorem rquoted_any (s : ByteArray) (w : World) (hp : plainB s = true) : Calls Tryz.prog 51 #[.string s] w fun e w' => e = .returned (.string ⟨(quotL s).toArray⟩) ∧ Below w.heap.size w w' := by
  have hlen : s.data.toList.length = s.size := by rw [Array.length_toList]; rfl
  have h255 : s.size ≤ 255 := by unfold plainB at hp; simp at hp; exact hp.1
  have hq := quot_le hp
  obtain ⟨i0, hi0, hz0, hz1, hz2⟩ := info_parts (show (Tryz.prog.info? 5).map (fun i => (i.zero, i.size, i.bytes)) = some (some (.int .u8 0), 1, 1) by kernel_rfl)
  have HQ : Hid (∀ i, ([34] ++ escL (s.data.toList.take i) : List UInt8).length ≤ 512) := Lib.hid fun i => by
    have h1 := escL_take_le s.data.toList i
    unfold quotL at hq
    rw [List.length_cons, List.length_append, List.length_cons, List.length_nil] at hq
    rw [List.length_append, List.length_cons, List.length_nil]; omega
  obtain ⟨W1, hW1⟩ : ∃ W1, W1 = w.alloc (.cells #[.int .u8 34] 5) := ⟨_, rfl⟩
  have hb1 : Below w.heap.size w W1 := by rw [hW1]; exact (RowKit.Below.refl _ _).alloc (Nat.le_refl _) _
  have hst : BytesAt W1 w.heap.size (.slice (some ⟨w.heap.size, 0, none⟩) 1 1) [34] := by rw [hW1]; exact bytes_start w 34
  have HB1 := Lib.hid hb1
  have HST := Lib.hid hst
  have HL := Lib.hid hlen
  clear hst hb1 hp hq hlen
  go_enter Tryz.func51, Tryz.ntmps51
  go_wp2_with fail
  rw [← hW1]
  clear hW1
  go_loopg [3, 4] s.size (fun kx s3 s4 wr => ∃ (i : Nat) (v : Value), v = s3 ∧ s4 = .int .i64 i ∧ i ≤ s.size ∧ s.size - i ≤ kx ∧ Aside (BytesAt wr w.heap.size v ([34] ++ escL (s.data.toList.take i))) ∧ Aside (Below w.heap.size w wr))
  case atStart => exact ⟨0, _, rfl, rfl, by omega, by omega, HST.out, HB1.out⟩
  case round =>
    obtain ⟨i, v, rfl, rfl, hi, hk, hown, hb⟩ := hrel
    have HB := Lib.hid hb.out
    have HOWN := Lib.hid hown.out
    have hsz := hb.out.size
    clear hb hown
    by_cases hil : i < s.size
    · have hi0' : (0 : Int) ≤ (i : Int) := by omega
      have hi1 : (i : Int) < (s.size : Int) := by omega
      have HE := Lib.hid (escL_take hil)
      have hq1 := HQ.out i
      have HAPP : Hid (∀ x, escC s[i] = x → [34] ++ escL (s.data.toList.take (i + 1)) = ([34] ++ escL (s.data.toList.take i)) ++ x) := Lib.hid fun x hx => by rw [HE.out, hx, List.append_assoc]
      have tn : ∀ {n : Nat}, n < 256 → s[i] ≠ UInt8.ofNat n → (((s[i].toNat : Int) == (n : Int)) = false) := fun {n} hn h => beq_eq_false_iff_ne.2 fun e => h (by
        apply UInt8.toNat_inj.1
        rw [UInt8.toNat_ofNat']; omega)
      have ty : ∀ {n : Nat}, n < 256 → s[i] = UInt8.ofNat n → (((s[i].toNat : Int) == (n : Int)) = true) := fun {n} hn h => by
        rw [h, UInt8.toNat_ofNat', beq_iff_eq]; omega
      generalize ([34] ++ escL (s.data.toList.take i) : List UInt8) = L at *
      have hc1 : ∀ (t : TypeId) (cs : List Value) j u, cs[j]? = some u → (wr.alloc (.cells cs.toArray t)).cell? ((⟨wr.heap.size, 0, none⟩ : Addr).add j) = some u := fun t cs j u h => by
        have e3 : (⟨wr.heap.size, 0, none⟩ : Addr).add j = ⟨wr.heap.size, j, none⟩ := by simp [Addr.add] <;> omega
        rw [e3, Lib.cell_of_heap (heap_alloc_new _ _) j]; simpa using h
      have HC1 := Lib.hid hc1
      have HONE : Hid (∀ (l : List UInt8) (u : Value), u ∈ Lib.byteCells l → u.oneCell' = true) := Lib.hid fun l u hu => by
        unfold Lib.byteCells at hu
        obtain ⟨c, _, rfl⟩ := List.mem_map.1 hu
        rfl
      have HPU : Hid (∀ (w' : World) (v' : Value) (x : List UInt8) (o : Obj), escC s[i] = x → w'.ownsRow w.heap.size 5 1 v' (L.length + x.length) (Lib.byteCells L ++ Lib.byteCells x) → (wr.alloc o).grownBy w' v.ownBlock → BytesAt w' w.heap.size v' ([34] ++ escL (s.data.toList.take (i + 1))) ∧ Below w.heap.size w w') := Lib.hid fun w' v' x o hx h1 h2 => by
        rw [HAPP.out x hx]
        exact bytes_pushed HOWN.out h1 h2 HB.out (Nat.le_refl _) hsz
      clear hc1 HE HAPP
      by_cases h92 : s[i] = 92
      · have he : Hid (escC s[i] = [92, s[i]]) := Lib.hid (by unfold escC; rw [if_pos h92, h92])
        have t1 := ty (n := 92) (by decide) h92
        clear h92
        clear ty tn
        go_wp2_with (at_builtin; refine wpList_append_own _ rfl _ _ 79 rfl w.heap.size 5 i0 (.int .u8 0) 1 1 Tryz.underlying79 hi0 hz0 hz1 hz2 rfl (by decide) _ L.length (Lib.byteCells L) rfl (World.ownsRow.alloc HOWN.out _) ⟨wr.heap.size, 0, none⟩ 2 2 (Lib.byteCells [92, s[i]]) rfl rfl (HC1.out _ _) (HONE.out _) ?c3 ?c4 ?c5 ?_)
        case c3 => unfold maxLen; omega
        case c4 => omega
        case c5 => simp; omega
        intro v' w' hown2 hgrow _
        have FIN := Lib.hid (HPU.out _ _ _ _ he.out hown2 hgrow)
        clear hown2 hgrow
        go_wp2
        go_roundg (s.size - (i + 1))
        case measure => omega
        case rel => exact ⟨i + 1, v', rfl, by go_num, by omega, Nat.le_refl _, FIN.out.1, FIN.out.2⟩
      have t1 := tn (n := 92) (by decide) h92
      by_cases h34 : s[i] = 34
      · have he : Hid (escC s[i] = [92, s[i]]) := Lib.hid (by unfold escC; rw [if_neg h92, if_pos h34, h34])
        have t2 := ty (n := 34) (by decide) h34
        clear h34 h92
        clear ty tn
        go_wp2_with (at_builtin; refine wpList_append_own _ rfl _ _ 79 rfl w.heap.size 5 i0 (.int .u8 0) 1 1 Tryz.underlying79 hi0 hz0 hz1 hz2 rfl (by decide) _ L.length (Lib.byteCells L) rfl (World.ownsRow.alloc HOWN.out _) ⟨wr.heap.size, 0, none⟩ 2 2 (Lib.byteCells [92, s[i]]) rfl rfl (HC1.out _ _) (HONE.out _) ?c3 ?c4 ?c5 ?_)
        case c3 => unfold maxLen; omega
        case c4 => omega
        case c5 => simp; omega
        intro v' w' hown2 hgrow _
        have FIN := Lib.hid (HPU.out _ _ _ _ he.out hown2 hgrow)
        clear hown2 hgrow
        go_wp2
        go_roundg (s.size - (i + 1))
        case measure => omega
        case rel => exact ⟨i + 1, v', rfl, by go_num, by omega, Nat.le_refl _, FIN.out.1, FIN.out.2⟩
      have t2 := tn (n := 34) (by decide) h34
      by_cases h10 : s[i] = 10
      · have he : Hid (escC s[i] = [92, 110]) := Lib.hid (by unfold escC; rw [if_neg h92, if_neg h34, if_pos h10])
        have t3 := ty (n := 10) (by decide) h10
        clear h10 h34 h92
        clear ty tn
        go_wp2_with (at_builtin; refine wpList_append_own _ rfl _ _ 79 rfl w.heap.size 5 i0 (.int .u8 0) 1 1 Tryz.underlying79 hi0 hz0 hz1 hz2 rfl (by decide) _ L.length (Lib.byteCells L) rfl (World.ownsRow.alloc HOWN.out _) ⟨wr.heap.size, 0, none⟩ 2 2 (Lib.byteCells [92, 110]) rfl rfl (HC1.out _ _) (HONE.out _) ?c3 ?c4 ?c5 ?_)
        case c3 => unfold maxLen; omega
        case c4 => omega
        case c5 => simp; omega
        intro v' w' hown2 hgrow _
        have FIN := Lib.hid (HPU.out _ _ _ _ he.out hown2 hgrow)
        clear hown2 hgrow
        go_wp2
        go_roundg (s.size - (i + 1))
        case measure => omega
        case rel => exact ⟨i + 1, v', rfl, by go_num, by omega, Nat.le_refl _, FIN.out.1, FIN.out.2⟩
      have t3 := tn (n := 10) (by decide) h10
      have he : Hid (escC s[i] = [s[i]]) := Lib.hid (by unfold escC; rw [if_neg h92, if_neg h34, if_neg h10])
      clear h10 h34 h92
      clear ty tn
      go_wp2_with (at_builtin; refine wpList_append_own _ rfl _ _ 79 rfl w.heap.size 5 i0 (.int .u8 0) 1 1 Tryz.underlying79 hi0 hz0 hz1 hz2 rfl (by decide) _ L.length (Lib.byteCells L) rfl (World.ownsRow.alloc HOWN.out _) ⟨wr.heap.size, 0, none⟩ 1 1 (Lib.byteCells [s[i]]) rfl rfl (HC1.out _ _) (HONE.out _) ?c3 ?c4 ?c5 ?_)
      case c3 => unfold maxLen; omega
      case c4 => omega
      case c5 => simp; omega
      intro v' w' hown2 hgrow _
      have FIN := Lib.hid (HPU.out _ _ _ _ he.out hown2 hgrow)
      clear hown2 hgrow
      go_wp2
      go_roundg (s.size - (i + 1))
      case measure => omega
      case rel => exact ⟨i + 1, v', rfl, by go_num, by omega, Nat.le_refl _, FIN.out.1, FIN.out.2⟩
    · obtain rfl : i = s.size := by omega
      have hq1 := HQ.out s.size
      have e : quotL s = ([34] ++ escL (s.data.toList.take s.size)) ++ [34] := by rw [← HL.out, List.take_length]; simp [quotL]
      have HEQ := Lib.hid e
      clear e
      generalize ([34] ++ escL (s.data.toList.take s.size) : List UInt8) = L at *
      have hc1 : ∀ (t : TypeId) (cs : List Value) j u, cs[j]? = some u → (wr.alloc (.cells cs.toArray t)).cell? ((⟨wr.heap.size, 0, none⟩ : Addr).add j) = some u := fun t cs j u h => by
        have e3 : (⟨wr.heap.size, 0, none⟩ : Addr).add j = ⟨wr.heap.size, j, none⟩ := by simp [Addr.add] <;> omega
        rw [e3, Lib.cell_of_heap (heap_alloc_new _ _) j]; simpa using h
      go_wp2_with (at_builtin; refine wpList_append_own _ rfl _ _ 79 rfl w.heap.size 5 i0 (.int .u8 0) 1 1 Tryz.underlying79 hi0 hz0 hz1 hz2 rfl (by decide) _ L.length (Lib.byteCells L) rfl (World.ownsRow.alloc HOWN.out _) ⟨wr.heap.size, 0, none⟩ 1 1 (Lib.byteCells [34]) rfl rfl (hc1 _ _) ?c2 ?c3 ?c4 ?c5 ?_)
      case c2 => intro u hu; simp [Lib.byteCells] at hu; subst hu; rfl
      case c3 => unfold maxLen; omega
      case c4 => omega
      case c5 => simp; omega
      intro v' w' hown2 hgrow _
      obtain ⟨FB, FW⟩ := bytes_pushed (x := [34]) HOWN.out hown2 hgrow HB.out (Nat.le_refl _) hsz
      have hcv := bytes_text FB (by simp)
      have HFW := Lib.hid FW
      clear hown2 hgrow FB FW hc1
      go_wp2
      go_ret
      exact ⟨by rw [HEQ.out]; rfl, HFW.out⟩
end Go.Proofs.YtggjeecpadnihaaGreatDoor

namespace Go.Proofs.YtggjeecpadnihaaGreatDoor
open Go Go.Proofs Go.Eng Go.RowKit Go.Sx Go.Deep
set_option linter.unusedVariables false
set_option linter.unusedSimpArgs false

theorem ba_ext {a b : ByteArray} (h : a.data.toList = b.data.toList) : a = b := ByteArray.ext (Array.toList_inj.1 h)
theorem ba_app (a b : ByteArray) : (a ++ b).data.toList = a.data.toList ++ b.data.toList := by rw [ByteArray.data_append, Array.toList_append]
theorem ba_len (a : ByteArray) : a.data.toList.length = a.size := by rw [Array.length_toList]; rfl

/-- What an expression's text is. -/
def RText (W : World) (e : Ex) : Prop := ∀ (cs : List Value) (w : World), ExIn W e cs → Old W w → Calls Tryz.prog 23 #[.agg ⟨cs⟩] w fun e' w' => e' = .returned (.string ⟨e.txt.toArray⟩) ∧ Below w.heap.size w w'

set_option maxRecDepth 100000 in
theorem rwithin_any {W : World} {e : Ex} (H : RText W e) (cs : List Value) (w : World) (least : Int) (hin : ExIn W e cs) (ho : Old W w) (hl : e.txt.length ≤ 100000000) :
    Calls Tryz.prog 53 #[.agg ⟨cs⟩, .int .i64 least] w fun e' w' => e' = .returned (.string ⟨(win e.bind e.txt least).toArray⟩) ∧ Below w.heap.size w w' := by
  obtain ⟨k, s, n, kids, line⟩ := e
  have hin' := hin
  simp only [ExIn] at hin'
  obtain ⟨so, cap, rfl, _⟩ := hin'
  have hbind : (Ex.mk k s n kids line).bind = bindK k s := rfl
  rw [hbind]
  obtain ⟨W1, hW1⟩ : ∃ W1, W1 = w.alloc (.cells #[.int .i64 k, .string s, .int .i64 n, .slice so kids.length cap, .int .i64 line] 25) := ⟨_, rfl⟩
  have hal : Below w.heap.size w W1 := by rw [hW1]; exact (RowKit.Below.refl _ _).alloc (Nat.le_refl _) _
  have hrow : W1.heap[w.heap.size]? = some (.cells #[.int .i64 k, .string s, .int .i64 n, .slice so kids.length cap, .int .i64 line] 25 (0, 0)) := by rw [hW1]; exact heap_alloc_new _ _
  obtain ⟨c0, c1, c2, c3, c4⟩ := row_cells hrow
  have HAL := Lib.hid hal
  have HLV := Lib.hid (rlevel_any k n s so kids.length cap line W1)
  have HTX := Lib.hid (fun w' (hb : Below W1.heap.size W1 w') => H _ w' hin ((ho.below hal).below hb))
  have HROW := Lib.hid hrow
  generalize hB : bindK k s = bi at *
  have HNW : Hid (bi < least → win bi (Ex.mk k s n kids line).txt least = 40 :: ((Ex.mk k s n kids line).txt ++ [41])) := Lib.hid fun h => by unfold win; rw [if_pos h]
  have HNN : Hid (¬ bi < least → win bi (Ex.mk k s n kids line).txt least = (Ex.mk k s n kids line).txt) := Lib.hid fun h => by unfold win; rw [if_neg h]
  generalize (Ex.mk k s n kids line).txt = t at *
  obtain ⟨T, hT⟩ : ∃ T : ByteArray, T = ⟨t.toArray⟩ := ⟨_, rfl⟩
  have hTs : T.size ≤ 100000000 := by rw [hT]; show t.toArray.size ≤ _; simpa using hl
  have HTL : Hid (T.data.toList = t) := Lib.hid (by rw [hT])
  rw [← hT] at HTX
  clear H hin ho hal hrow hB hT hl
  by_cases hlt : bi < least
  · rw [HNW.out hlt]
    have FIN : Hid ((⟨#[40]⟩ ++ T ++ ⟨#[41]⟩ : ByteArray) = ⟨(40 :: (t ++ [41])).toArray⟩) := Lib.hid (ba_ext (by simp [ba_app, HTL.out]))
    have hd : decide (bi < least) = true := decide_eq_true hlt
    clear HNW HNN
    go_enter Tryz.func53, Tryz.ntmps53
    go_wp2_with fail
    rw [← hW1]
    clear hW1
    go_wp2_with fail
    go_at_call 82
    refine HLV.out.mono ?_
    rintro e w2 ⟨rfl, hb2⟩
    have HB2 := Lib.hid hb2
    simp only
    obtain ⟨k0, k1, k2, k3, k4⟩ := row_cells ((hb2.block _ (Array.getElem?_eq_some_iff.1 HROW.out).1).trans HROW.out)
    clear hb2 c0 c1 c2 c3 c4
    go_wp2_with (go_at_call 23; (with_reducible refine (HTX.out _ HB2.out).mono ?_); rintro e w3 ⟨rfl, hb3⟩)
    go_ret
    exact ⟨by rw [FIN.out]; rfl, HAL.out.trans (RowKit.Below.mono (HB2.out.trans (RowKit.Below.mono hb3 HB2.out.size)) HAL.out.size)⟩
  · rw [HNN.out hlt]
    have FIN : Hid (T = ⟨t.toArray⟩) := Lib.hid (ba_ext (by simp [HTL.out]))
    have hd : decide (bi < least) = false := decide_eq_false hlt
    clear HNW HNN
    go_enter Tryz.func53, Tryz.ntmps53
    go_wp2_with fail
    rw [← hW1]
    clear hW1
    go_wp2_with fail
    go_at_call 82
    refine HLV.out.mono ?_
    rintro e w2 ⟨rfl, hb2⟩
    have HB2 := Lib.hid hb2
    simp only
    obtain ⟨k0, k1, k2, k3, k4⟩ := row_cells ((hb2.block _ (Array.getElem?_eq_some_iff.1 HROW.out).1).trans HROW.out)
    clear hb2 c0 c1 c2 c3 c4
    go_wp2_with (go_at_call 23; (with_reducible refine (HTX.out _ HB2.out).mono ?_); rintro e w3 ⟨rfl, hb3⟩)
    go_ret
    exact ⟨by rw [FIN.out]; rfl, HAL.out.trans (RowKit.Below.mono (HB2.out.trans (RowKit.Below.mono hb3 HB2.out.size)) HAL.out.size)⟩

set_option maxRecDepth 100000 in
set_option maxHeartbeats 1000000 in
theorem rlist_any {W : World} {kids : List Ex} {so : Option Addr} {cap : Nat} (hk : ∀ (i : Nat) e, kids[i]? = some e → KidAt W so i e) (H : ∀ (i : Nat) e, kids[i]? = some e → RText W e) (hr : rightL kids = true) (hkl : kids.length ≤ 9223372036854775807)
    (hcn : cntL kids ≤ 4096) (w : World) (ho : Old W w) :
    Calls Tryz.prog 52 #[.slice so kids.length cap] w fun e' w' => e' = .returned (.string ⟨(joinL (kids.map Ex.txt)).toArray⟩) ∧ Below w.heap.size w w' := by
  have HK := Lib.hid hk
  have HH := Lib.hid H
  have HO := Lib.hid ho
  have HLEN : Hid (∀ i, (joinL ((kids.take i).map Ex.txt)).length ≤ 5000000) := Lib.hid fun i => by
    have h1 := jl_len hk (i := i) (rightL_iff.2 fun e he => rightL_iff.1 hr e (List.mem_of_mem_take he))
    have h2 : cntL (kids.take i) + cntL (kids.drop i) = cntL kids := by rw [← cntL_app, List.take_append_drop]
    omega
  have HTL : Hid (∀ (i : Nat) e, kids[i]? = some e → e.txt.length ≤ 5000000) := Lib.hid fun i e he => by
    obtain ⟨g, o, c0, c1, c2, c3, c4, _, _, _, _, _, _, _, h5⟩ := hk i e he
    have h1 := txt_len _ e _ rfl h5 (rightL_iff.1 hr e (List.mem_of_getElem? he))
    have h2 := cntL_get he
    omega
  clear hk H ho hr hcn
  go_enter Tryz.func52, Tryz.ntmps52
  go_wp2_with fail
  go_loopg [3, 4] kids.length (fun kx s3 s4 wr => ∃ (i : Nat) (S : ByteArray), s3 = .string S ∧ s4 = .int .i64 i ∧ i ≤ kids.length ∧ kids.length - i ≤ kx ∧ Aside (S.data.toList = joinL ((kids.take i).map Ex.txt)) ∧ Aside (Below w.heap.size w wr))
  case atStart => exact ⟨0, _, rfl, rfl, by omega, by omega, rfl, RowKit.Below.refl _ _⟩
  case round =>
    obtain ⟨i, S, rfl, rfl, hi, hg, hs, hb⟩ := hrel
    have HS := Lib.hid hs.out
    have HB := Lib.hid hb.out
    clear hs hb
    have hSs : S.size ≤ 5000000 := by have h := HLEN.out i; rw [← HS.out, ba_len] at h; exact h
    by_cases hil : i < kids.length
    · have hx : kids[i]? = some kids[i] := List.getElem?_eq_getElem hil
      obtain ⟨g, o, so', cap', rfl, hgW, a0, a1, a2, a3, a4, ht⟩ := kid_open (HK.out i _ hx)
      have hold : Old W wr := HO.out.below HB.out
      have d0 := hold.cell a0
      have d1 := hold.cell a1
      have d2 := hold.cell a2
      have d3 := hold.cell a3
      have d4 := hold.cell a4
      have HCALL := Lib.hid (HH.out i _ hx _ wr ht hold)
      have hT0 := HTL.out i _ hx
      have HJ : Hid (∀ (t : List UInt8), kids[i].txt = t → (i = 0 → joinL ((kids.take (i + 1)).map Ex.txt) = t) ∧ (i ≠ 0 → joinL ((kids.take (i + 1)).map Ex.txt) = joinL ((kids.take i).map Ex.txt) ++ ([44, 32] ++ t))) := Lib.hid fun t hte => by
        have e1 : (kids.take (i + 1)).map Ex.txt = (kids.take i).map Ex.txt ++ [t] := by rw [List.take_add_one, hx, List.map_append]; show _ ++ [(kids[i] : Ex).txt] = _; rw [hte]
        rw [e1]
        constructor
        · rintro rfl; simp [joinL]
        · intro hne
          exact joinL_snoc t _ (by
            intro h
            have := congrArg List.length h
            simp only [List.length_map, List.length_take, List.length_nil] at this; omega)
      have hi1 : (i : Int) < (kids.length : Int) := by omega
      have hi0 : (0 : Int) ≤ (i : Int) := by omega
      generalize kids[i] = kd at *
      obtain ⟨k', s', n', kids', line'⟩ := kd
      simp only [Ex.kind, Ex.str, Ex.num, Ex.kids, Ex.line] at d0 d1 d2 d3 d4 HCALL
      generalize htt : (Ex.mk k' s' n' kids' line').txt = t at *
      have HJ' := Lib.hid (HJ.out t rfl)
      obtain ⟨T, hT⟩ : ∃ T : ByteArray, T = ⟨t.toArray⟩ := ⟨_, rfl⟩
      have hTs : T.size ≤ 5000000 := by rw [hT]; show t.toArray.size ≤ _; simpa using hT0
      have HTD : Hid (T.data.toList = t) := Lib.hid (by rw [hT])
      rw [← hT] at HCALL
      clear a0 a1 a2 a3 a4 ht hx hold HJ hT0 hT htt
      by_cases h0 : i = 0
      · have hgt : ¬ (0 : Int) < (i : Int) := by omega
        have HS0 : Hid (S ++ T = T) := Lib.hid (ba_ext (by rw [ba_app, HS.out, h0]; simp [joinL]))
        have FIN : Hid (((S ++ T).data.toList) = joinL ((kids.take (i + 1)).map Ex.txt)) := Lib.hid (by rw [HJ'.out.1 h0, HS0.out, HTD.out])
        clear HJ' HS0 h0
        go_wp2_with (go_at_call 23; (with_reducible refine HCALL.out.mono ?_); rintro e w2 ⟨rfl, hb2⟩)
        go_roundg (kids.length - (i + 1))
        case measure => omega
        case rel => exact ⟨i + 1, S ++ T, rfl, by go_num, by omega, Nat.le_refl _, FIN.out, HB.out.trans (RowKit.Below.mono hb2 HB.out.size)⟩
      · have hgt : (0 : Int) < (i : Int) := by omega
        have FIN : Hid (((S ++ ⟨#[44, 32]⟩ ++ T).data.toList) = joinL ((kids.take (i + 1)).map Ex.txt)) := Lib.hid (by rw [HJ'.out.2 h0, ba_app, ba_app, HS.out, HTD.out]; simp)
        clear HJ' h0
        go_wp2_with (go_at_call 23; (with_reducible refine HCALL.out.mono ?_); rintro e w2 ⟨rfl, hb2⟩)
        go_roundg (kids.length - (i + 1))
        case measure => omega
        case rel => exact ⟨i + 1, S ++ (⟨#[44, 32]⟩ : ByteArray) ++ T, rfl, by go_num, by omega, Nat.le_refl _, FIN.out, HB.out.trans (RowKit.Below.mono hb2 HB.out.size)⟩
    · obtain rfl : i = kids.length := by omega
      have FIN : Hid (S = ⟨(joinL (kids.map Ex.txt)).toArray⟩) := Lib.hid (ba_ext (by rw [HS.out, List.take_length]))
      go_wp2
      go_ret
      exact ⟨by rw [FIN.out]; rfl, HB.out⟩
end Go.Proofs.YtggjeecpadnihaaGreatDoor

namespace Go.Proofs.YtggjeecpadnihaaGreatDoor
open Go Go.Proofs Go.Eng Go.RowKit Go.Sx Go.Deep
set_option linter.unusedVariables false
set_option linter.unusedSimpArgs false

theorem arr_size (t : List UInt8) : (⟨t.toArray⟩ : ByteArray).size = t.length := by show t.toArray.size = _; simp

set_option maxRecDepth 100000 in
set_option maxHeartbeats 1000000 in
theorem rtext_1 {W : World} {n line : Int} {s : ByteArray} {so : Option Addr} {cap : Nat} {m : Nat} (h0 : 0 ≤ n) (h1 : n ≤ 9223372036854775807) (w : World) (ho : Old W w) :
    Calls Tryz.prog 23 #[.agg #[.int .i64 1, .string s, .int .i64 n, .slice so m cap, .int .i64 line]] w fun e' w' => e' = .returned (.string ⟨(Lib.itoa n : List UInt8).toArray⟩) ∧ Below w.heap.size w w' := by
  obtain ⟨u, rfl⟩ : ∃ u : Nat, n = u := ⟨n.toNat, by omega⟩
  have e : Lib.itoa (u : Int) = Lib.decDigits u := by unfold Lib.itoa; rw [if_neg (by omega)]; simp
  rw [e]
  have HD := Lib.hid (fun w => rdigits_any u (by omega) w)
  clear e h0 h1
  obtain ⟨W1, hW1⟩ : ∃ W1, W1 = w.alloc (.cells #[.int .i64 1, .string s, .int .i64 (u : Int), .slice so m cap, .int .i64 line] 25) := ⟨_, rfl⟩
  have hal : Below w.heap.size w W1 := by rw [hW1]; exact (RowKit.Below.refl _ _).alloc (Nat.le_refl _) _
  have hrow : W1.heap[w.heap.size]? = some (.cells #[.int .i64 1, .string s, .int .i64 (u : Int), .slice so m cap, .int .i64 line] 25 (0, 0)) := by rw [hW1]; exact heap_alloc_new _ _
  obtain ⟨c0, c1, c2, c3, c4⟩ := row_cells (m := m) hrow
  have HAL := Lib.hid hal
  go_enter Tryz.func23, Tryz.ntmps23
  go_wp2_with fail
  rw [← hW1]
  clear hW1
  go_wp2_with (go_at_call 50; (with_reducible refine (HD.out _).mono ?_); rintro e w2 ⟨rfl, hb⟩)
  go_ret
  exact ⟨rfl, HAL.out.trans (RowKit.Below.mono hb HAL.out.size)⟩

set_option maxRecDepth 100000 in
set_option maxHeartbeats 1000000 in
theorem rtext_2 {W : World} {n line : Int} {s : ByteArray} {so : Option Addr} {cap : Nat} {m : Nat} (w : World) (ho : Old W w) :
    Calls Tryz.prog 23 #[.agg #[.int .i64 2, .string s, .int .i64 n, .slice so m cap, .int .i64 line]] w fun e' w' => e' = .returned (.string ⟨(if n = 1 then [116, 114, 117, 101] else [102, 97, 108, 115, 101] : List UInt8).toArray⟩) ∧ Below w.heap.size w w' := by
  obtain ⟨W1, hW1⟩ : ∃ W1, W1 = w.alloc (.cells #[.int .i64 2, .string s, .int .i64 n, .slice so m cap, .int .i64 line] 25) := ⟨_, rfl⟩
  have hal : Below w.heap.size w W1 := by rw [hW1]; exact (RowKit.Below.refl _ _).alloc (Nat.le_refl _) _
  have hrow : W1.heap[w.heap.size]? = some (.cells #[.int .i64 2, .string s, .int .i64 n, .slice so m cap, .int .i64 line] 25 (0, 0)) := by rw [hW1]; exact heap_alloc_new _ _
  obtain ⟨c0, c1, c2, c3, c4⟩ := row_cells (m := m) hrow
  have HAL := Lib.hid hal
  by_cases h : n = 1
  · rw [if_pos h]
    have hb : (n == 1) = true := by simp [h]
    clear h
    go_enter Tryz.func23, Tryz.ntmps23
    go_wp2_with fail
    rw [← hW1]
    clear hW1
    go_wp2
    go_ret
    exact ⟨rfl, HAL.out⟩
  · rw [if_neg h]
    have hb : (n == 1) = false := by simp [h]
    clear h
    go_enter Tryz.func23, Tryz.ntmps23
    go_wp2_with fail
    rw [← hW1]
    clear hW1
    go_wp2
    go_ret
    exact ⟨rfl, HAL.out⟩

set_option maxRecDepth 100000 in
set_option maxHeartbeats 1000000 in
theorem rtext_3 {W : World} {n line : Int} {s : ByteArray} {so : Option Addr} {cap : Nat} {m : Nat} (hp : plainB s = true) (w : World) (ho : Old W w) :
    Calls Tryz.prog 23 #[.agg #[.int .i64 3, .string s, .int .i64 n, .slice so m cap, .int .i64 line]] w fun e' w' => e' = .returned (.string ⟨(quotL s : List UInt8).toArray⟩) ∧ Below w.heap.size w w' := by
  obtain ⟨W1, hW1⟩ : ∃ W1, W1 = w.alloc (.cells #[.int .i64 3, .string s, .int .i64 n, .slice so m cap, .int .i64 line] 25) := ⟨_, rfl⟩
  have hal : Below w.heap.size w W1 := by rw [hW1]; exact (RowKit.Below.refl _ _).alloc (Nat.le_refl _) _
  have hrow : W1.heap[w.heap.size]? = some (.cells #[.int .i64 3, .string s, .int .i64 n, .slice so m cap, .int .i64 line] 25 (0, 0)) := by rw [hW1]; exact heap_alloc_new _ _
  obtain ⟨c0, c1, c2, c3, c4⟩ := row_cells (m := m) hrow
  have HAL := Lib.hid hal
  have HD := Lib.hid (fun w => rquoted_any s w hp)
  go_enter Tryz.func23, Tryz.ntmps23
  go_wp2_with fail
  rw [← hW1]
  clear hW1
  go_wp2_with (go_at_call 51; (with_reducible refine (HD.out _).mono ?_); rintro e w2 ⟨rfl, hb⟩)
  go_ret
  exact ⟨rfl, HAL.out.trans (RowKit.Below.mono hb HAL.out.size)⟩

set_option maxRecDepth 100000 in
set_option maxHeartbeats 1000000 in
theorem rtext_4 {W : World} {n line : Int} {s : ByteArray} {so : Option Addr} {cap : Nat} {m : Nat} (w : World) (ho : Old W w) :
    Calls Tryz.prog 23 #[.agg #[.int .i64 4, .string s, .int .i64 n, .slice so m cap, .int .i64 line]] w fun e' w' => e' = .returned (.string ⟨(s.data.toList : List UInt8).toArray⟩) ∧ Below w.heap.size w w' := by
  obtain ⟨W1, hW1⟩ : ∃ W1, W1 = w.alloc (.cells #[.int .i64 4, .string s, .int .i64 n, .slice so m cap, .int .i64 line] 25) := ⟨_, rfl⟩
  have hal : Below w.heap.size w W1 := by rw [hW1]; exact (RowKit.Below.refl _ _).alloc (Nat.le_refl _) _
  have hrow : W1.heap[w.heap.size]? = some (.cells #[.int .i64 4, .string s, .int .i64 n, .slice so m cap, .int .i64 line] 25 (0, 0)) := by rw [hW1]; exact heap_alloc_new _ _
  obtain ⟨c0, c1, c2, c3, c4⟩ := row_cells (m := m) hrow
  have HAL := Lib.hid hal
  go_enter Tryz.func23, Tryz.ntmps23
  go_wp2_with fail
  rw [← hW1]
  clear hW1
  go_wp2
  go_ret
  exact ⟨by rw [show (⟨s.data.toList.toArray⟩ : ByteArray) = s from ba_ext (by simp)]; rfl, HAL.out⟩

set_option maxRecDepth 100000 in
set_option maxHeartbeats 1000000 in
theorem rtext_5 {W : World} {n line : Int} {s : ByteArray} {so : Option Addr} {cap : Nat} {kids : List Ex} (hk : ∀ (i : Nat) e, kids[i]? = some e → KidAt W so i e) (H : ∀ (i : Nat) e, kids[i]? = some e → RText W e) (hr : rightL kids = true) (hkl : kids.length ≤ 9223372036854775807) (hcn : cntL kids ≤ 4096) (hs : s.size ≤ 255) (w : World) (ho : Old W w) :
    Calls Tryz.prog 23 #[.agg #[.int .i64 5, .string s, .int .i64 n, .slice so kids.length cap, .int .i64 line]] w fun e' w' => e' = .returned (.string ⟨(s.data.toList ++ (40 :: (joinL (kids.map Ex.txt) ++ [41])) : List UInt8).toArray⟩) ∧ Below w.heap.size w w' := by
  obtain ⟨W1, hW1⟩ : ∃ W1, W1 = w.alloc (.cells #[.int .i64 5, .string s, .int .i64 n, .slice so kids.length cap, .int .i64 line] 25) := ⟨_, rfl⟩
  have hal : Below w.heap.size w W1 := by rw [hW1]; exact (RowKit.Below.refl _ _).alloc (Nat.le_refl _) _
  have hrow : W1.heap[w.heap.size]? = some (.cells #[.int .i64 5, .string s, .int .i64 n, .slice so kids.length cap, .int .i64 line] 25 (0, 0)) := by rw [hW1]; exact heap_alloc_new _ _
  obtain ⟨c0, c1, c2, c3, c4⟩ := row_cells (m := kids.length) hrow
  have HAL := Lib.hid hal
  have HLI := Lib.hid (fun w' (hb : Below W1.heap.size W1 w') => rlist_any (cap := cap) hk H hr hkl hcn w' ((ho.below hal).below hb))
  have hjl := jl_len hk (i := kids.length) (by rw [List.take_length]; exact hr)
  rw [List.take_length] at hjl
  generalize joinL (kids.map Ex.txt) = t at *
  obtain ⟨T, hT⟩ : ∃ T : ByteArray, T = ⟨t.toArray⟩ := ⟨_, rfl⟩
  have hTs : T.size ≤ 5000000 := by rw [hT, arr_size]; omega
  have HTD : Hid (T.data.toList = t) := Lib.hid (by rw [hT])
  rw [← hT] at HLI
  have FIN : Hid ((s ++ ⟨#[40]⟩ ++ T ++ ⟨#[41]⟩ : ByteArray) = ⟨(s.data.toList ++ (40 :: (t ++ [41])) : List UInt8).toArray⟩) := Lib.hid (ba_ext (by simp [ba_app, HTD.out]))
  have u1 := Up.cell c1
  have u3 := Up.cell c3
  clear hk H hr hkl hcn hjl hT hal hrow ho
  go_enter Tryz.func23, Tryz.ntmps23
  go_wp2_with fail
  rw [← hW1]
  clear hW1
  go_wp2_with fail
  refine wp_region_up (W := W1) (by kernel_rfl) (by kernel_rfl) (RowKit.Below.refl _ _) ?_
  repeat (go_big_quiet_step (exact Up.call HLI.out _))
  refine wpQuiet_nil ?_
  rintro _ ⟨x, rfl⟩
  go_wp2
  go_ret
  exact ⟨by rw [FIN.out]; rfl, HAL.out.trans (RowKit.Below.mono x.h HAL.out.size)⟩

set_option maxRecDepth 100000 in
set_option maxHeartbeats 1000000 in
theorem rtext_10 {W : World} {n line : Int} {s : ByteArray} {so : Option Addr} {cap : Nat} {kids : List Ex} (hk : ∀ (i : Nat) e, kids[i]? = some e → KidAt W so i e) (H : ∀ (i : Nat) e, kids[i]? = some e → RText W e) (hr : rightL kids = true) (hkl : kids.length ≤ 9223372036854775807) (hcn : cntL kids ≤ 4096) (hs : s.size ≤ 255) (w : World) (ho : Old W w) :
    Calls Tryz.prog 23 #[.agg #[.int .i64 10, .string s, .int .i64 n, .slice so kids.length cap, .int .i64 line]] w fun e' w' => e' = .returned (.string ⟨(91 :: (joinL (kids.map Ex.txt) ++ [93]) : List UInt8).toArray⟩) ∧ Below w.heap.size w w' := by
  obtain ⟨W1, hW1⟩ : ∃ W1, W1 = w.alloc (.cells #[.int .i64 10, .string s, .int .i64 n, .slice so kids.length cap, .int .i64 line] 25) := ⟨_, rfl⟩
  have hal : Below w.heap.size w W1 := by rw [hW1]; exact (RowKit.Below.refl _ _).alloc (Nat.le_refl _) _
  have hrow : W1.heap[w.heap.size]? = some (.cells #[.int .i64 10, .string s, .int .i64 n, .slice so kids.length cap, .int .i64 line] 25 (0, 0)) := by rw [hW1]; exact heap_alloc_new _ _
  obtain ⟨c0, c1, c2, c3, c4⟩ := row_cells (m := kids.length) hrow
  have HAL := Lib.hid hal
  have HLI := Lib.hid (fun w' (hb : Below W1.heap.size W1 w') => rlist_any (cap := cap) hk H hr hkl hcn w' ((ho.below hal).below hb))
  have hjl := jl_len hk (i := kids.length) (by rw [List.take_length]; exact hr)
  rw [List.take_length] at hjl
  generalize joinL (kids.map Ex.txt) = t at *
  obtain ⟨T, hT⟩ : ∃ T : ByteArray, T = ⟨t.toArray⟩ := ⟨_, rfl⟩
  have hTs : T.size ≤ 5000000 := by rw [hT, arr_size]; omega
  have HTD : Hid (T.data.toList = t) := Lib.hid (by rw [hT])
  rw [← hT] at HLI
  have FIN : Hid ((⟨#[91]⟩ ++ T ++ ⟨#[93]⟩ : ByteArray) = ⟨(91 :: (t ++ [93]) : List UInt8).toArray⟩) := Lib.hid (ba_ext (by simp [ba_app, HTD.out]))
  have u1 := Up.cell c1
  have u3 := Up.cell c3
  clear hk H hr hkl hcn hjl hT hal hrow ho
  go_enter Tryz.func23, Tryz.ntmps23
  go_wp2_with fail
  rw [← hW1]
  clear hW1
  go_wp2_with (go_at_call 52; (with_reducible refine (HLI.out _ (RowKit.Below.refl _ _)).mono ?_); rintro e w2 ⟨rfl, hb⟩)
  go_ret
  exact ⟨by rw [FIN.out]; rfl, HAL.out.trans (RowKit.Below.mono hb HAL.out.size)⟩

set_option maxRecDepth 100000 in
set_option maxHeartbeats 1000000 in
theorem rtext_11 {W : World} {n line : Int} {s : ByteArray} {so : Option Addr} {cap : Nat} {kids : List Ex} (hk : ∀ (i : Nat) e, kids[i]? = some e → KidAt W so i e) (H : ∀ (i : Nat) e, kids[i]? = some e → RText W e) (hr : rightL kids = true) (hkl : kids.length ≤ 9223372036854775807) (hcn : cntL kids ≤ 4096) (hs : s.size ≤ 255) (w : World) (ho : Old W w) :
    Calls Tryz.prog 23 #[.agg #[.int .i64 11, .string s, .int .i64 n, .slice so kids.length cap, .int .i64 line]] w fun e' w' => e' = .returned (.string ⟨([110, 101, 119, 32] ++ (s.data.toList ++ (40 :: (joinL (kids.map Ex.txt) ++ [41]))) : List UInt8).toArray⟩) ∧ Below w.heap.size w w' := by
  obtain ⟨W1, hW1⟩ : ∃ W1, W1 = w.alloc (.cells #[.int .i64 11, .string s, .int .i64 n, .slice so kids.length cap, .int .i64 line] 25) := ⟨_, rfl⟩
  have hal : Below w.heap.size w W1 := by rw [hW1]; exact (RowKit.Below.refl _ _).alloc (Nat.le_refl _) _
  have hrow : W1.heap[w.heap.size]? = some (.cells #[.int .i64 11, .string s, .int .i64 n, .slice so kids.length cap, .int .i64 line] 25 (0, 0)) := by rw [hW1]; exact heap_alloc_new _ _
  obtain ⟨c0, c1, c2, c3, c4⟩ := row_cells (m := kids.length) hrow
  have HAL := Lib.hid hal
  have HLI := Lib.hid (fun w' (hb : Below W1.heap.size W1 w') => rlist_any (cap := cap) hk H hr hkl hcn w' ((ho.below hal).below hb))
  have hjl := jl_len hk (i := kids.length) (by rw [List.take_length]; exact hr)
  rw [List.take_length] at hjl
  generalize joinL (kids.map Ex.txt) = t at *
  obtain ⟨T, hT⟩ : ∃ T : ByteArray, T = ⟨t.toArray⟩ := ⟨_, rfl⟩
  have hTs : T.size ≤ 5000000 := by rw [hT, arr_size]; omega
  have HTD : Hid (T.data.toList = t) := Lib.hid (by rw [hT])
  rw [← hT] at HLI
  have FIN : Hid ((⟨#[110, 101, 119, 32]⟩ ++ s ++ ⟨#[40]⟩ ++ T ++ ⟨#[41]⟩ : ByteArray) = ⟨([110, 101, 119, 32] ++ (s.data.toList ++ (40 :: (t ++ [41]))) : List UInt8).toArray⟩) := Lib.hid (ba_ext (by simp [ba_app, HTD.out]))
  have u1 := Up.cell c1
  have u3 := Up.cell c3
  clear hk H hr hkl hcn hjl hT hal hrow ho
  go_enter Tryz.func23, Tryz.ntmps23
  go_wp2_with fail
  rw [← hW1]
  clear hW1
  go_wp2_with fail
  refine wp_region_up (W := W1) (by kernel_rfl) (by kernel_rfl) (RowKit.Below.refl _ _) ?_
  repeat (go_big_quiet_step (exact Up.call HLI.out _))
  refine wpQuiet_nil ?_
  rintro _ ⟨x, rfl⟩
  go_wp2
  go_ret
  exact ⟨by rw [FIN.out]; rfl, HAL.out.trans (RowKit.Below.mono x.h HAL.out.size)⟩

set_option maxRecDepth 100000 in
set_option maxHeartbeats 1000000 in
theorem rtext_6 {W : World} {n line : Int} {s : ByteArray} {so : Option Addr} {cap : Nat} {a : Ex} (hka : KidAt W so 0 a) (Ha : RText W a) (hla : a.txt.length ≤ 5000000) (hs : s.size ≤ 255) (w : World) (ho : Old W w) :
    Calls Tryz.prog 23 #[.agg #[.int .i64 6, .string s, .int .i64 n, .slice so 1 cap, .int .i64 line]] w fun e' w' => e' = .returned (.string ⟨(s.data.toList ++ win a.bind a.txt 6 : List UInt8).toArray⟩) ∧ Below w.heap.size w w' := by
  obtain ⟨W1, hW1⟩ : ∃ W1, W1 = w.alloc (.cells #[.int .i64 6, .string s, .int .i64 n, .slice so 1 cap, .int .i64 line] 25) := ⟨_, rfl⟩
  have hal : Below w.heap.size w W1 := by rw [hW1]; exact (RowKit.Below.refl _ _).alloc (Nat.le_refl _) _
  have hrow : W1.heap[w.heap.size]? = some (.cells #[.int .i64 6, .string s, .int .i64 n, .slice so 1 cap, .int .i64 line] 25 (0, 0)) := by rw [hW1]; exact heap_alloc_new _ _
  obtain ⟨c0, c1, c2, c3, c4⟩ := row_cells (m := 1) hrow
  have HAL := Lib.hid hal
  have hold := ho.below hal
  have hwa := win_le a.bind a.txt 6
  obtain ⟨g, o, soa, capa, rfl, a0, a1, a2, a3, a4, hta⟩ := kid_cells hka hold
  simp only [Nat.zero_mul, Nat.add_zero] at a0 a1 a2 a3 a4
  have HCa := Lib.hid (fun w' (hb : Below W1.heap.size W1 w') => rwithin_any Ha _ w' 6 hta (hold.below hb) (by omega))
  have ua0 := Up.cell a0
  have ua1 := Up.cell a1
  have ua2 := Up.cell a2
  have ua3 := Up.cell a3
  have ua4 := Up.cell a4
  generalize htax : win a.bind a.txt 6 = ta at *
  obtain ⟨Ta, hTa⟩ : ∃ T : ByteArray, T = ⟨ta.toArray⟩ := ⟨_, rfl⟩
  have hTsa : Ta.size ≤ 5000002 := by rw [hTa, arr_size]; omega
  have HTDa : Hid (Ta.data.toList = ta) := Lib.hid (by rw [hTa])
  rw [← hTa] at HCa
  have HXa := Lib.hid htax
  clear hTa htax hta hka Ha hla hwa
  have FIN : Hid ((s ++ Ta : ByteArray) = ⟨(s.data.toList ++ ta : List UInt8).toArray⟩) := Lib.hid (ba_ext (by simp [ba_app, HTDa.out]))
  have u1 := Up.cell c1
  have u3 := Up.cell c3
  clear hold ho hal hrow
  go_enter Tryz.func23, Tryz.ntmps23
  go_wp2_with fail
  rw [← hW1]
  clear hW1
  go_wp2_with fail
  refine wp_region_up (W := W1) (by kernel_rfl) (by kernel_rfl) (RowKit.Below.refl _ _) ?_
  repeat (go_big_quiet_step (exact Up.call HCa.out _))
  refine wpQuiet_nil ?_
  rintro _ ⟨x, rfl⟩
  go_wp2
  go_ret
  exact ⟨by rw [FIN.out]; rfl, HAL.out.trans (RowKit.Below.mono x.h HAL.out.size)⟩

set_option maxRecDepth 100000 in
set_option maxHeartbeats 1000000 in
theorem rtext_9 {W : World} {n line : Int} {s : ByteArray} {so : Option Addr} {cap : Nat} {a : Ex} (hka : KidAt W so 0 a) (Ha : RText W a) (hla : a.txt.length ≤ 5000000) (hs : s.size ≤ 255) (w : World) (ho : Old W w) :
    Calls Tryz.prog 23 #[.agg #[.int .i64 9, .string s, .int .i64 n, .slice so 1 cap, .int .i64 line]] w fun e' w' => e' = .returned (.string ⟨(win a.bind a.txt 7 ++ (46 :: s.data.toList) : List UInt8).toArray⟩) ∧ Below w.heap.size w w' := by
  obtain ⟨W1, hW1⟩ : ∃ W1, W1 = w.alloc (.cells #[.int .i64 9, .string s, .int .i64 n, .slice so 1 cap, .int .i64 line] 25) := ⟨_, rfl⟩
  have hal : Below w.heap.size w W1 := by rw [hW1]; exact (RowKit.Below.refl _ _).alloc (Nat.le_refl _) _
  have hrow : W1.heap[w.heap.size]? = some (.cells #[.int .i64 9, .string s, .int .i64 n, .slice so 1 cap, .int .i64 line] 25 (0, 0)) := by rw [hW1]; exact heap_alloc_new _ _
  obtain ⟨c0, c1, c2, c3, c4⟩ := row_cells (m := 1) hrow
  have HAL := Lib.hid hal
  have hold := ho.below hal
  have hwa := win_le a.bind a.txt 7
  obtain ⟨g, o, soa, capa, rfl, a0, a1, a2, a3, a4, hta⟩ := kid_cells hka hold
  simp only [Nat.zero_mul, Nat.add_zero] at a0 a1 a2 a3 a4
  have HCa := Lib.hid (fun w' (hb : Below W1.heap.size W1 w') => rwithin_any Ha _ w' 7 hta (hold.below hb) (by omega))
  have ua0 := Up.cell a0
  have ua1 := Up.cell a1
  have ua2 := Up.cell a2
  have ua3 := Up.cell a3
  have ua4 := Up.cell a4
  generalize htax : win a.bind a.txt 7 = ta at *
  obtain ⟨Ta, hTa⟩ : ∃ T : ByteArray, T = ⟨ta.toArray⟩ := ⟨_, rfl⟩
  have hTsa : Ta.size ≤ 5000002 := by rw [hTa, arr_size]; omega
  have HTDa : Hid (Ta.data.toList = ta) := Lib.hid (by rw [hTa])
  rw [← hTa] at HCa
  have HXa := Lib.hid htax
  clear hTa htax hta hka Ha hla hwa
  have FIN : Hid ((Ta ++ ⟨#[46]⟩ ++ s : ByteArray) = ⟨(ta ++ (46 :: s.data.toList) : List UInt8).toArray⟩) := Lib.hid (ba_ext (by simp [ba_app, HTDa.out]))
  have u1 := Up.cell c1
  have u3 := Up.cell c3
  clear hold ho hal hrow
  go_enter Tryz.func23, Tryz.ntmps23
  go_wp2_with fail
  rw [← hW1]
  clear hW1
  go_wp2_with fail
  refine wp_region_up (W := W1) (by kernel_rfl) (by kernel_rfl) (RowKit.Below.refl _ _) ?_
  repeat (go_big_quiet_step (exact Up.call HCa.out _))
  refine wpQuiet_nil ?_
  rintro _ ⟨x, rfl⟩
  go_wp2
  go_ret
  exact ⟨by rw [FIN.out]; rfl, HAL.out.trans (RowKit.Below.mono x.h HAL.out.size)⟩

set_option maxRecDepth 100000 in
set_option maxHeartbeats 1000000 in
theorem rtext_8 {W : World} {n line : Int} {s : ByteArray} {so : Option Addr} {cap : Nat} {a b : Ex} (hka : KidAt W so 0 a) (Ha : RText W a) (hla : a.txt.length ≤ 5000000) (hkb : KidAt W so 1 b) (Hb : RText W b) (hlb : b.txt.length ≤ 5000000) (w : World) (ho : Old W w) :
    Calls Tryz.prog 23 #[.agg #[.int .i64 8, .string s, .int .i64 n, .slice so 2 cap, .int .i64 line]] w fun e' w' => e' = .returned (.string ⟨(win a.bind a.txt 7 ++ (91 :: (b.txt ++ [93])) : List UInt8).toArray⟩) ∧ Below w.heap.size w w' := by
  obtain ⟨W1, hW1⟩ : ∃ W1, W1 = w.alloc (.cells #[.int .i64 8, .string s, .int .i64 n, .slice so 2 cap, .int .i64 line] 25) := ⟨_, rfl⟩
  have hal : Below w.heap.size w W1 := by rw [hW1]; exact (RowKit.Below.refl _ _).alloc (Nat.le_refl _) _
  have hrow : W1.heap[w.heap.size]? = some (.cells #[.int .i64 8, .string s, .int .i64 n, .slice so 2 cap, .int .i64 line] 25 (0, 0)) := by rw [hW1]; exact heap_alloc_new _ _
  obtain ⟨c0, c1, c2, c3, c4⟩ := row_cells (m := 2) hrow
  have HAL := Lib.hid hal
  have hold := ho.below hal
  have hwa := win_le a.bind a.txt 7
  have hwb := Nat.le_refl b.txt.length
  obtain ⟨g, o, soa, capa, rfl, a0, a1, a2, a3, a4, hta⟩ := kid_cells hka hold
  simp only [Nat.zero_mul, Nat.add_zero] at a0 a1 a2 a3 a4
  have HCa := Lib.hid (fun w' (hb : Below W1.heap.size W1 w') => rwithin_any Ha _ w' 7 hta (hold.below hb) (by omega))
  have ua0 := Up.cell a0
  have ua1 := Up.cell a1
  have ua2 := Up.cell a2
  have ua3 := Up.cell a3
  have ua4 := Up.cell a4
  obtain ⟨g2, o2, sob, capb, e2, b0, b1, b2, b3, b4, htb⟩ := kid_cells hkb hold
  cases e2
  simp only [Nat.one_mul] at b0 b1 b2 b3 b4
  have HCb := Lib.hid (fun w' (hb : Below W1.heap.size W1 w') => Hb _ w' htb (hold.below hb))
  have ub0 := Up.cell b0
  have ub1 := Up.cell b1
  have ub2 := Up.cell b2
  have ub3 := Up.cell b3
  have ub4 := Up.cell b4
  generalize htax : win a.bind a.txt 7 = ta at *
  obtain ⟨Ta, hTa⟩ : ∃ T : ByteArray, T = ⟨ta.toArray⟩ := ⟨_, rfl⟩
  have hTsa : Ta.size ≤ 5000002 := by rw [hTa, arr_size]; omega
  have HTDa : Hid (Ta.data.toList = ta) := Lib.hid (by rw [hTa])
  rw [← hTa] at HCa
  have HXa := Lib.hid htax
  clear hTa htax hta hka Ha hla hwa
  generalize htbx : b.txt = tb at *
  obtain ⟨Tb, hTb⟩ : ∃ T : ByteArray, T = ⟨tb.toArray⟩ := ⟨_, rfl⟩
  have hTsb : Tb.size ≤ 5000002 := by rw [hTb, arr_size]; omega
  have HTDb : Hid (Tb.data.toList = tb) := Lib.hid (by rw [hTb])
  rw [← hTb] at HCb
  have HXb := Lib.hid htbx
  clear hTb htbx htb hkb Hb hlb hwb
  have FIN : Hid ((Ta ++ ⟨#[91]⟩ ++ Tb ++ ⟨#[93]⟩ : ByteArray) = ⟨(ta ++ (91 :: (tb ++ [93])) : List UInt8).toArray⟩) := Lib.hid (ba_ext (by simp [ba_app, HTDa.out, HTDb.out]))
  have u1 := Up.cell c1
  have u3 := Up.cell c3
  clear hold ho hal hrow
  go_enter Tryz.func23, Tryz.ntmps23
  go_wp2_with fail
  rw [← hW1]
  clear hW1
  go_wp2_with fail
  refine wp_region_up (W := W1) (by kernel_rfl) (by kernel_rfl) (RowKit.Below.refl _ _) ?_
  repeat (go_big_quiet_step (first | (with_reducible exact Up.call HCa.out _) | (with_reducible exact Up.call HCb.out _)))
  refine wpQuiet_nil ?_
  rintro _ ⟨x, rfl⟩
  go_wp2
  go_ret
  exact ⟨by rw [FIN.out]; rfl, HAL.out.trans (RowKit.Below.mono x.h HAL.out.size)⟩

set_option maxRecDepth 100000 in
set_option maxHeartbeats 1000000 in
theorem rtext_7 {W : World} {n line : Int} {s : ByteArray} {so : Option Addr} {cap : Nat} {a b : Ex} (hka : KidAt W so 0 a) (Ha : RText W a) (hla : a.txt.length ≤ 5000000) (hkb : KidAt W so 1 b) (Hb : RText W b) (hlb : b.txt.length ≤ 5000000) (hs : s.size ≤ 255) (hlv : 0 ≤ lvl s) (w : World) (ho : Old W w) :
    Calls Tryz.prog 23 #[.agg #[.int .i64 7, .string s, .int .i64 n, .slice so 2 cap, .int .i64 line]] w fun e' w' => e' = .returned (.string ⟨(win a.bind a.txt (lvl s) ++ (32 :: (s.data.toList ++ (32 :: win b.bind b.txt (lvl s + 1)))) : List UInt8).toArray⟩) ∧ Below w.heap.size w w' := by
  obtain ⟨W1, hW1⟩ : ∃ W1, W1 = w.alloc (.cells #[.int .i64 7, .string s, .int .i64 n, .slice so 2 cap, .int .i64 line] 25) := ⟨_, rfl⟩
  have hal : Below w.heap.size w W1 := by rw [hW1]; exact (RowKit.Below.refl _ _).alloc (Nat.le_refl _) _
  have hrow : W1.heap[w.heap.size]? = some (.cells #[.int .i64 7, .string s, .int .i64 n, .slice so 2 cap, .int .i64 line] 25 (0, 0)) := by rw [hW1]; exact heap_alloc_new _ _
  obtain ⟨c0, c1, c2, c3, c4⟩ := row_cells (m := 2) hrow
  have HAL := Lib.hid hal
  have HLN := Lib.hid (rline_any s W1)
  have hlv5 := lvl_ge s
  have hwa := win_le a.bind a.txt (lvl s)
  have hwb := win_le b.bind b.txt (lvl s + 1)
  generalize lvl s = lv at *
  have hwr : IntKind.i64.wrap (lv + 1) = lv + 1 := IntWalk.i64_in _ (by omega)
  have HROW := Lib.hid hrow
  have HOLD := Lib.hid (ho.below hal)
  clear ho hal hrow
  go_enter Tryz.func23, Tryz.ntmps23
  go_wp2_with fail
  rw [← hW1]
  clear hW1
  go_wp2_with fail
  go_at_call 49
  refine HLN.out.mono ?_
  rintro e w2 ⟨rfl, hb⟩
  simp only
  have hold := HOLD.out.below hb
  have HB2 := Lib.hid (HAL.out.trans (RowKit.Below.mono hb HAL.out.size))
  have hrow2 := (hb.block _ (Array.getElem?_eq_some_iff.1 HROW.out).1).trans HROW.out
  clear c0 c1 c2 c3 c4 hb
  obtain ⟨c0, c1, c2, c3, c4⟩ := row_cells (m := 2) hrow2
  obtain ⟨g, o, soa, capa, rfl, a0, a1, a2, a3, a4, hta⟩ := kid_cells hka hold
  simp only [Nat.zero_mul, Nat.add_zero] at a0 a1 a2 a3 a4
  have HCa := Lib.hid (fun w' (hb : Below w2.heap.size w2 w') => rwithin_any Ha _ w' lv hta (hold.below hb) (by omega))
  have ua0 := Up.cell a0
  have ua1 := Up.cell a1
  have ua2 := Up.cell a2
  have ua3 := Up.cell a3
  have ua4 := Up.cell a4
  obtain ⟨g2, o2, sob, capb, e2, b0, b1, b2, b3, b4, htb⟩ := kid_cells hkb hold
  cases e2
  simp only [Nat.one_mul] at b0 b1 b2 b3 b4
  have HCb := Lib.hid (fun w' (hb : Below w2.heap.size w2 w') => rwithin_any Hb _ w' (lv + 1) htb (hold.below hb) (by omega))
  have ub0 := Up.cell b0
  have ub1 := Up.cell b1
  have ub2 := Up.cell b2
  have ub3 := Up.cell b3
  have ub4 := Up.cell b4
  generalize htax : win a.bind a.txt lv = ta at *
  obtain ⟨Ta, hTa⟩ : ∃ T : ByteArray, T = ⟨ta.toArray⟩ := ⟨_, rfl⟩
  have hTsa : Ta.size ≤ 5000002 := by rw [hTa, arr_size]; omega
  have HTDa : Hid (Ta.data.toList = ta) := Lib.hid (by rw [hTa])
  rw [← hTa] at HCa
  have HXa := Lib.hid htax
  clear hTa htax hta hka Ha hla hwa
  generalize htbx : win b.bind b.txt (lv + 1) = tb at *
  obtain ⟨Tb, hTb⟩ : ∃ T : ByteArray, T = ⟨tb.toArray⟩ := ⟨_, rfl⟩
  have hTsb : Tb.size ≤ 5000002 := by rw [hTb, arr_size]; omega
  have HTDb : Hid (Tb.data.toList = tb) := Lib.hid (by rw [hTb])
  rw [← hTb] at HCb
  have HXb := Lib.hid htbx
  clear hTb htbx htb hkb Hb hlb hwb
  have FIN : Hid ((Ta ++ ⟨#[32]⟩ ++ s ++ ⟨#[32]⟩ ++ Tb : ByteArray) = ⟨(ta ++ (32 :: (s.data.toList ++ (32 :: tb))) : List UInt8).toArray⟩) := Lib.hid (ba_ext (by simp [ba_app, HTDa.out, HTDb.out]))
  have u1 := Up.cell c1
  have u3 := Up.cell c3
  clear hold hrow2
  go_wp2_with fail
  refine wp_region_up (W := w2) (by kernel_rfl) (by kernel_rfl) (RowKit.Below.refl _ _) ?_
  repeat (go_big_quiet_step (first | (with_reducible exact Up.call HCa.out _) | (with_reducible exact Up.call HCb.out _)))
  refine wpQuiet_nil ?_
  rintro _ ⟨x, rfl⟩
  go_wp2
  go_ret
  exact ⟨by rw [FIN.out, ← HXa.out, ← HXb.out]; rfl, HB2.out.trans (RowKit.Below.mono x.h HB2.out.size)⟩
end Go.Proofs.YtggjeecpadnihaaGreatDoor

namespace Go.Proofs.YtggjeecpadnihaaGreatDoor
open Go Go.Proofs Go.Eng Go.RowKit Go.Sx Go.Deep
set_option linter.unusedVariables false
set_option linter.unusedSimpArgs false

theorem one_kid {kids : List Ex} (h : kids.length = 1) : ∃ a, kids = [a] := by
  match kids, h with
  | [a], _ => exact ⟨a, rfl⟩
theorem two_kids {kids : List Ex} (h : kids.length = 2) : ∃ a b, kids = [a, b] := by
  match kids, h with
  | [a, b], _ => exact ⟨a, b, rfl⟩
theorem dec_true {p : Prop} [Decidable p] (h : decide p = true) : p := of_decide_eq_true h

set_option maxHeartbeats 1000000 in
theorem rtext_any (W : World) : ∀ (m : Nat) (e : Ex), e.cnt = m → m ≤ 4096 → e.right = true → RText W e := by
  intro m
  induction m using Nat.strongRecOn with
  | ind m ih =>
  intro e he hm hr cs w hin ho
  obtain ⟨k, s, n, kids, line⟩ := e
  simp only [ExIn] at hin
  obtain ⟨so, cap, rfl, ⟨hn0, hn1, hsb⟩, hl, hk⟩ := hin
  simp only [Ex.cnt] at he
  simp only [Ex.right, Bool.and_eq_true] at hr
  obtain ⟨hrl, hrk⟩ := hr
  have hkid : ∀ (i : Nat) x, kids[i]? = some x → KidAt W so i x := fun i x hx => by have := kids_at hk hx; rwa [Nat.zero_add] at this
  have IH : ∀ (i : Nat) x, kids[i]? = some x → RText W x := fun i x hx => ih x.cnt (by have := cntL_get hx; omega) x rfl (by have := cntL_get hx; omega) (rightL_iff.1 hrl x (List.mem_of_getElem? hx))
  have hlen : ∀ (i : Nat) x, kids[i]? = some x → x.txt.length ≤ 5000000 := fun i x hx => by
    obtain ⟨g, o, c0, c1, c2, c3, c4, _, _, _, _, _, _, _, h5⟩ := hkid i x hx
    have h1 := txt_len _ x _ rfl h5 (rightL_iff.1 hrl x (List.mem_of_getElem? hx))
    have h2 := cntL_get hx
    omega
  have hcn : cntL kids ≤ 4096 := by omega
  have hname : ∀ {s : ByteArray}, nameB s = true → s.size ≤ 255 := fun h => by have := name_le h; rw [ba_len] at this; omega
  simp only [Ex.txt]
  unfold rightK at hrk
  by_cases h1 : k = 1
  · subst h1
    simp only [if_true, Bool.and_eq_true, decide_eq_true_eq] at hrk
    exact rtext_1 (W := W) hrk.1.1 hn1 w ho
  rw [if_neg h1] at hrk
  by_cases h2 : k = 2
  · subst h2
    exact rtext_2 (W := W) w ho
  rw [if_neg h2] at hrk
  by_cases h3 : k = 3
  · subst h3
    simp only [if_true, Bool.and_eq_true, decide_eq_true_eq] at hrk
    exact rtext_3 (W := W) hrk.1.1 w ho
  rw [if_neg h3] at hrk
  by_cases h4 : k = 4
  · subst h4
    exact rtext_4 (W := W) w ho
  rw [if_neg h4] at hrk
  by_cases h5 : k = 5
  · subst h5
    simp only [true_or, if_true, Bool.and_eq_true, decide_eq_true_eq] at hrk
    have h := rtext_5 (cap := cap) (n := n) (line := line) hkid IH hrl hl hcn (hname hrk.1) w ho
    simpa [txtK, txts_snd] using h
  by_cases h11 : k = 11
  · subst h11
    simp only [or_true, if_true, Bool.and_eq_true, decide_eq_true_eq] at hrk
    have h := rtext_11 (cap := cap) (n := n) (line := line) hkid IH hrl hl hcn (hname hrk.1) w ho
    simpa [txtK, txts_snd] using h
  rw [if_neg (by omega)] at hrk
  by_cases h6 : k = 6
  · subst h6
    simp only [if_true, Bool.and_eq_true, decide_eq_true_eq] at hrk
    obtain ⟨a, rfl⟩ := one_kid hrk.2
    have hs : s.size ≤ 255 := by
      have : s.data.toList.length ≤ 2 := by
        rw [← ByteArray.toList_eq]
        have := hrk.1.1
        rw [Bool.or_eq_true] at this
        rcases this with h | h <;> rw [eq_of_beq h] <;> decide
      rw [ba_len] at this; omega
    have h := rtext_6 (cap := cap) (n := n) (line := line) (hkid 0 a rfl) (IH 0 a rfl) (hlen 0 a rfl) hs w ho
    simpa [txtK, txts, kidT] using h
  rw [if_neg h6] at hrk
  by_cases h7 : k = 7
  · subst h7
    simp only [if_true, Bool.and_eq_true, decide_eq_true_eq] at hrk
    obtain ⟨a, b, rfl⟩ := two_kids hrk.2
    have hs : s.size ≤ 255 := by have := lvl_le hrk.1.1; rw [ba_len] at this; omega
    have h := rtext_7 (cap := cap) (n := n) (line := line) (hkid 0 a rfl) (IH 0 a rfl) (hlen 0 a rfl) (hkid 1 b rfl) (IH 1 b rfl) (hlen 1 b rfl) hs hrk.1.1 w ho
    simpa [txtK, txts, kidT] using h
  rw [if_neg h7] at hrk
  by_cases h8 : k = 8
  · subst h8
    simp only [if_true, Bool.and_eq_true, decide_eq_true_eq] at hrk
    obtain ⟨a, b, rfl⟩ := two_kids hrk.2
    have h := rtext_8 (s := s) (cap := cap) (n := n) (line := line) (hkid 0 a rfl) (IH 0 a rfl) (hlen 0 a rfl) (hkid 1 b rfl) (IH 1 b rfl) (hlen 1 b rfl) w ho
    have hb : ¬ b.bind < -1 := by
      obtain ⟨k', s', _, _, _⟩ := b
      show ¬ bindK k' s' < -1
      unfold bindK
      have : -1 ≤ lvl s' := by
        unfold lvl
        repeat' split
        all_goals omega
      repeat' split
      all_goals omega
    have hwb : win b.bind b.txt (-1) = b.txt := by unfold win; rw [if_neg hb]
    simpa [txtK, txts, kidT, hwb] using h
  rw [if_neg h8] at hrk
  by_cases h9 : k = 9
  · subst h9
    simp only [if_true, Bool.and_eq_true, decide_eq_true_eq] at hrk
    obtain ⟨a, rfl⟩ := one_kid hrk.2
    have h := rtext_9 (cap := cap) (n := n) (line := line) (hkid 0 a rfl) (IH 0 a rfl) (hlen 0 a rfl) (hname hrk.1.1) w ho
    simpa [txtK, txts, kidT] using h
  rw [if_neg h9] at hrk
  by_cases h10 : k = 10
  · subst h10
    simp only [if_true, Bool.and_eq_true, decide_eq_true_eq] at hrk
    have h := rtext_10 (s := s) (cap := cap) (n := n) (line := line) hkid IH hrl hl hcn (by have := hrk.1.1; omega) w ho
    simpa [txtK, txts_snd] using h
  rw [if_neg h10] at hrk
  cases hrk
end Go.Proofs.YtggjeecpadnihaaGreatDoor

namespace Go.Proofs.YtggjeecpadnihaaGreatDoor
open Go Go.Proofs Go.Eng Go.RowKit Go.Sx Go.Deep
set_option linter.unusedVariables false
set_option linter.unusedSimpArgs false

/-- All but one block is as it was. -/
structure But (cb : Nat) (w w' : World) : Prop where
  os : w'.os = w.os
  tape : w'.tape = w.tape
  output : w'.output = w.output
  size : w.heap.size ≤ w'.heap.size
  block : ∀ k, k < w.heap.size → k ≠ cb → w'.heap[k]? = w.heap[k]?
theorem But.refl (cb : Nat) (w : World) : But cb w w := ⟨rfl, rfl, rfl, Nat.le_refl _, fun _ _ _ => rfl⟩
theorem But.trans {cb : Nat} {a b c : World} (h : But cb a b) (k : But cb b c) : But cb a c :=
  ⟨k.os.trans h.os, k.tape.trans h.tape, k.output.trans h.output, Nat.le_trans h.size k.size, fun i hi hn => (k.block i (Nat.lt_of_lt_of_le hi h.size) hn).trans (h.block i hi hn)⟩
theorem But.of {cb : Nat} {w w' : World} (h : Below w.heap.size w w') : But cb w w' := ⟨h.os, h.tape, h.output, h.size, fun k hk _ => h.block k hk⟩
theorem But.below {cb B : Nat} {w w' : World} (h : But cb w w') (hB : B ≤ cb) (hw : B ≤ w.heap.size) : Below B w w' := ⟨h.os, h.tape, h.output, h.size, fun k hk => h.block k (by omega) (by omega)⟩
theorem But.cell {cb : Nat} {w w' : World} (h : But cb w w') {p : Addr} (hp : p.block < w.heap.size) (hne : p.block ≠ cb) : w'.cell? p = w.cell? p := World.cell?_of_block (h.block p.block hp hne)
theorem But.drewN {cb n : Nat} {a w : World} (h : But cb a w) : But cb a (w.drewN n) := ⟨h.os, h.tape, h.output, h.size, h.block⟩
theorem But.drew {cb : Nat} {a w : World} (h : But cb a w) : But cb a w.drew := ⟨h.os, h.tape, h.output, h.size, h.block⟩

theorem setCell_row {w : World} {b o : Nat} {c : Array Value} {t : TypeId} {fr : Nat × Nat} {v : Value} (h : w.heap[b]? = some (.cells c t fr)) :
    (w.setCell ⟨b, o, none⟩ v).heap[b]? = some (.cells (c.setIfInBounds o v) t fr) := by
  have hlt : b < w.heap.size := (Array.getElem?_eq_some_iff.1 h).1
  have he : w.heap[b] = .cells c t fr := by have := Array.getElem?_eq_some_iff.1 h; exact this.2
  show (w.heap.modify b _)[b]? = _
  rw [Array.getElem?_eq_getElem (by simpa using hlt), Array.getElem_modify, if_pos rfl, he]
  rfl

/-- The count. -/
def Cnt (w : World) (cb : Nat) (k : Int) : Prop := w.heap[cb]? = some (.cells #[.int .i64 k] 42 (0, 0))
theorem Cnt.cell {w : World} {cb : Nat} {k : Int} (h : Cnt w cb k) : w.cell? ⟨cb, 0, none⟩ = some (.int .i64 k) := by unfold Cnt at h; simp [World.cell?, h]
theorem Cnt.frozen {w : World} {cb : Nat} {k : Int} (h : Cnt w cb k) : w.frozen? ⟨cb, 0, none⟩ = false := by unfold Cnt at h; simp [World.frozen?, h]
theorem Cnt.lt {w : World} {cb : Nat} {k : Int} (h : Cnt w cb k) : cb < w.heap.size := (Array.getElem?_eq_some_iff.1 h).1
theorem Cnt.set {w : World} {cb : Nat} {k : Int} (h : Cnt w cb k) (n : Int) : Cnt (w.setCell ⟨cb, 0, none⟩ (.int .i64 n)) cb n ∧ But cb w (w.setCell ⟨cb, 0, none⟩ (.int .i64 n)) := by
  have hb : Below 0 w (w.setCell ⟨cb, 0, none⟩ (.int .i64 n)) := (RowKit.Below.refl 0 w).setCell (Nat.zero_le _) _
  exact ⟨setCell_row h, hb.os, hb.tape, hb.output, hb.size, fun k hk hn => RowKit.Below.heap_setCell _ _ _ _ hn⟩

theorem more_any (cb : Nat) (k deep : Int) (w : World) (h : Cnt w cb k) (hk : 0 ≤ k) (hk2 : k ≤ 4096) :
    Calls Tryz.prog 24 #[.pointer (some ⟨cb, 0, none⟩), .int .i64 deep] w fun e w' => e = .returned (.bool (decide (k + 1 ≤ 4096) && decide (deep ≤ 48))) ∧ Cnt w' cb (k + 1) ∧ But cb w w' := by
  have c1 := h.cell
  have f1 := h.frozen
  have hw : IntKind.i64.wrap (k + 1) = k + 1 := IntWalk.i64_in _ (by omega)
  have HS := Lib.hid (h.set (k + 1))
  clear h
  by_cases h1 : k + 1 ≤ 4096
  · have hd : decide (k + 1 ≤ 4096) = true := decide_eq_true h1
    rw [hd]
    go_enter Tryz.func24, Tryz.ntmps24
    go_wp2
    go_ret
    exact ⟨by rw [Bool.true_and]; rfl, HS.out.1, HS.out.2⟩
  · have hd : decide (k + 1 ≤ 4096) = false := decide_eq_false h1
    rw [hd]
    go_enter Tryz.func24, Tryz.ntmps24
    go_wp2
    go_ret
    exact ⟨rfl, HS.out.1, HS.out.2⟩

/-- What the count of an expression's parts comes to. -/
def SmallPost (e : Ex) (cb : Nat) (k : Int) (w w' : World) (x : Ending) : Prop := ∃ (b : Bool) (k' : Int), x = .returned (.bool b) ∧ Cnt w' cb k' ∧ 0 ≤ k' ∧ (b = true → k' ≤ 4096 ∧ k' = k + e.cnt) ∧ But cb w w'

set_option maxRecDepth 100000 in
set_option maxHeartbeats 1000000 in
theorem small_expr {W : World} : ∀ (m : Nat) (e : Ex) (cs : List Value), e.cnt = m → ExIn W e cs →
    ∀ (w : World) (cb : Nat) (k deep : Int), Old W w → W.heap.size ≤ cb → Cnt w cb k → 0 ≤ k → k ≤ 4096 → 0 ≤ deep → deep ≤ 100 →
      Calls Tryz.prog 12 #[.pointer (some ⟨cb, 0, none⟩), .agg ⟨cs⟩, .int .i64 deep] w fun x w' => SmallPost e cb k w w' x := by
  intro m
  induction m using Nat.strongRecOn with
  | ind m ih =>
  intro e cs he hin w cb k deep hW hcb hc hk hk2 hd hd2
  obtain ⟨kd, s, n, kids, line⟩ := e
  simp only [ExIn] at hin
  obtain ⟨so, cap, rfl, _, hlm', hkids⟩ := hin
  simp only [Ex.cnt] at he
  have IH := Lib.hid ih
  have HE := Lib.hid he
  have HK := Lib.hid (fun (i : Nat) (e : Ex) (hi : kids[i]? = some e) => kids_at hkids hi)
  have HCN := Lib.hid (fun (i : Nat) (e : Ex) (hi : kids[i]? = some e) => cntL_get hi)
  have HW := Lib.hid hW
  clear ih hkids hW he
  have HCE : Hid (((Ex.mk kd s n kids line).cnt : Int) = cntL kids + 1) := Lib.hid (by simp [Ex.cnt])
  obtain ⟨W1, hW1⟩ : ∃ W1, W1 = w.alloc (.cells #[.int .i64 kd, .string s, .int .i64 n, .slice so kids.length cap, .int .i64 line] 25) := ⟨_, rfl⟩
  have hb1 : Below w.heap.size w W1 := by rw [hW1]; exact (RowKit.Below.refl _ _).alloc (Nat.le_refl _) _
  have hrow : W1.heap[w.heap.size]? = some (.cells #[.int .i64 kd, .string s, .int .i64 n, .slice so kids.length cap, .int .i64 line] 25 (0, 0)) := by rw [hW1]; exact heap_alloc_new _ _
  have hcb1 : cb < w.heap.size := hc.lt
  have hc1 : Cnt W1 cb k := by unfold Cnt; rw [hb1.block cb hcb1]; exact hc
  have HM := Lib.hid (more_any cb k deep W1 hc1 hk hk2)
  have HB1 := Lib.hid hb1
  have HROW := Lib.hid hrow
  have hs1 : w.heap.size < W1.heap.size := (Array.getElem?_eq_some_iff.1 hrow).1
  have hsW := HW.out.size
  go_enter Tryz.func12, Tryz.ntmps12
  go_wp2_with fail
  rw [← hW1]
  clear hW1 hc hc1 hb1 hrow
  by_cases hd48 : k + 1 ≤ 4096 ∧ deep ≤ 48
  · have hdec : (decide (k + 1 ≤ 4096) && decide (deep ≤ 48)) = true := by simp [hd48.1, hd48.2]
    rw [hdec] at HM
    go_at_call 24
    refine HM.out.mono ?_
    rintro e w2 ⟨rfl, C2, B2⟩
    have HC2 := Lib.hid C2
    have HB2 := Lib.hid B2
    clear C2 B2 HM
    simp only
    go_wp2_with fail
    go_loopg [7] kids.length (fun kx s7 wr => ∃ (i : Nat) (k' : Int), s7 = .int .i64 i ∧ i ≤ kids.length ∧ kids.length - i ≤ kx ∧ 0 ≤ k' ∧ k' ≤ 4096 ∧ Aside (k' = k + 1 + cntL (kids.take i)) ∧ Aside (Cnt wr cb k') ∧ Aside (But cb W1 wr))
    case atStart => exact ⟨0, k + 1, rfl, by omega, by omega, by omega, hd48.1, (by show k + 1 = k + 1 + ((cntL (List.take 0 kids) : Nat) : Int); simp [cntL]), HC2.out, HB2.out⟩
    case round =>
      obtain ⟨i, k', rfl, hi, hg, hk0', hk1', hkk, hc', hb'⟩ := hrel
      have x3 : wr.cell? ⟨w.heap.size, 3, none⟩ = some (.slice so kids.length cap) := (hb'.out.cell (p := ⟨w.heap.size, 3, none⟩) hs1 (by show w.heap.size ≠ cb; omega)).trans (by simp [World.cell?, HROW.out])
      have HKK := Lib.hid hkk.out
      clear hkk
      by_cases hil : i < kids.length
      · have hx : kids[i]? = some kids[i] := List.getElem?_eq_getElem hil
        obtain ⟨g, o, so', cap', rfl, hgW, a0, a1, a2, a3, a4, ht⟩ := kid_open (HK.out i _ hx)
        rw [Nat.zero_add] at a0 a1 a2 a3 a4
        have hgw : g < w.heap.size := by omega
        have mv : ∀ j v, W.cell? ⟨g, j, none⟩ = some v → wr.cell? ⟨g, j, none⟩ = some v := fun j v hv => by
          rw [hb'.out.cell (p := ⟨g, j, none⟩) (by show g < _; omega) (by show g ≠ cb; omega), HB1.out.cell (p := ⟨g, j, none⟩) hgw, ← hv]
          exact World.cell?_of_block (HW.out.block g hgW)
        have d0 := mv _ _ a0
        have d1 := mv _ _ a1
        have d2 := mv _ _ a2
        have d3 := mv _ _ a3
        have d4 := mv _ _ a4
        have hWr : Old W wr := ⟨by have := HB1.out.size; have := hb'.out.size; omega, fun i hi => by
          rw [hb'.out.block i (by omega) (by omega), HB1.out.block i (by omega)]; exact HW.out.block i hi⟩
        have hcn := HCN.out i _ hx
        have HCALL := Lib.hid (IH.out (kids[i] : Ex).cnt (by have := HE.out; omega) kids[i] _ rfl ht wr cb k' (deep + 1) hWr hcb hc'.out hk0' hk1' (by omega) (by omega))
        have HT : Hid (∀ k2 : Int, k2 = k' + (kids[i] : Ex).cnt → k2 = k + 1 + cntL (kids.take (i + 1))) := Lib.hid fun k2 h2 => by
          have e1 : kids.take (i + 1) = kids.take i ++ [(kids[i] : Ex)] := by rw [List.take_add_one, hx]; rfl
          rw [e1, cntL_app]
          have := HKK.out
          simp only [cntL]
          omega
        have hi0 : (0 : Int) ≤ (i : Int) := by omega
        have hi1 : (i : Int) < (kids.length : Int) := by omega
        have hwd : IntKind.i64.wrap (deep + 1) = deep + 1 := IntWalk.i64_in _ (by omega)
        have HB' := Lib.hid hb'.out
        clear mv hWr a0 a1 a2 a3 a4 ht hc' hb' hx hcn
        generalize (kids[i] : Ex) = x at *
        obtain ⟨kx', sx', nx', kidsx', linex'⟩ := x
        simp only [Ex.kind, Ex.str, Ex.num, Ex.kids, Ex.line] at d0 d1 d2 d3 d4 HCALL
        go_wp2_with fail
        go_at_call 12
        refine HCALL.out.mono ?_
        rintro e w5 ⟨b, k2, rfl, r2, r3, r4, r5⟩
        have HR2 := Lib.hid r2
        have HB5 := Lib.hid (HB'.out.trans r5)
        have HR4 := Lib.hid r4
        clear HCALL r2 r4 r5 d0 d1 d2 d3 d4 x3
        simp only
        cases b with
        | true =>
          obtain ⟨h4, h5⟩ := HR4.out rfl
          have HT2 := Lib.hid (HT.out _ h5)
          clear HT h5 HR4
          go_wp2_with fail
          go_roundg (kids.length - (i + 1))
          case measure => omega
          case rel => exact ⟨i + 1, k2, by go_num, by omega, Nat.le_refl _, r3, h4, HT2.out, HR2.out, HB5.out⟩
        | false =>
          go_wp2_with fail
          go_ret
          exact ⟨false, k2, rfl, HR2.out, r3, (fun h => Bool.noConfusion h), (But.of HB1.out).trans HB5.out⟩
      · obtain rfl : i = kids.length := by omega
        have HC' := Lib.hid hc'.out
        have HB' := Lib.hid hb'.out
        have HKF : Hid (k' = k + ((Ex.mk kd s n kids line).cnt : Int)) := Lib.hid (by
          have h := HKK.out
          rw [List.take_length] at h
          rw [HCE.out]; omega)
        clear hc' hb' HKK
        go_wp2_with fail
        go_ret
        exact ⟨true, k', rfl, HC'.out, hk0', (fun _ => ⟨hk1', HKF.out⟩), (But.of HB1.out).trans HB'.out⟩
  · have hdec : (decide (k + 1 ≤ 4096) && decide (deep ≤ 48)) = false := by
      cases hq : (decide (k + 1 ≤ 4096) && decide (deep ≤ 48)) with
      | false => rfl
      | true => simp at hq; exact absurd hq hd48
    rw [hdec] at HM
    go_at_call 24
    refine HM.out.mono ?_
    rintro e w2 ⟨rfl, C2, B2⟩
    have HC2 := Lib.hid C2
    have HB2 := Lib.hid B2
    clear C2 B2 HM
    simp only
    go_wp2_with fail
    go_ret
    exact ⟨false, k + 1, rfl, HC2.out, by omega, (fun h => Bool.noConfusion h), (But.of HB1.out).trans HB2.out⟩

set_option maxRecDepth 100000 in
/-- Small, at any expression that came in: if it says so, there are at most so many parts. -/
theorem small_any {W : World} (e : Ex) (cs : List Value) (hin : ExIn W e cs) (w : World) (hw : Old W w) :
    Calls Tryz.prog 5 #[.agg ⟨cs⟩] w fun x w' => ∃ b, x = .returned (.bool b) ∧ Below w.heap.size w w' ∧ (b = true → e.cnt ≤ 4096) := by
  have hin' := hin
  obtain ⟨kd, s, n, kids, line⟩ := e
  simp only [ExIn] at hin'
  obtain ⟨so, cap, rfl, _⟩ := hin'
  obtain ⟨W1, hW1⟩ : ∃ W1, W1 = (w.alloc (.cells #[.int .i64 kd, .string s, .int .i64 n, .slice so kids.length cap, .int .i64 line] 25)).alloc (.cells #[.int .i64 0] 42) := ⟨_, rfl⟩
  have hb1 : Below w.heap.size w W1 := by rw [hW1]; exact ((RowKit.Below.refl _ _).alloc (Nat.le_refl _) _).alloc (by simp) _
  have hc1 : Cnt W1 (w.heap.size + 1) 0 := by rw [hW1]; exact heap_alloc2_new w _ _
  have HB1 := Lib.hid hb1
  have HC := Lib.hid (small_expr _ (Ex.mk kd s n kids line) _ rfl hin W1 (w.heap.size + 1) 0 0 (hw.below hb1) (by have := hw.size; omega) hc1 (by omega) (by omega) (by omega) (by omega))
  clear hb1 hc1 hin
  generalize (Ex.mk kd s n kids line) = ex at *
  go_enter Tryz.func5, Tryz.ntmps5
  go_wp2_with fail
  rw [← hW1]
  clear hW1
  go_at_call 12
  refine HC.out.mono ?_
  rintro e w5 ⟨b, k2, rfl, r2, r3, r4, r5⟩
  simp only
  go_wp2_with fail
  go_ret
  exact ⟨b, rfl, HB1.out.trans (r5.below (by omega) HB1.out.size), fun h => by have := r4 h; omega⟩
end Go.Proofs.YtggjeecpadnihaaGreatDoor
