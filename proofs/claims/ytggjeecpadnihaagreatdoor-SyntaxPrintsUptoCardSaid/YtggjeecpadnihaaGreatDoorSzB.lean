/- The writer: stmt, where a statement's parts are as its kind wants them. -/
import Derived.Test.YtggjeecpadnihaaGreatDoorSzA
import Derived.Test.YtggjeecpadnihaaGreatDoorSyB
namespace Go.Proofs.YtggjeecpadnihaaGreatDoor
open Go Go.Proofs Go.Eng Go.RowKit Go.Sx Go.Deep
set_option linter.unusedVariables false
set_option linter.unusedSimpArgs false

def isPlace (k : Int) : Bool := (k == 4) || (k == 8) || (k == 9)
set_option maxRecDepth 100000 in
theorem place_any (k n : Int) (s : ByteArray) (so : Option Addr) (m cap : Nat) (line : Int) (w : World) : Calls Tryz.prog 111 #[.agg #[.int .i64 k, .string s, .int .i64 n, .slice so m cap, .int .i64 line]] w fun e w' => e = .returned (.bool (isPlace k)) ∧ Below w.heap.size w w' := by
  obtain ⟨W1, hW1⟩ : ∃ W1, W1 = w.alloc (.cells #[.int .i64 k, .string s, .int .i64 n, .slice so m cap, .int .i64 line] 25) := ⟨_, rfl⟩
  have hal : Below w.heap.size w W1 := by rw [hW1]; exact (RowKit.Below.refl _ _).alloc (Nat.le_refl _) _
  have hrow : W1.heap[w.heap.size]? = some (.cells #[.int .i64 k, .string s, .int .i64 n, .slice so m cap, .int .i64 line] 25 (0, 0)) := by rw [hW1]; exact heap_alloc_new _ _
  obtain ⟨c0, c1, c2, c3, c4⟩ := row_cells hrow
  have HAL := Lib.hid hal
  unfold isPlace
  clear hal hrow
  generalize q4 : (k == 4) = b4 at *
  generalize q8 : (k == 8) = b8 at *
  generalize q9 : (k == 9) = b9 at *
  cases b4 <;> cases b8 <;> cases b9 <;>
  (go_enter Tryz.func111, Tryz.ntmps111
   go_wp2_with fail
   rw [← hW1]
   clear hW1
   go_wp2_with fail
   go_ret
   exact ⟨rfl, HAL.out⟩)

set_option maxRecDepth 100000 in
set_option maxHeartbeats 2000000 in
theorem stmt_1 {W : World} {k line : Int} {s : ByteArray} {x : Ex} {so1 so2 so3 : Option Addr} {p1 p2 p3 B b : Nat} {l : List UInt8} {w : World} (hc : Ctx W B w) (buf : BufAt 83 [] B b l w) (hx : KidAt W so1 0 x) (hl : l.length + 1000 * (x.cnt + 1) ≤ 100000000) :
    Calls Tryz.prog 84 #[.pointer (some ⟨b, 0, none⟩), .agg #[.int .i64 1, .string s, .slice so1 1 p1, .slice so2 0 p2, .slice so3 0 p3, .int .i64 line]] w (WPost B b l ([108, 101, 116, 32] ++ s.data.toList ++ [32, 61, 32] ++ x.txt ++ [59, 10]) (nameB s && x.right) w) := by
  obtain ⟨W1, hW1⟩ : ∃ W1, W1 = w.alloc (.cells #[.int .i64 1, .string s, .slice so1 1 p1, .slice so2 0 p2, .slice so3 0 p3, .int .i64 line] 103) := ⟨_, rfl⟩
  have hal : Below w.heap.size w W1 := by rw [hW1]; exact (RowKit.Below.refl _ _).alloc (Nat.le_refl _) _
  have hrow : W1.heap[w.heap.size]? = some (.cells #[.int .i64 1, .string s, .slice so1 1 p1, .slice so2 0 p2, .slice so3 0 p3, .int .i64 line] 103 (0, 0)) := by rw [hW1]; exact heap_alloc_new _ _
  obtain ⟨c0, c1, c2, c3, c4, c5⟩ := st_cells hrow
  have A0 := Lib.hid (WAt.start (hc.low hal) (buf.below hal))
  have HAL := Lib.hid hal
  have HROW := Lib.hid hrow
  have HBw := Lib.hid hc.Bw
  have HNE : Hid (w.heap.size ≠ b) := Lib.hid (by have := buf.lt; omega)
  have HL := Lib.hid hl
  have HXLx : Hid (x.right = true → x.txt.length ≤ 1000 * x.cnt) := Lib.hid fun hr => by
    obtain ⟨g, o, c0, c1, c2, c3, c4, _, _, _, _, _, _, _, h5⟩ := hx
    have h1 := txt_len _ x _ rfl h5 hr
    omega
  have HNL := Lib.hid (@name_le s)
  have HKX := Lib.hid hx
  clear hc buf hl hx hal hrow
  generalize hnm : nameB s = bn at *
  go_enter Tryz.func84, Tryz.ntmps84
  go_wp2_with fail
  rw [← hW1]
  clear hW1
  go_wp2_with (go_at_call 18; (with_reducible refine (need_yes _).mono ?_); rintro e w' ⟨rfl, rfl⟩)
  clear c0 c1 c2 c3 c4 c5
  have HPUT := Lib.hid (A0.out.put ⟨#[108, 101, 116, 32]⟩ (by have := HL.out; simp only [List.length_append, List.length_cons, List.length_nil, List.nil_append] at *; show _ + 4 ≤ _; omega))
  go_at_call 43
  refine HPUT.out.mono ?_
  rintro e w2 ⟨rfl, hA⟩
  have A1 := Lib.hid hA
  clear hA HPUT
  obtain ⟨c0, c1, c2, c3, c4, c5⟩ := st_cells (A1.out.cell HROW.out HNE.out (by decide))
  have hcall := A1.out.name s (by have := HL.out; simp only [List.length_append, List.length_cons, List.length_nil, List.nil_append] at *; omega)
  rw [hnm] at hcall
  have HCALL := Lib.hid hcall
  clear hcall hnm
  simp only
  go_wp2_with fail
  go_at_call 44
  refine HCALL.out.mono ?_
  intro e w3 hp
  clear HCALL c0 c1 c2 c3 c4 c5
  cases bn with
  | false =>
    obtain ⟨rfl, p⟩ := hp
    exact ⟨rfl, fall (by simp) p HAL.out HBw.out⟩
  | true =>
    obtain ⟨rfl, hA⟩ := hp
    have A2 := Lib.hid hA
    have hnl := HNL.out rfl
    clear hA
    have HPUT := Lib.hid (A2.out.put ⟨#[32, 61, 32]⟩ (by have := HL.out; simp only [List.length_append, List.length_cons, List.length_nil, List.nil_append] at *; show _ + 3 ≤ _; omega))
    simp only
    go_wp2_with fail
    go_at_call 43
    refine HPUT.out.mono ?_
    rintro e w4 ⟨rfl, hA⟩
    have A3 := Lib.hid hA
    clear hA HPUT
    obtain ⟨c0, c1, c2, c3, c4, c5⟩ := st_cells (A3.out.cell HROW.out HNE.out (by decide))
    obtain ⟨ga, oa, soa, capa, rfl, a0, a1, a2, a3, a4, hta⟩ := kid_cells HKX.out A3.out.ctx.old
    simp only [Nat.zero_mul, Nat.add_zero] at a0 a1 a2 a3 a4
    have HCALL := Lib.hid (A3.out.expr x _ hta (by have := HL.out; simp only [List.length_append, List.length_cons, List.length_nil, List.nil_append] at *; omega))
    clear hta
    obtain ⟨xk, xs, xn, xkids, xline⟩ := x
    simp only [Ex.kind, Ex.str, Ex.num, Ex.kids, Ex.line] at a0 a1 a2 a3 a4 HCALL
    generalize (Ex.mk xk xs xn xkids xline).right = ox at *
    generalize (Ex.mk xk xs xn xkids xline).txt = tx at *
    generalize (Ex.mk xk xs xn xkids xline).cnt = nx at *
    simp only
    go_wp2_with fail
    go_at_call 20
    refine HCALL.out.mono ?_
    intro e w5 hp
    clear HCALL c0 c1 c2 c3 c4 c5 a0 a1 a2 a3 a4
    cases ox with
    | false =>
      obtain ⟨rfl, p⟩ := hp
      exact ⟨rfl, fall (by simp) p HAL.out HBw.out⟩
    | true =>
      obtain ⟨rfl, hA⟩ := hp
      have A4 := Lib.hid hA
      have hxl := HXLx.out rfl
      clear hA
      have HPUT := Lib.hid (A4.out.put ⟨#[59, 10]⟩ (by have := HL.out; simp only [List.length_append, List.length_cons, List.length_nil, List.nil_append] at *; show _ + 2 ≤ _; omega))
      simp only
      go_wp2_with fail
      go_at_call 43
      refine HPUT.out.mono ?_
      rintro e w6 ⟨rfl, hA⟩
      have A9 := Lib.hid hA
      clear hA HPUT
      have FIN := Lib.hid (A9.out.fin HAL.out HBw.out)
      simp only
      go_wp2
      go_end0
      have h := FIN.out
      simpa using h

set_option maxRecDepth 100000 in
set_option maxHeartbeats 2000000 in
theorem stmt_7 {W : World} {k line : Int} {s : ByteArray} {x : Ex} {so1 so2 so3 : Option Addr} {p1 p2 p3 B b : Nat} {l : List UInt8} {w : World} (hc : Ctx W B w) (buf : BufAt 83 [] B b l w) (hx : KidAt W so1 0 x) (hs : s.toList.isEmpty = true) (hl : l.length + 1000 * (x.cnt + 1) ≤ 100000000) :
    Calls Tryz.prog 84 #[.pointer (some ⟨b, 0, none⟩), .agg #[.int .i64 7, .string s, .slice so1 1 p1, .slice so2 0 p2, .slice so3 0 p3, .int .i64 line]] w (WPost B b l (x.txt ++ [59, 10]) (x.right) w) := by
  obtain ⟨W1, hW1⟩ : ∃ W1, W1 = w.alloc (.cells #[.int .i64 7, .string s, .slice so1 1 p1, .slice so2 0 p2, .slice so3 0 p3, .int .i64 line] 103) := ⟨_, rfl⟩
  have hal : Below w.heap.size w W1 := by rw [hW1]; exact (RowKit.Below.refl _ _).alloc (Nat.le_refl _) _
  have hrow : W1.heap[w.heap.size]? = some (.cells #[.int .i64 7, .string s, .slice so1 1 p1, .slice so2 0 p2, .slice so3 0 p3, .int .i64 line] 103 (0, 0)) := by rw [hW1]; exact heap_alloc_new _ _
  obtain ⟨c0, c1, c2, c3, c4, c5⟩ := st_cells hrow
  have A0 := Lib.hid (WAt.start (hc.low hal) (buf.below hal))
  have HAL := Lib.hid hal
  have HROW := Lib.hid hrow
  have HBw := Lib.hid hc.Bw
  have HNE : Hid (w.heap.size ≠ b) := Lib.hid (by have := buf.lt; omega)
  have HL := Lib.hid hl
  have HXLx : Hid (x.right = true → x.txt.length ≤ 1000 * x.cnt) := Lib.hid fun hr => by
    obtain ⟨g, o, c0, c1, c2, c3, c4, _, _, _, _, _, _, _, h5⟩ := hx
    have h1 := txt_len _ x _ rfl h5 hr
    omega
  have HKX := Lib.hid hx
  clear hc buf hl hx hal hrow
  obtain ⟨ga, oa, soa, capa, rfl, a0, a1, a2, a3, a4, hta⟩ := kid_cells HKX.out A0.out.ctx.old
  simp only [Nat.zero_mul, Nat.add_zero] at a0 a1 a2 a3 a4
  have HCALL := Lib.hid (A0.out.expr x _ hta (by have := HL.out; simp only [List.length_append, List.length_cons, List.length_nil, List.nil_append] at *; omega))
  clear hta
  obtain ⟨xk, xs, xn, xkids, xline⟩ := x
  simp only [Ex.kind, Ex.str, Ex.num, Ex.kids, Ex.line] at a0 a1 a2 a3 a4 HCALL
  generalize (Ex.mk xk xs xn xkids xline).right = ox at *
  generalize (Ex.mk xk xs xn xkids xline).txt = tx at *
  generalize (Ex.mk xk xs xn xkids xline).cnt = nx at *
  go_enter Tryz.func84, Tryz.ntmps84
  go_wp2_with fail
  rw [← hW1]
  clear hW1
  go_wp2_with (go_at_call 18; (with_reducible refine (need_yes _).mono ?_); rintro e w' ⟨rfl, rfl⟩)
  go_at_call 20
  refine HCALL.out.mono ?_
  intro e w5 hp
  clear HCALL c0 c1 c2 c3 c4 c5 a0 a1 a2 a3 a4
  cases ox with
  | false =>
    obtain ⟨rfl, p⟩ := hp
    exact ⟨rfl, fall (by simp) p HAL.out HBw.out⟩
  | true =>
    obtain ⟨rfl, hA⟩ := hp
    have A4 := Lib.hid hA
    have hxl := HXLx.out rfl
    clear hA
    have HPUT := Lib.hid (A4.out.put ⟨#[59, 10]⟩ (by have := HL.out; simp only [List.length_append, List.length_cons, List.length_nil, List.nil_append] at *; show _ + 2 ≤ _; omega))
    simp only
    go_wp2_with fail
    go_at_call 43
    refine HPUT.out.mono ?_
    rintro e w6 ⟨rfl, hA⟩
    have A9 := Lib.hid hA
    clear hA HPUT
    have FIN := Lib.hid (A9.out.fin HAL.out HBw.out)
    simp only
    go_wp2
    go_end0
    have h := FIN.out
    simpa using h

set_option maxRecDepth 100000 in
set_option maxHeartbeats 2000000 in
theorem stmt_2 {W : World} {k line : Int} {s : ByteArray} {x y : Ex} {so1 so2 so3 : Option Addr} {p1 p2 p3 B b : Nat} {l : List UInt8} {w : World} (hc : Ctx W B w) (buf : BufAt 83 [] B b l w) (hx : KidAt W so1 0 x) (hy : KidAt W so1 1 y) (hs : s.toList.isEmpty = true) (hpl : isPlace x.kind = true) (hl : l.length + 1000 * (x.cnt + y.cnt + 1) ≤ 100000000) :
    Calls Tryz.prog 84 #[.pointer (some ⟨b, 0, none⟩), .agg #[.int .i64 2, .string s, .slice so1 2 p1, .slice so2 0 p2, .slice so3 0 p3, .int .i64 line]] w (WPost B b l (x.txt ++ [32, 61, 32] ++ y.txt ++ [59, 10]) (x.right && y.right) w) := by
  obtain ⟨W1, hW1⟩ : ∃ W1, W1 = w.alloc (.cells #[.int .i64 2, .string s, .slice so1 2 p1, .slice so2 0 p2, .slice so3 0 p3, .int .i64 line] 103) := ⟨_, rfl⟩
  have hal : Below w.heap.size w W1 := by rw [hW1]; exact (RowKit.Below.refl _ _).alloc (Nat.le_refl _) _
  have hrow : W1.heap[w.heap.size]? = some (.cells #[.int .i64 2, .string s, .slice so1 2 p1, .slice so2 0 p2, .slice so3 0 p3, .int .i64 line] 103 (0, 0)) := by rw [hW1]; exact heap_alloc_new _ _
  obtain ⟨c0, c1, c2, c3, c4, c5⟩ := st_cells hrow
  have A0 := Lib.hid (WAt.start (hc.low hal) (buf.below hal))
  have HAL := Lib.hid hal
  have HROW := Lib.hid hrow
  have HBw := Lib.hid hc.Bw
  have HNE : Hid (w.heap.size ≠ b) := Lib.hid (by have := buf.lt; omega)
  have HL := Lib.hid hl
  have HXLx : Hid (x.right = true → x.txt.length ≤ 1000 * x.cnt) := Lib.hid fun hr => by
    obtain ⟨g, o, c0, c1, c2, c3, c4, _, _, _, _, _, _, _, h5⟩ := hx
    have h1 := txt_len _ x _ rfl h5 hr
    omega
  have HXLy : Hid (y.right = true → y.txt.length ≤ 1000 * y.cnt) := Lib.hid fun hr => by
    obtain ⟨g, o, c0, c1, c2, c3, c4, _, _, _, _, _, _, _, h5⟩ := hy
    have h1 := txt_len _ y _ rfl h5 hr
    omega
  have HKX := Lib.hid hx
  have HKY := Lib.hid hy
  clear hc buf hl hx hy hal hrow
  obtain ⟨ga, oa, soa, capa, rfl, a0, a1, a2, a3, a4, hta⟩ := kid_cells HKX.out A0.out.ctx.old
  simp only [Nat.zero_mul, Nat.add_zero] at a0 a1 a2 a3 a4
  have HTA := Lib.hid hta
  have HPL := Lib.hid (fun w => place_any x.kind x.num x.str soa x.kids.length capa x.line w)
  rw [hpl] at HPL
  clear hta hpl
  obtain ⟨xk, xs, xn, xkids, xline⟩ := x
  simp only [Ex.kind, Ex.str, Ex.num, Ex.kids, Ex.line] at a0 a1 a2 a3 a4 HTA HPL
  go_enter Tryz.func84, Tryz.ntmps84
  go_wp2_with fail
  rw [← hW1]
  clear hW1
  go_wp2_with (first
    | (go_at_call 18; (with_reducible refine (need_yes _).mono ?_); rintro e w' ⟨rfl, rfl⟩)
    | (go_at_call 111; (with_reducible refine (HPL.out _).mono ?_); rintro e w2 ⟨rfl, hb2⟩; have A1 := Lib.hid (A0.out.alloc hb2); obtain ⟨d0, d1, d2, d3, d4, d5⟩ := st_cells (A1.out.cell HROW.out HNE.out (by decide)); have e0 := (hb2.cell (p := ⟨ga, oa, none⟩) (World.block_lt_of_cell? _ _ a0)).trans a0; have e1 := (hb2.cell (p := ⟨ga, oa + 1, none⟩) (World.block_lt_of_cell? _ _ a1)).trans a1; have e2 := (hb2.cell (p := ⟨ga, oa + 2, none⟩) (World.block_lt_of_cell? _ _ a2)).trans a2; have e3 := (hb2.cell (p := ⟨ga, oa + 3, none⟩) (World.block_lt_of_cell? _ _ a3)).trans a3; have e4 := (hb2.cell (p := ⟨ga, oa + 4, none⟩) (World.block_lt_of_cell? _ _ a4)).trans a4; clear hb2))
  have HCALL := Lib.hid (A1.out.expr (Ex.mk xk xs xn xkids xline) _ HTA.out (by have := HL.out; simp only [List.length_append, List.length_cons, List.length_nil, List.nil_append] at *; omega))
  generalize (Ex.mk xk xs xn xkids xline).right = ox at *
  generalize (Ex.mk xk xs xn xkids xline).txt = tx at *
  generalize (Ex.mk xk xs xn xkids xline).cnt = nx at *
  go_at_call 20
  refine HCALL.out.mono ?_
  intro e w3 hp
  clear HCALL c0 c1 c2 c3 c4 c5 a0 a1 a2 a3 a4 d0 d1 d2 d3 d4 d5 e0 e1 e2 e3 e4
  cases ox with
  | false =>
    obtain ⟨rfl, p⟩ := hp
    exact ⟨rfl, fall (by simp) p HAL.out HBw.out⟩
  | true =>
    obtain ⟨rfl, hA⟩ := hp
    have A2 := Lib.hid hA
    have hxl := HXLx.out rfl
    clear hA
    have HPUT := Lib.hid (A2.out.put ⟨#[32, 61, 32]⟩ (by have := HL.out; simp only [List.length_append, List.length_cons, List.length_nil, List.nil_append] at *; show _ + 3 ≤ _; omega))
    simp only
    go_wp2_with fail
    go_at_call 43
    refine HPUT.out.mono ?_
    rintro e w4 ⟨rfl, hA⟩
    have A3 := Lib.hid hA
    clear hA HPUT
    obtain ⟨c0, c1, c2, c3, c4, c5⟩ := st_cells (A3.out.cell HROW.out HNE.out (by decide))
    obtain ⟨gb, ob, sob, capb, eqb, b0, b1, b2, b3, b4, htb⟩ := kid_cells HKY.out A3.out.ctx.old
    cases eqb
    simp only [Nat.one_mul] at b0 b1 b2 b3 b4
    have HCALL := Lib.hid (A3.out.expr y _ htb (by have := HL.out; simp only [List.length_append, List.length_cons, List.length_nil, List.nil_append] at *; omega))
    clear htb
    obtain ⟨yk, ys, yn, ykids, yline⟩ := y
    simp only [Ex.kind, Ex.str, Ex.num, Ex.kids, Ex.line] at b0 b1 b2 b3 b4 HCALL
    generalize (Ex.mk yk ys yn ykids yline).right = oy at *
    generalize (Ex.mk yk ys yn ykids yline).txt = ty at *
    generalize (Ex.mk yk ys yn ykids yline).cnt = ny at *
    simp only
    go_wp2_with fail
    go_at_call 20
    refine HCALL.out.mono ?_
    intro e w5 hp
    clear HCALL c0 c1 c2 c3 c4 c5 b0 b1 b2 b3 b4
    cases oy with
    | false =>
      obtain ⟨rfl, p⟩ := hp
      exact ⟨rfl, fall (by simp) p HAL.out HBw.out⟩
    | true =>
      obtain ⟨rfl, hA⟩ := hp
      have A4 := Lib.hid hA
      have hyl := HXLy.out rfl
      clear hA
      have HPUT := Lib.hid (A4.out.put ⟨#[59, 10]⟩ (by have := HL.out; simp only [List.length_append, List.length_cons, List.length_nil, List.nil_append] at *; show _ + 2 ≤ _; omega))
      simp only
      go_wp2_with fail
      go_at_call 43
      refine HPUT.out.mono ?_
      rintro e w6 ⟨rfl, hA⟩
      have A9 := Lib.hid hA
      clear hA HPUT
      have FIN := Lib.hid (A9.out.fin HAL.out HBw.out)
      simp only
      go_wp2
      go_end0
      have h := FIN.out
      simpa using h

def retT : List Ex → List UInt8
  | [] => []
  | e :: l => 32 :: (e.txt ++ retT l)
theorem retT_snoc (l : List Ex) (e : Ex) : retT (l ++ [e]) = retT l ++ ([32] ++ e.txt) := by
  induction l with
  | nil => simp [retT]
  | cons x l ih => simp [retT, ih]
theorem retT_len {W : World} {es : List Ex} {so : Option Addr} (hk : ∀ (i : Nat) e, es[i]? = some e → KidAt W so i e) {i : Nat} (hr : rightL (es.take i) = true) : (retT (es.take i)).length ≤ 1000 * cntL (es.take i) := by
  have h1 : ∀ e ∈ es.take i, e.txt.length + 10 ≤ 1000 * e.cnt := fun e he => by
    obtain ⟨j, hj⟩ := List.mem_iff_getElem?.1 (List.mem_of_mem_take he)
    obtain ⟨g, o, c0, c1, c2, c3, c4, _, _, _, _, _, _, _, h5⟩ := hk j e hj
    exact txt_len _ _ _ rfl h5 (rightL_iff.1 hr e he)
  generalize es.take i = l at *
  clear hr hk
  induction l with
  | nil => simp [retT]
  | cons x l ih =>
    have h2 := h1 x (by simp)
    have h3 := ih (fun e he => h1 e (by simp [he]))
    simp only [retT, cntL, List.length_cons, List.length_append]
    omega

set_option maxRecDepth 100000 in
set_option maxHeartbeats 2000000 in
theorem stmt_6 {W : World} {k line : Int} {s : ByteArray} {es : List Ex} {so1 so2 so3 : Option Addr} {p1 p2 p3 B b : Nat} {l : List UInt8} {w : World} (hc : Ctx W B w) (buf : BufAt 83 [] B b l w) (hk : KidsIn W es so1 0) (hs : s.toList.isEmpty = true) (h1 : es.length ≤ 1) (hl : l.length + 1000 * (cntL es + 1) ≤ 100000000) :
    Calls Tryz.prog 84 #[.pointer (some ⟨b, 0, none⟩), .agg #[.int .i64 6, .string s, .slice so1 es.length p1, .slice so2 0 p2, .slice so3 0 p3, .int .i64 line]] w (WPost B b l ([114, 101, 116, 117, 114, 110] ++ retT es ++ [59, 10]) (rightL es) w) := by
  obtain ⟨W1, hW1⟩ : ∃ W1, W1 = w.alloc (.cells #[.int .i64 6, .string s, .slice so1 es.length p1, .slice so2 0 p2, .slice so3 0 p3, .int .i64 line] 103) := ⟨_, rfl⟩
  have hal : Below w.heap.size w W1 := by rw [hW1]; exact (RowKit.Below.refl _ _).alloc (Nat.le_refl _) _
  have hrow : W1.heap[w.heap.size]? = some (.cells #[.int .i64 6, .string s, .slice so1 es.length p1, .slice so2 0 p2, .slice so3 0 p3, .int .i64 line] 103 (0, 0)) := by rw [hW1]; exact heap_alloc_new _ _
  obtain ⟨c0, c1, c2, c3, c4, c5⟩ := st_cells hrow
  have A0 := Lib.hid (WAt.start (hc.low hal) (buf.below hal))
  have HAL := Lib.hid hal
  have HROW := Lib.hid hrow
  have HBw := Lib.hid hc.Bw
  have HNE : Hid (w.heap.size ≠ b) := Lib.hid (by have := buf.lt; omega)
  have HL := Lib.hid hl
  have HK := Lib.hid (kids_at0 hk)
  have hd1 : decide ((es.length : Int) ≤ 1) = true := decide_eq_true (by omega)
  clear hc buf hl hk hal hrow
  go_enter Tryz.func84, Tryz.ntmps84
  go_wp2_with fail
  rw [← hW1]
  clear hW1
  go_wp2_with (go_at_call 18; (with_reducible refine (need_yes _).mono ?_); rintro e w' ⟨rfl, rfl⟩)
  clear c0 c1 c2 c3 c4 c5
  have HPUT := Lib.hid (A0.out.put ⟨#[114, 101, 116, 117, 114, 110]⟩ (by have := HL.out; simp only [List.length_append, List.length_cons, List.length_nil, List.nil_append] at *; show _ + 6 ≤ _; omega))
  go_at_call 43
  refine HPUT.out.mono ?_
  rintro e w2 ⟨rfl, hA⟩
  have A1 := Lib.hid hA
  clear hA HPUT
  obtain ⟨c0, c1, c2, c3, c4, c5⟩ := st_cells (A1.out.cell HROW.out HNE.out (by decide))
  simp only
  go_wp2_with fail
  clear c0 c1 c2 c3 c4 c5
  go_loopg [131] es.length (fun kx s131 wr => ∃ i : Nat, s131 = .int .i64 i ∧ i ≤ es.length ∧ es.length - i ≤ kx ∧ Aside (rightL (es.take i) = true ∧ WAt W B b l W1 ([] ++ [114, 101, 116, 117, 114, 110] ++ retT (es.take i)) wr))
  case atStart => exact ⟨0, rfl, by omega, by omega, rfl, by simpa [retT] using A1.out⟩
  case round =>
    obtain ⟨i, rfl, hi, hg, hA⟩ := hrel
    have HA := Lib.hid hA.out
    clear hA
    have hrl := retT_len HK.out HA.out.1
    by_cases hil : i < es.length
    · have hx : es[i]? = some es[i] := List.getElem?_eq_getElem hil
      have hcc := cntL_take hx
      have hta := kid_cells (HK.out i _ hx) HA.out.2.ctx.old
      obtain ⟨g, o, so', cap', rfl, a0, a1, a2, a3, a4, ht⟩ := hta
      have HFALSE : Hid ((es[i] : Ex).right = false → rightL es = false) := Lib.hid (fun he => rightL_false hx he)
      have HRT : Hid (rightL (es.take (i + 1)) = (es[i] : Ex).right) := Lib.hid (rightL_take hx HA.out.1)
      have HMT : Hid (retT (es.take (i + 1)) = retT (es.take i) ++ ([32] ++ (es[i] : Ex).txt)) := Lib.hid (by rw [List.take_add_one, hx]; exact retT_snoc _ _)
      have hi1 : (i : Int) < (es.length : Int) := by omega
      have hi0 : (0 : Int) ≤ (i : Int) := by omega
      generalize (es[i] : Ex) = x at *
      have HIN := Lib.hid ht
      obtain ⟨k', s', n', kids', line'⟩ := x
      simp only [Ex.kind, Ex.str, Ex.num, Ex.kids, Ex.line] at a0 a1 a2 a3 a4 HIN
      obtain ⟨W2, hW2⟩ : ∃ W2, W2 = wr.alloc (.cells #[.int .i64 k', .string s', .int .i64 n', .slice so' kids'.length cap', .int .i64 line'] 25) := ⟨_, rfl⟩
      have hal2 : Below wr.heap.size wr W2 := by rw [hW2]; exact (RowKit.Below.refl _ _).alloc (Nat.le_refl _) _
      have hsz2 : W2.heap.size = wr.heap.size + 1 := by rw [hW2]; exact Array.size_push ..
      have HROW2 := Lib.hid (show W2.heap[wr.heap.size]? = some (.cells #[.int .i64 k', .string s', .int .i64 n', .slice so' kids'.length cap', .int .i64 line'] 25 (0, 0)) by rw [hW2]; exact heap_alloc_new _ _)
      have A2 := Lib.hid (HA.out.2.alloc hal2)
      have C0 := Lib.hid A2.out.anew
      have HNE2 : Hid (wr.heap.size ≠ b) := Lib.hid (by have := HA.out.2.buf.lt; omega)
      have hput := C0.out.put ⟨#[32]⟩ (by have := HL.out; simp only [List.length_append, List.length_cons, List.length_nil, List.nil_append] at *; show _ + 1 ≤ _; omega)
      rw [hsz2] at hput
      have HPUT := Lib.hid hput
      clear ht hx hal2 hput
      generalize hgr : (Ex.mk k' s' n' kids' line').right = ok at *
      generalize hgt : (Ex.mk k' s' n' kids' line').txt = t at *
      generalize hgc : (Ex.mk k' s' n' kids' line').cnt = cn at *
      have HGG := Lib.hid (And.intro hgr (And.intro hgt hgc))
      clear hgr hgt hgc
      go_wp2_with fail
      rw [← hW2]
      clear hW2 hsz2
      go_at_call 43
      refine HPUT.out.mono ?_
      rintro e w3 ⟨rfl, hA2⟩
      have C1 := Lib.hid hA2
      obtain ⟨c0, c1, c2, c3, c4⟩ := row_cells (hA2.cell HROW2.out HNE2.out (by decide))
      have hcall := C1.out.expr _ _ HIN.out (by rw [HGG.out.2.2]; have := HL.out; simp only [List.length_append, List.length_cons, List.length_nil, List.nil_append] at *; omega)
      rw [HGG.out.1, HGG.out.2.1] at hcall
      have HCALL := Lib.hid hcall
      clear hA2 hcall HPUT a0 a1 a2 a3 a4
      simp only
      go_wp2_with fail
      go_at_call 20
      refine HCALL.out.mono ?_
      intro e w4 hp
      clear HCALL c0 c1 c2 c3 c4
      cases ok with
      | false =>
        obtain ⟨rfl, p⟩ := hp
        exact ⟨rfl, fall (HFALSE.out rfl) (A2.out.bel.trans p) HAL.out HBw.out⟩
      | true =>
        obtain ⟨rfl, hA3⟩ := hp
        have FIN : Hid (WAt W B b l W1 ([] ++ [114, 101, 116, 117, 114, 110] ++ retT (es.take (i + 1))) w4) := Lib.hid (by
          have h := A2.out.trans hA3
          rw [HMT.out]
          simpa using h)
        clear hA3
        simp only
        go_wp2_with fail
        go_roundg (es.length - (i + 1))
        case measure => omega
        case rel => exact ⟨i + 1, by go_num, by omega, Nat.le_refl _, HRT.out, FIN.out⟩
    · obtain rfl : i = es.length := by omega
      have hA := HA.out
      rw [List.take_length] at hA hrl
      have A2 := Lib.hid hA.2
      have HR := Lib.hid hA.1
      clear hA HA
      have HPUT := Lib.hid (A2.out.put ⟨#[59, 10]⟩ (by have := HL.out; simp only [List.length_append, List.length_cons, List.length_nil, List.nil_append] at *; show _ + 2 ≤ _; omega))
      go_wp2_with fail
      go_at_call 43
      refine HPUT.out.mono ?_
      rintro e w9 ⟨rfl, hA⟩
      have FIN := Lib.hid (hA.fin HAL.out HBw.out)
      clear hA HPUT
      simp only
      go_wp2
      go_end0
      have h := FIN.out
      rw [HR.out]
      simpa using h

set_option maxRecDepth 100000 in
set_option maxHeartbeats 2000000 in
theorem stmt_3 {W : World} {k line : Int} {s : ByteArray} {x : Ex} {body els : List Smt} {so1 so2 so3 : Option Addr} {p1 p2 p3 B b : Nat} {l : List UInt8} {w : World} (hc : Ctx W B w) (buf : BufAt 83 [] B b l w) (h : ∀ w, Ctx W B w → BufAt 83 [] B b l w → Calls Tryz.prog 112 #[.pointer (some ⟨b, 0, none⟩), .agg #[.int .i64 3, .string s, .slice so1 1 p1, .slice so2 body.length p2, .slice so3 0 p3, .int .i64 line]] w (WPost B b l ([105, 102, 32] ++ x.txt ++ [32] ++ ([123, 10] ++ txtS body ++ ([125] ++ [10]))) (x.right && rightS body) w)) (hs : s.toList.isEmpty = true) :
    Calls Tryz.prog 84 #[.pointer (some ⟨b, 0, none⟩), .agg #[.int .i64 3, .string s, .slice so1 1 p1, .slice so2 body.length p2, .slice so3 0 p3, .int .i64 line]] w (WPost B b l ([105, 102, 32] ++ x.txt ++ [32] ++ ([123, 10] ++ txtS body ++ ([125] ++ [10]))) (x.right && rightS body) w) := by
  obtain ⟨W1, hW1⟩ : ∃ W1, W1 = w.alloc (.cells #[.int .i64 3, .string s, .slice so1 1 p1, .slice so2 body.length p2, .slice so3 0 p3, .int .i64 line] 103) := ⟨_, rfl⟩
  have hal : Below w.heap.size w W1 := by rw [hW1]; exact (RowKit.Below.refl _ _).alloc (Nat.le_refl _) _
  have hrow : W1.heap[w.heap.size]? = some (.cells #[.int .i64 3, .string s, .slice so1 1 p1, .slice so2 body.length p2, .slice so3 0 p3, .int .i64 line] 103 (0, 0)) := by rw [hW1]; exact heap_alloc_new _ _
  obtain ⟨c0, c1, c2, c3, c4, c5⟩ := st_cells hrow
  have A0 := Lib.hid (WAt.start (hc.low hal) (buf.below hal))
  have HAL := Lib.hid hal
  have HROW := Lib.hid hrow
  have HBw := Lib.hid hc.Bw
  have HNE : Hid (w.heap.size ≠ b) := Lib.hid (by have := buf.lt; omega)
  have HCALL := Lib.hid (A0.out.next (by have h := h W1 A0.out.ctx (by have := A0.out.buf; rwa [List.append_nil] at this); rw [List.append_nil]; exact h))
  generalize hok : (x.right && rightS body) = ok at *
  generalize [105, 102, 32] ++ x.txt ++ [32] ++ ([123, 10] ++ txtS body ++ ([125] ++ [10])) = t at *
  clear hc buf h hal hrow hok
  go_enter Tryz.func84, Tryz.ntmps84
  go_wp2_with fail
  rw [← hW1]
  clear hW1
  go_wp2_with (go_at_call 18; (with_reducible refine (need_yes _).mono ?_); rintro e w' ⟨rfl, rfl⟩)
  go_at_call 112
  refine HCALL.out.mono ?_
  intro e w3 hp
  clear HCALL c0 c1 c2 c3 c4 c5
  cases ok with
  | false =>
    obtain ⟨rfl, p⟩ := hp
    exact ⟨rfl, fall (by simp) p HAL.out HBw.out⟩
  | true =>
    obtain ⟨rfl, hA⟩ := hp
    have FIN := Lib.hid (hA.fin HAL.out HBw.out)
    clear hA
    simp only
    go_wp2
    go_end0
    have h := FIN.out
    simpa using h

set_option maxRecDepth 100000 in
set_option maxHeartbeats 2000000 in
theorem stmt_5 {W : World} {k line : Int} {s : ByteArray} {x : Ex} {body els : List Smt} {so1 so2 so3 : Option Addr} {p1 p2 p3 B b : Nat} {l : List UInt8} {w : World} (hc : Ctx W B w) (buf : BufAt 83 [] B b l w) (h : ∀ w, Ctx W B w → BufAt 83 [] B b l w → Calls Tryz.prog 112 #[.pointer (some ⟨b, 0, none⟩), .agg #[.int .i64 5, .string s, .slice so1 1 p1, .slice so2 body.length p2, .slice so3 0 p3, .int .i64 line]] w (WPost B b l ([119, 104, 105, 108, 101, 32] ++ x.txt ++ [32] ++ ([123, 10] ++ txtS body ++ ([125] ++ [10]))) (x.right && rightS body) w)) (hs : s.toList.isEmpty = true) :
    Calls Tryz.prog 84 #[.pointer (some ⟨b, 0, none⟩), .agg #[.int .i64 5, .string s, .slice so1 1 p1, .slice so2 body.length p2, .slice so3 0 p3, .int .i64 line]] w (WPost B b l ([119, 104, 105, 108, 101, 32] ++ x.txt ++ [32] ++ ([123, 10] ++ txtS body ++ ([125] ++ [10]))) (x.right && rightS body) w) := by
  obtain ⟨W1, hW1⟩ : ∃ W1, W1 = w.alloc (.cells #[.int .i64 5, .string s, .slice so1 1 p1, .slice so2 body.length p2, .slice so3 0 p3, .int .i64 line] 103) := ⟨_, rfl⟩
  have hal : Below w.heap.size w W1 := by rw [hW1]; exact (RowKit.Below.refl _ _).alloc (Nat.le_refl _) _
  have hrow : W1.heap[w.heap.size]? = some (.cells #[.int .i64 5, .string s, .slice so1 1 p1, .slice so2 body.length p2, .slice so3 0 p3, .int .i64 line] 103 (0, 0)) := by rw [hW1]; exact heap_alloc_new _ _
  obtain ⟨c0, c1, c2, c3, c4, c5⟩ := st_cells hrow
  have A0 := Lib.hid (WAt.start (hc.low hal) (buf.below hal))
  have HAL := Lib.hid hal
  have HROW := Lib.hid hrow
  have HBw := Lib.hid hc.Bw
  have HNE : Hid (w.heap.size ≠ b) := Lib.hid (by have := buf.lt; omega)
  have HCALL := Lib.hid (A0.out.next (by have h := h W1 A0.out.ctx (by have := A0.out.buf; rwa [List.append_nil] at this); rw [List.append_nil]; exact h))
  generalize hok : (x.right && rightS body) = ok at *
  generalize [119, 104, 105, 108, 101, 32] ++ x.txt ++ [32] ++ ([123, 10] ++ txtS body ++ ([125] ++ [10])) = t at *
  clear hc buf h hal hrow hok
  go_enter Tryz.func84, Tryz.ntmps84
  go_wp2_with fail
  rw [← hW1]
  clear hW1
  go_wp2_with (go_at_call 18; (with_reducible refine (need_yes _).mono ?_); rintro e w' ⟨rfl, rfl⟩)
  go_at_call 112
  refine HCALL.out.mono ?_
  intro e w3 hp
  clear HCALL c0 c1 c2 c3 c4 c5
  cases ok with
  | false =>
    obtain ⟨rfl, p⟩ := hp
    exact ⟨rfl, fall (by simp) p HAL.out HBw.out⟩
  | true =>
    obtain ⟨rfl, hA⟩ := hp
    have FIN := Lib.hid (hA.fin HAL.out HBw.out)
    clear hA
    simp only
    go_wp2
    go_end0
    have h := FIN.out
    simpa using h

set_option maxRecDepth 100000 in
set_option maxHeartbeats 2000000 in
theorem stmt_4 {W : World} {k line : Int} {s : ByteArray} {x : Ex} {body els : List Smt} {so1 so2 so3 : Option Addr} {p1 p2 p3 B b : Nat} {l : List UInt8} {w : World} (hc : Ctx W B w) (buf : BufAt 83 [] B b l w) (h : ∀ w, Ctx W B w → BufAt 83 [] B b l w → Calls Tryz.prog 112 #[.pointer (some ⟨b, 0, none⟩), .agg #[.int .i64 4, .string s, .slice so1 1 p1, .slice so2 body.length p2, .slice so3 els.length p3, .int .i64 line]] w (WPost B b l ([105, 102, 32] ++ x.txt ++ [32] ++ ([123, 10] ++ txtS body ++ ([125] ++ [32, 101, 108, 115, 101, 32])) ++ ([123, 10] ++ txtS els ++ ([125] ++ [10]))) (x.right && rightS body && rightS els) w)) (hs : s.toList.isEmpty = true) :
    Calls Tryz.prog 84 #[.pointer (some ⟨b, 0, none⟩), .agg #[.int .i64 4, .string s, .slice so1 1 p1, .slice so2 body.length p2, .slice so3 els.length p3, .int .i64 line]] w (WPost B b l ([105, 102, 32] ++ x.txt ++ [32] ++ ([123, 10] ++ txtS body ++ ([125] ++ [32, 101, 108, 115, 101, 32])) ++ ([123, 10] ++ txtS els ++ ([125] ++ [10]))) (x.right && rightS body && rightS els) w) := by
  obtain ⟨W1, hW1⟩ : ∃ W1, W1 = w.alloc (.cells #[.int .i64 4, .string s, .slice so1 1 p1, .slice so2 body.length p2, .slice so3 els.length p3, .int .i64 line] 103) := ⟨_, rfl⟩
  have hal : Below w.heap.size w W1 := by rw [hW1]; exact (RowKit.Below.refl _ _).alloc (Nat.le_refl _) _
  have hrow : W1.heap[w.heap.size]? = some (.cells #[.int .i64 4, .string s, .slice so1 1 p1, .slice so2 body.length p2, .slice so3 els.length p3, .int .i64 line] 103 (0, 0)) := by rw [hW1]; exact heap_alloc_new _ _
  obtain ⟨c0, c1, c2, c3, c4, c5⟩ := st_cells hrow
  have A0 := Lib.hid (WAt.start (hc.low hal) (buf.below hal))
  have HAL := Lib.hid hal
  have HROW := Lib.hid hrow
  have HBw := Lib.hid hc.Bw
  have HNE : Hid (w.heap.size ≠ b) := Lib.hid (by have := buf.lt; omega)
  have HCALL := Lib.hid (A0.out.next (by have h := h W1 A0.out.ctx (by have := A0.out.buf; rwa [List.append_nil] at this); rw [List.append_nil]; exact h))
  generalize hok : (x.right && rightS body && rightS els) = ok at *
  generalize [105, 102, 32] ++ x.txt ++ [32] ++ ([123, 10] ++ txtS body ++ ([125] ++ [32, 101, 108, 115, 101, 32])) ++ ([123, 10] ++ txtS els ++ ([125] ++ [10])) = t at *
  clear hc buf h hal hrow hok
  go_enter Tryz.func84, Tryz.ntmps84
  go_wp2_with fail
  rw [← hW1]
  clear hW1
  go_wp2_with (go_at_call 18; (with_reducible refine (need_yes _).mono ?_); rintro e w' ⟨rfl, rfl⟩)
  go_at_call 112
  refine HCALL.out.mono ?_
  intro e w3 hp
  clear HCALL c0 c1 c2 c3 c4 c5
  cases ok with
  | false =>
    obtain ⟨rfl, p⟩ := hp
    exact ⟨rfl, fall (by simp) p HAL.out HBw.out⟩
  | true =>
    obtain ⟨rfl, hA⟩ := hp
    have FIN := Lib.hid (hA.fin HAL.out HBw.out)
    clear hA
    simp only
    go_wp2
    go_end0
    have h := FIN.out
    simpa using h
end Go.Proofs.YtggjeecpadnihaaGreatDoor

namespace Go.Proofs.YtggjeecpadnihaaGreatDoor
open Go Go.Proofs Go.Eng Go.RowKit Go.Sx Go.Deep
set_option linter.unusedVariables false
set_option linter.unusedSimpArgs false

set_option maxRecDepth 100000 in
set_option maxHeartbeats 2000000 in
theorem stmt_bad_1 {W : World} {k line : Int} {s : ByteArray} {m1 m2 m3 : Nat} {so1 so2 so3 : Option Addr} {p1 p2 p3 B b : Nat} {l : List UInt8} {w : World} (hc : Ctx W B w) (buf : BufAt 83 [] B b l w) (t : List UInt8) (h : (((m2 : Int) == 0) && ((m3 : Int) == 0) && ((m1 : Int) == 1)) = false) :
    Calls Tryz.prog 84 #[.pointer (some ⟨b, 0, none⟩), .agg #[.int .i64 1, .string s, .slice so1 m1 p1, .slice so2 m2 p2, .slice so3 m3 p3, .int .i64 line]] w (WPost B b l (t) (false) w) := by
  obtain ⟨W1, hW1⟩ : ∃ W1, W1 = w.alloc (.cells #[.int .i64 1, .string s, .slice so1 m1 p1, .slice so2 m2 p2, .slice so3 m3 p3, .int .i64 line] 103) := ⟨_, rfl⟩
  have hal : Below w.heap.size w W1 := by rw [hW1]; exact (RowKit.Below.refl _ _).alloc (Nat.le_refl _) _
  have hrow : W1.heap[w.heap.size]? = some (.cells #[.int .i64 1, .string s, .slice so1 m1 p1, .slice so2 m2 p2, .slice so3 m3 p3, .int .i64 line] 103 (0, 0)) := by rw [hW1]; exact heap_alloc_new _ _
  obtain ⟨c0, c1, c2, c3, c4, c5⟩ := st_cells hrow
  have A0 := Lib.hid (WAt.start (hc.low hal) (buf.below hal))
  have HAL := Lib.hid hal
  have HROW := Lib.hid hrow
  have HBw := Lib.hid hc.Bw
  have HNE : Hid (w.heap.size ≠ b) := Lib.hid (by have := buf.lt; omega)
  clear hc buf hal hrow
  generalize yb2 : ((m2 : Int) == 0) = b2 at *
  generalize yb3 : ((m3 : Int) == 0) = b3 at *
  generalize ye1 : ((m1 : Int) == 1) = e1 at *
  cases b2 <;> cases b3 <;> cases e1 <;>
  first
  | (exfalso; revert h; decide)
  | (go_enter Tryz.func84, Tryz.ntmps84
     go_wp2_with fail
     rw [← hW1]
     clear hW1
     go_wp2_with (first | (go_at_call 18; (with_reducible refine (need_yes _).mono ?_); rintro e w' ⟨rfl, rfl⟩) | (go_at_call 18; (with_reducible refine (need_no _).mono ?_); rintro e w' ⟨rfl, rfl⟩))
     exact ⟨rfl, fall rfl (RowKit.Below.refl _ _) HAL.out HBw.out⟩)

set_option maxRecDepth 100000 in
set_option maxHeartbeats 2000000 in
theorem stmt_bad_2 {W : World} {k line : Int} {s : ByteArray} {m1 m2 m3 : Nat} {so1 so2 so3 : Option Addr} {p1 p2 p3 B b : Nat} {l : List UInt8} {w : World} (hc : Ctx W B w) (buf : BufAt 83 [] B b l w) (t : List UInt8) (h : (((m2 : Int) == 0) && ((m3 : Int) == 0) && s.toList.isEmpty && ((m1 : Int) == 2)) = false) :
    Calls Tryz.prog 84 #[.pointer (some ⟨b, 0, none⟩), .agg #[.int .i64 2, .string s, .slice so1 m1 p1, .slice so2 m2 p2, .slice so3 m3 p3, .int .i64 line]] w (WPost B b l (t) (false) w) := by
  obtain ⟨W1, hW1⟩ : ∃ W1, W1 = w.alloc (.cells #[.int .i64 2, .string s, .slice so1 m1 p1, .slice so2 m2 p2, .slice so3 m3 p3, .int .i64 line] 103) := ⟨_, rfl⟩
  have hal : Below w.heap.size w W1 := by rw [hW1]; exact (RowKit.Below.refl _ _).alloc (Nat.le_refl _) _
  have hrow : W1.heap[w.heap.size]? = some (.cells #[.int .i64 2, .string s, .slice so1 m1 p1, .slice so2 m2 p2, .slice so3 m3 p3, .int .i64 line] 103 (0, 0)) := by rw [hW1]; exact heap_alloc_new _ _
  obtain ⟨c0, c1, c2, c3, c4, c5⟩ := st_cells hrow
  have A0 := Lib.hid (WAt.start (hc.low hal) (buf.below hal))
  have HAL := Lib.hid hal
  have HROW := Lib.hid hrow
  have HBw := Lib.hid hc.Bw
  have HNE : Hid (w.heap.size ≠ b) := Lib.hid (by have := buf.lt; omega)
  clear hc buf hal hrow
  generalize yb2 : ((m2 : Int) == 0) = b2 at *
  generalize yb3 : ((m3 : Int) == 0) = b3 at *
  generalize ys0 : s.toList.isEmpty = s0 at *
  generalize ye2 : ((m1 : Int) == 2) = e2 at *
  cases b2 <;> cases b3 <;> cases s0 <;> cases e2 <;>
  first
  | (exfalso; revert h; decide)
  | (go_enter Tryz.func84, Tryz.ntmps84
     go_wp2_with fail
     rw [← hW1]
     clear hW1
     go_wp2_with (first | (go_at_call 18; (with_reducible refine (need_yes _).mono ?_); rintro e w' ⟨rfl, rfl⟩) | (go_at_call 18; (with_reducible refine (need_no _).mono ?_); rintro e w' ⟨rfl, rfl⟩))
     exact ⟨rfl, fall rfl (RowKit.Below.refl _ _) HAL.out HBw.out⟩)

set_option maxRecDepth 100000 in
set_option maxHeartbeats 2000000 in
theorem stmt_bad_3 {W : World} {k line : Int} {s : ByteArray} {m1 m2 m3 : Nat} {so1 so2 so3 : Option Addr} {p1 p2 p3 B b : Nat} {l : List UInt8} {w : World} (hc : Ctx W B w) (buf : BufAt 83 [] B b l w) (t : List UInt8) (h : (((m3 : Int) == 0) && s.toList.isEmpty && ((m1 : Int) == 1)) = false) :
    Calls Tryz.prog 84 #[.pointer (some ⟨b, 0, none⟩), .agg #[.int .i64 3, .string s, .slice so1 m1 p1, .slice so2 m2 p2, .slice so3 m3 p3, .int .i64 line]] w (WPost B b l (t) (false) w) := by
  obtain ⟨W1, hW1⟩ : ∃ W1, W1 = w.alloc (.cells #[.int .i64 3, .string s, .slice so1 m1 p1, .slice so2 m2 p2, .slice so3 m3 p3, .int .i64 line] 103) := ⟨_, rfl⟩
  have hal : Below w.heap.size w W1 := by rw [hW1]; exact (RowKit.Below.refl _ _).alloc (Nat.le_refl _) _
  have hrow : W1.heap[w.heap.size]? = some (.cells #[.int .i64 3, .string s, .slice so1 m1 p1, .slice so2 m2 p2, .slice so3 m3 p3, .int .i64 line] 103 (0, 0)) := by rw [hW1]; exact heap_alloc_new _ _
  obtain ⟨c0, c1, c2, c3, c4, c5⟩ := st_cells hrow
  have A0 := Lib.hid (WAt.start (hc.low hal) (buf.below hal))
  have HAL := Lib.hid hal
  have HROW := Lib.hid hrow
  have HBw := Lib.hid hc.Bw
  have HNE : Hid (w.heap.size ≠ b) := Lib.hid (by have := buf.lt; omega)
  clear hc buf hal hrow
  generalize yb3 : ((m3 : Int) == 0) = b3 at *
  generalize ys0 : s.toList.isEmpty = s0 at *
  generalize ye1 : ((m1 : Int) == 1) = e1 at *
  cases b3 <;> cases s0 <;> cases e1 <;>
  first
  | (exfalso; revert h; decide)
  | (go_enter Tryz.func84, Tryz.ntmps84
     go_wp2_with fail
     rw [← hW1]
     clear hW1
     go_wp2_with (first | (go_at_call 18; (with_reducible refine (need_yes _).mono ?_); rintro e w' ⟨rfl, rfl⟩) | (go_at_call 18; (with_reducible refine (need_no _).mono ?_); rintro e w' ⟨rfl, rfl⟩))
     exact ⟨rfl, fall rfl (RowKit.Below.refl _ _) HAL.out HBw.out⟩)

set_option maxRecDepth 100000 in
set_option maxHeartbeats 2000000 in
theorem stmt_bad_5 {W : World} {k line : Int} {s : ByteArray} {m1 m2 m3 : Nat} {so1 so2 so3 : Option Addr} {p1 p2 p3 B b : Nat} {l : List UInt8} {w : World} (hc : Ctx W B w) (buf : BufAt 83 [] B b l w) (t : List UInt8) (h : (((m3 : Int) == 0) && s.toList.isEmpty && ((m1 : Int) == 1)) = false) :
    Calls Tryz.prog 84 #[.pointer (some ⟨b, 0, none⟩), .agg #[.int .i64 5, .string s, .slice so1 m1 p1, .slice so2 m2 p2, .slice so3 m3 p3, .int .i64 line]] w (WPost B b l (t) (false) w) := by
  obtain ⟨W1, hW1⟩ : ∃ W1, W1 = w.alloc (.cells #[.int .i64 5, .string s, .slice so1 m1 p1, .slice so2 m2 p2, .slice so3 m3 p3, .int .i64 line] 103) := ⟨_, rfl⟩
  have hal : Below w.heap.size w W1 := by rw [hW1]; exact (RowKit.Below.refl _ _).alloc (Nat.le_refl _) _
  have hrow : W1.heap[w.heap.size]? = some (.cells #[.int .i64 5, .string s, .slice so1 m1 p1, .slice so2 m2 p2, .slice so3 m3 p3, .int .i64 line] 103 (0, 0)) := by rw [hW1]; exact heap_alloc_new _ _
  obtain ⟨c0, c1, c2, c3, c4, c5⟩ := st_cells hrow
  have A0 := Lib.hid (WAt.start (hc.low hal) (buf.below hal))
  have HAL := Lib.hid hal
  have HROW := Lib.hid hrow
  have HBw := Lib.hid hc.Bw
  have HNE : Hid (w.heap.size ≠ b) := Lib.hid (by have := buf.lt; omega)
  clear hc buf hal hrow
  generalize yb3 : ((m3 : Int) == 0) = b3 at *
  generalize ys0 : s.toList.isEmpty = s0 at *
  generalize ye1 : ((m1 : Int) == 1) = e1 at *
  cases b3 <;> cases s0 <;> cases e1 <;>
  first
  | (exfalso; revert h; decide)
  | (go_enter Tryz.func84, Tryz.ntmps84
     go_wp2_with fail
     rw [← hW1]
     clear hW1
     go_wp2_with (first | (go_at_call 18; (with_reducible refine (need_yes _).mono ?_); rintro e w' ⟨rfl, rfl⟩) | (go_at_call 18; (with_reducible refine (need_no _).mono ?_); rintro e w' ⟨rfl, rfl⟩))
     exact ⟨rfl, fall rfl (RowKit.Below.refl _ _) HAL.out HBw.out⟩)

set_option maxRecDepth 100000 in
set_option maxHeartbeats 2000000 in
theorem stmt_bad_4 {W : World} {k line : Int} {s : ByteArray} {m1 m2 m3 : Nat} {so1 so2 so3 : Option Addr} {p1 p2 p3 B b : Nat} {l : List UInt8} {w : World} (hc : Ctx W B w) (buf : BufAt 83 [] B b l w) (t : List UInt8) (h : (s.toList.isEmpty && ((m1 : Int) == 1)) = false) :
    Calls Tryz.prog 84 #[.pointer (some ⟨b, 0, none⟩), .agg #[.int .i64 4, .string s, .slice so1 m1 p1, .slice so2 m2 p2, .slice so3 m3 p3, .int .i64 line]] w (WPost B b l (t) (false) w) := by
  obtain ⟨W1, hW1⟩ : ∃ W1, W1 = w.alloc (.cells #[.int .i64 4, .string s, .slice so1 m1 p1, .slice so2 m2 p2, .slice so3 m3 p3, .int .i64 line] 103) := ⟨_, rfl⟩
  have hal : Below w.heap.size w W1 := by rw [hW1]; exact (RowKit.Below.refl _ _).alloc (Nat.le_refl _) _
  have hrow : W1.heap[w.heap.size]? = some (.cells #[.int .i64 4, .string s, .slice so1 m1 p1, .slice so2 m2 p2, .slice so3 m3 p3, .int .i64 line] 103 (0, 0)) := by rw [hW1]; exact heap_alloc_new _ _
  obtain ⟨c0, c1, c2, c3, c4, c5⟩ := st_cells hrow
  have A0 := Lib.hid (WAt.start (hc.low hal) (buf.below hal))
  have HAL := Lib.hid hal
  have HROW := Lib.hid hrow
  have HBw := Lib.hid hc.Bw
  have HNE : Hid (w.heap.size ≠ b) := Lib.hid (by have := buf.lt; omega)
  clear hc buf hal hrow
  generalize ys0 : s.toList.isEmpty = s0 at *
  generalize ye1 : ((m1 : Int) == 1) = e1 at *
  cases s0 <;> cases e1 <;>
  first
  | (exfalso; revert h; decide)
  | (go_enter Tryz.func84, Tryz.ntmps84
     go_wp2_with fail
     rw [← hW1]
     clear hW1
     go_wp2_with (first | (go_at_call 18; (with_reducible refine (need_yes _).mono ?_); rintro e w' ⟨rfl, rfl⟩) | (go_at_call 18; (with_reducible refine (need_no _).mono ?_); rintro e w' ⟨rfl, rfl⟩))
     exact ⟨rfl, fall rfl (RowKit.Below.refl _ _) HAL.out HBw.out⟩)

set_option maxRecDepth 100000 in
set_option maxHeartbeats 2000000 in
theorem stmt_bad_6 {W : World} {k line : Int} {s : ByteArray} {m1 m2 m3 : Nat} {so1 so2 so3 : Option Addr} {p1 p2 p3 B b : Nat} {l : List UInt8} {w : World} (hc : Ctx W B w) (buf : BufAt 83 [] B b l w) (t : List UInt8) (h : (((m2 : Int) == 0) && ((m3 : Int) == 0) && s.toList.isEmpty && decide ((m1 : Int) ≤ 1)) = false) :
    Calls Tryz.prog 84 #[.pointer (some ⟨b, 0, none⟩), .agg #[.int .i64 6, .string s, .slice so1 m1 p1, .slice so2 m2 p2, .slice so3 m3 p3, .int .i64 line]] w (WPost B b l (t) (false) w) := by
  obtain ⟨W1, hW1⟩ : ∃ W1, W1 = w.alloc (.cells #[.int .i64 6, .string s, .slice so1 m1 p1, .slice so2 m2 p2, .slice so3 m3 p3, .int .i64 line] 103) := ⟨_, rfl⟩
  have hal : Below w.heap.size w W1 := by rw [hW1]; exact (RowKit.Below.refl _ _).alloc (Nat.le_refl _) _
  have hrow : W1.heap[w.heap.size]? = some (.cells #[.int .i64 6, .string s, .slice so1 m1 p1, .slice so2 m2 p2, .slice so3 m3 p3, .int .i64 line] 103 (0, 0)) := by rw [hW1]; exact heap_alloc_new _ _
  obtain ⟨c0, c1, c2, c3, c4, c5⟩ := st_cells hrow
  have A0 := Lib.hid (WAt.start (hc.low hal) (buf.below hal))
  have HAL := Lib.hid hal
  have HROW := Lib.hid hrow
  have HBw := Lib.hid hc.Bw
  have HNE : Hid (w.heap.size ≠ b) := Lib.hid (by have := buf.lt; omega)
  clear hc buf hal hrow
  generalize yb2 : ((m2 : Int) == 0) = b2 at *
  generalize yb3 : ((m3 : Int) == 0) = b3 at *
  generalize ys0 : s.toList.isEmpty = s0 at *
  generalize yl1 : decide ((m1 : Int) ≤ 1) = l1 at *
  cases b2 <;> cases b3 <;> cases s0 <;> cases l1 <;>
  first
  | (exfalso; revert h; decide)
  | (go_enter Tryz.func84, Tryz.ntmps84
     go_wp2_with fail
     rw [← hW1]
     clear hW1
     go_wp2_with (first | (go_at_call 18; (with_reducible refine (need_yes _).mono ?_); rintro e w' ⟨rfl, rfl⟩) | (go_at_call 18; (with_reducible refine (need_no _).mono ?_); rintro e w' ⟨rfl, rfl⟩))
     exact ⟨rfl, fall rfl (RowKit.Below.refl _ _) HAL.out HBw.out⟩)

set_option maxRecDepth 100000 in
set_option maxHeartbeats 2000000 in
theorem stmt_bad_7 {W : World} {k line : Int} {s : ByteArray} {m1 m2 m3 : Nat} {so1 so2 so3 : Option Addr} {p1 p2 p3 B b : Nat} {l : List UInt8} {w : World} (hc : Ctx W B w) (buf : BufAt 83 [] B b l w) (t : List UInt8) (h : (((m2 : Int) == 0) && ((m3 : Int) == 0) && s.toList.isEmpty && ((m1 : Int) == 1)) = false) :
    Calls Tryz.prog 84 #[.pointer (some ⟨b, 0, none⟩), .agg #[.int .i64 7, .string s, .slice so1 m1 p1, .slice so2 m2 p2, .slice so3 m3 p3, .int .i64 line]] w (WPost B b l (t) (false) w) := by
  obtain ⟨W1, hW1⟩ : ∃ W1, W1 = w.alloc (.cells #[.int .i64 7, .string s, .slice so1 m1 p1, .slice so2 m2 p2, .slice so3 m3 p3, .int .i64 line] 103) := ⟨_, rfl⟩
  have hal : Below w.heap.size w W1 := by rw [hW1]; exact (RowKit.Below.refl _ _).alloc (Nat.le_refl _) _
  have hrow : W1.heap[w.heap.size]? = some (.cells #[.int .i64 7, .string s, .slice so1 m1 p1, .slice so2 m2 p2, .slice so3 m3 p3, .int .i64 line] 103 (0, 0)) := by rw [hW1]; exact heap_alloc_new _ _
  obtain ⟨c0, c1, c2, c3, c4, c5⟩ := st_cells hrow
  have A0 := Lib.hid (WAt.start (hc.low hal) (buf.below hal))
  have HAL := Lib.hid hal
  have HROW := Lib.hid hrow
  have HBw := Lib.hid hc.Bw
  have HNE : Hid (w.heap.size ≠ b) := Lib.hid (by have := buf.lt; omega)
  clear hc buf hal hrow
  generalize yb2 : ((m2 : Int) == 0) = b2 at *
  generalize yb3 : ((m3 : Int) == 0) = b3 at *
  generalize ys0 : s.toList.isEmpty = s0 at *
  generalize ye1 : ((m1 : Int) == 1) = e1 at *
  cases b2 <;> cases b3 <;> cases s0 <;> cases e1 <;>
  first
  | (exfalso; revert h; decide)
  | (go_enter Tryz.func84, Tryz.ntmps84
     go_wp2_with fail
     rw [← hW1]
     clear hW1
     go_wp2_with (first | (go_at_call 18; (with_reducible refine (need_yes _).mono ?_); rintro e w' ⟨rfl, rfl⟩) | (go_at_call 18; (with_reducible refine (need_no _).mono ?_); rintro e w' ⟨rfl, rfl⟩))
     exact ⟨rfl, fall rfl (RowKit.Below.refl _ _) HAL.out HBw.out⟩)

set_option maxRecDepth 100000 in
set_option maxHeartbeats 2000000 in
theorem stmt_bad_k {W : World} {k line : Int} {s : ByteArray} {m1 m2 m3 : Nat} {so1 so2 so3 : Option Addr} {p1 p2 p3 B b : Nat} {l : List UInt8} {w : World} (hc : Ctx W B w) (buf : BufAt 83 [] B b l w) (t : List UInt8) (h : (((m2 : Int) == 0) && ((m3 : Int) == 0) && s.toList.isEmpty && ((m1 : Int) == 1)) = false) (h1 : k ≠ 1) (h2 : k ≠ 2) (h3 : k ≠ 3) (h4 : k ≠ 4) (h5 : k ≠ 5) (h6 : k ≠ 6) (h7 : k ≠ 7) :
    Calls Tryz.prog 84 #[.pointer (some ⟨b, 0, none⟩), .agg #[.int .i64 k, .string s, .slice so1 m1 p1, .slice so2 m2 p2, .slice so3 m3 p3, .int .i64 line]] w (WPost B b l (t) (false) w) := by
  obtain ⟨W1, hW1⟩ : ∃ W1, W1 = w.alloc (.cells #[.int .i64 k, .string s, .slice so1 m1 p1, .slice so2 m2 p2, .slice so3 m3 p3, .int .i64 line] 103) := ⟨_, rfl⟩
  have hal : Below w.heap.size w W1 := by rw [hW1]; exact (RowKit.Below.refl _ _).alloc (Nat.le_refl _) _
  have hrow : W1.heap[w.heap.size]? = some (.cells #[.int .i64 k, .string s, .slice so1 m1 p1, .slice so2 m2 p2, .slice so3 m3 p3, .int .i64 line] 103 (0, 0)) := by rw [hW1]; exact heap_alloc_new _ _
  obtain ⟨c0, c1, c2, c3, c4, c5⟩ := st_cells hrow
  have A0 := Lib.hid (WAt.start (hc.low hal) (buf.below hal))
  have HAL := Lib.hid hal
  have HROW := Lib.hid hrow
  have HBw := Lib.hid hc.Bw
  have HNE : Hid (w.heap.size ≠ b) := Lib.hid (by have := buf.lt; omega)
  have g1 : (k == 1) = false := beq_eq_false_iff_ne.2 h1
  have g2 : (k == 2) = false := beq_eq_false_iff_ne.2 h2
  have g3 : (k == 3) = false := beq_eq_false_iff_ne.2 h3
  have g4 : (k == 4) = false := beq_eq_false_iff_ne.2 h4
  have g5 : (k == 5) = false := beq_eq_false_iff_ne.2 h5
  have g6 : (k == 6) = false := beq_eq_false_iff_ne.2 h6
  have g7 : (k == 7) = false := beq_eq_false_iff_ne.2 h7
  clear h1 h2 h3 h4 h5 h6 h7
  generalize q1 : (k == 1) = z1 at *
  subst g1
  generalize q2 : (k == 2) = z2 at *
  subst g2
  generalize q3 : (k == 3) = z3 at *
  subst g3
  generalize q4 : (k == 4) = z4 at *
  subst g4
  generalize q5 : (k == 5) = z5 at *
  subst g5
  generalize q6 : (k == 6) = z6 at *
  subst g6
  generalize q7 : (k == 7) = z7 at *
  subst g7
  clear hc buf hal hrow
  generalize yb2 : ((m2 : Int) == 0) = b2 at *
  generalize yb3 : ((m3 : Int) == 0) = b3 at *
  generalize ys0 : s.toList.isEmpty = s0 at *
  generalize ye1 : ((m1 : Int) == 1) = e1 at *
  cases b2 <;> cases b3 <;> cases s0 <;> cases e1 <;>
  first
  | (exfalso; revert h; decide)
  | (go_enter Tryz.func84, Tryz.ntmps84
     go_wp2_with fail
     rw [← hW1]
     clear hW1
     go_wp2_with (first | (go_at_call 18; (with_reducible refine (need_yes _).mono ?_); rintro e w' ⟨rfl, rfl⟩) | (go_at_call 18; (with_reducible refine (need_no _).mono ?_); rintro e w' ⟨rfl, rfl⟩))
     exact ⟨rfl, fall rfl (RowKit.Below.refl _ _) HAL.out HBw.out⟩)

set_option maxRecDepth 100000 in
set_option maxHeartbeats 2000000 in
theorem stmt_bad_2p {W : World} {k line : Int} {s : ByteArray} {x : Ex} {so1 so2 so3 : Option Addr} {p1 p2 p3 B b : Nat} {l : List UInt8} {w : World} (hc : Ctx W B w) (buf : BufAt 83 [] B b l w) (hx : KidAt W so1 0 x) (hs : s.toList.isEmpty = true) (hpl : isPlace x.kind = false) (t : List UInt8) :
    Calls Tryz.prog 84 #[.pointer (some ⟨b, 0, none⟩), .agg #[.int .i64 2, .string s, .slice so1 2 p1, .slice so2 0 p2, .slice so3 0 p3, .int .i64 line]] w (WPost B b l (t) (false) w) := by
  obtain ⟨W1, hW1⟩ : ∃ W1, W1 = w.alloc (.cells #[.int .i64 2, .string s, .slice so1 2 p1, .slice so2 0 p2, .slice so3 0 p3, .int .i64 line] 103) := ⟨_, rfl⟩
  have hal : Below w.heap.size w W1 := by rw [hW1]; exact (RowKit.Below.refl _ _).alloc (Nat.le_refl _) _
  have hrow : W1.heap[w.heap.size]? = some (.cells #[.int .i64 2, .string s, .slice so1 2 p1, .slice so2 0 p2, .slice so3 0 p3, .int .i64 line] 103 (0, 0)) := by rw [hW1]; exact heap_alloc_new _ _
  obtain ⟨c0, c1, c2, c3, c4, c5⟩ := st_cells hrow
  have A0 := Lib.hid (WAt.start (hc.low hal) (buf.below hal))
  have HAL := Lib.hid hal
  have HROW := Lib.hid hrow
  have HBw := Lib.hid hc.Bw
  have HNE : Hid (w.heap.size ≠ b) := Lib.hid (by have := buf.lt; omega)
  have HKX := Lib.hid hx
  clear hc buf hx hal hrow
  obtain ⟨ga, oa, soa, capa, rfl, a0, a1, a2, a3, a4, hta⟩ := kid_cells HKX.out A0.out.ctx.old
  simp only [Nat.zero_mul, Nat.add_zero] at a0 a1 a2 a3 a4
  have HPL := Lib.hid (fun w => place_any x.kind x.num x.str soa x.kids.length capa x.line w)
  rw [hpl] at HPL
  clear hta hpl
  obtain ⟨xk, xs, xn, xkids, xline⟩ := x
  simp only [Ex.kind, Ex.str, Ex.num, Ex.kids, Ex.line] at a0 a1 a2 a3 a4 HPL
  go_enter Tryz.func84, Tryz.ntmps84
  go_wp2_with fail
  rw [← hW1]
  clear hW1
  go_wp2_with (first
    | (go_at_call 18; (with_reducible refine (need_yes _).mono ?_); rintro e w' ⟨rfl, rfl⟩)
    | (go_at_call 111; (with_reducible refine (HPL.out _).mono ?_); rintro e w2 ⟨rfl, hb2⟩; have A1 := Lib.hid (A0.out.alloc hb2); clear hb2)
    | (go_at_call 18; (with_reducible refine (need_no _).mono ?_); rintro e w' ⟨rfl, rfl⟩))
  exact ⟨rfl, fall rfl A1.out.bel HAL.out HBw.out⟩

set_option maxRecDepth 100000 in
set_option maxHeartbeats 2000000 in
theorem stmt_no {W : World} {k line : Int} {s : ByteArray} {x : Ex} {so1 so2 so3 : Option Addr} {p1 p2 p3 B b : Nat} {l : List UInt8} {w : World} (hc : Ctx W B w) (buf : BufAt 83 [] B b l w) (hs : s.toList.isEmpty = true) (t : List UInt8) (h : ∀ w, Ctx W B w → BufAt 83 [] B b l w → Calls Tryz.prog 112 #[.pointer (some ⟨b, 0, none⟩), .agg #[.int .i64 k, .string s, .slice so1 1 p1, .slice so2 0 p2, .slice so3 0 p3, .int .i64 line]] w (WPost B b l t false w)) (h1 : k ≠ 1) (h2 : k ≠ 2) (h3 : k ≠ 3) (h4 : k ≠ 4) (h5 : k ≠ 5) (h6 : k ≠ 6) (h7 : k ≠ 7) :
    Calls Tryz.prog 84 #[.pointer (some ⟨b, 0, none⟩), .agg #[.int .i64 k, .string s, .slice so1 1 p1, .slice so2 0 p2, .slice so3 0 p3, .int .i64 line]] w (WPost B b l (t) (false) w) := by
  obtain ⟨W1, hW1⟩ : ∃ W1, W1 = w.alloc (.cells #[.int .i64 k, .string s, .slice so1 1 p1, .slice so2 0 p2, .slice so3 0 p3, .int .i64 line] 103) := ⟨_, rfl⟩
  have hal : Below w.heap.size w W1 := by rw [hW1]; exact (RowKit.Below.refl _ _).alloc (Nat.le_refl _) _
  have hrow : W1.heap[w.heap.size]? = some (.cells #[.int .i64 k, .string s, .slice so1 1 p1, .slice so2 0 p2, .slice so3 0 p3, .int .i64 line] 103 (0, 0)) := by rw [hW1]; exact heap_alloc_new _ _
  obtain ⟨c0, c1, c2, c3, c4, c5⟩ := st_cells hrow
  have A0 := Lib.hid (WAt.start (hc.low hal) (buf.below hal))
  have HAL := Lib.hid hal
  have HROW := Lib.hid hrow
  have HBw := Lib.hid hc.Bw
  have HNE : Hid (w.heap.size ≠ b) := Lib.hid (by have := buf.lt; omega)
  have HCALL := Lib.hid (A0.out.next (by have h := h W1 A0.out.ctx (by have := A0.out.buf; rwa [List.append_nil] at this); rw [List.append_nil]; exact h))
  have g1 : (k == 1) = false := beq_eq_false_iff_ne.2 h1
  have g2 : (k == 2) = false := beq_eq_false_iff_ne.2 h2
  have g3 : (k == 3) = false := beq_eq_false_iff_ne.2 h3
  have g4 : (k == 4) = false := beq_eq_false_iff_ne.2 h4
  have g5 : (k == 5) = false := beq_eq_false_iff_ne.2 h5
  have g6 : (k == 6) = false := beq_eq_false_iff_ne.2 h6
  have g7 : (k == 7) = false := beq_eq_false_iff_ne.2 h7
  clear h1 h2 h3 h4 h5 h6 h7
  generalize q1 : (k == 1) = z1 at *
  subst g1
  generalize q2 : (k == 2) = z2 at *
  subst g2
  generalize q3 : (k == 3) = z3 at *
  subst g3
  generalize q4 : (k == 4) = z4 at *
  subst g4
  generalize q5 : (k == 5) = z5 at *
  subst g5
  generalize q6 : (k == 6) = z6 at *
  subst g6
  generalize q7 : (k == 7) = z7 at *
  subst g7
  clear hc buf h hal hrow
  go_enter Tryz.func84, Tryz.ntmps84
  go_wp2_with fail
  rw [← hW1]
  clear hW1
  go_wp2_with (go_at_call 18; (with_reducible refine (need_yes _).mono ?_); rintro e w' ⟨rfl, rfl⟩)
  go_at_call 112
  refine HCALL.out.mono ?_
  intro e w3 hp
  obtain ⟨rfl, p⟩ := hp
  exact ⟨rfl, fall rfl p HAL.out HBw.out⟩
end Go.Proofs.YtggjeecpadnihaaGreatDoor

namespace Go.Proofs.YtggjeecpadnihaaGreatDoor
open Go Go.Proofs Go.Eng Go.RowKit Go.Sx Go.Deep
set_option linter.unusedVariables false
set_option linter.unusedSimpArgs false

theorem placeB_one (x : Ex) (l : List Ex) : placeB (x :: l) = isPlace x.kind := rfl
theorem int_zero (m : Nat) : ((m : Int) == 0) = decide (m = 0) := by rw [Bool.eq_iff_iff]; simp
theorem int_one (m : Nat) : ((m : Int) == 1) = decide (m = 1) := by rw [Bool.eq_iff_iff]; simp; omega
theorem int_two (m : Nat) : ((m : Int) == 2) = decide (m = 2) := by rw [Bool.eq_iff_iff]; simp; omega
theorem int_le1 (m : Nat) : decide ((m : Int) ≤ 1) = decide (m ≤ 1) := by rw [Bool.eq_iff_iff]; simp; omega
theorem WPost.cast {B b : Nat} {l t t' : List UInt8} {ok ok' : Bool} {P : Program} {f : FuncId} {args : Array Value} {w : World} (h : Calls P f args w (WPost B b l t ok w)) (ho : ok = ok') (ht : ok' = true → t = t') : Calls P f args w (WPost B b l t' ok' w) := by
  subst ho
  cases ok with
  | true => rw [← ht rfl]; exact h
  | false => exact h

set_option maxRecDepth 100000 in
set_option maxHeartbeats 2000000 in
theorem stmt_all (W : World) : ∀ (m : Nat) (x : Smt), x.cnt ≤ m → StmtC W x := by
  intro m
  induction m with
  | zero => intro x hx; have := cntS_pos x; omega
  | succ m ih =>
  intro x hx cs B b l w hin hc buf hl
  obtain ⟨k, s, es, body, els, line⟩ := x
  simp only [StIn] at hin
  obtain ⟨so1, p1, so2, p2, so3, p3, rfl, ⟨_, hl1, hl2, hl3⟩, hk, hb, he⟩ := hin
  simp only [Smt.cnt] at hx hl
  have Hb : ∀ (i : Nat) y, body[i]? = some y → StmtC W y := fun i y hy => ih y (by have := cntS_get hy; omega)
  have He : ∀ (i : Nat) y, els[i]? = some y → StmtC W y := fun i y hy => ih y (by have := cntS_get hy; omega)
  simp only [Smt.txt, Smt.right]
  -- where the parts are wrong: not right
  have bad : ∀ {t : List UInt8}, (rightSK k s es body.length els.length) = false → Calls Tryz.prog 84 #[.pointer (some ⟨b, 0, none⟩), .agg ⟨[.int .i64 k, .string s, .slice so1 es.length p1, .slice so2 body.length p2, .slice so3 els.length p3, .int .i64 line]⟩] w (WPost B b l t false w) →
      Calls Tryz.prog 84 #[.pointer (some ⟨b, 0, none⟩), .agg ⟨[.int .i64 k, .string s, .slice so1 es.length p1, .slice so2 body.length p2, .slice so3 els.length p3, .int .i64 line]⟩] w (WPost B b l (txtSK k s es (txtS body) (txtS els)) (rightL es && (rightS body && rightS els) && rightSK k s es body.length els.length) w) :=
    fun h hh => WPost.cast hh (by rw [h, Bool.and_false]) (fun h2 => by rw [h, Bool.and_false] at h2; cases h2)
  have nil2 : body.length = 0 → body = [] := List.eq_nil_of_length_eq_zero
  have nil3 : els.length = 0 → els = [] := List.eq_nil_of_length_eq_zero
  by_cases h1 : k = 1
  · subst h1
    by_cases hsh : (decide (body.length = 0) && decide (els.length = 0) && decide (es.length = 1)) = true
    · simp only [Bool.and_eq_true, decide_eq_true_eq] at hsh
      obtain rfl := nil2 hsh.1.1
      obtain rfl := nil3 hsh.1.2
      obtain ⟨x, rfl⟩ := one_kid hsh.2
      refine WPost.cast (stmt_1 (k := 0) (p1 := p1) (p2 := p2) (p3 := p3) (so2 := so2) (so3 := so3) (s := s) (line := line) hc buf (kids_at0 hk 0 x rfl) (by simp only [cntL] at hl; omega)) ?_ ?_
      · simp [rightL, rightS, rightSK, Bool.and_comm]
      · intro _; simp [txtSK, exT]
    · have hf := Bool.eq_false_iff.2 hsh
      refine bad ?_ (stmt_bad_1 (k := 0) hc buf [] (by rw [int_zero, int_zero, int_one]; exact hf))
      unfold rightSK
      rw [if_pos rfl]
      generalize decide (body.length = 0) = q1 at *; generalize decide (els.length = 0) = q2 at *; generalize decide (es.length = 1) = q3 at *; generalize nameB s = q4 at *
      cases q1 <;> cases q2 <;> cases q3 <;> cases q4 <;> simp_all
  by_cases h2 : k = 2
  · subst h2
    by_cases hsh : (decide (body.length = 0) && decide (els.length = 0) && s.toList.isEmpty && decide (es.length = 2)) = true
    · simp only [Bool.and_eq_true, decide_eq_true_eq] at hsh
      obtain rfl := nil2 hsh.1.1.1
      obtain rfl := nil3 hsh.1.1.2
      obtain ⟨x, y, rfl⟩ := two_kids hsh.2
      have hs := hsh.1.2
      have hs0 : decide (s.size = 0) = true := by rw [size_empty]; exact hs
      have hse : s = ByteArray.empty := ByteArray.size_eq_zero_iff.1 (of_decide_eq_true hs0)
      cases hpl : isPlace x.kind with
      | false =>
        refine bad ?_ (stmt_bad_2p (k := 0) (p1 := p1) (p2 := p2) (p3 := p3) (so2 := so2) (so3 := so3) (line := line) hc buf (kids_at0 hk 0 x rfl) hs hpl [])
        unfold rightSK
        rw [if_neg (by omega), if_pos rfl, placeB_one, hpl, Bool.and_false]
      | true =>
        refine WPost.cast (stmt_2 (k := 0) (p1 := p1) (p2 := p2) (p3 := p3) (so2 := so2) (so3 := so3) (line := line) hc buf (kids_at0 hk 0 x rfl) (kids_at0 hk 1 y rfl) hs hpl (by simp only [cntL] at hl; omega)) ?_ ?_
        · simp [rightL, rightS, rightSK, placeB_one, hpl, hse]
        · intro _; simp [txtSK, exT]
    · have hf := Bool.eq_false_iff.2 hsh
      refine bad ?_ (stmt_bad_2 (k := 0) hc buf [] (by rw [int_zero, int_zero, int_two]; exact hf))
      unfold rightSK
      rw [if_neg (by omega), if_pos rfl, size_empty]
      generalize decide (body.length = 0) = q1 at *; generalize decide (els.length = 0) = q2 at *; generalize decide (es.length = 2) = q3 at *; generalize s.toList.isEmpty = q4 at *; generalize placeB es = q5 at *
      cases q1 <;> cases q2 <;> cases q3 <;> cases q4 <;> cases q5 <;> simp_all
  by_cases h3 : k = 3
  · subst h3
    by_cases hsh : (decide (els.length = 0) && s.toList.isEmpty && decide (es.length = 1)) = true
    · simp only [Bool.and_eq_true, decide_eq_true_eq] at hsh
      obtain rfl := nil3 hsh.1.1
      obtain ⟨x, rfl⟩ := one_kid hsh.2
      have hs := hsh.1.2
      have hs0 : decide (s.size = 0) = true := by rw [size_empty]; exact hs
      have hse : s = ByteArray.empty := ByteArray.size_eq_zero_iff.1 (of_decide_eq_true hs0)
      refine WPost.cast (stmt_3 (k := 0) (els := []) (x := x) (p1 := p1) (p2 := p2) (p3 := p3) (so1 := so1) (so2 := so2) (so3 := so3) (s := s) (line := line) hc buf (fun w' h1 h2 => branch_3 (k := 0) (p1 := p1) (p2 := p2) (p3 := p3) (els := []) ⟨kids_at0 hk 0 x rfl, hb, he, Hb, He, hl2, hl3, h1, h2, by simp only [cntL] at hl; omega⟩) hs) ?_ ?_
      · simp [rightL, rightS, rightSK, hse]
      · intro _; simp [txtSK, exT]
    · have hf := Bool.eq_false_iff.2 hsh
      refine bad ?_ (stmt_bad_3 (k := 0) hc buf [] (by rw [int_zero, int_one]; exact hf))
      unfold rightSK
      rw [if_neg (by omega), if_neg (by omega), if_pos (by omega), size_empty]
      generalize decide (els.length = 0) = q2 at *; generalize decide (es.length = 1) = q3 at *; generalize s.toList.isEmpty = q4 at *
      cases q2 <;> cases q3 <;> cases q4 <;> simp_all
  by_cases h5 : k = 5
  · subst h5
    by_cases hsh : (decide (els.length = 0) && s.toList.isEmpty && decide (es.length = 1)) = true
    · simp only [Bool.and_eq_true, decide_eq_true_eq] at hsh
      obtain rfl := nil3 hsh.1.1
      obtain ⟨x, rfl⟩ := one_kid hsh.2
      have hs := hsh.1.2
      have hs0 : decide (s.size = 0) = true := by rw [size_empty]; exact hs
      have hse : s = ByteArray.empty := ByteArray.size_eq_zero_iff.1 (of_decide_eq_true hs0)
      refine WPost.cast (stmt_5 (k := 0) (els := []) (x := x) (p1 := p1) (p2 := p2) (p3 := p3) (so1 := so1) (so2 := so2) (so3 := so3) (s := s) (line := line) hc buf (fun w' h1 h2 => branch_5 (k := 0) (p1 := p1) (p2 := p2) (p3 := p3) (els := []) ⟨kids_at0 hk 0 x rfl, hb, he, Hb, He, hl2, hl3, h1, h2, by simp only [cntL] at hl; omega⟩) hs) ?_ ?_
      · simp [rightL, rightS, rightSK, hse]
      · intro _; simp [txtSK, exT]
    · have hf := Bool.eq_false_iff.2 hsh
      refine bad ?_ (stmt_bad_5 (k := 0) hc buf [] (by rw [int_zero, int_one]; exact hf))
      unfold rightSK
      rw [if_neg (by omega), if_neg (by omega), if_pos (by omega), size_empty]
      generalize decide (els.length = 0) = q2 at *; generalize decide (es.length = 1) = q3 at *; generalize s.toList.isEmpty = q4 at *
      cases q2 <;> cases q3 <;> cases q4 <;> simp_all
  by_cases h4 : k = 4
  · subst h4
    by_cases hsh : (s.toList.isEmpty && decide (es.length = 1)) = true
    · simp only [Bool.and_eq_true, decide_eq_true_eq] at hsh
      obtain ⟨x, rfl⟩ := one_kid hsh.2
      have hs := hsh.1
      have hs0 : decide (s.size = 0) = true := by rw [size_empty]; exact hs
      have hse : s = ByteArray.empty := ByteArray.size_eq_zero_iff.1 (of_decide_eq_true hs0)
      refine WPost.cast (stmt_4 (k := 0) (x := x) (p1 := p1) (p2 := p2) (p3 := p3) (so1 := so1) (so2 := so2) (so3 := so3) (s := s) (line := line) hc buf (fun w' h1 h2 => branch_4 (k := 0) (p1 := p1) (p2 := p2) (p3 := p3) ⟨kids_at0 hk 0 x rfl, hb, he, Hb, He, hl2, hl3, h1, h2, by simp only [cntL] at hl; omega⟩) hs) ?_ ?_
      · simp [rightL, rightSK, hse, Bool.and_assoc]
      · intro _; simp [txtSK, exT]
    · have hf := Bool.eq_false_iff.2 hsh
      refine bad ?_ (stmt_bad_4 (k := 0) hc buf [] (by rw [int_one]; exact hf))
      unfold rightSK
      rw [if_neg (by omega), if_neg (by omega), if_neg (by omega), if_pos rfl, size_empty]
      generalize decide (es.length = 1) = q3 at *; generalize s.toList.isEmpty = q4 at *
      cases q3 <;> cases q4 <;> simp_all
  by_cases h6 : k = 6
  · subst h6
    by_cases hsh : (decide (body.length = 0) && decide (els.length = 0) && s.toList.isEmpty && decide (es.length ≤ 1)) = true
    · simp only [Bool.and_eq_true, decide_eq_true_eq] at hsh
      obtain rfl := nil2 hsh.1.1.1
      obtain rfl := nil3 hsh.1.1.2
      have hs := hsh.1.2
      have hs0 : decide (s.size = 0) = true := by rw [size_empty]; exact hs
      have hse : s = ByteArray.empty := ByteArray.size_eq_zero_iff.1 (of_decide_eq_true hs0)
      refine WPost.cast (stmt_6 (k := 0) (p1 := p1) (p2 := p2) (p3 := p3) (so2 := so2) (so3 := so3) (line := line) hc buf hk hs hsh.2 (by omega)) ?_ ?_
      · simp [rightS, rightSK, hse, hsh.2]
      · intro _
        match es, hsh.2 with
        | [], _ => simp [txtSK, retT]
        | [x], _ => simp [txtSK, retT, exT]
    · have hf := Bool.eq_false_iff.2 hsh
      refine bad ?_ (stmt_bad_6 (k := 0) hc buf [] (by rw [int_zero, int_zero, int_le1]; exact hf))
      unfold rightSK
      rw [if_neg (by omega), if_neg (by omega), if_neg (by omega), if_neg (by omega), if_pos rfl, size_empty]
      generalize decide (body.length = 0) = q1 at *; generalize decide (els.length = 0) = q2 at *; generalize decide (es.length ≤ 1) = q3 at *; generalize s.toList.isEmpty = q4 at *
      cases q1 <;> cases q2 <;> cases q3 <;> cases q4 <;> simp_all
  by_cases h7 : k = 7
  · subst h7
    by_cases hsh : (decide (body.length = 0) && decide (els.length = 0) && s.toList.isEmpty && decide (es.length = 1)) = true
    · simp only [Bool.and_eq_true, decide_eq_true_eq] at hsh
      obtain rfl := nil2 hsh.1.1.1
      obtain rfl := nil3 hsh.1.1.2
      obtain ⟨x, rfl⟩ := one_kid hsh.2
      have hs := hsh.1.2
      have hs0 : decide (s.size = 0) = true := by rw [size_empty]; exact hs
      have hse : s = ByteArray.empty := ByteArray.size_eq_zero_iff.1 (of_decide_eq_true hs0)
      refine WPost.cast (stmt_7 (k := 0) (p1 := p1) (p2 := p2) (p3 := p3) (so2 := so2) (so3 := so3) (line := line) hc buf (kids_at0 hk 0 x rfl) hs (by simp only [cntL] at hl; omega)) ?_ ?_
      · simp [rightL, rightS, rightSK, hse]
      · intro _; simp [txtSK, exT]
    · have hf := Bool.eq_false_iff.2 hsh
      refine bad ?_ (stmt_bad_7 (k := 0) hc buf [] (by rw [int_zero, int_zero, int_one]; exact hf))
      unfold rightSK
      rw [if_neg (by omega), if_neg (by omega), if_neg (by omega), if_neg (by omega), if_neg (by omega), if_pos rfl, size_empty]
      generalize decide (body.length = 0) = q1 at *; generalize decide (els.length = 0) = q2 at *; generalize decide (es.length = 1) = q3 at *; generalize s.toList.isEmpty = q4 at *
      cases q1 <;> cases q2 <;> cases q3 <;> cases q4 <;> simp_all
  have hno : rightSK k s es body.length els.length = false := by
    unfold rightSK
    rw [if_neg h1, if_neg h2, if_neg (by omega), if_neg h4, if_neg h6, if_neg h7]
  by_cases hsh : (decide (body.length = 0) && decide (els.length = 0) && s.toList.isEmpty && decide (es.length = 1)) = true
  · simp only [Bool.and_eq_true, decide_eq_true_eq] at hsh
    obtain rfl := nil2 hsh.1.1.1
    obtain rfl := nil3 hsh.1.1.2
    obtain ⟨x, rfl⟩ := one_kid hsh.2
    exact bad hno (stmt_no (x := x) (p1 := p1) (p2 := p2) (p3 := p3) (so1 := so1) (so2 := so2) (so3 := so3) (line := line) hc buf hsh.1.2 [] (fun w' q1 q2 => branch_no (p1 := p1) (p2 := p2) (p3 := p3) (x := x) (body := []) (els := []) ⟨kids_at0 hk 0 x rfl, hb, he, Hb, He, hl2, hl3, q1, q2, by simp only [cntL] at hl; omega⟩ h3 h4 h5 []) h1 h2 h3 h4 h5 h6 h7)
  · have hf := Bool.eq_false_iff.2 hsh
    exact bad hno (stmt_bad_k hc buf [] (by rw [int_zero, int_zero, int_one]; exact hf) h1 h2 h3 h4 h5 h6 h7)
theorem stmt_any (W : World) (x : Smt) : StmtC W x := stmt_all W x.cnt x (Nat.le_refl _)
end Go.Proofs.YtggjeecpadnihaaGreatDoor
