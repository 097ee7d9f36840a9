/- Programs as plain trees: which may be told, and their texts. -/
import Derived.Test.YtggjeecpadnihaaGreatDoorSxB
import Derived.Test.YtggjeecpadnihaaGreatDoorSyA
import Derived.Test.YtggjeecpadnihaaGreatDoorSyB
import Derived.Test.YtggjeecpadnihaaGreatDoorShelfB
import Derived.Laws.Strings2
namespace Go.Sx
set_option linter.unusedVariables false
set_option linter.unusedSimpArgs false

/-- A statement. -/
inductive Smt where
  | mk (kind : Int) (s : ByteArray) (es : List Ex) (body els : List Smt) (line : Int)
/-- A name with its type. -/
structure Pm where
  name : ByteArray
  typ : ByteArray
structure Rc where
  name : ByteArray
  fields : List Pm
  line : Int
structure Fu where
  name : ByteArray
  params : List Pm
  result : ByteArray
  body : List Smt
  line : Int
structure Pg where
  recs : List Rc
  funcs : List Fu

mutual
def Smt.cnt : Smt → Nat
  | .mk _ _ es body els _ => cntL es + cntS body + cntS els + 1
def cntS : List Smt → Nat
  | [] => 0
  | x :: l => x.cnt + cntS l
end
mutual
def Smt.depth : Smt → Nat
  | .mk _ _ es body els _ => max (depthL es) (max (depthS body) (depthS els)) + 1
def depthS : List Smt → Nat
  | [] => 0
  | x :: l => max x.depth (depthS l)
end
/-- Is the first of them a place? -/
def placeB : List Ex → Bool
  | [] => false
  | e :: _ => (e.kind == 4) || (e.kind == 8) || (e.kind == 9)
/-- May a statement be told, its parts apart? b, e: how many statements it has. -/
def rightSK (k : Int) (s : ByteArray) (es : List Ex) (b e : Nat) : Bool :=
  if k = 1 then nameB s && decide (es.length = 1) && (decide (b = 0) && decide (e = 0))
  else if k = 2 then decide (s.size = 0) && decide (es.length = 2) && (decide (b = 0) && decide (e = 0)) && placeB es
  else if k = 3 ∨ k = 5 then decide (s.size = 0) && decide (es.length = 1) && decide (e = 0)
  else if k = 4 then decide (s.size = 0) && decide (es.length = 1)
  else if k = 6 then decide (s.size = 0) && decide (es.length ≤ 1) && (decide (b = 0) && decide (e = 0))
  else if k = 7 then decide (s.size = 0) && decide (es.length = 1) && (decide (b = 0) && decide (e = 0))
  else false
mutual
def Smt.right : Smt → Bool
  | .mk k s es body els _ => rightL es && (rightS body && rightS els) && rightSK k s es body.length els.length
def rightS : List Smt → Bool
  | [] => true
  | x :: l => x.right && rightS l
end
def exT (es : List Ex) (i : Nat) : List UInt8 := match es[i]? with
  | some e => e.txt
  | none => []
def txtSK (k : Int) (s : ByteArray) (es : List Ex) (b e : List UInt8) : List UInt8 :=
  if k = 1 then [108, 101, 116, 32] ++ s.data.toList ++ [32, 61, 32] ++ exT es 0 ++ [59, 10]
  else if k = 2 then exT es 0 ++ [32, 61, 32] ++ exT es 1 ++ [59, 10]
  else if k = 3 then [105, 102, 32] ++ exT es 0 ++ [32, 123, 10] ++ b ++ [125, 10]
  else if k = 4 then [105, 102, 32] ++ exT es 0 ++ [32, 123, 10] ++ b ++ [125, 32, 101, 108, 115, 101, 32, 123, 10] ++ e ++ [125, 10]
  else if k = 5 then [119, 104, 105, 108, 101, 32] ++ exT es 0 ++ [32, 123, 10] ++ b ++ [125, 10]
  else if k = 6 then (if es.length = 0 then [114, 101, 116, 117, 114, 110, 59, 10] else [114, 101, 116, 117, 114, 110, 32] ++ exT es 0 ++ [59, 10])
  else if k = 7 then exT es 0 ++ [59, 10]
  else []
mutual
def Smt.txt : Smt → List UInt8
  | .mk k s es body els _ => txtSK k s es (txtS body) (txtS els)
def txtS : List Smt → List UInt8
  | [] => []
  | x :: l => x.txt ++ txtS l
end
/-- What stands between [ ]: a name at the end. -/
def typF : Nat → List UInt8 → List UInt8
  | 0, l => l
  | n + 1, l => if (l.head? == some 91 && l.getLast? == some 93) && decide (2 < l.length) then typF n l.tail.dropLast else l
def typB (s : ByteArray) : Bool := nameB ⟨(typF s.size s.data.toList).toArray⟩
def Pm.right (p : Pm) : Bool := nameB p.name && typB p.typ
def Pm.txt (p : Pm) : List UInt8 := p.name.data.toList ++ ([58, 32] ++ p.typ.data.toList)
def rightP (l : List Pm) : Bool := l.all Pm.right
def Rc.right (r : Rc) : Bool := nameB r.name && decide (0 < r.fields.length) && rightP r.fields
def Rc.txt (r : Rc) : List UInt8 := [114, 101, 99, 111, 114, 100, 32] ++ r.name.data.toList ++ [32, 123, 32] ++ joinL (r.fields.map Pm.txt) ++ [32, 125, 10]
def Fu.right (f : Fu) : Bool := nameB f.name && rightP f.params && (decide (f.result.size = 0) || typB f.result) && rightS f.body && decide (depthS f.body ≤ 24)
def resT (s : ByteArray) : List UInt8 := if s.size = 0 then [] else [58, 32] ++ s.data.toList
def Fu.txt (f : Fu) : List UInt8 := [102, 110, 32] ++ f.name.data.toList ++ [40] ++ joinL (f.params.map Pm.txt) ++ [41] ++ resT f.result ++ [32, 123, 10] ++ txtS f.body ++ [125, 10]
def Pg.right (p : Pg) : Bool := p.recs.all Rc.right && p.funcs.all Fu.right
def Pg.txt (p : Pg) : List UInt8 := p.recs.flatMap Rc.txt ++ p.funcs.flatMap Fu.txt

/-! ### Sizes -/
theorem cntS_pos (x : Smt) : 1 ≤ x.cnt := by cases x; simp [Smt.cnt]
theorem cntS_get {l : List Smt} {i : Nat} {x : Smt} (h : l[i]? = some x) : x.cnt ≤ cntS l := by
  induction l generalizing i with
  | nil => simp at h
  | cons y l ih =>
    cases i with
    | zero => simp at h; subst h; simp [cntS]
    | succ i => simp at h; have := ih h; simp [cntS]; omega
theorem cntS_app (a b : List Smt) : cntS (a ++ b) = cntS a + cntS b := by
  induction a with
  | nil => simp [cntS]
  | cons x a ih => simp [cntS, ih]; omega
theorem rightS_iff {l : List Smt} : rightS l = true ↔ ∀ x ∈ l, x.right = true := by
  induction l with
  | nil => simp [rightS]
  | cons x l ih => simp [rightS, ih]
theorem txtS_app (a b : List Smt) : txtS (a ++ b) = txtS a ++ txtS b := by
  induction a with
  | nil => simp [txtS]
  | cons x a ih => simp [txtS, ih]
theorem depthS_le {l : List Smt} {m : Nat} : (∀ x ∈ l, x.depth ≤ m) → depthS l ≤ m := by
  induction l with
  | nil => intro _; simp [depthS]
  | cons x l ih => intro h; simp only [depthS]; have := h x (by simp); have := ih (fun e he => h e (by simp [he])); omega
theorem depthS_app (a b : List Smt) : depthS (a ++ b) = max (depthS a) (depthS b) := by
  induction a with
  | nil => simp [depthS]
  | cons x a ih => simp only [List.cons_append, depthS, ih]; omega
theorem rightS_app (a b : List Smt) : rightS (a ++ b) = (rightS a && rightS b) := by
  induction a with
  | nil => simp [rightS]
  | cons x a ih => simp [rightS, ih, Bool.and_assoc]
theorem takeS {l : List Smt} {i : Nat} {x : Smt} (h : l[i]? = some x) : l.take (i + 1) = l.take i ++ [x] := by rw [List.take_add_one, h]; rfl
theorem rightS_take {l : List Smt} {i : Nat} {x : Smt} (h : l[i]? = some x) (hr : rightS (l.take i) = true) : rightS (l.take (i + 1)) = x.right := by
  rw [takeS h, rightS_app, hr]; simp [rightS]
theorem rightS_false {l : List Smt} {i : Nat} {x : Smt} (h : l[i]? = some x) (he : x.right = false) : rightS l = false := by
  cases hq : rightS l with
  | false => rfl
  | true =>
    have := rightS_iff.1 hq x (List.mem_of_getElem? h)
    rw [he] at this; cases this
theorem txtS_take {l : List Smt} {i : Nat} {x : Smt} (h : l[i]? = some x) : txtS (l.take (i + 1)) = txtS (l.take i) ++ x.txt := by rw [takeS h, txtS_app]; simp [txtS]
theorem cntS_take {l : List Smt} {i : Nat} {x : Smt} (h : l[i]? = some x) : cntS (l.take i) + x.cnt ≤ cntS l := by
  have e2 : cntS l = cntS (l.take (i + 1)) + cntS (l.drop (i + 1)) := by rw [← cntS_app, List.take_append_drop]
  rw [takeS h, cntS_app] at e2
  simp only [cntS] at e2
  omega
theorem depthS_take {l : List Smt} {i : Nat} {x : Smt} (h : l[i]? = some x) : depthS (l.take (i + 1)) = max (depthS (l.take i)) x.depth := by rw [takeS h, depthS_app]; simp [depthS]
theorem depthL_take' {l : List Ex} {i : Nat} {x : Ex} (h : l[i]? = some x) : depthL (l.take (i + 1)) = max (depthL (l.take i)) x.depth := by
  have e1 : l.take (i + 1) = l.take i ++ [x] := by rw [List.take_add_one, h]; rfl
  rw [e1]
  generalize l.take i = a
  induction a with
  | nil => simp [depthL]
  | cons y a ih => simp only [List.cons_append, depthL, ih]; omega
end Go.Sx

namespace Go.Proofs.YtggjeecpadnihaaGreatDoor
open Go Go.Proofs Go.Eng Go.RowKit Go.Sx Go.Deep
set_option linter.unusedVariables false
set_option linter.unusedSimpArgs false

mutual
/-- The six cells of a statement. -/
def StIn (W : World) : Smt → List Value → Prop
  | .mk k s es body els line, cs => ∃ so1 c1 so2 c2 so3 c3, cs = [.int .i64 k, .string s, .slice so1 es.length c1, .slice so2 body.length c2, .slice so3 els.length c3, .int .i64 line] ∧
      (s.size ≤ 9223372036854775807 ∧ es.length ≤ 9223372036854775807 ∧ body.length ≤ 9223372036854775807 ∧ els.length ≤ 9223372036854775807) ∧ KidsIn W es so1 0 ∧ StsIn W body so2 0 ∧ StsIn W els so3 0
def StsIn (W : World) : List Smt → Option Addr → Nat → Prop
  | [], _, _ => True
  | x :: l, so, i => (∃ g o c0 c1 c2 c3 c4 c5, so = some ⟨g, o, none⟩ ∧ g < W.heap.size ∧ W.cell? ⟨g, o + i * 6, none⟩ = some c0 ∧ W.cell? ⟨g, o + i * 6 + 1, none⟩ = some c1 ∧ W.cell? ⟨g, o + i * 6 + 2, none⟩ = some c2 ∧
      W.cell? ⟨g, o + i * 6 + 3, none⟩ = some c3 ∧ W.cell? ⟨g, o + i * 6 + 4, none⟩ = some c4 ∧ W.cell? ⟨g, o + i * 6 + 5, none⟩ = some c5 ∧ StIn W x [c0, c1, c2, c3, c4, c5]) ∧ StsIn W l so (i + 1)
end
/-- A statement in its place. -/
def StAt (W : World) (so : Option Addr) (i : Nat) (x : Smt) : Prop :=
  ∃ g o c0 c1 c2 c3 c4 c5, so = some ⟨g, o, none⟩ ∧ g < W.heap.size ∧ W.cell? ⟨g, o + i * 6, none⟩ = some c0 ∧ W.cell? ⟨g, o + i * 6 + 1, none⟩ = some c1 ∧ W.cell? ⟨g, o + i * 6 + 2, none⟩ = some c2 ∧
      W.cell? ⟨g, o + i * 6 + 3, none⟩ = some c3 ∧ W.cell? ⟨g, o + i * 6 + 4, none⟩ = some c4 ∧ W.cell? ⟨g, o + i * 6 + 5, none⟩ = some c5 ∧ StIn W x [c0, c1, c2, c3, c4, c5]
theorem sts_at {W : World} {so : Option Addr} : ∀ {l : List Smt} {j : Nat}, StsIn W l so j → ∀ {i : Nat} {x : Smt}, l[i]? = some x → StAt W so (j + i) x
  | [], _, _, _, _, h => by simp at h
  | y :: l, j, hk, 0, x, h => by
    simp at h; subst h
    simp only [StsIn] at hk
    exact hk.1
  | y :: l, j, hk, i + 1, x, h => by
    simp at h
    simp only [StsIn] at hk
    have := sts_at hk.2 h
    rwa [show j + (i + 1) = j + 1 + i by omega]
theorem sts_at0 {W : World} {so : Option Addr} {l : List Smt} (h : StsIn W l so 0) (i : Nat) (x : Smt) (hx : l[i]? = some x) : StAt W so i x := by have := sts_at h hx; rwa [Nat.zero_add] at this
theorem kids_at0 {W : World} {so : Option Addr} {l : List Ex} (h : KidsIn W l so 0) (i : Nat) (x : Ex) (hx : l[i]? = some x) : KidAt W so i x := by have := kids_at h hx; rwa [Nat.zero_add] at this
theorem sts_build {W : World} {so : Option Addr} : ∀ (m j : Nat), (∀ i, j ≤ i → i < j + m → ∃ x, StAt W so i x) → ∃ l : List Smt, l.length = m ∧ StsIn W l so j
  | 0, j, _ => ⟨[], rfl, by simp only [StsIn]⟩
  | m + 1, j, h => by
    obtain ⟨x, hx⟩ := h j (Nat.le_refl _) (by omega)
    obtain ⟨l, hl, hk⟩ := sts_build m (j + 1) (fun i h1 h2 => h i (by omega) (by omega))
    exact ⟨x :: l, by simp [hl], by simp only [StsIn]; exact ⟨hx, hk⟩⟩

def _root_.Go.Sx.Smt.kind : Smt → Int | .mk k _ _ _ _ _ => k
def _root_.Go.Sx.Smt.str : Smt → ByteArray | .mk _ s _ _ _ _ => s
def _root_.Go.Sx.Smt.es : Smt → List Ex | .mk _ _ es _ _ _ => es
def _root_.Go.Sx.Smt.body : Smt → List Smt | .mk _ _ _ b _ _ => b
def _root_.Go.Sx.Smt.els : Smt → List Smt | .mk _ _ _ _ e _ => e
def _root_.Go.Sx.Smt.line : Smt → Int | .mk _ _ _ _ _ l => l

/-- A statement's cells. -/
theorem st_open {W w : World} {so : Option Addr} {i : Nat} {x : Smt} (h : StAt W so i x) (ho : Old W w) : ∃ g o so1 c1 so2 c2 so3 c3, so = some ⟨g, o, none⟩ ∧ w.cell? ⟨g, o + i * 6, none⟩ = some (.int .i64 x.kind) ∧ w.cell? ⟨g, o + i * 6 + 1, none⟩ = some (.string x.str) ∧
    w.cell? ⟨g, o + i * 6 + 2, none⟩ = some (.slice so1 x.es.length c1) ∧ w.cell? ⟨g, o + i * 6 + 3, none⟩ = some (.slice so2 x.body.length c2) ∧ w.cell? ⟨g, o + i * 6 + 4, none⟩ = some (.slice so3 x.els.length c3) ∧ w.cell? ⟨g, o + i * 6 + 5, none⟩ = some (.int .i64 x.line) ∧
    StIn W x [.int .i64 x.kind, .string x.str, .slice so1 x.es.length c1, .slice so2 x.body.length c2, .slice so3 x.els.length c3, .int .i64 x.line] := by
  obtain ⟨g, o, c0, c1, c2, c3, c4, c5, rfl, hg, a0, a1, a2, a3, a4, a5, hin⟩ := h
  cases x with
  | mk k s es body els line =>
  have hin' := hin
  simp only [StIn] at hin'
  obtain ⟨so1, d1, so2, d2, so3, d3, hcs, _⟩ := hin'
  injection hcs with h0 hcs
  injection hcs with h1 hcs
  injection hcs with h2 hcs
  injection hcs with h3 hcs
  injection hcs with h4 hcs
  injection hcs with h5 hcs
  subst h0 h1 h2 h3 h4 h5
  exact ⟨g, o, so1, d1, so2, d2, so3, d3, rfl, ho.cell a0, ho.cell a1, ho.cell a2, ho.cell a3, ho.cell a4, ho.cell a5, hin⟩
/-- .. where it lies in a block of its own. -/
theorem st_cells {w : World} {a : Nat} {k line : Int} {s : ByteArray} {so1 so2 so3 : Option Addr} {m1 c1 m2 c2 m3 c3 : Nat} (h : w.heap[a]? = some (.cells #[.int .i64 k, .string s, .slice so1 m1 c1, .slice so2 m2 c2, .slice so3 m3 c3, .int .i64 line] 103 (0, 0))) :
    w.cell? ⟨a, 0, none⟩ = some (.int .i64 k) ∧ w.cell? ⟨a, 1, none⟩ = some (.string s) ∧ w.cell? ⟨a, 2, none⟩ = some (.slice so1 m1 c1) ∧ w.cell? ⟨a, 3, none⟩ = some (.slice so2 m2 c2) ∧ w.cell? ⟨a, 4, none⟩ = some (.slice so3 m3 c3) ∧ w.cell? ⟨a, 5, none⟩ = some (.int .i64 line) :=
  ⟨(Lib.cell_of_heap h 0).trans rfl, (Lib.cell_of_heap h 1).trans rfl, (Lib.cell_of_heap h 2).trans rfl, (Lib.cell_of_heap h 3).trans rfl, (Lib.cell_of_heap h 4).trans rfl, (Lib.cell_of_heap h 5).trans rfl⟩

/-- Names with their types, in an array. -/
def PmsIn (W : World) (so : Option Addr) (l : List Pm) : Prop := ∀ (i : Nat) p, l[i]? = some p → ∃ g o, so = some ⟨g, o, none⟩ ∧ g < W.heap.size ∧ W.cell? ⟨g, o + i * 2, none⟩ = some (.string p.name) ∧ W.cell? ⟨g, o + i * 2 + 1, none⟩ = some (.string p.typ) ∧ (p.name.size ≤ 9223372036854775807 ∧ p.typ.size ≤ 9223372036854775807)
/-- Records, in an array. -/
def RcsIn (W : World) (so : Option Addr) (l : List Rc) : Prop := ∀ (i : Nat) r, l[i]? = some r → ∃ g o so1 c1, so = some ⟨g, o, none⟩ ∧ g < W.heap.size ∧ W.cell? ⟨g, o + i * 3, none⟩ = some (.string r.name) ∧ W.cell? ⟨g, o + i * 3 + 1, none⟩ = some (.slice so1 r.fields.length c1) ∧
  W.cell? ⟨g, o + i * 3 + 2, none⟩ = some (.int .i64 r.line) ∧ (r.name.size ≤ 9223372036854775807 ∧ r.fields.length ≤ 9223372036854775807) ∧ PmsIn W so1 r.fields
/-- Functions, in an array. -/
def FusIn (W : World) (so : Option Addr) (l : List Fu) : Prop := ∀ (i : Nat) f, l[i]? = some f → ∃ g o so1 c1 so3 c3, so = some ⟨g, o, none⟩ ∧ g < W.heap.size ∧ W.cell? ⟨g, o + i * 5, none⟩ = some (.string f.name) ∧ W.cell? ⟨g, o + i * 5 + 1, none⟩ = some (.slice so1 f.params.length c1) ∧
  W.cell? ⟨g, o + i * 5 + 2, none⟩ = some (.string f.result) ∧ W.cell? ⟨g, o + i * 5 + 3, none⟩ = some (.slice so3 f.body.length c3) ∧ W.cell? ⟨g, o + i * 5 + 4, none⟩ = some (.int .i64 f.line) ∧
  (f.name.size ≤ 9223372036854775807 ∧ f.params.length ≤ 9223372036854775807 ∧ f.result.size ≤ 9223372036854775807 ∧ f.body.length ≤ 9223372036854775807) ∧ PmsIn W so1 f.params ∧ StsIn W f.body so3 0
/-- A program's two cells. -/
def PgIn (W : World) (p : Pg) (cs : List Value) : Prop := ∃ so1 c1 so2 c2, cs = [.slice so1 p.recs.length c1, .slice so2 p.funcs.length c2] ∧ (p.recs.length ≤ 9223372036854775807 ∧ p.funcs.length ≤ 9223372036854775807) ∧ RcsIn W so1 p.recs ∧ FusIn W so2 p.funcs
end Go.Proofs.YtggjeecpadnihaaGreatDoor

namespace Go.Proofs.YtggjeecpadnihaaGreatDoor
open Go Go.Proofs Go.Eng Go.RowKit Go.Sx Go.Deep
set_option linter.unusedVariables false
set_option linter.unusedSimpArgs false

theorem depthL_cnt {l : List Ex} : depthL l ≤ cntL l := depthL_le fun x hx => by
  obtain ⟨j, hj⟩ := List.mem_iff_getElem?.1 hx
  exact Nat.le_trans (depth_cnt x) (cntL_get hj)
theorem depthS_cnt : ∀ (m : Nat) (l : List Smt), cntS l = m → depthS l ≤ m := by
  intro m
  induction m using Nat.strongRecOn with
  | ind m ih =>
  intro l hl
  refine depthS_le fun x hx => ?_
  obtain ⟨j, hj⟩ := List.mem_iff_getElem?.1 hx
  have h1 := cntS_get hj
  obtain ⟨k, s, es, body, els, line⟩ := x
  simp only [Smt.cnt] at h1
  have h2 := ih (cntS body) (by omega) body rfl
  have h3 := ih (cntS els) (by omega) els rfl
  have h4 := depthL_cnt (l := es)
  simp only [Smt.depth]
  omega

def RDepths (W : World) (l : List Smt) : Prop := ∀ (so : Option Addr) (cap : Nat) (w : World), StsIn W l so 0 → l.length ≤ 9223372036854775807 → Old W w →
  Calls Tryz.prog 61 #[.slice so l.length cap] w fun e' w' => e' = .returned (.int .i64 (depthS l)) ∧ Below w.heap.size w w'

set_option maxRecDepth 100000 in
set_option maxHeartbeats 1000000 in
theorem rdepthOf_any {W : World} (x : Smt) (hcn : x.cnt ≤ 4096) (Hb : RDepths W x.body) (He : RDepths W x.els) (cs : List Value) (w : World) (hin : StIn W x cs) (hw : Old W w) :
    Calls Tryz.prog 86 #[.agg ⟨cs⟩] w fun e' w' => e' = .returned (.int .i64 x.depth) ∧ Below w.heap.size w w' := by
  obtain ⟨k, s, es, body, els, line⟩ := x
  simp only [StIn] at hin
  obtain ⟨so1, p1, so2, p2, so3, p3, rfl, ⟨_, hl1, hl2, hl3⟩, hk, hsb, hse⟩ := hin
  simp only [Smt.cnt] at hcn
  have HK := Lib.hid (kids_at0 hk)
  have HC := Lib.hid (fun (i : Nat) (e : Ex) (hi : es[i]? = some e) => cntL_get hi)
  obtain ⟨W1, hW1⟩ : ∃ W1, W1 = w.alloc (.cells #[.int .i64 k, .string s, .slice so1 es.length p1, .slice so2 body.length p2, .slice so3 els.length p3, .int .i64 line] 103) := ⟨_, rfl⟩
  have hb1 : Below w.heap.size w W1 := by rw [hW1]; exact (RowKit.Below.refl _ _).alloc (Nat.le_refl _) _
  have hrow : W1.heap[w.heap.size]? = some (.cells #[.int .i64 k, .string s, .slice so1 es.length p1, .slice so2 body.length p2, .slice so3 els.length p3, .int .i64 line] 103 (0, 0)) := by rw [hW1]; exact heap_alloc_new _ _
  have HB1 := Lib.hid hb1
  have HROW := Lib.hid hrow
  have HOLD : Hid (∀ w', Below W1.heap.size W1 w' → Old W w') := Lib.hid fun w' hb => (hw.below hb1).below hb
  have HCB := Lib.hid (fun w' (hb : Below W1.heap.size W1 w') => Hb so2 p2 w' hsb hl2 (HOLD.out w' hb))
  have HCE := Lib.hid (fun w' (hb : Below W1.heap.size W1 w') => He so3 p3 w' hse hl3 (HOLD.out w' hb))
  have hds := depthL_cnt (l := es)
  have hdb := depthS_cnt _ body rfl
  have hde := depthS_cnt _ els rfl
  have HLT : Hid (w.heap.size < W1.heap.size) := Lib.hid (Array.getElem?_eq_some_iff.1 hrow).1
  have HDEP : Hid ((Smt.mk k s es body els line).depth = max (depthL es) (max (depthS body) (depthS els)) + 1) := Lib.hid (by simp [Smt.depth])
  simp only [Smt.body, Smt.els] at HCB HCE
  have HBND : Hid (∀ i, depthL (es.take i) ≤ 4096) := Lib.hid fun i => depthL_le fun x hx => by
    obtain ⟨j, hj⟩ := List.mem_iff_getElem?.1 (List.mem_of_mem_take hx)
    have h1 := HC.out j _ hj
    have h2 := depth_cnt x
    omega
  have HCC : Hid (∀ (i : Nat) (e : Ex), es[i]? = some e → e.cnt ≤ 4096) := Lib.hid fun i e he => by have := HC.out i e he; omega
  clear hk hsb hse hw Hb He hb1 hrow
  generalize depthS body = db at *
  generalize depthS els = de at *
  go_enter Tryz.func86, Tryz.ntmps86
  go_wp2_with fail
  rw [← hW1]
  clear hW1
  go_wp2_with fail
  go_loopg [3, 4] es.length (fun kx s3 s4 wr => ∃ i : Nat, s3 = .int .i64 (depthL (es.take i)) ∧ s4 = .int .i64 i ∧ i ≤ es.length ∧ es.length - i ≤ kx ∧ Aside (Below W1.heap.size W1 wr))
  case atStart => exact ⟨0, rfl, rfl, by omega, by omega, RowKit.Below.refl _ _⟩
  case round =>
    obtain ⟨i, rfl, rfl, hi, hg, hb⟩ := hrel
    have HB := Lib.hid hb.out
    clear hb
    obtain ⟨c0, c1, c2, c3, c4, c5⟩ := st_cells ((HB.out.block _ HLT.out).trans HROW.out)
    by_cases hil : i < es.length
    · have hx : es[i]? = some es[i] := List.getElem?_eq_getElem hil
      obtain ⟨g, o, so', cap', rfl, a0, a1, a2, a3, a4, ht⟩ := kid_cells (HK.out i _ hx) (HOLD.out _ HB.out)
      have HCALL := Lib.hid (rdepth_any W _ es[i] _ rfl (HCC.out i _ hx) ht wr (HOLD.out _ HB.out))
      have hcd := HBND.out i
      have hce := Nat.le_trans (depth_cnt es[i]) (HCC.out i _ hx)
      have HT := Lib.hid (depthL_take' hx)
      have hi1 : (i : Int) < (es.length : Int) := by omega
      have hi0 : (0 : Int) ≤ (i : Int) := by omega
      generalize es[i] = kd at *
      obtain ⟨k', s', n', kids', line'⟩ := kd
      simp only [Ex.kind, Ex.str, Ex.num, Ex.kids, Ex.line] at a0 a1 a2 a3 a4 HCALL
      generalize (Ex.mk k' s' n' kids' line').depth = dx at *
      clear ht hx c0 c1 c3 c4 c5
      go_wp2_with (go_at_call 22; (with_reducible refine HCALL.out.mono ?_); rintro e w2 ⟨rfl, hb2⟩)
      all_goals
        have HB2 : Hid (Below W1.heap.size W1 w2) := Lib.hid (HB.out.trans (RowKit.Below.mono hb2 HB.out.size))
        go_roundg (es.length - (i + 1))
        case measure => omega
        case rel => exact ⟨i + 1, by rw [HT.out]; simp only [Value.int.injEq, true_and]; omega, by go_num, by omega, Nat.le_refl _, HB2.out⟩
    · obtain rfl : i = es.length := by omega
      rw [List.take_length]
      have u3 := Up.cell c3
      have u4 := Up.cell c4
      have hcd := HBND.out es.length
      rw [List.take_length] at hcd
      have HCB2 := Lib.hid (fun w' (hb : Below wr.heap.size wr w') => HCB.out w' (HB.out.trans (RowKit.Below.mono hb HB.out.size)))
      have HCE2 := Lib.hid (fun w' (hb : Below wr.heap.size wr w') => HCE.out w' (HB.out.trans (RowKit.Below.mono hb HB.out.size)))
      clear HCB HCE HOLD HBND HCC HC HK
      generalize depthL es = dl at *
      go_wp2_with fail
      refine wp_region_up (W := wr) (by kernel_rfl) (by kernel_rfl) (RowKit.Below.refl _ _) ?_
      repeat (go_big_quiet_step (first | (with_reducible exact Up.call HCB2.out _) | (with_reducible exact Up.call HCE2.out _)))
      refine wpQuiet_nil ?_
      rintro _ ⟨x, rfl⟩
      have FIN := Lib.hid (HB1.out.trans (RowKit.Below.mono (HB.out.trans (RowKit.Below.mono x.h HB.out.size)) HB1.out.size))
      go_wp2
      all_goals
        go_ret
        refine ⟨congrArg Ending.returned (congrArg (Value.int .i64) ?_), FIN.out⟩
        rw [HDEP.out]
        omega

set_option maxRecDepth 100000 in
set_option maxHeartbeats 1000000 in
theorem rdepths_any (W : World) : ∀ (m : Nat) (l : List Smt), cntS l = m → m ≤ 4096 → RDepths W l := by
  intro m
  induction m using Nat.strongRecOn with
  | ind m ih =>
  intro l he hm so cap w hin hl hw
  have HK := Lib.hid (sts_at0 hin)
  have HDO : Hid (∀ (i : Nat) (x : Smt), l[i]? = some x → ∀ cs w, StIn W x cs → Old W w → Calls Tryz.prog 86 #[.agg ⟨cs⟩] w fun e' w' => e' = .returned (.int .i64 x.depth) ∧ Below w.heap.size w w') := Lib.hid fun i x hx cs w h1 h2 => by
    have hc := cntS_get hx
    refine rdepthOf_any x (by omega) ?_ ?_ cs w h1 h2
    · obtain ⟨k, s, es, body, els, line⟩ := x
      simp only [Smt.cnt] at hc
      exact ih (cntS body) (by omega) body rfl (by omega)
    · obtain ⟨k, s, es, body, els, line⟩ := x
      simp only [Smt.cnt] at hc
      exact ih (cntS els) (by omega) els rfl (by omega)
  have HBND : Hid (∀ i, depthS (l.take i) ≤ 4096) := Lib.hid fun i => depthS_le fun x hx => by
    have h1 := depthS_cnt _ [x] rfl
    obtain ⟨j, hj⟩ := List.mem_iff_getElem?.1 (List.mem_of_mem_take hx)
    have h2 := cntS_get hj
    simp only [depthS, cntS] at h1
    omega
  have HXB : Hid (∀ (i : Nat) (x : Smt), l[i]? = some x → x.depth ≤ 4096) := Lib.hid fun i x hx => by
    have h1 := depthS_cnt _ [x] rfl
    have h2 := cntS_get hx
    simp only [depthS, cntS] at h1
    omega
  have HW := Lib.hid hw
  clear hin ih hw
  go_enter Tryz.func61, Tryz.ntmps61
  go_wp2_with fail
  go_loopg [3, 4] l.length (fun kx s3 s4 wr => ∃ i : Nat, s3 = .int .i64 (depthS (l.take i)) ∧ s4 = .int .i64 i ∧ i ≤ l.length ∧ l.length - i ≤ kx ∧ Aside (Below w.heap.size w wr))
  case atStart => exact ⟨0, rfl, rfl, by omega, by omega, RowKit.Below.refl _ _⟩
  case round =>
    obtain ⟨i, rfl, rfl, hi, hg, hb⟩ := hrel
    have HB := Lib.hid hb.out
    clear hb
    by_cases hil : i < l.length
    · have hx : l[i]? = some l[i] := List.getElem?_eq_getElem hil
      obtain ⟨g, o, so1, p1, so2, p2, so3, p3, rfl, a0, a1, a2, a3, a4, a5, ht⟩ := st_open (HK.out i _ hx) (HW.out.below HB.out)
      have HCALL := Lib.hid (HDO.out i _ hx _ wr ht (HW.out.below HB.out))
      have hcd := HBND.out i
      have hce := HXB.out i _ hx
      have HT := Lib.hid (depthS_take hx)
      have hi1 : (i : Int) < (l.length : Int) := by omega
      have hi0 : (0 : Int) ≤ (i : Int) := by omega
      generalize l[i] = x at *
      obtain ⟨k', s', es', body', els', line'⟩ := x
      simp only [Smt.kind, Smt.str, Smt.es, Smt.body, Smt.els, Smt.line] at a0 a1 a2 a3 a4 a5 HCALL
      generalize (Smt.mk k' s' es' body' els' line').depth = dx at *
      clear ht hx
      go_wp2_with (go_at_call 86; (with_reducible refine HCALL.out.mono ?_); rintro e w2 ⟨rfl, hb2⟩)
      all_goals
        have HB2 : Hid (Below w.heap.size w w2) := Lib.hid (HB.out.trans (RowKit.Below.mono hb2 HB.out.size))
        go_roundg (l.length - (i + 1))
        case measure => omega
        case rel => exact ⟨i + 1, by rw [HT.out]; simp only [Value.int.injEq, true_and]; omega, by go_num, by omega, Nat.le_refl _, HB2.out⟩
    · obtain rfl : i = l.length := by omega
      rw [List.take_length]
      go_wp2
      go_ret
      exact ⟨rfl, HB.out⟩
end Go.Proofs.YtggjeecpadnihaaGreatDoor

namespace Go.Proofs.YtggjeecpadnihaaGreatDoor
open Go Go.Proofs Go.Eng Go.RowKit Go.Sx Go.Deep
set_option linter.unusedVariables false
set_option linter.unusedSimpArgs false

def PDepths (W : World) (l : List Smt) : Prop := ∀ (so : Option Addr) (cap : Nat) (w : World), StsIn W l so 0 → l.length ≤ 9223372036854775807 → Old W w →
  Calls Tryz.prog 37 #[.slice so l.length cap] w fun e' w' => e' = .returned (.int .i64 (depthS l)) ∧ Below w.heap.size w w'

/-- Of some expressions the greatest depth, one more; of none 0. -/
def dE (l : List Ex) : Nat := if l.length = 0 then 0 else depthL l + 1
theorem dE_snoc {l : List Ex} {i : Nat} {x : Ex} (h : l[i]? = some x) : dE (l.take (i + 1)) = max (dE (l.take i)) (x.depth + 1) := by
  have hi : i < l.length := (List.getElem?_eq_some_iff.1 h).1
  unfold dE
  rw [depthL_take' h, List.length_take, List.length_take, if_neg (by omega)]
  by_cases h0 : i = 0
  · subst h0; rw [if_pos (by omega)]; simp [depthL]
  · rw [if_neg (by omega)]; omega

set_option maxRecDepth 100000 in
set_option maxHeartbeats 2000000 in
theorem pdepths_any (W : World) : ∀ (m : Nat) (l : List Smt), cntS l = m → m ≤ 4096 → PDepths W l := by
  intro m
  induction m using Nat.strongRecOn with
  | ind m ih =>
  intro l he hm so cap w hin hl hw
  have HK := Lib.hid (sts_at0 hin)
  have HSUB : Hid (∀ (i : Nat) (x : Smt), l[i]? = some x → PDepths W x.body ∧ PDepths W x.els ∧ x.cnt ≤ 4096) := Lib.hid fun i x hx => by
    have hc := cntS_get hx
    obtain ⟨k, s, es, body, els, line⟩ := x
    simp only [Smt.cnt] at hc
    exact ⟨ih (cntS body) (by omega) body rfl (by omega), ih (cntS els) (by omega) els rfl (by omega), by simp only [Smt.cnt]; omega⟩
  have HBND : Hid (∀ i, depthS (l.take i) ≤ 4096) := Lib.hid fun i => depthS_le fun x hx => by
    have h1 := depthS_cnt _ [x] rfl
    obtain ⟨j, hj⟩ := List.mem_iff_getElem?.1 (List.mem_of_mem_take hx)
    have h2 := cntS_get hj
    simp only [depthS, cntS] at h1
    omega
  have HW := Lib.hid hw
  clear hin ih hw
  go_enter Tryz.func37, Tryz.ntmps37
  go_wp2_with fail
  go_loopg [3, 10] l.length (fun kx s3 s10 wr => ∃ i : Nat, s3 = .int .i64 (depthS (l.take i)) ∧ s10 = .int .i64 i ∧ i ≤ l.length ∧ l.length - i ≤ kx ∧ Aside (Below w.heap.size w wr))
  case atStart => exact ⟨0, rfl, rfl, by omega, by omega, RowKit.Below.refl _ _⟩
  case round =>
    obtain ⟨i, rfl, rfl, hi, hg, hb⟩ := hrel
    have HB := Lib.hid hb.out
    clear hb
    by_cases hil : i < l.length
    · have hx : l[i]? = some l[i] := List.getElem?_eq_getElem hil
      obtain ⟨g, o, so1, p1, so2, p2, so3, p3, rfl, a0, a1, a2, a3, a4, a5, ht⟩ := st_open (HK.out i _ hx) (HW.out.below HB.out)
      obtain ⟨hsub1, hsub2, hxc⟩ := HSUB.out i _ hx
      have hcd := HBND.out i
      have HT := Lib.hid (depthS_take hx)
      have hi1 : (i : Int) < (l.length : Int) := by omega
      have hi0 : (0 : Int) ≤ (i : Int) := by omega
      have hxd : l[i].depth ≤ 4096 := by
        have h1 := depthS_cnt _ [l[i]] rfl
        simp only [depthS, cntS] at h1
        omega
      generalize l[i] = x at *
      obtain ⟨k', s', es', body', els', line'⟩ := x
      simp only [StIn] at ht
      obtain ⟨_, _, _, _, _, _, hcs, ⟨_, hl1, hl2, hl3⟩, hkk, hsb, hse⟩ := ht
      simp only [Smt.kind, Smt.str, Smt.es, Smt.body, Smt.els, Smt.line, List.cons.injEq, Value.slice.injEq, and_true, true_and] at a0 a1 a2 a3 a4 a5 hcs hsub1 hsub2
      obtain ⟨⟨rfl, rfl⟩, ⟨rfl, rfl⟩, rfl, rfl⟩ := hcs
      simp only [Smt.cnt] at hxc
      have HKK := Lib.hid (kids_at0 hkk)
      have HDX : Hid ((Smt.mk k' s' es' body' els' line').depth = max (dE es') (max (depthS body' + 1) (depthS els' + 1))) := Lib.hid (by
        simp only [Smt.depth, dE]
        by_cases h0 : es' = []
        · subst h0; first | (simp [depthL]; done) | (simp [depthL]; omega)
        · have : es'.length ≠ 0 := by simpa using h0
          rw [if_neg this]; omega)
      rw [HDX.out] at HT hxd
      have hdb := depthS_cnt _ body' rfl
      have hde := depthS_cnt _ els' rfl
      obtain ⟨W2, hW2⟩ : ∃ W2, W2 = wr.alloc (.cells #[.int .i64 k', .string s', .slice so1 es'.length p1, .slice so2 body'.length p2, .slice so3 els'.length p3, .int .i64 line'] 103) := ⟨_, rfl⟩
      have hb2 : Below wr.heap.size wr W2 := by rw [hW2]; exact (RowKit.Below.refl _ _).alloc (Nat.le_refl _) _
      have hrow2 : W2.heap[wr.heap.size]? = some (.cells #[.int .i64 k', .string s', .slice so1 es'.length p1, .slice so2 body'.length p2, .slice so3 els'.length p3, .int .i64 line'] 103 (0, 0)) := by rw [hW2]; exact heap_alloc_new _ _
      have HB2 := Lib.hid (HB.out.trans (RowKit.Below.mono hb2 HB.out.size))
      have HROW2 := Lib.hid hrow2
      have HLT2 : Hid (wr.heap.size < W2.heap.size) := Lib.hid (Array.getElem?_eq_some_iff.1 hrow2).1
      have HOLD : Hid (∀ w', Below W2.heap.size W2 w' → Old W w') := Lib.hid fun w' hb => (HW.out.below HB2.out).below (RowKit.Below.mono hb (Nat.le_refl _))
      have HCB := Lib.hid (fun w' (hb : Below W2.heap.size W2 w') => hsub1 so2 p2 w' hsb hl2 (HOLD.out w' hb))
      have HCE := Lib.hid (fun w' (hb : Below W2.heap.size W2 w') => hsub2 so3 p3 w' hse hl3 (HOLD.out w' hb))
      clear hsub1 hsub2 hsb hse hkk hb2 hrow2 hx
      generalize depthS body' = db at *
      generalize depthS els' = de at *
      have hn0 : depthS (l.take i) ≤ 4096 := hcd
      generalize hgn : depthS (l.take i) = dn at *
      clear hgn
      have HEB : Hid (∀ j, dE (es'.take j) ≤ 4097) := Lib.hid fun j => by
        have h1 : depthL (es'.take j) ≤ cntL es' := depthL_le fun x hx => by
          obtain ⟨q, hq⟩ := List.mem_iff_getElem?.1 (List.mem_of_mem_take hx)
          exact Nat.le_trans (depth_cnt x) (cntL_get hq)
        unfold dE
        split <;> omega
      go_wp2_with fail
      rw [← hW2]
      clear hW2
      obtain ⟨c0, c1, c2, c3, c4, c5⟩ := st_cells HROW2.out
      go_wp2_with fail
      clear c0 c1 c2 c3 c4 c5
      go_loopg [3, 17] es'.length (fun kx s3 s17 wq => ∃ j : Nat, s3 = .int .i64 ((max dn (dE (es'.take j)) : Nat) : Int) ∧ s17 = .int .i64 j ∧ j ≤ es'.length ∧ es'.length - j ≤ kx ∧ Aside (Below W2.heap.size W2 wq))
      case atStart => exact ⟨0, by simp [dE], rfl, by omega, by omega, RowKit.Below.refl _ _⟩
      case round =>
        obtain ⟨j, rfl, rfl, hj, hgj, hbj⟩ := hrel
        have HBJ := Lib.hid hbj.out
        clear hbj
        have hej := HEB.out j
        by_cases hjl : j < es'.length
        · have hxj : es'[j]? = some es'[j] := List.getElem?_eq_getElem hjl
          obtain ⟨g2, o2, so', cap', rfl, b0, b1, b2, b3, b4, htj⟩ := kid_cells (HKK.out j _ hxj) (HOLD.out _ HBJ.out)
          have hcj := cntL_get hxj
          have HSN := Lib.hid (dE_snoc hxj)
          have hdj := depth_cnt es'[j]
          have HCALL := Lib.hid (fun w' (hb : Below wr.heap.size wr w') => depth_any W _ es'[j] _ rfl (by omega) htj w' (HOLD.out _ (HBJ.out.trans (RowKit.Below.mono hb HBJ.out.size))))
          have hj1 : (j : Int) < (es'.length : Int) := by omega
          have hj0 : (0 : Int) ≤ (j : Int) := by omega
          generalize es'[j] = kd at *
          obtain ⟨k2, s2, n2, kids2, line2⟩ := kd
          simp only [Ex.kind, Ex.str, Ex.num, Ex.kids, Ex.line] at b0 b1 b2 b3 b4 HCALL
          generalize (Ex.mk k2 s2 n2 kids2 line2).depth = dx at *
          generalize (Ex.mk k2 s2 n2 kids2 line2).cnt = cx at *
          generalize hqq : dE (es'.take j) = dq at *
          obtain ⟨W3, hW3⟩ : ∃ W3, W3 = wr.alloc (.cells #[.int .i64 k2, .string s2, .int .i64 n2, .slice so' kids2.length cap', .int .i64 line2] 25) := ⟨_, rfl⟩
          have hb3 : Below wr.heap.size wr W3 := by rw [hW3]; exact (RowKit.Below.refl _ _).alloc (Nat.le_refl _) _
          have hrow3 : W3.heap[wr.heap.size]? = some (.cells #[.int .i64 k2, .string s2, .int .i64 n2, .slice so' kids2.length cap', .int .i64 line2] 25 (0, 0)) := by rw [hW3]; exact heap_alloc_new _ _
          have HB3 := Lib.hid (HBJ.out.trans (RowKit.Below.mono hb3 HBJ.out.size))
          have HCALL3 := Lib.hid (HCALL.out W3 hb3)
          clear htj hxj hb3 HCALL
          go_wp2_with fail
          rw [← hW3]
          clear hW3
          obtain ⟨d0, d1, d2, d3, d4⟩ := row_cells hrow3
          clear hrow3 b0 b1 b2 b3 b4
          go_wp2_with (go_at_call 19; (with_reducible refine HCALL3.out.mono ?_); rintro e w5 ⟨rfl, hb5⟩)
          all_goals
            have HB5 := Lib.hid (HB3.out.trans (RowKit.Below.mono hb5 HB3.out.size))
            go_roundg (es'.length - (j + 1))
            case measure => omega
            case rel => exact ⟨j + 1, by rw [HSN.out]; simp only [Value.int.injEq, true_and]; omega, by go_num, by omega, Nat.le_refl _, HB5.out⟩
        · obtain rfl : j = es'.length := by omega
          rw [List.take_length] at *
          obtain ⟨c0, c1, c2, c3, c4, c5⟩ := st_cells ((HBJ.out.block _ HLT2.out).trans HROW2.out)
          have u3 := Up.cell c3
          have u4 := Up.cell c4
          have HCB2 := Lib.hid (fun w' (hb : Below wr.heap.size wr w') => HCB.out w' (HBJ.out.trans (RowKit.Below.mono hb HBJ.out.size)))
          have HCE2 := Lib.hid (fun w' (hb : Below wr.heap.size wr w') => HCE.out w' (HBJ.out.trans (RowKit.Below.mono hb HBJ.out.size)))
          clear HCB HCE HOLD c0 c1 c2 c5
          generalize dE es' = dq at *
          go_wp2_with fail
          refine wp_region_up (W := wr) (by kernel_rfl) (by kernel_rfl) (RowKit.Below.refl _ _) ?_
          repeat (go_big_quiet_step (first | (with_reducible exact Up.call HCB2.out _) | (with_reducible exact Up.call HCE2.out _)))
          refine wpQuiet_nil ?_
          rintro _ ⟨x, rfl⟩
          have FIN := Lib.hid (HB2.out.trans (RowKit.Below.mono (HBJ.out.trans (RowKit.Below.mono x.h HBJ.out.size)) HB2.out.size))
          go_wp2
          all_goals
            go_roundg (l.length - (i + 1))
            case measure => omega
            case rel => exact ⟨i + 1, by rw [HT.out]; simp only [Value.int.injEq, true_and]; omega, by go_num, by omega, Nat.le_refl _, FIN.out⟩
    · obtain rfl : i = l.length := by omega
      rw [List.take_length]
      go_wp2
      go_ret
      exact ⟨rfl, HB.out⟩
end Go.Proofs.YtggjeecpadnihaaGreatDoor

namespace Go.Proofs.YtggjeecpadnihaaGreatDoor
open Go Go.Proofs Go.Eng Go.RowKit Go.Sx Go.Deep
set_option linter.unusedVariables false
set_option linter.unusedSimpArgs false

def tcond (l : List UInt8) : Bool := (l.head? == some 91 && l.getLast? == some 93) && decide (2 < l.length)
theorem typF_fuel : ∀ (n m : Nat) (l : List UInt8), l.length ≤ n → l.length ≤ m → typF n l = typF m l
  | 0, m, l, h1, h2 => by
    have : l = [] := List.eq_nil_of_length_eq_zero (by omega)
    subst this
    cases m <;> simp [typF]
  | n + 1, 0, l, h1, h2 => by
    have : l = [] := List.eq_nil_of_length_eq_zero (by omega)
    subst this
    simp [typF]
  | n + 1, m + 1, l, h1, h2 => by
    simp only [typF]
    split
    · refine typF_fuel n m _ ?_ ?_ <;> (rw [List.length_dropLast, List.length_tail]; omega)
    · rfl
theorem inner_list (s : ByteArray) : (s.extract 1 (s.size - 1)).data.toList = s.data.toList.tail.dropLast := by
  rw [ByteArray.data_extract, Array.toList_extract]
  rw [List.extract_eq_take_drop]
  rw [List.dropLast_eq_take, List.length_tail, List.drop_one]
  have : s.data.toList.length = s.size := by rw [Array.length_toList]; rfl
  rw [this]
theorem typ_step {s : ByteArray} (h : tcond s.data.toList = true) : typB (s.extract 1 (s.size - 1)) = typB s ∧ (s.extract 1 (s.size - 1)).size < s.size := by
  have hl : s.data.toList.length = s.size := by rw [Array.length_toList]; rfl
  have h2 : 2 < s.size := by
    unfold tcond at h
    rw [Bool.and_eq_true, decide_eq_true_eq, hl] at h
    exact h.2
  have hs : (s.extract 1 (s.size - 1)).size = s.size - 2 := by rw [ByteArray.size_extract]; omega
  refine ⟨?_, by omega⟩
  unfold typB
  rw [hs, inner_list]
  have e : typF s.size s.data.toList = typF (s.size - 1) s.data.toList.tail.dropLast := by
    obtain ⟨n, hn⟩ : ∃ n, s.size = n + 1 := ⟨s.size - 1, by omega⟩
    rw [hn]
    show (if tcond s.data.toList = true then typF n _ else _) = _
    rw [if_pos h]; rfl
  rw [e, typF_fuel (s.size - 2) (s.size - 1) _ (by rw [List.length_dropLast, List.length_tail]; omega) (by rw [List.length_dropLast, List.length_tail]; omega)]
theorem typ_end {s : ByteArray} (h : tcond s.data.toList = false) : typB s = nameB s := by
  unfold typB
  have e : typF s.size s.data.toList = s.data.toList := by
    cases s.size with
    | zero => rfl
    | succ n =>
      show (if tcond s.data.toList = true then typF n _ else _) = _
      rw [if_neg (by rw [h]; exact Bool.false_ne_true)]
  rw [e]
theorem tcond_pre (s : ByteArray) : tcond s.data.toList = (Lib.hasPrefix s.data.toList [91] && Lib.hasSuffix s.data.toList [93] && decide ((2 : Int) < (s.size : Int))) := by
  have hl : s.data.toList.length = s.size := by rw [Array.length_toList]; rfl
  have e3 : decide (2 < s.data.toList.length) = decide ((2 : Int) < (s.size : Int)) := by rw [hl, Bool.eq_iff_iff]; simp; omega
  unfold tcond
  rw [e3]
  congr 1
  have p1 : ∀ l : List UInt8, (l.head? == some 91) = Lib.hasPrefix l [91] := fun l => by
    unfold Lib.hasPrefix
    cases l with
    | nil => rfl
    | cons a l =>
      show (some a == some 91) = ((91 == a) && ([] : List UInt8).isPrefixOf l)
      have e : ([] : List UInt8).isPrefixOf l = true := by simp
      rw [e, Bool.and_true, Bool.beq_comm]; rfl
  have p2 : ∀ l : List UInt8, (l.getLast? == some 93) = Lib.hasSuffix l [93] := fun l => by
    unfold Lib.hasSuffix List.isSuffixOf
    rw [← List.head?_reverse]
    cases l.reverse with
    | nil => rfl
    | cons a l =>
      show (some a == some 93) = ((93 == a) && ([] : List UInt8).isPrefixOf l)
      have e : ([] : List UInt8).isPrefixOf l = true := by simp
      rw [e, Bool.and_true, Bool.beq_comm]; rfl
  rw [p1, p2]
theorem tcond_idx {s : ByteArray} (h : 2 < s.size) : tcond s.data.toList = (((s[0].toNat : Int) == 91) && ((s[s.size - 1].toNat : Int) == 93)) := by
  have hl : s.data.toList.length = s.size := by rw [Array.length_toList]; rfl
  have e3 : decide (2 < s.data.toList.length) = true := by rw [hl]; exact decide_eq_true h
  have n1 : ∀ (x : UInt8) (n : Nat), n < 256 → ((x == UInt8.ofNat n) = ((x.toNat : Int) == (n : Int))) := fun x n hn => by
    rw [Bool.eq_iff_iff, beq_iff_eq, beq_iff_eq]
    constructor
    · rintro rfl; rw [UInt8.toNat_ofNat']; omega
    · intro e; apply UInt8.toNat_inj.1; rw [UInt8.toNat_ofNat']; omega
  have h0 : s.data.toList.head? = some s[0] := by rw [List.head?_eq_getElem?]; exact get_list (by omega)
  have h1 : s.data.toList.getLast? = some s[s.size - 1] := by rw [List.getLast?_eq_getElem?, hl]; exact get_list (by omega)
  unfold tcond
  rw [e3, h0, h1, Bool.and_true]
  have q0 := n1 s[0] 91 (by decide)
  have q1 := n1 s[s.size - 1] 93 (by decide)
  have c0 : (some s[0] == some (91 : UInt8)) = (s[0] == UInt8.ofNat 91) := rfl
  have c1 : (some s[s.size - 1] == some (93 : UInt8)) = (s[s.size - 1] == UInt8.ofNat 93) := rfl
  rw [c0, c1, q0, q1]; rfl
theorem tcond_short {s : ByteArray} (h : ¬ 2 < s.size) : tcond s.data.toList = false := by
  have hl : s.data.toList.length = s.size := by rw [Array.length_toList]; rfl
  unfold tcond
  rw [hl, decide_eq_false h, Bool.and_false]

set_option maxRecDepth 100000 in
set_option maxHeartbeats 1000000 in
/-- The program's: is a text a type? -/
theorem styp_any (s0 : ByteArray) (w : World) (hg : Globs hv w gl) (hs0 : s0.size ≤ 9223372036854775807) : Calls Tryz.prog 83 #[.string s0] w fun e w' => e = .returned (.bool (typB s0)) ∧ Below w.heap.size w w' := by
  have HN := Lib.hid (fun s => sname_any s w hg)
  have HS0 := Lib.hid hs0
  clear hg hs0
  go_enter Tryz.func83, Tryz.ntmps83
  go_wp2_with fail
  go_loopg [0] s0.size (fun kx s0' wr => ∃ s : ByteArray, s0' = .string s ∧ s.size ≤ kx ∧ s.size ≤ s0.size ∧ Aside (typB s = typB s0) ∧ wr = w)
  case atStart => exact ⟨s0, rfl, Nat.le_refl _, Nat.le_refl _, rfl, rfl⟩
  case round =>
    obtain ⟨s, rfl, hk, hs, he, rfl⟩ := hrel
    have HE := Lib.hid he.out
    clear he
    have hsm : s.size ≤ 9223372036854775807 := by have := HS0.out; omega
    have HP := Lib.hid (fun w => Tryz.strings_HasPrefix s ⟨#[91]⟩ w)
    have HF := Lib.hid (fun w => Tryz.strings_HasSuffix s ⟨#[93]⟩ w hsm)
    have HT := Lib.hid (tcond_pre s)
    have HST := Lib.hid (@typ_step s)
    have HEN := Lib.hid (@typ_end s)
    have e1 : (⟨#[91]⟩ : ByteArray).data.toList = [91] := rfl
    have e2 : (⟨#[93]⟩ : ByteArray).data.toList = [93] := rfl
    rw [e1] at HP
    rw [e2] at HF
    clear e1 e2
    generalize hp : Lib.hasPrefix s.data.toList [91] = b1 at *
    generalize hf : Lib.hasSuffix s.data.toList [93] = b2 at *
    generalize hb : decide ((2 : Int) < (s.size : Int)) = b3 at *
    generalize tcond s.data.toList = tc at *
    clear hp hf
    cases b1 <;> cases b2 <;> cases b3 <;>
    (have HTT := HT.out
     simp only [Bool.and_true, Bool.true_and, Bool.false_and, Bool.and_false] at HTT
     subst HTT)
    case true.true.true =>
      obtain ⟨q1, q2⟩ := HST.out rfl
      have h2 : 2 < s.size := by have := of_decide_eq_true hb; omega
      have HQ := Lib.hid (q1.trans HE.out)
      have h3 : (1 : Int) ≤ (s.size : Int) - 1 := by omega
      have h4 : (s.size : Int) - 1 ≤ (s.size : Int) := by omega
      have h5 : ((s.size : Int) - 1).toNat = s.size - 1 := by omega
      clear HST HEN q1
      go_wp2_with (first
        | (go_at_call 109; (with_reducible refine (HP.out _).mono ?_); rintro e w' ⟨rfl, rfl⟩)
        | (go_at_call 110; (with_reducible refine (HF.out _).mono ?_); rintro e w' ⟨rfl, rfl⟩))
      go_roundg (s.extract 1 (s.size - 1)).size
      case measure => omega
      case rel => exact ⟨s.extract 1 (s.size - 1), rfl, Nat.le_refl _, by omega, HQ.out, rfl⟩
    all_goals
      have HQ := Lib.hid ((HEN.out rfl).symm.trans HE.out)
      clear HST HEN
      go_wp2_with (first
        | (go_at_call 109; (with_reducible refine (HP.out _).mono ?_); rintro e w' ⟨rfl, rfl⟩)
        | (go_at_call 110; (with_reducible refine (HF.out _).mono ?_); rintro e w' ⟨rfl, rfl⟩)
        | (go_at_call 75; (with_reducible refine (HN.out _).mono ?_); rintro e w' ⟨rfl, hb⟩))
      go_ret
      exact ⟨by rw [← HQ.out]; rfl, hb⟩

set_option maxRecDepth 100000 in
set_option maxHeartbeats 1000000 in
/-- The document's. -/
theorem rtype_any (s0 : ByteArray) (w : World) (hs0 : s0.size ≤ 9223372036854775807) : Calls Tryz.prog 59 #[.string s0] w fun e w' => e = .returned (.bool (typB s0)) ∧ Below w.heap.size w w' := by
  have HN := Lib.hid (fun s => rname_any s w)
  have HS0 := Lib.hid hs0
  clear hs0
  go_enter Tryz.func59, Tryz.ntmps59
  go_wp2_with fail
  go_loopg [0] s0.size (fun kx s0' wr => ∃ s : ByteArray, s0' = .string s ∧ s.size ≤ kx ∧ s.size ≤ s0.size ∧ Aside (typB s = typB s0) ∧ wr = w)
  case atStart => exact ⟨s0, rfl, Nat.le_refl _, Nat.le_refl _, rfl, rfl⟩
  case round =>
    obtain ⟨s, rfl, hk, hs, he, rfl⟩ := hrel
    have HE := Lib.hid he.out
    clear he
    have hsm : s.size ≤ 9223372036854775807 := by have := HS0.out; omega
    have HST := Lib.hid (@typ_step s)
    have HEN := Lib.hid (@typ_end s)
    by_cases h2 : 2 < s.size
    · have HT := Lib.hid (tcond_idx h2)
      have hd : (2 : Int) < (s.size : Int) := by omega
      have hz : (0 : Int) < (s.size : Int) := by omega
      have h3 : (1 : Int) ≤ (s.size : Int) - 1 := by omega
      have h4 : (s.size : Int) - 1 ≤ (s.size : Int) := by omega
      have h4' : (s.size : Int) - 1 < (s.size : Int) := by omega
      have h4'' : (0 : Int) ≤ (s.size : Int) - 1 := by omega
      have h5 : ((s.size : Int) - 1).toNat = s.size - 1 := by omega
      generalize hp : ((s[0].toNat : Int) == 91) = b1 at *
      generalize hf : ((s[s.size - 1].toNat : Int) == 93) = b2 at *
      generalize tcond s.data.toList = tc at *
      cases b1 <;> cases b2 <;>
      (have HTT := HT.out
       simp only [Bool.and_true, Bool.true_and, Bool.false_and, Bool.and_false] at HTT
       subst HTT)
      case true.true =>
        obtain ⟨q1, q2⟩ := HST.out rfl
        have HQ := Lib.hid (q1.trans HE.out)
        clear HST HEN q1
        go_wp2
        go_roundg (s.extract 1 (s.size - 1)).size
        case measure => omega
        case rel => exact ⟨s.extract 1 (s.size - 1), rfl, Nat.le_refl _, by omega, HQ.out, rfl⟩
      all_goals
        have HQ := Lib.hid ((HEN.out rfl).symm.trans HE.out)
        clear HST HEN
        go_wp2_with (go_at_call 48; (with_reducible refine (HN.out _).mono ?_); rintro e w' ⟨rfl, hb⟩)
        go_ret
        exact ⟨by rw [← HQ.out]; rfl, hb⟩
    · have HQ := Lib.hid ((HEN.out (tcond_short h2)).symm.trans HE.out)
      have hd : ¬ (2 : Int) < (s.size : Int) := by omega
      clear HST HEN
      go_wp2_with (go_at_call 48; (with_reducible refine (HN.out _).mono ?_); rintro e w' ⟨rfl, hb⟩)
      go_ret
      exact ⟨by rw [← HQ.out]; rfl, hb⟩
end Go.Proofs.YtggjeecpadnihaaGreatDoor

namespace Go.Proofs.YtggjeecpadnihaaGreatDoor
open Go Go.Proofs Go.Eng Go.RowKit Go.Sx Go.Deep
set_option linter.unusedVariables false
set_option linter.unusedSimpArgs false

set_option maxRecDepth 100000 in
theorem wtyp_any {B b : Nat} {l : List UInt8} {w : World} (s : ByteArray) (h : BufAt 83 [] B b l w) (hB : B ≤ w.heap.size) (hg : Globs hv w gl) (hn : l.length + s.size ≤ 140737488355328) :
    Calls Tryz.prog 56 #[.pointer (some ⟨b, 0, none⟩), .string s] w (WPost B b l s.data.toList (typB s) w) := by
  have HS := Lib.hid (styp_any s w hg (by omega))
  have HH := Lib.hid h
  have HB := Lib.hid hB
  have HN := Lib.hid hn
  clear h hB hg hn
  generalize typB s = ok at *
  cases ok with
  | false =>
    go_enter Tryz.func56, Tryz.ntmps56
    go_wp2_with (first
      | (go_at_call 83; (with_reducible refine HS.out.mono ?_); rintro e w' ⟨rfl, hb⟩)
      | (go_at_call 18; (with_reducible refine (need_no _).mono ?_); rintro e w' ⟨rfl, rfl⟩))
    exact ⟨rfl, rfl, RowKit.Below.mono hb HB.out⟩
  | true =>
    go_enter Tryz.func56, Tryz.ntmps56
    go_wp2_with (first
      | (go_at_call 83; (with_reducible refine HS.out.mono ?_); rintro e w1 ⟨rfl, hb⟩)
      | (go_at_call 18; (with_reducible refine (need_yes _).mono ?_); rintro e w' ⟨rfl, rfl⟩))
    have HP := Lib.hid (sput1 s (HH.out.below hb) (Nat.le_trans HB.out hb.size) HN.out)
    have HBL := Lib.hid hb
    clear hb
    go_at_call 43
    refine HP.out.mono ?_
    rintro e w3 ⟨rfl, q1, q2, q3⟩
    have FIN : Hid (WPost B b l s.data.toList true w (.returned (.tuple #[])) w3) := Lib.hid ⟨rfl, q1, (RowKit.Below.mono HBL.out HB.out).trans q2, (Wr.of HBL.out).trans q3⟩
    clear q1 q2 q3 HP
    simp only
    go_wp2
    go_end0
    exact FIN.out

/-- Where a writer stands that began at w, behind l: it has written L. -/
structure WAt (W : World) (B b : Nat) (l : List UInt8) (w : World) (L : List UInt8) (w' : World) : Prop where
  ctx : Ctx W B w'
  buf : BufAt 83 [] B b (l ++ L) w'
  bel : Below B w w'
  wr : Wr b w w'
theorem WAt.start {W : World} {B b : Nat} {l : List UInt8} {w : World} (hc : Ctx W B w) (hb : BufAt 83 [] B b l w) : WAt W B b l w [] w :=
  ⟨hc, by simpa using hb, RowKit.Below.refl _ _, Wr.refl _ _⟩
theorem WAt.alloc {W : World} {B b : Nat} {l L : List UInt8} {w w' w'' : World} (A : WAt W B b l w L w') (h : Below w'.heap.size w' w'') : WAt W B b l w L w'' :=
  ⟨A.ctx.low h, A.buf.below h, A.bel.trans (RowKit.Below.mono h A.ctx.Bw), A.wr.trans (Wr.of h)⟩
theorem WAt.trans {W : World} {B b : Nat} {l L M : List UInt8} {w w1 w2 : World} (A : WAt W B b l w L w1) (C : WAt W B b (l ++ L) w1 M w2) : WAt W B b l w (L ++ M) w2 :=
  ⟨C.ctx, by rw [← List.append_assoc]; exact C.buf, A.bel.trans C.bel, A.wr.trans C.wr⟩
theorem WAt.anew {W : World} {B b : Nat} {l L : List UInt8} {w w1 : World} (A : WAt W B b l w L w1) : WAt W B b (l ++ L) w1 [] w1 := WAt.start A.ctx A.buf
def WRes (W : World) (B b : Nat) (l : List UInt8) (w : World) (L : List UInt8) (ok : Bool) (e : Ending) (w' : World) : Prop := match ok with
  | true => e = .returned (.tuple #[]) ∧ WAt W B b l w L w'
  | false => e = .panicked unfitP ∧ Below B w w'
theorem WAt.next {W : World} {B b : Nat} {l L t : List UInt8} {ok : Bool} {w w' : World} {P : Program} {f : FuncId} {args : Array Value} (A : WAt W B b l w L w') (h : Calls P f args w' (WPost B b (l ++ L) t ok w')) :
    Calls P f args w' fun e w'' => WRes W B b l w (L ++ t) ok e w'' := h.mono fun e w'' h => by
  cases ok with
  | true =>
    obtain ⟨h1, h2, h3, h4⟩ := h
    exact ⟨h1, A.ctx.next h3, by rw [← List.append_assoc]; exact h2, A.bel.trans h3, A.wr.trans h4⟩
  | false => exact ⟨h.1, A.bel.trans h.2⟩
theorem WAt.put {W : World} {B b : Nat} {l L : List UInt8} {w w' : World} (A : WAt W B b l w L w') (s : ByteArray) (hn : (l ++ L).length + s.size ≤ 140737488355328) :
    Calls Tryz.prog 43 #[.pointer (some ⟨b, 0, none⟩), .slice (some ⟨w'.heap.size, 0, none⟩) 1 1] (w'.alloc (.cells #[.string s] 9)) fun e w'' => e = .returned (.tuple #[]) ∧ WAt W B b l w (L ++ s.data.toList) w'' :=
  (sput1 s A.buf A.ctx.Bw hn).mono fun e w'' ⟨h1, h2, h3, h4⟩ => ⟨h1, A.ctx.next h3, by rw [← List.append_assoc]; exact h2, A.bel.trans h3, A.wr.trans h4⟩
theorem WAt.name {W : World} {B b : Nat} {l L : List UInt8} {w w' : World} (A : WAt W B b l w L w') (s : ByteArray) (hn : (l ++ L).length + 1000 ≤ 140737488355328) :
    Calls Tryz.prog 44 #[.pointer (some ⟨b, 0, none⟩), .string s] w' fun e w'' => WRes W B b l w (L ++ s.data.toList) (nameB s) e w'' :=
  A.next (wname_any s A.buf A.ctx.Bw A.ctx.globs hn)
theorem WAt.typ {W : World} {B b : Nat} {l L : List UInt8} {w w' : World} (A : WAt W B b l w L w') (s : ByteArray) (hn : (l ++ L).length + s.size ≤ 140737488355328) :
    Calls Tryz.prog 56 #[.pointer (some ⟨b, 0, none⟩), .string s] w' fun e w'' => WRes W B b l w (L ++ s.data.toList) (typB s) e w'' :=
  A.next (wtyp_any s A.buf A.ctx.Bw A.ctx.globs hn)
theorem WAt.expr {W : World} {B b : Nat} {l L : List UInt8} {w w' : World} (A : WAt W B b l w L w') (e : Ex) (cs : List Value) (hin : ExIn W e cs) (hn : (l ++ L).length + 1000 * e.cnt ≤ 100000000) :
    Calls Tryz.prog 20 #[.pointer (some ⟨b, 0, none⟩), .agg ⟨cs⟩] w' fun x w'' => WRes W B b l w (L ++ e.txt) e.right x w'' :=
  A.next (expr_any W e cs B b (l ++ L) w' hin A.ctx A.buf hn)
theorem WAt.cell {W : World} {B b : Nat} {l L : List UInt8} {w w' : World} (A : WAt W B b l w L w') {k : Nat} {cs : Array Value} {T : TypeId} {fr : Nat × Nat} (hk : w.heap[k]? = some (.cells cs T fr)) (hb : k ≠ b) (hT : T ≠ 5) : w'.heap[k]? = some (.cells cs T fr) := A.wr.cell hk hb hT
theorem WAt.fin {W : World} {B b : Nat} {l L : List UInt8} {w W1 w' : World} (A : WAt W B b l W1 L w') (hal : Below w.heap.size w W1) (hB : B ≤ w.heap.size) : WPost B b l L true w (.returned (.tuple #[])) w' :=
  WPost.low hal hB ⟨rfl, A.buf, A.bel, A.wr⟩
theorem fall {B b : Nat} {l t : List UInt8} {ok : Bool} {w W1 w' : World} (h : ok = false) (hb : Below B W1 w') (hal : Below w.heap.size w W1) (hB : B ≤ w.heap.size) : WPost B b l t ok w (.panicked unfitP) w' := by
  subst h
  exact ⟨rfl, (RowKit.Below.mono hal hB).trans hb⟩

set_option maxRecDepth 100000 in
set_option maxHeartbeats 1000000 in
theorem wparam_any {W : World} {B b : Nat} {l : List UInt8} {w : World} (p : Pm) (hc : Ctx W B w) (hb : BufAt 83 [] B b l w) (hl : l.length + p.typ.size + 1000 ≤ 140737488355328) :
    Calls Tryz.prog 55 #[.pointer (some ⟨b, 0, none⟩), .agg #[.string p.name, .string p.typ]] w (WPost B b l p.txt p.right w) := by
  obtain ⟨nm, ty⟩ := p
  simp only [Pm.txt, Pm.right] at hl ⊢
  obtain ⟨W1, hW1⟩ : ∃ W1, W1 = w.alloc (.cells #[.string nm, .string ty] 106) := ⟨_, rfl⟩
  have hal : Below w.heap.size w W1 := by rw [hW1]; exact (RowKit.Below.refl _ _).alloc (Nat.le_refl _) _
  have hrow : W1.heap[w.heap.size]? = some (.cells #[.string nm, .string ty] 106 (0, 0)) := by rw [hW1]; exact heap_alloc_new _ _
  have c0 : W1.cell? ⟨w.heap.size, 0, none⟩ = some (.string nm) := (Lib.cell_of_heap hrow 0).trans rfl
  have A0 := Lib.hid (WAt.start (hc.low hal) (hb.below hal))
  have HAL := Lib.hid hal
  have HROW := Lib.hid hrow
  have HBw := Lib.hid hc.Bw
  have HNE : Hid (w.heap.size ≠ b) := Lib.hid (by have := hb.lt; omega)
  have HL := Lib.hid hl
  have HNL := Lib.hid (@name_le nm)
  have HTS : Hid (ty.data.toList.length = ty.size) := Lib.hid (by rw [Array.length_toList]; rfl)
  have hcall := A0.out.name nm (by simp only [List.append_nil]; omega)
  have HCALL := Lib.hid hcall
  clear hc hb hl hal hrow hcall
  generalize nameB nm = b1 at *
  generalize hb2 : typB ty = b2 at *
  go_enter Tryz.func55, Tryz.ntmps55
  go_wp2_with fail
  rw [← hW1]
  clear hW1
  go_wp2_with fail
  go_at_call 44
  refine HCALL.out.mono ?_
  intro e w2 hp
  clear HCALL c0
  cases b1 with
  | false =>
    obtain ⟨rfl, p⟩ := hp
    exact ⟨rfl, fall rfl p HAL.out HBw.out⟩
  | true =>
    obtain ⟨rfl, hA⟩ := hp
    have hnl := HNL.out rfl
    have A1 := Lib.hid hA
    clear hA
    have HPUT := Lib.hid (A1.out.put ⟨#[58, 32]⟩ (by have := HL.out; simp only [List.length_append, List.nil_append]; show _ + 2 ≤ _; omega))
    simp only
    go_wp2_with fail
    go_at_call 43
    refine HPUT.out.mono ?_
    rintro e w3 ⟨rfl, hA⟩
    have A2 := Lib.hid hA
    clear hA HPUT
    have c1 : w3.cell? ⟨w.heap.size, 1, none⟩ = some (.string ty) := (Lib.cell_of_heap (A2.out.cell HROW.out HNE.out (by decide)) 1).trans rfl
    have hcall := A2.out.typ ty (by have := HL.out; have := HTS.out; simp only [List.length_append, List.nil_append]; show _ + (_ + 2) + _ ≤ _; omega)
    rw [hb2] at hcall
    have HCALL := Lib.hid hcall
    clear hcall
    simp only
    go_wp2_with fail
    go_at_call 56
    refine HCALL.out.mono ?_
    intro e w4 hp
    clear HCALL c1
    cases b2 with
    | false =>
      obtain ⟨rfl, p⟩ := hp
      exact ⟨rfl, fall rfl p HAL.out HBw.out⟩
    | true =>
      obtain ⟨rfl, hA⟩ := hp
      have FIN := Lib.hid (hA.fin HAL.out HBw.out)
      clear hA
      simp only
      go_wp2
      go_end0
      have h := FIN.out
      simpa using h
end Go.Proofs.YtggjeecpadnihaaGreatDoor

namespace Go.Proofs.YtggjeecpadnihaaGreatDoor
open Go Go.Proofs Go.Eng Go.RowKit Go.Sx Go.Deep
set_option linter.unusedVariables false
set_option linter.unusedSimpArgs false

/-- How long the text of names with types may be. -/
def pmW (l : List Pm) : Nat := (l.map fun p => p.typ.size + 100).sum
theorem pmW_app (a b : List Pm) : pmW (a ++ b) = pmW a + pmW b := by simp [pmW]
theorem pmW_take {l : List Pm} {i : Nat} {p : Pm} (h : l[i]? = some p) : pmW (l.take i) + (p.typ.size + 100) ≤ pmW l := by
  have e2 : pmW l = pmW (l.take (i + 1)) + pmW (l.drop (i + 1)) := by rw [← pmW_app, List.take_append_drop]
  have e3 : l.take (i + 1) = l.take i ++ [p] := by rw [List.take_add_one, h]; rfl
  rw [e3, pmW_app] at e2
  simp only [pmW, List.map_cons, List.map_nil, List.sum_cons, List.sum_nil] at e2 ⊢
  omega
theorem pm_len {p : Pm} (h : p.right = true) : p.txt.length ≤ p.typ.size + 22 := by
  obtain ⟨nm, ty⟩ := p
  unfold Pm.right at h
  rw [Bool.and_eq_true] at h
  have := name_le h.1
  have e : ty.data.toList.length = ty.size := by rw [Array.length_toList]; rfl
  simp only [Pm.txt, List.length_append, List.length_cons, List.length_nil] at *
  omega
theorem pms_len {l : List Pm} (h : rightP l = true) : (joinL (l.map Pm.txt)).length ≤ pmW l := by
  have h3 := joinL_len (l.map Pm.txt)
  rw [List.length_map] at h3
  have : ((l.map Pm.txt).map List.length).sum + 2 * l.length ≤ pmW l := by
    unfold pmW
    clear h3
    induction l with
    | nil => simp
    | cons p l ih =>
      unfold rightP at h ih
      rw [List.all_cons, Bool.and_eq_true] at h
      have h1 := pm_len h.1
      have h2 := ih h.2
      simp only [List.map_cons, List.sum_cons, List.length_cons] at h2 ⊢
      omega
  omega
theorem rightP_take {l : List Pm} {i : Nat} {p : Pm} (h : l[i]? = some p) (hr : rightP (l.take i) = true) : rightP (l.take (i + 1)) = p.right := by
  have e3 : l.take (i + 1) = l.take i ++ [p] := by rw [List.take_add_one, h]; rfl
  unfold rightP at hr ⊢
  rw [e3, List.all_append, hr]; simp
theorem rightP_false {l : List Pm} {i : Nat} {p : Pm} (h : l[i]? = some p) (he : p.right = false) : rightP l = false := by
  unfold rightP
  rw [List.all_eq_false]
  exact ⟨p, List.mem_of_getElem? h, by rw [he]; exact Bool.false_ne_true⟩
theorem pmap_take {l : List Pm} {i : Nat} {p : Pm} (h : l[i]? = some p) : (l.take (i + 1)).map Pm.txt = (l.take i).map Pm.txt ++ [p.txt] := by
  rw [List.take_add_one, h]; simp

set_option maxRecDepth 100000 in
set_option maxHeartbeats 1000000 in
theorem eachP_any {W : World} {ps : List Pm} {so : Option Addr} {cap : Nat} (hk : PmsIn W so ps) (hkl : ps.length ≤ 9223372036854775807)
    (B b : Nat) (l : List UInt8) (w : World) (hc : Ctx W B w) (hb : BufAt 83 [] B b l w) (hl : l.length + pmW ps + 2000 ≤ 100000000) :
    Calls Tryz.prog 54 #[.pointer (some ⟨b, 0, none⟩), .slice so ps.length cap, .func (.func 55) #[.pointer (some ⟨b, 0, none⟩)] #[]] w (WPost B b l (joinL (ps.map Pm.txt)) (rightP ps) w) := by
  have HK := Lib.hid hk
  have A0 := Lib.hid (WAt.start hc hb)
  have HL := Lib.hid hl
  have HBw := Lib.hid hc.Bw
  clear hk hc hb hl
  go_enter Tryz.func54, Tryz.ntmps54
  go_wp2_with fail
  go_loopg [10] ps.length (fun kx s10 wr => ∃ i : Nat, s10 = .int .i64 i ∧ i ≤ ps.length ∧ ps.length - i ≤ kx ∧ Aside (rightP (ps.take i) = true ∧ WAt W B b l w (joinL ((ps.take i).map Pm.txt)) wr))
  case atStart => exact ⟨0, rfl, by omega, by omega, rfl, A0.out⟩
  case round =>
    obtain ⟨i, rfl, hi, hg, hA⟩ := hrel
    have HA := Lib.hid hA.out
    clear hA
    by_cases hil : i < ps.length
    · have hx : ps[i]? = some ps[i] := List.getElem?_eq_getElem hil
      obtain ⟨g, o, rfl, hgW, a0, a1, hs1, hs2⟩ := HK.out i _ hx
      have d0 := HA.out.2.ctx.old.cell a0
      have d1 := HA.out.2.ctx.old.cell a1
      have hpt := pmW_take hx
      have hpl := pms_len HA.out.1
      have HFALSE : Hid ((ps[i] : Pm).right = false → rightP ps = false) := Lib.hid (fun he => rightP_false hx he)
      have HRT : Hid (rightP (ps.take (i + 1)) = (ps[i] : Pm).right) := Lib.hid (rightP_take hx HA.out.1)
      have HMT := Lib.hid (pmap_take hx)
      have hi1 : (i : Int) < (ps.length : Int) := by omega
      have hi0 : (0 : Int) ≤ (i : Int) := by omega
      generalize ps[i] = p at *
      obtain ⟨nm, ty⟩ := p
      simp only at d0 d1 hpt hs2
      have hal : Below wr.heap.size wr (wr.alloc (.cells #[.string nm, .string ty] 106)) := (RowKit.Below.refl _ _).alloc (Nat.le_refl _) _
      have A1 := Lib.hid (HA.out.2.alloc hal)
      have HPA := Lib.hid (fun (l : List UInt8) (w : World) (h1 : Ctx W B w) (h2 : BufAt 83 [] B b l w) (h3 : l.length + ty.size + 1000 ≤ 140737488355328) => wparam_any ⟨nm, ty⟩ h1 h2 h3)
      have HROW := Lib.hid (show (wr.alloc (.cells #[.string nm, .string ty] 106)).heap[wr.heap.size]? = some (.cells #[.string nm, .string ty] 106 (0, 0)) from heap_alloc_new _ _)
      have HNE : Hid (wr.heap.size ≠ b) := Lib.hid (by have := HA.out.2.buf.lt; omega)
      clear a0 a1 hx hal hs1 hs2
      generalize (Pm.mk nm ty).right = ok at *
      generalize (Pm.mk nm ty).txt = t at *
      have HTL : Hid ((l ++ joinL ((ps.take i).map Pm.txt)).length + ty.size + 2000 ≤ 100000000) := Lib.hid (by rw [List.length_append]; have := HL.out; omega)
      clear hpt hpl
      by_cases hi00 : i = 0
      · subst hi00
        have hi1n : 0 < ps.length := hil
        simp only [Nat.zero_mul, Nat.add_zero] at d0 d1
        have HCALL := Lib.hid (A1.out.next (HPA.out _ _ A1.out.ctx A1.out.buf (by have := HTL.out; omega)))
        clear HPA
        go_wp2_with fail
        go_at_call 55
        refine HCALL.out.mono ?_
        intro e w2 hp
        clear HCALL d0 d1
        cases ok with
        | false =>
          obtain ⟨rfl, p⟩ := hp
          exact ⟨rfl, by rw [HFALSE.out rfl]; exact ⟨rfl, p⟩⟩
        | true =>
          obtain ⟨rfl, hA2⟩ := hp
          have FIN : Hid (WAt W B b l w (joinL ((ps.take (0 + 1)).map Pm.txt)) w2) := Lib.hid (by rw [HMT.out]; simpa [joinL] using hA2)
          clear hA2
          simp only
          go_wp2_with fail
          go_roundg (ps.length - (0 + 1))
          case measure => omega
          case rel => exact ⟨0 + 1, by go_num, by omega, Nat.le_refl _, HRT.out, FIN.out⟩
      · have hi2 : (0 : Int) < (i : Int) := by omega
        have hne : (ps.take i).map Pm.txt ≠ [] := by
          intro h
          have := congrArg List.length h
          rw [List.length_map, List.length_take, List.length_nil] at this
          omega
        have HJS := Lib.hid (joinL_snoc t _ hne)
        have hsz : (wr.alloc (.cells #[.string nm, .string ty] 106)).heap.size = wr.heap.size + 1 := Array.size_push ..
        have C0 := Lib.hid A1.out.anew
        have hput := C0.out.put ⟨#[44, 32]⟩ (by have := HTL.out; rw [List.append_nil]; show _ + 2 ≤ _; omega)
        rw [hsz] at hput
        have HPUT := Lib.hid hput
        clear hput hsz hne
        go_wp2_with fail
        go_at_call 43
        refine HPUT.out.mono ?_
        rintro e w2 ⟨rfl, hA2⟩
        have C1 := Lib.hid hA2
        have hrow2 := hA2.cell HROW.out HNE.out (by decide)
        have c0 : w2.cell? ⟨wr.heap.size, 0, none⟩ = some (.string nm) := (Lib.cell_of_heap hrow2 0).trans rfl
        have c1 : w2.cell? ⟨wr.heap.size, 1, none⟩ = some (.string ty) := (Lib.cell_of_heap hrow2 1).trans rfl
        have HCALL := Lib.hid (C1.out.next (HPA.out _ _ C1.out.ctx C1.out.buf (by have := HTL.out; simp only [List.length_append, List.nil_append] at this ⊢; show _ + _ + 2 + _ + _ ≤ _; omega)))
        clear HPA hA2 hrow2 d0 d1 HPUT
        simp only
        go_wp2_with fail
        go_at_call 55
        refine HCALL.out.mono ?_
        intro e w3 hp
        clear HCALL c0 c1
        cases ok with
        | false =>
          obtain ⟨rfl, p⟩ := hp
          exact ⟨rfl, by rw [HFALSE.out rfl]; exact ⟨rfl, A1.out.bel.trans p⟩⟩
        | true =>
          obtain ⟨rfl, hA3⟩ := hp
          have FIN : Hid (WAt W B b l w (joinL ((ps.take (i + 1)).map Pm.txt)) w3) := Lib.hid (by rw [HMT.out, HJS.out]; simpa using A1.out.trans hA3)
          clear hA3
          simp only
          go_wp2_with fail
          go_roundg (ps.length - (i + 1))
          case measure => omega
          case rel => exact ⟨i + 1, by go_num, by omega, Nat.le_refl _, HRT.out, FIN.out⟩
    · obtain rfl : i = ps.length := by omega
      have HFIN : Hid (WPost B b l (joinL (ps.map Pm.txt)) (rightP ps) w (.returned (.tuple #[])) wr) := Lib.hid (by
        have h := HA.out
        rw [List.take_length] at h
        rw [h.1]
        exact ⟨rfl, h.2.buf, h.2.bel, h.2.wr⟩)
      clear HA
      go_wp2_with fail
      go_end0
      exact HFIN.out
end Go.Proofs.YtggjeecpadnihaaGreatDoor

namespace Go.Proofs.YtggjeecpadnihaaGreatDoor
open Go Go.Proofs Go.Eng Go.RowKit Go.Sx Go.Deep
set_option linter.unusedVariables false
set_option linter.unusedSimpArgs false

theorem exs_len {W : World} {es : List Ex} {so : Option Addr} (hk : KidsIn W es so 0) (hr : rightL es = true) (i : Nat) : (exT es i).length ≤ 1000 * cntL es := by
  unfold exT
  cases h : es[i]? with
  | none => simp
  | some e =>
    obtain ⟨g, o, c0, c1, c2, c3, c4, _, _, _, _, _, _, _, h5⟩ := kids_at0 hk i e h
    have h1 := txt_len _ e _ rfl h5 (rightL_iff.1 hr e (List.mem_of_getElem? h))
    have h2 := cntL_get h
    show e.txt.length ≤ _
    omega
theorem exs_len2 {W : World} {es : List Ex} {so : Option Addr} (hk : KidsIn W es so 0) (hr : rightL es = true) : (exT es 0).length + (exT es 1).length ≤ 1000 * cntL es := by
  cases h0 : es[0]? with
  | none =>
    have : es = [] := by cases es with | nil => rfl | cons a l => simp at h0
    subst this
    simp [exT]
  | some a =>
    cases h1 : es[1]? with
    | none =>
      have h := exs_len hk hr 0
      have e : (exT es 1).length = 0 := by unfold exT; rw [h1]; rfl
      omega
    | some b =>
      obtain ⟨g, o, c0, c1, c2, c3, c4, _, _, _, _, _, _, _, h5⟩ := kids_at0 hk 0 a h0
      obtain ⟨g', o', c0', c1', c2', c3', c4', _, _, _, _, _, _, _, h5'⟩ := kids_at0 hk 1 b h1
      have q1 := txt_len _ a _ rfl h5 (rightL_iff.1 hr a (List.mem_of_getElem? h0))
      have q2 := txt_len _ b _ rfl h5' (rightL_iff.1 hr b (List.mem_of_getElem? h1))
      have q3 := cntL_two h0 h1
      unfold exT
      rw [h0, h1]
      show a.txt.length + b.txt.length ≤ _
      omega

set_option maxRecDepth 100000 in
theorem sts_len {W : World} {m : Nat} (ih : ∀ (x : Smt) (cs : List Value), x.cnt < m → StIn W x cs → x.right = true → x.txt.length + 500 ≤ 1000 * x.cnt) {l : List Smt} {so : Option Addr} (hk : ∀ (i : Nat) x, l[i]? = some x → StAt W so i x) (hr : rightS l = true) (hm : cntS l < m) :
    (txtS l).length + 500 * l.length ≤ 1000 * cntS l := by
  have key : ∀ x ∈ l, x.txt.length + 500 ≤ 1000 * x.cnt := fun x hx => by
    obtain ⟨i, hi⟩ := List.mem_iff_getElem?.1 hx
    obtain ⟨g, o, c0, c1, c2, c3, c4, c5, _, _, _, _, _, _, _, _, hin⟩ := hk i x hi
    exact ih x _ (by have := cntS_get hi; omega) hin (rightS_iff.1 hr x hx)
  clear hk hr hm ih
  induction l with
  | nil => simp [txtS, cntS]
  | cons x l ih2 =>
    have h1 := key x (by simp)
    have h2 := ih2 (fun y hy => key y (by simp [hy]))
    simp only [txtS, cntS, List.length_append, List.length_cons]
    omega
theorem st_len {W : World} : ∀ (m : Nat) (x : Smt) (cs : List Value), x.cnt < m → StIn W x cs → x.right = true → x.txt.length + 500 ≤ 1000 * x.cnt := by
  intro m
  induction m with
  | zero => intro x cs h; omega
  | succ m ih =>
  intro x cs hm hin hr
  obtain ⟨k, s, es, body, els, line⟩ := x
  simp only [StIn] at hin
  obtain ⟨so1, p1, so2, p2, so3, p3, _, _, hk, hb, he⟩ := hin
  simp only [Smt.cnt] at hm ⊢
  simp only [Smt.right, Bool.and_eq_true] at hr
  obtain ⟨⟨hr1, hr2, hr3⟩, hr4⟩ := hr
  have l1 := sts_len (m := m) ih (sts_at0 hb) hr2 (by omega)
  have l2 := sts_len (m := m) ih (sts_at0 he) hr3 (by omega)
  have e0 := exs_len hk hr1 0
  have e01 := exs_len2 hk hr1
  have hn : k = 1 → s.data.toList.length ≤ 20 := fun h => by
    subst h
    unfold rightSK at hr4
    rw [if_pos rfl] at hr4
    simp only [Bool.and_eq_true] at hr4
    exact name_le hr4.1.1
  simp only [Smt.txt, txtSK]
  by_cases h1 : k = 1
  · have := hn h1
    rw [if_pos h1]
    simp only [List.length_append, List.length_cons, List.length_nil]; omega
  rw [if_neg h1]
  by_cases h2 : k = 2
  · rw [if_pos h2]
    simp only [List.length_append, List.length_cons, List.length_nil]; omega
  rw [if_neg h2]
  by_cases h3 : k = 3
  · rw [if_pos h3]
    simp only [List.length_append, List.length_cons, List.length_nil]; omega
  rw [if_neg h3]
  by_cases h4 : k = 4
  · rw [if_pos h4]
    simp only [List.length_append, List.length_cons, List.length_nil]; omega
  rw [if_neg h4]
  by_cases h5 : k = 5
  · rw [if_pos h5]
    simp only [List.length_append, List.length_cons, List.length_nil]; omega
  rw [if_neg h5]
  by_cases h6 : k = 6
  · rw [if_pos h6]
    split
    · simp only [List.length_cons, List.length_nil]; omega
    · simp only [List.length_append, List.length_cons, List.length_nil]; omega
  rw [if_neg h6]
  by_cases h7 : k = 7
  · rw [if_pos h7]
    simp only [List.length_append, List.length_cons, List.length_nil]; omega
  rw [if_neg h7]
  simp only [List.length_nil]; omega
theorem txtS_len {W : World} {l : List Smt} {so : Option Addr} (hk : StsIn W l so 0) (hr : rightS l = true) : (txtS l).length ≤ 1000 * cntS l := by
  have := sts_len (m := cntS l + 1) (st_len _) (sts_at0 hk) hr (by omega)
  omega
theorem txtS_len_take {W : World} {l : List Smt} {so : Option Addr} (hk : StsIn W l so 0) {i : Nat} (hr : rightS (l.take i) = true) : (txtS (l.take i)).length ≤ 1000 * cntS (l.take i) := by
  have := sts_len (m := cntS (l.take i) + 1) (st_len _) (so := so) (l := l.take i) (fun j x hj => sts_at0 hk j x (by
    have hlt : j < i := by
      by_cases h : j < i
      · exact h
      · rw [List.getElem?_eq_none (by rw [List.length_take]; omega)] at hj; cases hj
    rwa [List.getElem?_take_of_lt hlt] at hj)) hr (by omega)
  omega

/-- What writing a statement does. -/
def StmtC (W : World) (x : Smt) : Prop := ∀ (cs : List Value) (B b : Nat) (l : List UInt8) (w : World), StIn W x cs → Ctx W B w → BufAt 83 [] B b l w → l.length + 1000 * x.cnt ≤ 100000000 →
  Calls Tryz.prog 84 #[.pointer (some ⟨b, 0, none⟩), .agg ⟨cs⟩] w (WPost B b l x.txt x.right w)

theorem ap_assoc (a b c : List UInt8) : a ++ b ++ c = a ++ (b ++ c) := List.append_assoc a b c
set_option maxRecDepth 100000 in
set_option maxHeartbeats 1000000 in
theorem block_any {W : World} {xs : List Smt} {so : Option Addr} {cap : Nat} (hk : StsIn W xs so 0) (H : ∀ (i : Nat) x, xs[i]? = some x → StmtC W x) (hkl : xs.length ≤ 9223372036854775807) (beh : ByteArray) (hbeh : beh.size ≤ 10)
    (B b : Nat) (l : List UInt8) (w : World) (hc : Ctx W B w) (hb : BufAt 83 [] B b l w) (hl : l.length + 1000 * cntS xs + 100 ≤ 100000000) :
    Calls Tryz.prog 57 #[.pointer (some ⟨b, 0, none⟩), .slice so xs.length cap, .string beh] w (WPost B b l ([123, 10] ++ txtS xs ++ ([125] ++ beh.data.toList)) (rightS xs) w) := by
  have HK := Lib.hid hk
  have HH := Lib.hid H
  have A0 := Lib.hid (WAt.start hc hb)
  have HL := Lib.hid hl
  have HPUT := Lib.hid (A0.out.put ⟨#[123, 10]⟩ (by rw [List.append_nil]; show _ + 2 ≤ _; omega))
  have HBEH := Lib.hid hbeh
  clear hk H hc hb hl hbeh
  go_enter Tryz.func57, Tryz.ntmps57
  go_wp2_with fail
  go_at_call 43
  refine HPUT.out.mono ?_
  rintro e w1 ⟨rfl, hA⟩
  have A1 := Lib.hid hA
  clear hA HPUT
  simp only
  go_wp2_with fail
  go_loopg [13] xs.length (fun kx s13 wr => ∃ i : Nat, s13 = .int .i64 i ∧ i ≤ xs.length ∧ xs.length - i ≤ kx ∧ Aside (rightS (xs.take i) = true ∧ WAt W B b l w ([123, 10] ++ txtS (xs.take i)) wr))
  case atStart => exact ⟨0, rfl, by omega, by omega, rfl, by simpa [txtS] using A1.out⟩
  case round =>
    obtain ⟨i, rfl, hi, hg, hA⟩ := hrel
    have HA := Lib.hid hA.out
    clear hA
    have hln := txtS_len_take HK.out HA.out.1
    by_cases hil : i < xs.length
    · have hx : xs[i]? = some xs[i] := List.getElem?_eq_getElem hil
      obtain ⟨g, o, so1, p1, so2, p2, so3, p3, rfl, a0, a1, a2, a3, a4, a5, ht⟩ := st_open (sts_at0 HK.out i _ hx) HA.out.2.ctx.old
      have HX := Lib.hid (HH.out i _ hx)
      have hct := cntS_take hx
      have HFALSE : Hid ((xs[i] : Smt).right = false → rightS xs = false) := Lib.hid (fun he => rightS_false hx he)
      have HRT : Hid (rightS (xs.take (i + 1)) = (xs[i] : Smt).right) := Lib.hid (rightS_take hx HA.out.1)
      have HMT := Lib.hid (txtS_take hx)
      have hi1 : (i : Int) < (xs.length : Int) := by omega
      have hi0 : (0 : Int) ≤ (i : Int) := by omega
      generalize (xs[i] : Smt) = x at *
      have HIN := Lib.hid ht
      obtain ⟨k', s', es', body', els', line'⟩ := x
      simp only [Smt.kind, Smt.str, Smt.es, Smt.body, Smt.els, Smt.line] at a0 a1 a2 a3 a4 a5 HIN
      obtain ⟨W2, hW2⟩ : ∃ W2, W2 = wr.alloc (.cells #[.int .i64 k', .string s', .slice so1 es'.length p1, .slice so2 body'.length p2, .slice so3 els'.length p3, .int .i64 line'] 103) := ⟨_, rfl⟩
      have hal : Below wr.heap.size wr W2 := by rw [hW2]; exact (RowKit.Below.refl _ _).alloc (Nat.le_refl _) _
      have hrow2 : W2.heap[wr.heap.size]? = some (.cells #[.int .i64 k', .string s', .slice so1 es'.length p1, .slice so2 body'.length p2, .slice so3 els'.length p3, .int .i64 line'] 103 (0, 0)) := by rw [hW2]; exact heap_alloc_new _ _
      have A2 := Lib.hid (HA.out.2.alloc hal)
      have HCALL := Lib.hid (A2.out.next (HX.out _ B b _ W2 HIN.out A2.out.ctx A2.out.buf (by have := HL.out; simp only [List.length_append, List.length_cons, List.length_nil]; omega)))
      have HROW2 := Lib.hid hrow2
      clear ht hx hal hrow2 HX hct
      generalize (Smt.mk k' s' es' body' els' line').right = ok at *
      generalize (Smt.mk k' s' es' body' els' line').txt = t at *
      go_wp2_with fail
      rw [← hW2]
      clear hW2
      obtain ⟨c0, c1, c2, c3, c4, c5⟩ := st_cells HROW2.out
      go_wp2_with fail
      go_at_call 84
      refine HCALL.out.mono ?_
      intro e w2 hp
      clear HCALL c0 c1 c2 c3 c4 c5 a0 a1 a2 a3 a4 a5
      cases ok with
      | false =>
        obtain ⟨rfl, p⟩ := hp
        exact ⟨rfl, by rw [HFALSE.out rfl]; exact ⟨rfl, p⟩⟩
      | true =>
        obtain ⟨rfl, hA2⟩ := hp
        have FIN : Hid (WAt W B b l w ([123, 10] ++ txtS (xs.take (i + 1))) w2) := Lib.hid (by rw [HMT.out, ← ap_assoc]; exact hA2)
        clear hA2
        simp only
        go_wp2_with fail
        go_roundg (xs.length - (i + 1))
        case measure => omega
        case rel => exact ⟨i + 1, by go_num, by omega, Nat.le_refl _, HRT.out, FIN.out⟩
    · obtain rfl : i = xs.length := by omega
      have hA := HA.out
      rw [List.take_length] at hA hln
      have HR := Lib.hid hA.1
      have A2 := Lib.hid hA.2
      clear hA HA
      have hrow := sput_row [⟨#[125]⟩, beh] 2 A2.out.buf A2.out.ctx.Bw (by
        have := HL.out; have := HBEH.out
        have e : (catL [⟨#[125]⟩, beh]).length = 1 + beh.size := by
          have : beh.data.toList.length = beh.size := by rw [Array.length_toList]; rfl
          simp [catL, this]; omega
        rw [e]
        simp only [List.length_append, List.length_cons, List.length_nil]; omega) (by simp)
      have HP := Lib.hid hrow
      clear hrow
      go_wp2_with fail
      go_at_call 43
      refine HP.out.mono ?_
      rintro e w3 ⟨rfl, q1, q2, q3⟩
      have FIN : Hid (WPost B b l ([123, 10] ++ txtS xs ++ ([125] ++ beh.data.toList)) (rightS xs) w (.returned (.tuple #[])) w3) := Lib.hid (by
        rw [HR.out]
        refine ⟨rfl, ?_, A2.out.bel.trans q2, A2.out.wr.trans q3⟩
        have e : catL [⟨#[125]⟩, beh] = [125] ++ beh.data.toList := by simp [catL]
        rw [← e, ← List.append_assoc]; exact q1)
      clear q1 q2 q3 HP
      simp only
      go_wp2
      go_end0
      have h := FIN.out
      simpa using h
end Go.Proofs.YtggjeecpadnihaaGreatDoor

namespace Go.Proofs.YtggjeecpadnihaaGreatDoor
open Go Go.Proofs Go.Eng Go.RowKit Go.Sx Go.Deep
set_option linter.unusedVariables false
set_option linter.unusedSimpArgs false

/-- What branch is told. -/
structure BCtx (W : World) (k : Int) (s : ByteArray) (x : Ex) (body els : List Smt) (line : Int) (so1 so2 so3 : Option Addr) (B b : Nat) (l : List UInt8) (w : World) : Prop where
  hx : KidAt W so1 0 x
  hb : StsIn W body so2 0
  he : StsIn W els so3 0
  Hb : ∀ (i : Nat) y, body[i]? = some y → StmtC W y
  He : ∀ (i : Nat) y, els[i]? = some y → StmtC W y
  lb : body.length ≤ 9223372036854775807
  le : els.length ≤ 9223372036854775807
  hc : Ctx W B w
  buf : BufAt 83 [] B b l w
  hl : l.length + 1000 * (x.cnt + cntS body + cntS els + 1) ≤ 100000000

set_option maxRecDepth 100000 in
set_option maxHeartbeats 2000000 in
theorem branch_3 {W : World} {k line : Int} {s : ByteArray} {x : Ex} {body els : List Smt} {so1 so2 so3 : Option Addr} {p1 p2 p3 B b : Nat} {l : List UInt8} {w : World} (h : BCtx W 3 s x body els line so1 so2 so3 B b l w) :
    Calls Tryz.prog 112 #[.pointer (some ⟨b, 0, none⟩), .agg #[.int .i64 3, .string s, .slice so1 1 p1, .slice so2 body.length p2, .slice so3 els.length p3, .int .i64 line]] w (WPost B b l ([105, 102, 32] ++ x.txt ++ [32] ++ ([123, 10] ++ txtS body ++ ([125] ++ [10]))) (x.right && rightS body) w) := by
  obtain ⟨hx, hb, he, Hb, He, lb, le, hc, buf, hl⟩ := h
  obtain ⟨W1, hW1⟩ : ∃ W1, W1 = w.alloc (.cells #[.int .i64 3, .string s, .slice so1 1 p1, .slice so2 body.length p2, .slice so3 els.length p3, .int .i64 line] 103) := ⟨_, rfl⟩
  have hal : Below w.heap.size w W1 := by rw [hW1]; exact (RowKit.Below.refl _ _).alloc (Nat.le_refl _) _
  have hrow : W1.heap[w.heap.size]? = some (.cells #[.int .i64 3, .string s, .slice so1 1 p1, .slice so2 body.length p2, .slice so3 els.length p3, .int .i64 line] 103 (0, 0)) := by rw [hW1]; exact heap_alloc_new _ _
  obtain ⟨c0, c1, c2, c3, c4, c5⟩ := st_cells hrow
  have A0 := Lib.hid (WAt.start (hc.low hal) (buf.below hal))
  have HAL := Lib.hid hal
  have HROW := Lib.hid hrow
  have HBw := Lib.hid hc.Bw
  have HNE : Hid (w.heap.size ≠ b) := Lib.hid (by have := buf.lt; omega)
  have HL := Lib.hid hl
  have HXL : Hid (x.right = true → x.txt.length ≤ 1000 * x.cnt) := Lib.hid fun hr => by
    obtain ⟨g, o, c0, c1, c2, c3, c4, _, _, _, _, _, _, _, h5⟩ := hx
    have h1 := txt_len _ x _ rfl h5 hr
    omega
  have HBL : Hid (rightS body = true → (txtS body).length ≤ 1000 * cntS body) := Lib.hid fun hr => txtS_len hb hr
  have HKX := Lib.hid hx
  have HBLK := Lib.hid (fun (beh : ByteArray) (hbeh : beh.size ≤ 10) (l : List UInt8) (w : World) (hc : Ctx W B w) (h : BufAt 83 [] B b l w) (hl : l.length + 1000 * cntS body + 100 ≤ 100000000) => block_any (cap := p2) hb Hb lb beh hbeh B b l w hc h hl)
  clear hx hb he Hb He lb le hc buf hl hal hrow
  generalize cntS body = nb at *
  generalize cntS els = ne at *
  go_enter Tryz.func112, Tryz.ntmps112
  go_wp2_with fail
  rw [← hW1]
  clear hW1
  go_wp2_with (go_at_call 18; (with_reducible refine (need_yes _).mono ?_); rintro e w' ⟨rfl, rfl⟩)
  clear c0 c1 c2 c3 c4 c5
  have HPUT := Lib.hid (A0.out.put ⟨#[105, 102, 32]⟩ (by have := HL.out; simp only [List.length_append, List.length_cons, List.length_nil, List.nil_append] at *; show _ + 3 ≤ _; omega))
  go_at_call 43
  refine HPUT.out.mono ?_
  rintro e w2 ⟨rfl, hA⟩
  have A1 := Lib.hid hA
  clear hA HPUT
  obtain ⟨c0, c1, c2, c3, c4, c5⟩ := st_cells (A1.out.cell HROW.out HNE.out (by decide))
  obtain ⟨g, o, so', cap', rfl, a0, a1, a2, a3, a4, ht⟩ := kid_cells HKX.out A1.out.ctx.old
  simp only [Nat.zero_mul, Nat.add_zero] at a0 a1 a2 a3 a4
  have HCALL := Lib.hid (A1.out.expr x _ ht (by have := HL.out; simp only [List.length_append, List.length_cons, List.length_nil, List.nil_append] at *; omega))
  clear HKX ht
  obtain ⟨xk, xs, xn, xkids, xline⟩ := x
  simp only [Ex.kind, Ex.str, Ex.num, Ex.kids, Ex.line] at a0 a1 a2 a3 a4 HCALL
  generalize (Ex.mk xk xs xn xkids xline).right = ox at *
  generalize (Ex.mk xk xs xn xkids xline).txt = tx at *
  generalize (Ex.mk xk xs xn xkids xline).cnt = cx at *
  simp only
  go_wp2_with fail
  go_at_call 20
  refine HCALL.out.mono ?_
  intro e w3 hp
  clear HCALL c0 c1 c2 c3 c4 c5 a0 a1 a2 a3 a4
  cases ox with
  | false =>
    obtain ⟨rfl, p⟩ := hp
    exact ⟨rfl, fall rfl p HAL.out HBw.out⟩
  | true =>
    obtain ⟨rfl, hA⟩ := hp
    have A2 := Lib.hid hA
    have hxl := HXL.out rfl
    clear hA
    have HPUT := Lib.hid (A2.out.put ⟨#[32]⟩ (by have := HL.out; simp only [List.length_append, List.length_cons, List.length_nil, List.nil_append] at *; show _ + 1 ≤ _; omega))
    simp only
    go_wp2_with fail
    go_at_call 43
    refine HPUT.out.mono ?_
    rintro e w4 ⟨rfl, hA⟩
    have A3 := Lib.hid hA
    clear hA HPUT
    obtain ⟨c0, c1, c2, c3, c4, c5⟩ := st_cells (A3.out.cell HROW.out HNE.out (by decide))
    have HCALL := Lib.hid (A3.out.next (HBLK.out ⟨#[10]⟩ (by decide) _ _ A3.out.ctx A3.out.buf (by have := HL.out; simp only [List.length_append, List.length_cons, List.length_nil, List.nil_append] at *; omega)))
    generalize rightS body = ob at *
    simp only
    go_wp2_with fail
    go_at_call 57
    refine HCALL.out.mono ?_
    intro e w5 hp
    clear HCALL c0 c1 c2 c3 c4 c5 HBLK
    cases ob with
    | false =>
      obtain ⟨rfl, p⟩ := hp
      exact ⟨rfl, fall rfl p HAL.out HBw.out⟩
    | true =>
      obtain ⟨rfl, hA⟩ := hp
      have FIN := Lib.hid (hA.fin HAL.out HBw.out)
      clear hA
      simp only
      go_wp2
      go_end0
      have h := FIN.out
      simpa using h

set_option maxRecDepth 100000 in
set_option maxHeartbeats 2000000 in
theorem branch_5 {W : World} {k line : Int} {s : ByteArray} {x : Ex} {body els : List Smt} {so1 so2 so3 : Option Addr} {p1 p2 p3 B b : Nat} {l : List UInt8} {w : World} (h : BCtx W 5 s x body els line so1 so2 so3 B b l w) :
    Calls Tryz.prog 112 #[.pointer (some ⟨b, 0, none⟩), .agg #[.int .i64 5, .string s, .slice so1 1 p1, .slice so2 body.length p2, .slice so3 els.length p3, .int .i64 line]] w (WPost B b l ([119, 104, 105, 108, 101, 32] ++ x.txt ++ [32] ++ ([123, 10] ++ txtS body ++ ([125] ++ [10]))) (x.right && rightS body) w) := by
  obtain ⟨hx, hb, he, Hb, He, lb, le, hc, buf, hl⟩ := h
  obtain ⟨W1, hW1⟩ : ∃ W1, W1 = w.alloc (.cells #[.int .i64 5, .string s, .slice so1 1 p1, .slice so2 body.length p2, .slice so3 els.length p3, .int .i64 line] 103) := ⟨_, rfl⟩
  have hal : Below w.heap.size w W1 := by rw [hW1]; exact (RowKit.Below.refl _ _).alloc (Nat.le_refl _) _
  have hrow : W1.heap[w.heap.size]? = some (.cells #[.int .i64 5, .string s, .slice so1 1 p1, .slice so2 body.length p2, .slice so3 els.length p3, .int .i64 line] 103 (0, 0)) := by rw [hW1]; exact heap_alloc_new _ _
  obtain ⟨c0, c1, c2, c3, c4, c5⟩ := st_cells hrow
  have A0 := Lib.hid (WAt.start (hc.low hal) (buf.below hal))
  have HAL := Lib.hid hal
  have HROW := Lib.hid hrow
  have HBw := Lib.hid hc.Bw
  have HNE : Hid (w.heap.size ≠ b) := Lib.hid (by have := buf.lt; omega)
  have HL := Lib.hid hl
  have HXL : Hid (x.right = true → x.txt.length ≤ 1000 * x.cnt) := Lib.hid fun hr => by
    obtain ⟨g, o, c0, c1, c2, c3, c4, _, _, _, _, _, _, _, h5⟩ := hx
    have h1 := txt_len _ x _ rfl h5 hr
    omega
  have HBL : Hid (rightS body = true → (txtS body).length ≤ 1000 * cntS body) := Lib.hid fun hr => txtS_len hb hr
  have HKX := Lib.hid hx
  have HBLK := Lib.hid (fun (beh : ByteArray) (hbeh : beh.size ≤ 10) (l : List UInt8) (w : World) (hc : Ctx W B w) (h : BufAt 83 [] B b l w) (hl : l.length + 1000 * cntS body + 100 ≤ 100000000) => block_any (cap := p2) hb Hb lb beh hbeh B b l w hc h hl)
  clear hx hb he Hb He lb le hc buf hl hal hrow
  generalize cntS body = nb at *
  generalize cntS els = ne at *
  go_enter Tryz.func112, Tryz.ntmps112
  go_wp2_with fail
  rw [← hW1]
  clear hW1
  go_wp2_with (go_at_call 18; (with_reducible refine (need_yes _).mono ?_); rintro e w' ⟨rfl, rfl⟩)
  clear c0 c1 c2 c3 c4 c5
  have HPUT := Lib.hid (A0.out.put ⟨#[119, 104, 105, 108, 101, 32]⟩ (by have := HL.out; simp only [List.length_append, List.length_cons, List.length_nil, List.nil_append] at *; show _ + 6 ≤ _; omega))
  go_at_call 43
  refine HPUT.out.mono ?_
  rintro e w2 ⟨rfl, hA⟩
  have A1 := Lib.hid hA
  clear hA HPUT
  obtain ⟨c0, c1, c2, c3, c4, c5⟩ := st_cells (A1.out.cell HROW.out HNE.out (by decide))
  obtain ⟨g, o, so', cap', rfl, a0, a1, a2, a3, a4, ht⟩ := kid_cells HKX.out A1.out.ctx.old
  simp only [Nat.zero_mul, Nat.add_zero] at a0 a1 a2 a3 a4
  have HCALL := Lib.hid (A1.out.expr x _ ht (by have := HL.out; simp only [List.length_append, List.length_cons, List.length_nil, List.nil_append] at *; omega))
  clear HKX ht
  obtain ⟨xk, xs, xn, xkids, xline⟩ := x
  simp only [Ex.kind, Ex.str, Ex.num, Ex.kids, Ex.line] at a0 a1 a2 a3 a4 HCALL
  generalize (Ex.mk xk xs xn xkids xline).right = ox at *
  generalize (Ex.mk xk xs xn xkids xline).txt = tx at *
  generalize (Ex.mk xk xs xn xkids xline).cnt = cx at *
  simp only
  go_wp2_with fail
  go_at_call 20
  refine HCALL.out.mono ?_
  intro e w3 hp
  clear HCALL c0 c1 c2 c3 c4 c5 a0 a1 a2 a3 a4
  cases ox with
  | false =>
    obtain ⟨rfl, p⟩ := hp
    exact ⟨rfl, fall rfl p HAL.out HBw.out⟩
  | true =>
    obtain ⟨rfl, hA⟩ := hp
    have A2 := Lib.hid hA
    have hxl := HXL.out rfl
    clear hA
    have HPUT := Lib.hid (A2.out.put ⟨#[32]⟩ (by have := HL.out; simp only [List.length_append, List.length_cons, List.length_nil, List.nil_append] at *; show _ + 1 ≤ _; omega))
    simp only
    go_wp2_with fail
    go_at_call 43
    refine HPUT.out.mono ?_
    rintro e w4 ⟨rfl, hA⟩
    have A3 := Lib.hid hA
    clear hA HPUT
    obtain ⟨c0, c1, c2, c3, c4, c5⟩ := st_cells (A3.out.cell HROW.out HNE.out (by decide))
    have HCALL := Lib.hid (A3.out.next (HBLK.out ⟨#[10]⟩ (by decide) _ _ A3.out.ctx A3.out.buf (by have := HL.out; simp only [List.length_append, List.length_cons, List.length_nil, List.nil_append] at *; omega)))
    generalize rightS body = ob at *
    simp only
    go_wp2_with fail
    go_at_call 57
    refine HCALL.out.mono ?_
    intro e w5 hp
    clear HCALL c0 c1 c2 c3 c4 c5 HBLK
    cases ob with
    | false =>
      obtain ⟨rfl, p⟩ := hp
      exact ⟨rfl, fall rfl p HAL.out HBw.out⟩
    | true =>
      obtain ⟨rfl, hA⟩ := hp
      have FIN := Lib.hid (hA.fin HAL.out HBw.out)
      clear hA
      simp only
      go_wp2
      go_end0
      have h := FIN.out
      simpa using h

set_option maxRecDepth 100000 in
set_option maxHeartbeats 2000000 in
theorem branch_4 {W : World} {k line : Int} {s : ByteArray} {x : Ex} {body els : List Smt} {so1 so2 so3 : Option Addr} {p1 p2 p3 B b : Nat} {l : List UInt8} {w : World} (h : BCtx W 4 s x body els line so1 so2 so3 B b l w) :
    Calls Tryz.prog 112 #[.pointer (some ⟨b, 0, none⟩), .agg #[.int .i64 4, .string s, .slice so1 1 p1, .slice so2 body.length p2, .slice so3 els.length p3, .int .i64 line]] w (WPost B b l ([105, 102, 32] ++ x.txt ++ [32] ++ ([123, 10] ++ txtS body ++ ([125] ++ [32, 101, 108, 115, 101, 32])) ++ ([123, 10] ++ txtS els ++ ([125] ++ [10]))) (x.right && rightS body && rightS els) w) := by
  obtain ⟨hx, hb, he, Hb, He, lb, le, hc, buf, hl⟩ := h
  obtain ⟨W1, hW1⟩ : ∃ W1, W1 = w.alloc (.cells #[.int .i64 4, .string s, .slice so1 1 p1, .slice so2 body.length p2, .slice so3 els.length p3, .int .i64 line] 103) := ⟨_, rfl⟩
  have hal : Below w.heap.size w W1 := by rw [hW1]; exact (RowKit.Below.refl _ _).alloc (Nat.le_refl _) _
  have hrow : W1.heap[w.heap.size]? = some (.cells #[.int .i64 4, .string s, .slice so1 1 p1, .slice so2 body.length p2, .slice so3 els.length p3, .int .i64 line] 103 (0, 0)) := by rw [hW1]; exact heap_alloc_new _ _
  obtain ⟨c0, c1, c2, c3, c4, c5⟩ := st_cells hrow
  have A0 := Lib.hid (WAt.start (hc.low hal) (buf.below hal))
  have HAL := Lib.hid hal
  have HROW := Lib.hid hrow
  have HBw := Lib.hid hc.Bw
  have HNE : Hid (w.heap.size ≠ b) := Lib.hid (by have := buf.lt; omega)
  have HL := Lib.hid hl
  have HXL : Hid (x.right = true → x.txt.length ≤ 1000 * x.cnt) := Lib.hid fun hr => by
    obtain ⟨g, o, c0, c1, c2, c3, c4, _, _, _, _, _, _, _, h5⟩ := hx
    have h1 := txt_len _ x _ rfl h5 hr
    omega
  have HBL : Hid (rightS body = true → (txtS body).length ≤ 1000 * cntS body) := Lib.hid fun hr => txtS_len hb hr
  have HKX := Lib.hid hx
  have HBLK := Lib.hid (fun (beh : ByteArray) (hbeh : beh.size ≤ 10) (l : List UInt8) (w : World) (hc : Ctx W B w) (h : BufAt 83 [] B b l w) (hl : l.length + 1000 * cntS body + 100 ≤ 100000000) => block_any (cap := p2) hb Hb lb beh hbeh B b l w hc h hl)
  have HELS := Lib.hid (fun (beh : ByteArray) (hbeh : beh.size ≤ 10) (l : List UInt8) (w : World) (hc : Ctx W B w) (h : BufAt 83 [] B b l w) (hl : l.length + 1000 * cntS els + 100 ≤ 100000000) => block_any (cap := p3) he He le beh hbeh B b l w hc h hl)
  clear hx hb he Hb He lb le hc buf hl hal hrow
  generalize cntS body = nb at *
  generalize cntS els = ne at *
  go_enter Tryz.func112, Tryz.ntmps112
  go_wp2_with fail
  rw [← hW1]
  clear hW1
  go_wp2_with (go_at_call 18; (with_reducible refine (need_yes _).mono ?_); rintro e w' ⟨rfl, rfl⟩)
  clear c0 c1 c2 c3 c4 c5
  have HPUT := Lib.hid (A0.out.put ⟨#[105, 102, 32]⟩ (by have := HL.out; simp only [List.length_append, List.length_cons, List.length_nil, List.nil_append] at *; show _ + 3 ≤ _; omega))
  go_at_call 43
  refine HPUT.out.mono ?_
  rintro e w2 ⟨rfl, hA⟩
  have A1 := Lib.hid hA
  clear hA HPUT
  obtain ⟨c0, c1, c2, c3, c4, c5⟩ := st_cells (A1.out.cell HROW.out HNE.out (by decide))
  obtain ⟨g, o, so', cap', rfl, a0, a1, a2, a3, a4, ht⟩ := kid_cells HKX.out A1.out.ctx.old
  simp only [Nat.zero_mul, Nat.add_zero] at a0 a1 a2 a3 a4
  have HCALL := Lib.hid (A1.out.expr x _ ht (by have := HL.out; simp only [List.length_append, List.length_cons, List.length_nil, List.nil_append] at *; omega))
  clear HKX ht
  obtain ⟨xk, xs, xn, xkids, xline⟩ := x
  simp only [Ex.kind, Ex.str, Ex.num, Ex.kids, Ex.line] at a0 a1 a2 a3 a4 HCALL
  generalize (Ex.mk xk xs xn xkids xline).right = ox at *
  generalize (Ex.mk xk xs xn xkids xline).txt = tx at *
  generalize (Ex.mk xk xs xn xkids xline).cnt = cx at *
  simp only
  go_wp2_with fail
  go_at_call 20
  refine HCALL.out.mono ?_
  intro e w3 hp
  clear HCALL c0 c1 c2 c3 c4 c5 a0 a1 a2 a3 a4
  cases ox with
  | false =>
    obtain ⟨rfl, p⟩ := hp
    exact ⟨rfl, fall rfl p HAL.out HBw.out⟩
  | true =>
    obtain ⟨rfl, hA⟩ := hp
    have A2 := Lib.hid hA
    have hxl := HXL.out rfl
    clear hA
    have HPUT := Lib.hid (A2.out.put ⟨#[32]⟩ (by have := HL.out; simp only [List.length_append, List.length_cons, List.length_nil, List.nil_append] at *; show _ + 1 ≤ _; omega))
    simp only
    go_wp2_with fail
    go_at_call 43
    refine HPUT.out.mono ?_
    rintro e w4 ⟨rfl, hA⟩
    have A3 := Lib.hid hA
    clear hA HPUT
    obtain ⟨c0, c1, c2, c3, c4, c5⟩ := st_cells (A3.out.cell HROW.out HNE.out (by decide))
    have HCALL := Lib.hid (A3.out.next (HBLK.out ⟨#[32, 101, 108, 115, 101, 32]⟩ (by decide) _ _ A3.out.ctx A3.out.buf (by have := HL.out; simp only [List.length_append, List.length_cons, List.length_nil, List.nil_append] at *; omega)))
    generalize rightS body = ob at *
    simp only
    go_wp2_with fail
    go_at_call 57
    refine HCALL.out.mono ?_
    intro e w5 hp
    clear HCALL c0 c1 c2 c3 c4 c5 HBLK
    cases ob with
    | false =>
      obtain ⟨rfl, p⟩ := hp
      exact ⟨rfl, fall rfl p HAL.out HBw.out⟩
    | true =>
      obtain ⟨rfl, hA⟩ := hp
      have A4 := Lib.hid hA
      have hbl := HBL.out rfl
      clear hA
      obtain ⟨c0, c1, c2, c3, c4, c5⟩ := st_cells (A4.out.cell HROW.out HNE.out (by decide))
      have HCALL := Lib.hid (A4.out.next (HELS.out ⟨#[10]⟩ (by decide) _ _ A4.out.ctx A4.out.buf (by
        have := HL.out
        have e : (⟨#[32, 101, 108, 115, 101, 32]⟩ : ByteArray).data.toList.length = 6 := rfl
        simp only [List.length_append, List.length_cons, List.length_nil, List.nil_append, e] at *; omega)))
      generalize rightS els = oe at *
      simp only
      go_wp2_with fail
      go_at_call 57
      refine HCALL.out.mono ?_
      intro e w6 hp
      clear HCALL c0 c1 c2 c3 c4 c5 HELS
      cases oe with
      | false =>
        obtain ⟨rfl, p⟩ := hp
        exact ⟨rfl, fall rfl p HAL.out HBw.out⟩
      | true =>
        obtain ⟨rfl, hA⟩ := hp
        have FIN := Lib.hid (hA.fin HAL.out HBw.out)
        clear hA
        simp only
        go_wp2
        go_end0
        have h := FIN.out
        simpa using h

set_option maxRecDepth 100000 in
set_option maxHeartbeats 2000000 in
theorem branch_no {W : World} {k line : Int} {s : ByteArray} {x : Ex} {body els : List Smt} {so1 so2 so3 : Option Addr} {p1 p2 p3 B b : Nat} {l : List UInt8} {w : World} (h : BCtx W k s x body els line so1 so2 so3 B b l w) (h3 : k ≠ 3) (h4 : k ≠ 4) (h5 : k ≠ 5) (t : List UInt8) :
    Calls Tryz.prog 112 #[.pointer (some ⟨b, 0, none⟩), .agg #[.int .i64 k, .string s, .slice so1 1 p1, .slice so2 body.length p2, .slice so3 els.length p3, .int .i64 line]] w (WPost B b l (t) (false) w) := by
  obtain ⟨hx, hb, he, Hb, He, lb, le, hc, buf, hl⟩ := h
  obtain ⟨W1, hW1⟩ : ∃ W1, W1 = w.alloc (.cells #[.int .i64 k, .string s, .slice so1 1 p1, .slice so2 body.length p2, .slice so3 els.length p3, .int .i64 line] 103) := ⟨_, rfl⟩
  have hal : Below w.heap.size w W1 := by rw [hW1]; exact (RowKit.Below.refl _ _).alloc (Nat.le_refl _) _
  have hrow : W1.heap[w.heap.size]? = some (.cells #[.int .i64 k, .string s, .slice so1 1 p1, .slice so2 body.length p2, .slice so3 els.length p3, .int .i64 line] 103 (0, 0)) := by rw [hW1]; exact heap_alloc_new _ _
  obtain ⟨c0, c1, c2, c3, c4, c5⟩ := st_cells hrow
  have A0 := Lib.hid (WAt.start (hc.low hal) (buf.below hal))
  have HAL := Lib.hid hal
  have HROW := Lib.hid hrow
  have HBw := Lib.hid hc.Bw
  have HNE : Hid (w.heap.size ≠ b) := Lib.hid (by have := buf.lt; omega)
  have HL := Lib.hid hl
  have g3 : (k == 3) = false := beq_eq_false_iff_ne.2 h3
  have g4 : (k == 4) = false := beq_eq_false_iff_ne.2 h4
  have g5 : (k == 5) = false := beq_eq_false_iff_ne.2 h5
  clear h3 h4 h5
  generalize q3 : (k == 3) = b3 at *
  subst g3
  generalize q4 : (k == 4) = b4 at *
  subst g4
  generalize q5 : (k == 5) = b5 at *
  subst g5
  clear hx hb he Hb He lb le hc buf hl hal hrow
  go_enter Tryz.func112, Tryz.ntmps112
  go_wp2_with fail
  rw [← hW1]
  clear hW1
  go_wp2_with (go_at_call 18; (with_reducible refine (need_no _).mono ?_); rintro e w' ⟨rfl, rfl⟩)
  exact ⟨rfl, fall rfl (RowKit.Below.refl _ _) HAL.out HBw.out⟩
end Go.Proofs.YtggjeecpadnihaaGreatDoor
