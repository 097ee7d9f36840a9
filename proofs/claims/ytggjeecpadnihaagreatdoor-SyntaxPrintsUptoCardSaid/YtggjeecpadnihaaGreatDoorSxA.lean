/- Expressions as plain trees: which may be told, and their texts. -/
import Derived.Lib.ItoaNum
import Derived.Test.YtggjeecpadnihaaGreatDoorProg
import Derived.WalkKit
import Derived.Deep.QuietTactic
import Derived.BigQuiet
import Derived.Deep.LoopGhost
import Derived.Deep.Slices
import Derived.IntWalk
import Derived.Lib.Hide
import Derived.Laws.Rows
import Derived.Lib.Builder
import Derived.WalkLawsBesides
import Derived.RegionTactic
import Derived.Lib.Strings
import Derived.Lib.Slices
import Derived.Lib.Walk
import Derived.Lib.AppendStr
import Derived.Lib.UnsafeStr
import Derived.Laws.Externs
import Derived.Laws.BitsLemmas
import Derived.Test.YtggjeecpadnihaaGreatDoorShelf
import Derived.Laws.RangeAny
import Derived.Laws.RangeString
import Derived.Laws.CopyOwn
import Derived.Laws.MakeOwn
import Derived.Deep.RegionLaw
import Derived.Test.YtggjeecpadnihaaGreatDoorSyntaxWritesRun
import Derived.Test.YtggjeecpadnihaaGreatDoorEngVB
import Derived.Test.YtggjeecpadnihaaGreatDoorEngOr
import Derived.Lib.AppendIntMem
namespace Go.Sx

/-- An expression. -/
inductive Ex where
  | mk (kind : Int) (s : ByteArray) (n : Int) (kids : List Ex) (line : Int)

def Ex.kind : Ex → Int | .mk k _ _ _ _ => k
def Ex.str : Ex → ByteArray | .mk _ s _ _ _ => s
def Ex.num : Ex → Int | .mk _ _ n _ _ => n
def Ex.line : Ex → Int | .mk _ _ _ _ l => l
def Ex.kids : Ex → List Ex | .mk _ _ _ l _ => l

mutual
/-- How many parts. -/
def Ex.cnt : Ex → Nat
  | .mk _ _ _ kids _ => cntL kids + 1
def cntL : List Ex → Nat
  | [] => 0
  | e :: l => e.cnt + cntL l
end
mutual
def Ex.depth : Ex → Nat
  | .mk _ _ _ kids _ => depthL kids + 1
def depthL : List Ex → Nat
  | [] => 0
  | e :: l => max e.depth (depthL l)
end

def letB (c : UInt8) : Bool := (decide (97 ≤ c.toNat) && decide (c.toNat ≤ 122)) || (decide (65 ≤ c.toNat) && decide (c.toNat ≤ 90)) || decide (c.toNat = 95)
def digB (c : UInt8) : Bool := decide (48 ≤ c.toNat) && decide (c.toNat ≤ 57)
def ldB (c : UInt8) : Bool := letB c || digB c
def bs (l : List UInt8) : ByteArray := ⟨l.toArray⟩
/-- The words. -/
def words : List ByteArray := [⟨#[102, 110]⟩, ⟨#[114, 101, 99, 111, 114, 100]⟩, ⟨#[108, 101, 116]⟩, ⟨#[105, 102]⟩, ⟨#[101, 108, 115, 101]⟩, ⟨#[119, 104, 105, 108, 101]⟩, ⟨#[114, 101, 116, 117, 114, 110]⟩, ⟨#[110, 101, 119]⟩, ⟨#[116, 114, 117, 101]⟩, ⟨#[102, 97, 108, 115, 101]⟩]
def wordB (s : ByteArray) : Bool := words.any fun w => w.toList == s.toList
def firstDig : List UInt8 → Bool
  | [] => false
  | c :: _ => digB c
/-- Is a text a name? -/
def nameB (s : ByteArray) : Bool := (!s.toList.isEmpty && decide ((s.size : Int) ≤ 20)) && (!firstDig s.data.toList && (!wordB s && s.data.toList.all ldB))
def plainC (c : UInt8) : Bool := decide (c.toNat = 10) || (decide (32 ≤ c.toNat) && decide (c.toNat ≤ 126))
/-- May a text be written? -/
def plainB (s : ByteArray) : Bool := decide (s.size ≤ 255) && s.data.toList.all plainC
def escC (c : UInt8) : List UInt8 := if c = 92 then [92, 92] else if c = 34 then [92, 34] else if c = 10 then [92, 110] else [c]
def escL (l : List UInt8) : List UInt8 := l.flatMap escC
def quotL (s : ByteArray) : List UInt8 := 34 :: (escL s.data.toList ++ [34])

/-- The line of a sign between two; below 0: it is none. -/
def lvl (s : ByteArray) : Int :=
  if s.toList == [124, 124] then 0 else if s.toList == [38, 38] then 1 else if s.toList == [61, 61] then 2 else if s.toList == [33, 61] then 2
  else if s.toList == [60] then 3 else if s.toList == [60, 61] then 3 else if s.toList == [62] then 3 else if s.toList == [62, 61] then 3
  else if s.toList == [43] then 4 else if s.toList == [45] then 4 else if s.toList == [42] then 5 else if s.toList == [47] then 5 else if s.toList == [37] then 5 else -1

/-- May a part be told, so many kids? -/
def rightK (k : Int) (s : ByteArray) (n : Int) (m : Nat) : Bool :=
  if k = 1 then decide (0 ≤ n) && decide (s.size = 0) && decide (m = 0)
  else if k = 2 then (decide (n = 0) || decide (n = 1)) && decide (s.size = 0) && decide (m = 0)
  else if k = 3 then plainB s && decide (n = 0) && decide (m = 0)
  else if k = 4 then nameB s && decide (n = 0) && decide (m = 0)
  else if k = 5 ∨ k = 11 then nameB s && decide (n = 0)
  else if k = 6 then ((s.toList == [45]) || (s.toList == [33])) && decide (n = 0) && decide (m = 1)
  else if k = 7 then decide (0 ≤ lvl s) && decide (n = 0) && decide (m = 2)
  else if k = 8 then decide (s.size = 0) && decide (n = 0) && decide (m = 2)
  else if k = 9 then nameB s && decide (n = 0) && decide (m = 1)
  else if k = 10 then decide (s.size = 0) && decide (n = 0) && decide (0 < m)
  else false
mutual
/-- May an expression be told, its depth apart? -/
def Ex.right : Ex → Bool
  | .mk k s n kids _ => rightL kids && rightK k s n kids.length
def rightL : List Ex → Bool
  | [] => true
  | e :: l => e.right && rightL l
end

/-- How tightly an expression's text binds. -/
def bindK (k : Int) (s : ByteArray) : Int := if k = 6 then 6 else if k = 7 then lvl s else 7
def Ex.bind : Ex → Int | .mk k s _ _ _ => bindK k s
def win (b : Int) (t : List UInt8) (least : Int) : List UInt8 := if b < least then 40 :: (t ++ [41]) else t
/-- Texts with , between. -/
def joinL : List (List UInt8) → List UInt8
  | [] => []
  | [t] => t
  | t :: l => t ++ ([44, 32] ++ joinL l)
def kidT (ts : List (Int × List UInt8)) (i : Nat) (least : Int) : List UInt8 := match ts[i]? with
  | some (b, t) => win b t least
  | none => []
def txtK (k : Int) (s : ByteArray) (n : Int) (ts : List (Int × List UInt8)) : List UInt8 :=
  let l := s.data.toList
  if k = 1 then Lib.itoa n
  else if k = 2 then (if n = 1 then [116, 114, 117, 101] else [102, 97, 108, 115, 101])
  else if k = 3 then quotL s
  else if k = 4 then l
  else if k = 5 then l ++ (40 :: (joinL (ts.map Prod.snd) ++ [41]))
  else if k = 6 then l ++ kidT ts 0 6
  else if k = 7 then kidT ts 0 (lvl s) ++ (32 :: (l ++ (32 :: kidT ts 1 (lvl s + 1))))
  else if k = 8 then kidT ts 0 7 ++ (91 :: (kidT ts 1 (-1) ++ [93]))
  else if k = 9 then kidT ts 0 7 ++ (46 :: l)
  else if k = 10 then 91 :: (joinL (ts.map Prod.snd) ++ [93])
  else [110, 101, 119, 32] ++ (l ++ (40 :: (joinL (ts.map Prod.snd) ++ [41])))
mutual
def Ex.txt : Ex → List UInt8
  | .mk k s n kids _ => txtK k s n (txts kids)
def txts : List Ex → List (Int × List UInt8)
  | [] => []
  | e :: l => (e.bind, e.txt) :: txts l
end

/-- What PrintExpr tells. -/
def printE (e : Ex) : List UInt8 × Int :=
  if e.right && decide (e.depth ≤ 24) then (if e.txt.length > 4096 then ([], 5) else (e.txt, 0)) else ([], 2)

/-! ### Sizes -/
theorem cnt_pos (e : Ex) : 1 ≤ e.cnt := by cases e; simp [Ex.cnt]
theorem cntL_get {l : List Ex} {i : Nat} {e : Ex} (h : l[i]? = some e) : e.cnt ≤ cntL l := by
  induction l generalizing i with
  | nil => simp at h
  | cons x l ih =>
    cases i with
    | zero => simp at h; subst h; simp [cntL]
    | succ i => simp at h; have := ih h; simp [cntL]; omega
theorem cntL_app (a b : List Ex) : cntL (a ++ b) = cntL a + cntL b := by
  induction a with
  | nil => simp [cntL]
  | cons x a ih => simp [cntL, ih]; omega
theorem depthL_le {l : List Ex} {m : Nat} : (∀ e ∈ l, e.depth ≤ m) → depthL l ≤ m := by
  induction l with
  | nil => intro _; simp [depthL]
  | cons x l ih => intro h; simp only [depthL]; have := h x (by simp); have := ih (fun e he => h e (by simp [he])); omega
theorem rightL_iff {l : List Ex} : rightL l = true ↔ ∀ e ∈ l, e.right = true := by
  induction l with
  | nil => simp [rightL]
  | cons x l ih => simp [rightL, ih]
theorem txts_len (l : List Ex) : (txts l).length = l.length := by
  induction l with
  | nil => rfl
  | cons x l ih => simp [txts, ih]
theorem txts_get {l : List Ex} {i : Nat} {e : Ex} (h : l[i]? = some e) : (txts l)[i]? = some (e.bind, e.txt) := by
  induction l generalizing i with
  | nil => simp at h
  | cons x l ih =>
    cases i with
    | zero => simp at h; subst h; rfl
    | succ i => simp at h; simpa [txts] using ih h
theorem txts_snd (l : List Ex) : (txts l).map Prod.snd = l.map Ex.txt := by
  induction l with
  | nil => rfl
  | cons x l ih => simp [txts, ih]
end Go.Sx

namespace Go.Proofs.YtggjeecpadnihaaGreatDoor
open Go.RowKit Go.Proofs Go.Deep Go.Sx
set_option linter.unusedVariables false
set_option linter.unusedSimpArgs false

/-- What there was is as it was. -/
structure Old (W w : World) : Prop where
  size : W.heap.size ≤ w.heap.size
  block : ∀ k, k < W.heap.size → w.heap[k]? = W.heap[k]?
theorem Old.refl (W : World) : Old W W := ⟨Nat.le_refl _, fun _ _ => rfl⟩
theorem Old.belowB {W w w' : World} {B : Nat} (h : Old W w) (hB : W.heap.size ≤ B) (hb : Below B w w') : Old W w' :=
  ⟨Nat.le_trans h.size hb.size, fun k hk => (hb.block k (by omega)).trans (h.block k hk)⟩
theorem Old.below {W w w' : World} (h : Old W w) (hb : Below w.heap.size w w') : Old W w' := h.belowB h.size hb
theorem Old.of {W w : World} (h : Below W.heap.size W w) : Old W w := (Old.refl W).below h
theorem Old.cell {W w : World} (h : Old W w) {p : Addr} {v : Value} (hp : W.cell? p = some v) : w.cell? p = some v :=
  (World.cell?_of_block (h.block p.block (World.block_lt_of_cell? W _ hp))).trans hp
theorem Old.heq {W w w' : World} (h : Old W w) (e : w'.heap = w.heap) : Old W w' := ⟨by rw [e]; exact h.size, fun k hk => by rw [e]; exact h.block k hk⟩

mutual
/-- The five cells of an expression. -/
def ExIn (W : World) : Ex → List Value → Prop
  | .mk k s n kids line, cs => ∃ so cap, cs = [.int .i64 k, .string s, .int .i64 n, .slice so kids.length cap, .int .i64 line] ∧ (-9223372036854775808 ≤ n ∧ n ≤ 9223372036854775807 ∧ s.size ≤ 9223372036854775807) ∧ kids.length ≤ 9223372036854775807 ∧ KidsIn W kids so 0
def KidsIn (W : World) : List Ex → Option Addr → Nat → Prop
  | [], _, _ => True
  | e :: l, so, i => (∃ g o c0 c1 c2 c3 c4, so = some ⟨g, o, none⟩ ∧ g < W.heap.size ∧ W.cell? ⟨g, o + i * 5, none⟩ = some c0 ∧ W.cell? ⟨g, o + i * 5 + 1, none⟩ = some c1 ∧ W.cell? ⟨g, o + i * 5 + 2, none⟩ = some c2 ∧
      W.cell? ⟨g, o + i * 5 + 3, none⟩ = some c3 ∧ W.cell? ⟨g, o + i * 5 + 4, none⟩ = some c4 ∧ ExIn W e [c0, c1, c2, c3, c4]) ∧ KidsIn W l so (i + 1)
end

/-- A kid in its place. -/
def KidAt (W : World) (so : Option Addr) (i : Nat) (e : Ex) : Prop :=
  ∃ g o c0 c1 c2 c3 c4, so = some ⟨g, o, none⟩ ∧ g < W.heap.size ∧ W.cell? ⟨g, o + i * 5, none⟩ = some c0 ∧ W.cell? ⟨g, o + i * 5 + 1, none⟩ = some c1 ∧ W.cell? ⟨g, o + i * 5 + 2, none⟩ = some c2 ∧
      W.cell? ⟨g, o + i * 5 + 3, none⟩ = some c3 ∧ W.cell? ⟨g, o + i * 5 + 4, none⟩ = some c4 ∧ ExIn W e [c0, c1, c2, c3, c4]
theorem kids_at {W : World} {so : Option Addr} : ∀ {kids : List Ex} {j : Nat}, KidsIn W kids so j → ∀ {i : Nat} {e : Ex}, kids[i]? = some e → KidAt W so (j + i) e
  | [], _, _, _, _, h => by simp at h
  | x :: l, j, hk, 0, e, h => by
    simp at h; subst h
    simp only [KidsIn] at hk
    exact hk.1
  | x :: l, j, hk, i + 1, e, h => by
    simp at h
    simp only [KidsIn] at hk
    have := kids_at hk.2 h
    rwa [show j + (i + 1) = j + 1 + i by omega]
theorem kids_build {W : World} {so : Option Addr} : ∀ (m j : Nat), (∀ i, j ≤ i → i < j + m → ∃ e, KidAt W so i e) → ∃ l : List Ex, l.length = m ∧ KidsIn W l so j
  | 0, j, _ => ⟨[], rfl, by simp only [KidsIn]⟩
  | m + 1, j, h => by
    obtain ⟨e, he⟩ := h j (Nat.le_refl _) (by omega)
    obtain ⟨l, hl, hk⟩ := kids_build m (j + 1) (fun i h1 h2 => h i (by omega) (by omega))
    exact ⟨e :: l, by simp [hl], by simp only [KidsIn]; exact ⟨he, hk⟩⟩

/-- A kid's cells. -/
theorem kid_open {W : World} {so : Option Addr} {i : Nat} {e : Ex} (h : KidAt W so i e) : ∃ g o so' cap', so = some ⟨g, o, none⟩ ∧ g < W.heap.size ∧ W.cell? ⟨g, o + i * 5, none⟩ = some (.int .i64 e.kind) ∧ W.cell? ⟨g, o + i * 5 + 1, none⟩ = some (.string e.str) ∧
    W.cell? ⟨g, o + i * 5 + 2, none⟩ = some (.int .i64 e.num) ∧ W.cell? ⟨g, o + i * 5 + 3, none⟩ = some (.slice so' e.kids.length cap') ∧ W.cell? ⟨g, o + i * 5 + 4, none⟩ = some (.int .i64 e.line) ∧
    ExIn W e [.int .i64 e.kind, .string e.str, .int .i64 e.num, .slice so' e.kids.length cap', .int .i64 e.line] := by
  obtain ⟨g, o, c0, c1, c2, c3, c4, rfl, hg, a0, a1, a2, a3, a4, hin⟩ := h
  cases e with
  | mk k s n kids line =>
  have hin' := hin
  simp only [ExIn] at hin'
  obtain ⟨so', cap', hcs, _⟩ := hin'
  injection hcs with h0 hcs
  injection hcs with h1 hcs
  injection hcs with h2 hcs
  injection hcs with h3 hcs
  injection hcs with h4 hcs
  subst h0 h1 h2 h3 h4
  exact ⟨g, o, so', cap', rfl, hg, a0, a1, a2, a3, a4, hin⟩

set_option maxRecDepth 100000 in
/-- An expression that came in is a tree. -/
theorem ex_of_trod {H : Type} {enc : TypeId × Value → H} {W : World} {base : Nat} {sp : Nat → Bool} {held : Bool} : ∀ (n : Nat) (cs : List Value) (x : DataW H × List MemPlace), DataW.trod enc Tryz.prog W base sp held n 25 cs = some x → ∃ e, ExIn W e cs := by
  intro n
  induction n using Nat.strongRecOn with
  | ind n ih =>
  intro cs x h
  obtain ⟨xs, m, rfl, _, hl, _, hf⟩ := DataW.trod_struct Tryz.underlying25 h
  have hc : Tryz.prog.cellsOf 25 = 5 := by kernel_rfl
  rw [hc] at hl
  match cs, hl with
  | [c0, c1, c2, c3, c4], _ =>
    have hlen : xs.length = 5 := by assumption
    have hc3 : Tryz.prog.cellsOf 23 = 1 := by kernel_rfl
    have h0 := hf 0 _ rfl
    have h1 := hf 1 _ rfl
    have h2 := hf 2 _ rfl
    have h3 := hf 3 _ rfl
    have h4 := hf 4 _ rfl
    have h0 : DataW.trod enc Tryz.prog W base sp held _ 22 [c0] = xs[0]? := h0
    have h1 : DataW.trod enc Tryz.prog W base sp held _ 9 [c1] = xs[1]? := h1
    have h2 : DataW.trod enc Tryz.prog W base sp held _ 3 [c2] = xs[2]? := h2
    have h3 : DataW.trod enc Tryz.prog W base sp held _ 23 [c3] = xs[3]? := h3
    have h4 : DataW.trod enc Tryz.prog W base sp held _ 3 [c4] = xs[4]? := h4
    rw [List.getElem?_eq_getElem (by omega)] at h0 h1 h2 h3 h4
    obtain ⟨z0, e0, _, _⟩ := DataW.trod_int Tryz.underlying22 h0
    obtain ⟨s1, e1, _, hs1⟩ := DataW.trod_string Tryz.underlying9 h1
    obtain ⟨z2, e2, _, hw2⟩ := DataW.trod_int Tryz.underlying3 h2
    obtain ⟨z4, e4, _, _⟩ := DataW.trod_int Tryz.underlying3 h4
    obtain rfl := (List.cons.inj e0).1
    obtain rfl := (List.cons.inj e1).1
    obtain rfl := (List.cons.inj e2).1
    obtain rfl := (List.cons.inj e4).1
    have hr : -9223372036854775808 ≤ z2 ∧ z2 ≤ 9223372036854775807 ∧ s1.size ≤ 9223372036854775807 := by
      have hsz : s1.size ≤ 9223372036854775807 := by unfold maxLen at hs1; omega
      have hr : IntKind.min .i64 ≤ z2 ∧ z2 ≤ IntKind.max .i64 := by simpa [Lit.wf] using hw2
      have q0 : IntKind.min .i64 = -9223372036854775808 := by decide
      have q1 : IntKind.max .i64 = 9223372036854775807 := by decide
      rw [q0, q1] at hr; exact ⟨hr.1, hr.2, hsz⟩
    rcases DataW.trod_slice Tryz.underlying23 h3 with ⟨e, _⟩ | ⟨a, len, cap, elems, rest, n', e1, e2, _, _, hlc, hcm, hel, hx, _⟩
    · obtain rfl := (List.cons.inj e).1
      exact ⟨.mk z0 s1 z2 [] z4, by simp only [ExIn]; exact ⟨none, 0, rfl, hr, by simp, by simp only [KidsIn]⟩⟩
    · obtain rfl := (List.cons.inj e2).1
      have hkid : ∀ i, i < len → ∃ e, KidAt W (some a) i e := fun i hi => by
        have h := hx i hi
        rw [hc, List.getElem?_eq_getElem (by omega)] at h
        obtain ⟨cs', q1, q2⟩ := Option.bind_eq_some_iff.1 h
        obtain ⟨e, he⟩ := ih n' (by omega) _ _ q2
        obtain ⟨g, o, spot⟩ := a
        have hs : spot = none := by
          have hx0 := hx 0 (by omega)
          rw [hc, List.getElem?_eq_getElem (by omega)] at hx0
          obtain ⟨cs0, q10, _⟩ := Option.bind_eq_some_iff.1 hx0
          obtain ⟨_, hlen', hcc⟩ := World.cells?_some q10
          have := hcc 0 (by omega)
          rw [List.getElem?_eq_getElem (by omega)] at this
          simpa [Addr.add] using World.cell?_spot this
        subst hs
        obtain ⟨_, hlen', hcc⟩ := World.cells?_some q1
        match cs', hlen' with
        | [d0, d1, d2, d3, d4], _ =>
          have a0 := hcc 0 (by omega)
          have a1 := hcc 1 (by omega)
          have a2 := hcc 2 (by omega)
          have a3 := hcc 3 (by omega)
          have a4 := hcc 4 (by omega)
          simp only [Addr.add_lit] at a0 a1 a2 a3 a4
          exact ⟨e, g, o, d0, d1, d2, d3, d4, rfl, World.block_lt_of_cell? W _ a0, a0, a1, a2, a3, a4, he⟩
      obtain ⟨l, hl, hk⟩ := kids_build (W := W) (so := some a) len 0 (fun i _ h2 => hkid i (by omega))
      exact ⟨.mk z0 s1 z2 l z4, by simp only [ExIn]; exact ⟨some a, cap, by rw [hl], hr, by unfold maxLen at hcm; omega, hk⟩⟩
end Go.Proofs.YtggjeecpadnihaaGreatDoor

namespace Go.Proofs.YtggjeecpadnihaaGreatDoor
open Go.RowKit Go.Proofs Go.Deep Go.Sx
set_option linter.unusedVariables false
set_option linter.unusedSimpArgs false

theorem depthL_take {l : List Ex} {i : Nat} {e : Ex} (h : l[i]? = some e) : depthL (l.take (i + 1)) = max (depthL (l.take i)) e.depth := by
  induction l generalizing i with
  | nil => simp at h
  | cons x l ih =>
    cases i with
    | zero => simp at h; subst h; simp [depthL]
    | succ i => simp at h; simp only [List.take_succ_cons, depthL, ih h]; omega
theorem depth_cnt : (∀ e : Ex, e.depth ≤ e.cnt) := by
  have key : ∀ (m : Nat) (e : Ex), e.cnt ≤ m → e.depth ≤ e.cnt := by
    intro m
    induction m with
    | zero => intro e h; have := cnt_pos e; omega
    | succ m ih =>
      intro e h
      cases e with
      | mk k s n kids line =>
        simp only [Ex.depth, Ex.cnt] at *
        have : depthL kids ≤ cntL kids := depthL_le (fun x hx => by
          obtain ⟨i, hi⟩ := List.mem_iff_getElem?.1 hx
          have h1 := cntL_get hi
          have := ih x (by omega)
          omega)
        omega
  intro e; exact key _ e (Nat.le_refl _)

set_option maxRecDepth 100000 in
set_option maxHeartbeats 1000000 in
theorem depth_any (W : World) : ∀ (m : Nat) (e : Ex) (cs : List Value), e.cnt = m → m ≤ 4096 → ExIn W e cs → ∀ w, Old W w → Calls Tryz.prog 19 #[.agg ⟨cs⟩] w fun e' w' => e' = .returned (.int .i64 e.depth) ∧ Below w.heap.size w w' := by
  intro m
  induction m using Nat.strongRecOn with
  | ind m ih =>
  intro e cs he hm hin w hw
  obtain ⟨k, s, n, kids, line⟩ := e
  simp only [ExIn] at hin
  obtain ⟨so, cap, rfl, _, hl, hk⟩ := hin
  simp only [Ex.cnt] at he
  have HK := Lib.hid (fun (i : Nat) (e : Ex) (hi : kids[i]? = some e) => kids_at hk hi)
  have IH := Lib.hid ih
  have HW := Lib.hid hw
  have HE := Lib.hid he
  have HC := Lib.hid (fun (i : Nat) (e : Ex) (hi : kids[i]? = some e) => cntL_get hi)
  clear ih hw hk he
  obtain ⟨W1, hW1⟩ : ∃ W1, W1 = w.alloc (.cells ⟨[.int .i64 k, .string s, .int .i64 n, .slice so kids.length cap, .int .i64 line]⟩ 25) := ⟨_, rfl⟩
  have hb1 : Below w.heap.size w W1 := by rw [hW1]; exact (Below.refl _ _).alloc (Nat.le_refl _) _
  have hrow : W1.heap[w.heap.size]? = some (.cells ⟨[.int .i64 k, .string s, .int .i64 n, .slice so kids.length cap, .int .i64 line]⟩ 25 (0, 0)) := by rw [hW1]; exact heap_alloc_new _ _
  have HB1 := Lib.hid hb1
  have c3 : W1.cell? ⟨w.heap.size, 3, none⟩ = some (.slice so kids.length cap) := (Lib.cell_of_heap hrow 3).trans rfl
  clear hb1 hrow
  go_enter Tryz.func19, Tryz.ntmps19
  go_wp2_with fail
  rw [← hW1]
  clear hW1
  go_wp2_with fail
  go_loopg [3, 9] kids.length (fun kx s3 s9 wr => ∃ i : Nat, s3 = .int .i64 (depthL (kids.take i)) ∧ s9 = .int .i64 i ∧ i ≤ kids.length ∧ kids.length - i ≤ kx ∧ Aside (Below W1.heap.size W1 wr))
  case atStart => exact ⟨0, rfl, rfl, by omega, by omega, Below.refl _ _⟩
  case round =>
    obtain ⟨i, rfl, rfl, hi, hg, hb⟩ := hrel
    have HB := Lib.hid hb.out
    clear hb
    by_cases hil : i < kids.length
    · have hx : kids[i]? = some kids[i] := List.getElem?_eq_getElem hil
      obtain ⟨g, o, so', cap', rfl, hgW, a0, a1, a2, a3, a4, ht⟩ := kid_open (HK.out i _ hx)
      rw [Nat.zero_add] at a0 a1 a2 a3 a4
      have hold : Old W wr := (HW.out.below HB1.out).below HB.out
      have d0 := hold.cell a0
      have d1 := hold.cell a1
      have d2 := hold.cell a2
      have d3 := hold.cell a3
      have d4 := hold.cell a4
      have hcn := HC.out i _ hx
      have HCALL : Hid (∀ w3, Old W w3 → Calls Tryz.prog 19 #[.agg #[.int .i64 (kids[i] : Ex).kind, .string (kids[i] : Ex).str, .int .i64 (kids[i] : Ex).num, .slice so' (kids[i] : Ex).kids.length cap', .int .i64 (kids[i] : Ex).line]] w3 fun e' w' => e' = .returned (.int .i64 (kids[i] : Ex).depth) ∧ Below w3.heap.size w3 w') :=
        Lib.hid (fun w3 h3 => IH.out _ (by have := HE.out; omega) _ _ rfl (by have := HE.out; omega) ht w3 h3)
      have HO := Lib.hid hold
      have HX := Lib.hid hx
      have hi1 : (i : Int) < (kids.length : Int) := by omega
      have hi0 : (0 : Int) ≤ (i : Int) := by omega
      have hcd := depth_cnt kids[i]
      have hcd2 : depthL (kids.take i) ≤ 4096 := by
        refine depthL_le fun x hx => ?_
        obtain ⟨j, hj⟩ := List.mem_iff_getElem?.1 (List.mem_of_mem_take hx)
        have h1 := HC.out j _ hj
        have h2 := depth_cnt x
        have := HE.out
        omega
      generalize kids[i] = kd at *
      obtain ⟨k', s', n', kids', line'⟩ := kd
      simp only [Ex.kind, Ex.str, Ex.num, Ex.kids, Ex.line] at d0 d1 d2 d3 d4 HCALL
      clear a0 a1 a2 a3 a4 ht hx
      go_wp2_with fail
      have hal : Below wr.heap.size wr (wr.alloc (.cells #[.int .i64 k', .string s', .int .i64 n', .slice so' kids'.length cap', .int .i64 line'] 25)) := (Below.refl _ _).alloc (Nat.le_refl _) _
      have HAL := Lib.hid hal
      clear hal d0 d1 d2 d3 d4 c3
      go_at_call 19
      refine (HCALL.out _ (HO.out.below HAL.out)).mono ?_
      rintro e w2 ⟨rfl, hb2⟩
      have HB2 : Hid (Below W1.heap.size W1 w2) := Lib.hid ((HB.out.trans (HAL.out.mono HB.out.size)).trans (hb2.mono (Nat.le_trans HB.out.size HAL.out.size)))
      have HT := Lib.hid (depthL_take HX.out)
      clear hb2 HCALL
      simp only
      go_wp2_with fail
      all_goals
        go_roundg (kids.length - (i + 1))
        case measure => omega
        case rel => exact ⟨i + 1, by rw [HT.out]; first | (rw [Nat.max_eq_left (by omega)]; done) | (rw [Nat.max_eq_right (by omega)]; done) | (simp only [Value.int.injEq, true_and]; omega), by go_num, by omega, Nat.le_refl _, HB2.out⟩
    · obtain rfl : i = kids.length := by omega
      have HCD : Hid (depthL kids ≤ 4095) := Lib.hid (depthL_le fun x hx => by
        obtain ⟨j, hj⟩ := List.mem_iff_getElem?.1 hx
        have h1 := HC.out j _ hj
        have h2 := depth_cnt x
        have := HE.out
        omega)
      have hcd := HCD.out
      rw [List.take_length]
      go_wp2_with fail
      go_ret
      exact ⟨by simp only [Ex.depth]; go_num, HB1.out.trans (HB.out.mono HB1.out.size)⟩
end Go.Proofs.YtggjeecpadnihaaGreatDoor

namespace Go.Proofs.YtggjeecpadnihaaGreatDoor
open Go.RowKit Go.Proofs Go.Deep Go.Sx
set_option linter.unusedVariables false
set_option linter.unusedSimpArgs false

/-- The panic of what may not be told. -/
def unfitP : List PanicEntry := [{ v := .iface 76 (.agg #[]), recovered := false }]
theorem need_yes (w : World) : Calls Tryz.prog 18 #[.bool true] w fun e w' => e = .returned (.tuple #[]) ∧ w = w' := by
  go_enter Tryz.func18, Tryz.ntmps18
  go_wp2
  go_end0
  exact ⟨rfl, rfl⟩
theorem need_no (w : World) : Calls Tryz.prog 18 #[.bool false] w fun e w' => e = .panicked unfitP ∧ w = w' := by
  go_enter Tryz.func18, Tryz.ntmps18
  go_wp2
  exact ⟨rfl, rfl, rfl⟩

/-- It returns, or gives up. -/
def okE (b : Bool) : Ending := match b with
  | true => .returned (.tuple #[])
  | false => .panicked unfitP
def BarePost (ok : Bool) (w : World) (e : Ending) (w' : World) : Prop := e = okE ok ∧ Below w.heap.size w w'
def bareB (k n : Int) (m : Nat) (kids : Int) : Bool := ((m : Int) == kids) && ((n == 0) || (k == 1) || (k == 2))
set_option maxRecDepth 100000 in
theorem bare_any (k n : Int) (s : ByteArray) (so : Option Addr) (m cap : Nat) (line kids : Int) (w : World) : Calls Tryz.prog 41 #[.agg #[.int .i64 k, .string s, .int .i64 n, .slice so m cap, .int .i64 line], .int .i64 kids] w (BarePost (bareB k n m kids) w) := by
  have FIN : Hid (Below w.heap.size w (w.alloc (.cells #[.int .i64 k, .string s, .int .i64 n, .slice so m cap, .int .i64 line] 25))) := Lib.hid ((Below.refl _ _).alloc (Nat.le_refl _) _)
  unfold bareB
  generalize h1 : ((m : Int) == kids) = b1
  generalize h2 : (n == 0) = b2
  generalize h3 : (k == 1) = b3
  generalize h4 : (k == 2) = b4
  cases b1 <;> cases b2 <;> cases b3 <;> cases b4 <;>
  (go_enter Tryz.func41, Tryz.ntmps41
   go_wp2_with (first
    | (go_at_call 18; with_reducible refine (need_yes _).mono ?_; rintro e w' ⟨rfl, rfl⟩)
    | (go_at_call 18; with_reducible refine (need_no _).mono ?_; rintro e w' ⟨rfl, rfl⟩))
   first
    | (go_end0; exact ⟨rfl, FIN.out⟩)
    | exact ⟨rfl, rfl, FIN.out⟩)
end Go.Proofs.YtggjeecpadnihaaGreatDoor

namespace Go.Proofs.YtggjeecpadnihaaGreatDoor
open Go.RowKit Go.Proofs
set_option linter.unusedVariables false
set_option linter.unusedSimpArgs false

/-- A builder at the front of block b, of a struct type T, with what lies behind it; it holds the bytes l. -/
def BufAt (T : TypeId) (rest : List Value) (B b : Nat) (l : List UInt8) (w : World) : Prop :=
  B ≤ b ∧ ∃ p v, (p = .pointer none ∨ p = .pointer (some ⟨b, 0, none⟩)) ∧ w.heap[b]? = some (.cells ⟨p :: v :: rest⟩ T (0, 0)) ∧ w.ownsRow B 5 1 v l.length (Lib.byteCells l)

theorem ownsRow_below {w w' : World} {base : Nat} {e : TypeId} {size : Nat} {v : Value} {n : Nat} {xs : List Value} (h : w.ownsRow base e size v n xs) (hb : Below w.heap.size w w') : w'.ownsRow base e size v n xs := by
  refine ⟨h.1, ?_⟩
  rcases h.2 with h2 | ⟨g, cap, cur, h1, h2, h3, h4⟩
  · exact .inl h2
  · exact .inr ⟨g, cap, cur, h1, h2, (hb.block g (Array.getElem?_eq_some_iff.1 h3).1).trans h3, h4⟩

theorem setCell_row' {w : World} {b o : Nat} {c : Array Value} {t : TypeId} {fr : Nat × Nat} {v : Value} (h : w.heap[b]? = some (.cells c t fr)) :
    (w.setCell ⟨b, o, none⟩ v).heap[b]? = some (.cells (c.setIfInBounds o v) t fr) := by
  have hlt : b < w.heap.size := (Array.getElem?_eq_some_iff.1 h).1
  have he : w.heap[b] = .cells c t fr := by have := Array.getElem?_eq_some_iff.1 h; exact this.2
  show (w.heap.modify b _)[b]? = _
  rw [Array.getElem?_eq_getElem (by simpa using hlt), Array.getElem_modify, if_pos rfl, he]
  rfl

/-- What writing leaves alone: all blocks but b and the rows of bytes. -/
structure Wr (b : Nat) (w w' : World) : Prop where
  size : w.heap.size ≤ w'.heap.size
  block : ∀ k, k < w.heap.size → k ≠ b → (∀ cs fr, w.heap[k]? ≠ some (.cells cs 5 fr)) → w'.heap[k]? = w.heap[k]?
theorem Wr.refl (b : Nat) (w : World) : Wr b w w := ⟨Nat.le_refl _, fun _ _ _ _ => rfl⟩
theorem Wr.trans {b : Nat} {u v w : World} (h : Wr b u v) (k : Wr b v w) : Wr b u w :=
  ⟨Nat.le_trans h.size k.size, fun i hi hb hn => by
    have e := h.block i hi hb hn
    rw [k.block i (Nat.lt_of_lt_of_le hi h.size) hb (fun cs fr => by rw [e]; exact hn cs fr), e]⟩
theorem Wr.of {b : Nat} {w w' : World} (h : Below w.heap.size w w') : Wr b w w' := ⟨h.size, fun k hk _ _ => h.block k hk⟩
theorem Wr.setB {b o : Nat} {w w' : World} (h : Wr b w w') (v : Value) : Wr b w (w'.setCell ⟨b, o, none⟩ v) :=
  h.trans ⟨by simp [World.setCell], fun k hk hb _ => Below.heap_setCell _ _ _ _ hb⟩
theorem Wr.cell {b : Nat} {w w' : World} (h : Wr b w w') {k : Nat} {cs : Array Value} {T : TypeId} {fr : Nat × Nat} (hk : w.heap[k]? = some (.cells cs T fr)) (hb : k ≠ b) (hT : T ≠ 5) : w'.heap[k]? = some (.cells cs T fr) := by
  rw [h.block k (Array.getElem?_eq_some_iff.1 hk).1 hb (fun cs' fr' e => by rw [hk] at e; cases e; exact hT rfl), hk]

theorem str_len (l : List UInt8) (s : ByteArray) : (l ++ s.data.toList).length = l.length + s.size := by rw [List.length_append, Array.length_toList]; rfl
theorem byteCells_app (l : List UInt8) (s : ByteArray) : Lib.byteCells (l ++ s.data.toList) = Lib.byteCells l ++ Lib.strCells s := by simp [Lib.byteCells, Lib.strCells]
theorem byteCells_str (s : ByteArray) : Lib.strCells s = Lib.byteCells s.data.toList := rfl

theorem BufAt.lt {T : TypeId} {rest : List Value} {B b : Nat} {l : List UInt8} {w : World} (h : BufAt T rest B b l w) : b < w.heap.size := by
  obtain ⟨_, p, v, _, hb, _⟩ := h
  exact (Array.getElem?_eq_some_iff.1 hb).1
theorem BufAt.fresh {T : TypeId} {rest : List Value} {B : Nat} {w : World} (hB : B ≤ w.heap.size) : BufAt T rest B w.heap.size [] (w.alloc (.cells ⟨.pointer none :: .slice none 0 0 :: rest⟩ T)) :=
  ⟨hB, .pointer none, .slice none 0 0, .inl rfl, heap_alloc_new _ _, World.ownsRow_nil _ _ _ _⟩
theorem BufAt.block {T : TypeId} {rest : List Value} {B b : Nat} {l : List UInt8} {w : World} (h : BufAt T rest B b l w) : ∃ p v, w.heap[b]? = some (.cells ⟨p :: v :: rest⟩ T (0, 0)) := by
  obtain ⟨_, p, v, _, hb, _⟩ := h; exact ⟨p, v, hb⟩
/-- What goes on above all that there is leaves a builder as it is. -/
theorem BufAt.below {T : TypeId} {rest : List Value} {B b : Nat} {l : List UInt8} {w w' : World} (h : BufAt T rest B b l w) (hb : Below w.heap.size w w') : BufAt T rest B b l w' := by
  obtain ⟨hB, p, v, hp, hk, hown⟩ := h
  refine ⟨hB, p, v, hp, (hb.block b (Array.getElem?_eq_some_iff.1 hk).1).trans hk, ownsRow_below hown hb⟩

theorem run_underlying_pb : True := trivial

set_option maxHeartbeats 1000000 in
set_option maxRecDepth 100000 in
/-- copyCheck: behind it the builder tells its own address. -/
theorem copyCheck_any {T : TypeId} {rest : List Value} (hl : liesAt Tryz.prog Tryz.prog.depth T ((rest.length + 2) / Tryz.prog.cellsOf T) 0 81 1 = true) (B b : Nat) (l : List UInt8) (w : World) (h : BufAt T rest B b l w) :
    Calls Tryz.prog 105 #[.pointer (some ⟨b, 0, none⟩)] w fun e w' => e = .returned (.tuple #[]) ∧ (w' = w ∨ w' = w.setCell ⟨b, 0, none⟩ (.pointer (some ⟨b, 0, none⟩))) ∧ ∃ v, w'.heap[b]? = some (.cells ⟨.pointer (some ⟨b, 0, none⟩) :: v :: rest⟩ T (0, 0)) ∧ w.ownsRow B 5 1 v l.length (Lib.byteCells l) := by
  obtain ⟨hB, p, v, hp, hb, hown⟩ := h
  obtain ⟨j, hj, hjs⟩ := Option.map_eq_some_iff.1 (show (Tryz.prog.info? 81).map (·.size) = some 2 by kernel_rfl)
  have h0 : w.cell? ⟨b, 0, none⟩ = some p := by simp [World.cell?, hb]
  have hsh : w.shape? b = some (T, rest.length + 2) := by simp [World.shape?, hb]
  have hz : 0 < rest.length + 2 := by omega
  have hfz : w.frozen? ⟨b, 0, none⟩ = false := by simp [World.frozen?, hb]
  have HB := Lib.hid hb
  have HO := Lib.hid hown
  clear hb hown
  rcases hp with rfl | rfl
  · have FIN : Hid ((w.setCell ⟨b, 0, none⟩ (.pointer (some ⟨b, 0, none⟩))).heap[b]? = some (.cells ⟨.pointer (some ⟨b, 0, none⟩) :: v :: rest⟩ T (0, 0))) := Lib.hid (by
      simp [World.setCell, Array.getElem?_modify, HB.out])
    go_enter Tryz.func105, Tryz.ntmps105
    go_wp2
    rw [Lib.run_to_unsafe w ⟨b, 0, none⟩ Tryz.underlying78 Tryz.underlying143 hj (by rw [hjs]; decide) hsh hz]
    simp only [Result.andThen]
    rw [Oper.upon_value]
    go_wp2
    rw [run_callFunc_extern Tryz.func132 (by kernel_rfl) (by kernel_rfl) (by kernel_rfl) (e := Extern.AbiNoEscape.same) (by kernel_rfl)]
    rw [Lib.run_noEscape]
    simp only [Result.andThen]
    rw [Oper.upon_value]
    go_wp2
    rw [Lib.run_from_unsafe w ⟨b, 0, none⟩ Tryz.underlying143 Tryz.underlying78 hj hsh hl]
    simp only [Result.andThen]
    rw [Oper.upon_value]
    go_wp2
    go_end0
    exact ⟨rfl, .inr rfl, v, FIN.out, HO.out⟩
  · go_enter Tryz.func105, Tryz.ntmps105
    go_wp2
    rw [Lib.run_neq_ptr_same w _ Tryz.underlying78 hj]
    go_wp2
    go_end0
    exact ⟨rfl, .inl rfl, v, HB.out, HO.out⟩

set_option maxHeartbeats 2000000 in
set_option maxRecDepth 100000 in
/-- WriteString. -/
theorem writeString_any {T : TypeId} {rest : List Value} (hT : T ≠ 5) (hl : liesAt Tryz.prog Tryz.prog.depth T ((rest.length + 2) / Tryz.prog.cellsOf T) 0 81 1 = true) (B b : Nat) (l : List UInt8) (s : ByteArray) (w : World) (h : BufAt T rest B b l w) (hn : l.length + s.size ≤ 140737488355328) :
    Calls Tryz.prog 74 #[.pointer (some ⟨b, 0, none⟩), .string s] w fun e w' => e = .returned (.tuple #[.int .i64 s.size, .nilIface]) ∧ BufAt T rest B b (l ++ s.data.toList) w' ∧ Below B w w' ∧ Wr b w w' := by
  have hblt := h.lt
  have hB := h.1
  obtain ⟨i0, hi, hz0, hz1, hz2⟩ := info_parts (show (Tryz.prog.info? 5).map (fun i => (i.zero, i.size, i.bytes)) = some (some (.int .u8 0), 1, 1) by kernel_rfl)
  have HC := Lib.hid (copyCheck_any hl B b l w h)
  have HN := Lib.hid hn
  clear h hn
  go_enter Tryz.func74, Tryz.ntmps74
  go_wp2_with fail
  go_at_call 105
  refine HC.out.mono ?_
  rintro e w1 ⟨rfl, hw1, v, hk, hown0⟩
  simp only
  have hb01 : Below B w w1 := by
    rcases hw1 with rfl | rfl
    · exact Below.refl _ _
    · exact (Below.refl B w).setCell (p := ⟨b, 0, none⟩) hB _
  have hwr1 : Wr b w w1 := by
    rcases hw1 with rfl | rfl
    · exact Wr.refl _ _
    · exact (Wr.refl b w).setB _
  have hne0 : v.ownBlock ≠ some b := Lib.ownBlock_ne (e := 5) (T := T) (by
    rcases hw1 with rfl | rfl
    · exact hown0
    · exact hown0.kept (row := some b) ⟨rfl, rfl, rfl, by simp [World.setCell], fun k _ hk => Below.heap_setCell _ _ _ _ (fun e => hk (by simp [e]))⟩ (.inr (by
        intro e
        rcases hown0.2 with ⟨rfl, _⟩ | ⟨g, cap, cur, rfl, _, hg, _⟩
        · simp [Value.ownBlock] at e
        · simp only [Value.ownBlock, Option.some.injEq] at e
          subst e
          have h2 := setCell_row' (o := 0) (v := .pointer (some ⟨g, 0, none⟩)) hg
          rw [h2] at hk
          simp only [Option.some.injEq, Obj.cells.injEq] at hk
          exact hT hk.2.1.symm))) hk hT
  have hown : w1.ownsRow B 5 1 v l.length (Lib.byteCells l) := by
    rcases hw1 with rfl | rfl
    · exact hown0
    · exact hown0.kept (row := some b) ⟨rfl, rfl, rfl, by simp [World.setCell], fun k _ hk => Below.heap_setCell _ _ _ _ (fun e => hk (by simp [e]))⟩ (.inr hne0)
  have hz1' : w.heap.size = w1.heap.size := by
    rcases hw1 with rfl | rfl
    · rfl
    · simp [World.setCell]
  have hb1 : b < w1.heap.size := by omega
  have c0 : w1.cell? ⟨b, 0, none⟩ = some (.pointer (some ⟨b, 0, none⟩)) := (Lib.cell_of_heap hk 0).trans rfl
  have c1 : w1.cell? ⟨b, 1, none⟩ = some v := (Lib.cell_of_heap hk 1).trans rfl
  have HK := Lib.hid hk
  have HR := Lib.hid (And.intro hb01 hwr1)
  have HNE := Lib.hid hne0
  have HN2 : Hid (l.length + s.size ≤ maxLen) := Lib.hid (by have := HN.out; unfold maxLen; omega)
  clear hk hb01 hwr1 hw1 hown0 HC hne0
  go_wp2_with (at_builtin; refine Lib.wpList_append_own_string _ rfl _ _ 79 9 rfl B 5 i0 Tryz.underlying79 Tryz.underlying9 hi hz0 hz1 hz2 _ _ _ rfl hown s rfl ?c1 ?c2 ?c5 ?_)
  case c1 => exact HN2.out
  case c2 => exact HN.out
  case c5 => omega
  intro v' w2 hown' hgrow _
  obtain ⟨ao, n', cap, rfl⟩ : ∃ ao n' cap, v' = .slice ao n' cap := by
    rcases hown'.2 with ⟨hv, _⟩ | ⟨g, cap, cur, hv, _⟩
    · exact ⟨_, _, _, hv⟩
    · exact ⟨_, _, _, hv⟩
  have hk2 : w2.heap[b]? = some (.cells ⟨.pointer (some ⟨b, 0, none⟩) :: v :: rest⟩ T (0, 0)) := by
    rw [hgrow.block b hb1 (fun e => HNE.out e.symm)]
    exact HK.out
  have d0 : w2.cell? ⟨b, 0, none⟩ = some (.pointer (some ⟨b, 0, none⟩)) := (Lib.cell_of_heap hk2 0).trans rfl
  have d1 : w2.cell? ⟨b, 1, none⟩ = some v := (Lib.cell_of_heap hk2 1).trans rfl
  have f1 : w2.frozen? ⟨b, 1, none⟩ = false := Lib.frozen_of_heap hk2 1
  have FIN : Hid (BufAt T rest B b (l ++ s.data.toList) (w2.setCell ⟨b, 1, none⟩ (.slice ao n' cap)) ∧ Below B w (w2.setCell ⟨b, 1, none⟩ (.slice ao n' cap)) ∧ Wr b w (w2.setCell ⟨b, 1, none⟩ (.slice ao n' cap))) := by
    refine Lib.hid ?_
    have hown2 : w2.ownsRow B 5 1 (.slice ao n' cap) (l ++ s.data.toList).length (Lib.byteCells (l ++ s.data.toList)) := by
      have e : (l ++ s.data.toList).length = l.length + s.size := str_len l s
      rw [e]
      have e2 := byteCells_app l s
      rw [e2]; exact hown'
    have hne2 := Lib.ownBlock_ne hown2 hk2 hT
    refine ⟨⟨hB, _, .slice ao n' cap, .inr rfl, ?_, ?_⟩, ?_, ?_⟩
    · simp [World.setCell, Array.getElem?_modify, hk2]
    · exact hown2.kept (row := some b) ⟨rfl, rfl, rfl, by simp [World.setCell], fun k _ hk => Below.heap_setCell _ _ _ _ (fun e => hk (by simp [e]))⟩ (.inr hne2)
    · exact ((HR.out.1).grown hgrow (by have := HR.out.1.size; omega) (fun k hk => (hown.lt k hk).1)).setCell (p := ⟨b, 1, none⟩) hB _
    · refine HR.out.2.trans (Wr.setB ⟨hgrow.size, fun k hk' hb' hn' => hgrow.block k hk' ?_⟩ _)
      intro e
      rcases hown.2 with ⟨rfl, _⟩ | ⟨g, cap, cur, rfl, _, hg, _⟩
      · simp [Value.ownBlock] at e
      · simp only [Value.ownBlock, Option.some.injEq] at e
        subst e
        exact hn' _ _ hg
  clear HK HR HNE hown hown' hgrow hk2 hB
  go_wp2
  go_ret2
  exact ⟨rfl, FIN.out⟩

/-! ### String -/
set_option maxHeartbeats 2000000 in
set_option maxRecDepth 100000 in
theorem bldString_some (B b : Nat) (l : List UInt8) (T : TypeId) (rest : List Value) (w : World) (h : BufAt T rest B b l w) (h0 : l ≠ []) :
    Calls Tryz.prog 40 #[.pointer (some ⟨b, 0, none⟩)] w fun e w' => e = .returned (.string ⟨l.toArray⟩) ∧ Below B w w' := by
  obtain ⟨hB, p, v, _, hbk, hown⟩ := h
  have hl0 : l.length ≠ 0 := by simpa using h0
  obtain ⟨g, cap, cur, rfl, hbg, hg, hnc, hcm, hcs, htake⟩ : ∃ g cap cur, v = .slice (some ⟨g, 0, none⟩) l.length cap ∧ B ≤ g ∧ w.heap[g]? = some (.cells cur 5 (0, 0)) ∧ l.length ≤ cap ∧ cap ≤ maxLen ∧ cur.size = cap * 1 ∧ cur.toList.take (l.length * 1) = Lib.byteCells l := by
    rcases hown.2 with ⟨_, hz⟩ | ⟨g, cap, cur, hv, r⟩
    · exact absurd hz hl0
    · exact ⟨g, cap, cur, hv, r⟩
  have c1 : w.drew.cell? ⟨b, 1, none⟩ = some (.slice (some ⟨g, 0, none⟩) l.length cap) := (Lib.cell_of_heap (w := w.drew) hbk 1).trans rfl
  have hSD : (Builtin.unsafeSliceData_ #[79] 127 #[.slice (some ⟨g, 0, none⟩) l.length cap]).run Tryz.prog w.drew = .ok (.pointer (some ⟨g, 0, none⟩)) w.drew :=
    Lib.run_unsafeSliceData_row _ _ _ _ _ _ (by omega)
  have hUS : (Builtin.unsafeString_ #[127, 3] 9 #[.pointer (some ⟨g, 0, none⟩), .int .i64 l.length]).run Tryz.prog w.drew = .ok (.string ⟨l.toArray⟩) (w.drew.freeze ⟨g, 0, none⟩ l.length) := by
    refine Lib.run_unsafeString_row w.drew 127 3 9 5 Tryz.underlying127 (by kernel_rfl) g cur.size (by have hg' : w.drew.heap[g]? = some (.cells cur 5 (0, 0)) := hg; simp [World.shape?, hg']) l h0 (by omega) (by unfold maxLen at hcm; omega) ?_
    intro j x hx
    have := hown.cells (g := g) rfl j (.int .u8 x.toNat) (by simp [Lib.byteCells, hx])
    exact this
  have FIN : Hid (Below B w (w.drew.freeze ⟨g, 0, none⟩ l.length)) := Lib.hid (Lib.below_freeze (Below.drew (Below.refl B w)) (p := ⟨g, 0, none⟩) hbg _)
  clear hown hbk hg hnc hcm hcs htake hbg hB h0 hl0
  go_enter Tryz.func40, Tryz.ntmps40
  go_wp2
  go_region
  all_goals (go_wp2; go_ret; exact ⟨rfl, FIN.out⟩)
set_option maxHeartbeats 2000000 in
set_option maxRecDepth 100000 in
theorem bldString_nil (B b : Nat) (T : TypeId) (rest : List Value) (w : World) (h : BufAt T rest B b [] w) (hBw : B ≤ w.heap.size) :
    Calls Tryz.prog 40 #[.pointer (some ⟨b, 0, none⟩)] w fun e w' => e = .returned (.string ⟨#[]⟩) ∧ Below B w w' := by
  obtain ⟨hB, p, v, _, hbk, hown⟩ := h
  have hUS : ∀ (q : Option Addr) (W : World), (Builtin.unsafeString_ #[127, 3] 9 #[.pointer q, .int .i64 0]).run Tryz.prog W = .ok (.string .empty) W := fun q W => Lib.run_unsafeString_none W _ _ _ q
  have hlt : b < w.heap.size := (Array.getElem?_eq_some_iff.1 hbk).1
  rcases hown.2 with ⟨rfl, _⟩ | ⟨g, cap, cur, rfl, hbg, hg, _, _, _, _⟩
  · have c1 : w.drew.cell? ⟨b, 1, none⟩ = some (.slice none 0 0) := (Lib.cell_of_heap (w := w.drew) hbk 1).trans rfl
    have hSD : (Builtin.unsafeSliceData_ #[79] 127 #[.slice none 0 0]).run Tryz.prog w.drew = .ok (.pointer none) w.drew := rfl
    clear hown hbk hB
    go_enter Tryz.func40, Tryz.ntmps40
    go_wp2
    go_region
    all_goals (go_wp2; go_ret; exact ⟨rfl, Below.drew (Below.refl B w)⟩)
  · by_cases hc0 : cap = 0
    · subst hc0
      have c1 : w.drew.cell? ⟨b, 1, none⟩ = some (.slice (some ⟨g, 0, none⟩) 0 0) := (Lib.cell_of_heap (w := w.drew) hbk 1).trans rfl
      have hSD : (Builtin.unsafeSliceData_ #[79] 127 #[.slice (some ⟨g, 0, none⟩) 0 0]).run Tryz.prog w.drew = .ok (.pointer (some ⟨w.drew.heap.size, 0, none⟩)) (w.drew.alloc (.view ⟨g, 0, none⟩ 5)) :=
        Lib.run_unsafeSliceData_zero w.drew _ _ 5 Tryz.underlying127 ⟨g, 0, none⟩ 0 (5, cur.size) (by have hg' : w.drew.heap[g]? = some (.cells cur 5 (0, 0)) := hg; simp [World.shape?, hg'])
      have hbk2 : (w.drew.alloc (.view ⟨g, 0, none⟩ 5)).heap[b]? = _ := (Lib.alloc_old w.drew _ b hlt).trans hbk
      have c2 : (w.drew.alloc (.view ⟨g, 0, none⟩ 5)).cell? ⟨b, 1, none⟩ = some (.slice (some ⟨g, 0, none⟩) 0 0) := (Lib.cell_of_heap hbk2 1).trans rfl
      have c3 : (w.alloc (.view ⟨g, 0, none⟩ 5)).drew.cell? ⟨b, 1, none⟩ = some (.slice (some ⟨g, 0, none⟩) 0 0) := c2
      have c0 : w.cell? ⟨b, 1, none⟩ = some (.slice (some ⟨g, 0, none⟩) 0 0) := c1
      clear hown hbk hbk2 hg hB hbg
      go_enter Tryz.func40, Tryz.ntmps40
      go_wp2
      go_region
      all_goals (go_wp2; go_ret; exact ⟨rfl, (Below.drew (Below.refl B w)).alloc hBw _⟩)
    · have c1 : w.drew.cell? ⟨b, 1, none⟩ = some (.slice (some ⟨g, 0, none⟩) 0 cap) := (Lib.cell_of_heap (w := w.drew) hbk 1).trans rfl
      have hSD : (Builtin.unsafeSliceData_ #[79] 127 #[.slice (some ⟨g, 0, none⟩) 0 cap]).run Tryz.prog w.drew = .ok (.pointer (some ⟨g, 0, none⟩)) w.drew :=
        Lib.run_unsafeSliceData_row _ _ _ _ _ _ hc0
      clear hc0 hown hbk hg hB hbg
      go_enter Tryz.func40, Tryz.ntmps40
      go_wp2
      go_region
      all_goals (go_wp2; go_ret; exact ⟨rfl, Below.drew (Below.refl B w)⟩)
theorem bldString_any (B b : Nat) (l : List UInt8) (T : TypeId) (rest : List Value) (w : World) (h : BufAt T rest B b l w) (hBw : B ≤ w.heap.size) :
    Calls Tryz.prog 40 #[.pointer (some ⟨b, 0, none⟩)] w fun e w' => e = .returned (.string ⟨l.toArray⟩) ∧ Below B w w' := by
  cases l with
  | nil => exact bldString_nil B b T rest w h hBw
  | cons x r => exact bldString_some B b (x :: r) T rest w h (by simp)
end Go.Proofs.YtggjeecpadnihaaGreatDoor

namespace Go.Proofs.YtggjeecpadnihaaGreatDoor
open Go.RowKit Go.Proofs Go.Deep Go.Sx
set_option linter.unusedVariables false
set_option linter.unusedSimpArgs false

set_option maxRecDepth 100000 in
theorem level_any (s : ByteArray) (w : World) : Calls Tryz.prog 67 #[.string s] w fun e w' => e = .returned (.int .i64 (lvl s)) ∧ w = w' := by
  unfold lvl
  by_cases h0 : (s.toList == [124, 124]) = true
  · rw [if_pos h0]
    (go_enter Tryz.func67, Tryz.ntmps67; go_wp2; go_ret; exact ⟨rfl, rfl⟩)
  rw [if_neg h0]
  replace h0 := Bool.eq_false_iff.2 h0
  by_cases h1 : (s.toList == [38, 38]) = true
  · rw [if_pos h1]
    (go_enter Tryz.func67, Tryz.ntmps67; go_wp2; go_ret; exact ⟨rfl, rfl⟩)
  rw [if_neg h1]
  replace h1 := Bool.eq_false_iff.2 h1
  by_cases h2 : (s.toList == [61, 61]) = true
  · rw [if_pos h2]
    (go_enter Tryz.func67, Tryz.ntmps67; go_wp2; go_ret; exact ⟨rfl, rfl⟩)
  rw [if_neg h2]
  replace h2 := Bool.eq_false_iff.2 h2
  by_cases h3 : (s.toList == [33, 61]) = true
  · rw [if_pos h3]
    (go_enter Tryz.func67, Tryz.ntmps67; go_wp2; go_ret; exact ⟨rfl, rfl⟩)
  rw [if_neg h3]
  replace h3 := Bool.eq_false_iff.2 h3
  by_cases h4 : (s.toList == [60]) = true
  · rw [if_pos h4]
    (go_enter Tryz.func67, Tryz.ntmps67; go_wp2; go_ret; exact ⟨rfl, rfl⟩)
  rw [if_neg h4]
  replace h4 := Bool.eq_false_iff.2 h4
  by_cases h5 : (s.toList == [60, 61]) = true
  · rw [if_pos h5]
    (go_enter Tryz.func67, Tryz.ntmps67; go_wp2; go_ret; exact ⟨rfl, rfl⟩)
  rw [if_neg h5]
  replace h5 := Bool.eq_false_iff.2 h5
  by_cases h6 : (s.toList == [62]) = true
  · rw [if_pos h6]
    (go_enter Tryz.func67, Tryz.ntmps67; go_wp2; go_ret; exact ⟨rfl, rfl⟩)
  rw [if_neg h6]
  replace h6 := Bool.eq_false_iff.2 h6
  by_cases h7 : (s.toList == [62, 61]) = true
  · rw [if_pos h7]
    (go_enter Tryz.func67, Tryz.ntmps67; go_wp2; go_ret; exact ⟨rfl, rfl⟩)
  rw [if_neg h7]
  replace h7 := Bool.eq_false_iff.2 h7
  by_cases h8 : (s.toList == [43]) = true
  · rw [if_pos h8]
    (go_enter Tryz.func67, Tryz.ntmps67; go_wp2; go_ret; exact ⟨rfl, rfl⟩)
  rw [if_neg h8]
  replace h8 := Bool.eq_false_iff.2 h8
  by_cases h9 : (s.toList == [45]) = true
  · rw [if_pos h9]
    (go_enter Tryz.func67, Tryz.ntmps67; go_wp2; go_ret; exact ⟨rfl, rfl⟩)
  rw [if_neg h9]
  replace h9 := Bool.eq_false_iff.2 h9
  by_cases h10 : (s.toList == [42]) = true
  · rw [if_pos h10]
    (go_enter Tryz.func67, Tryz.ntmps67; go_wp2; go_ret; exact ⟨rfl, rfl⟩)
  rw [if_neg h10]
  replace h10 := Bool.eq_false_iff.2 h10
  by_cases h11 : (s.toList == [47]) = true
  · rw [if_pos h11]
    (go_enter Tryz.func67, Tryz.ntmps67; go_wp2; go_ret; exact ⟨rfl, rfl⟩)
  rw [if_neg h11]
  replace h11 := Bool.eq_false_iff.2 h11
  by_cases h12 : (s.toList == [37]) = true
  · rw [if_pos h12]
    (go_enter Tryz.func67, Tryz.ntmps67; go_wp2; go_ret; exact ⟨rfl, rfl⟩)
  rw [if_neg h12]
  replace h12 := Bool.eq_false_iff.2 h12
  (go_enter Tryz.func67, Tryz.ntmps67; go_wp2; go_ret; exact ⟨rfl, rfl⟩)

set_option maxRecDepth 100000 in
theorem binds_any (k n : Int) (s : ByteArray) (so : Option Addr) (m cap : Nat) (line : Int) (w : World) : Calls Tryz.prog 106 #[.agg #[.int .i64 k, .string s, .int .i64 n, .slice so m cap, .int .i64 line]] w fun e w' => e = .returned (.int .i64 (bindK k s)) ∧ Below w.heap.size w w' := by
  have FIN : Hid (Below w.heap.size w (w.alloc (.cells #[.int .i64 k, .string s, .int .i64 n, .slice so m cap, .int .i64 line] 25))) := Lib.hid ((Below.refl _ _).alloc (Nat.le_refl _) _)
  unfold bindK
  by_cases h1 : k = 6
  · subst h1
    go_enter Tryz.func106, Tryz.ntmps106
    go_wp2
    go_ret
    exact ⟨rfl, FIN.out⟩
  · rw [if_neg h1]
    have h1' : (k == 6) = false := by simpa using h1
    clear h1
    by_cases h2 : k = 7
    · subst h2
      go_enter Tryz.func106, Tryz.ntmps106
      go_wp2_with (go_at_call 67; refine (level_any _ _).mono ?_; rintro e w' ⟨rfl, rfl⟩)
      go_ret
      exact ⟨rfl, FIN.out⟩
    · rw [if_neg h2]
      have h2' : (k == 7) = false := by simpa using h2
      clear h2
      go_enter Tryz.func106, Tryz.ntmps106
      go_wp2
      go_ret
      exact ⟨rfl, FIN.out⟩
end Go.Proofs.YtggjeecpadnihaaGreatDoor

namespace Go.Proofs.YtggjeecpadnihaaGreatDoor
open Go.RowKit Go.Proofs Go.Deep
set_option linter.unusedVariables false
set_option linter.unusedSimpArgs false

def catL (l : List ByteArray) : List UInt8 := l.flatMap fun s => s.data.toList
theorem catL_snoc (l : List ByteArray) (s : ByteArray) : catL (l ++ [s]) = catL l ++ s.data.toList := by simp [catL]
theorem catL_take {l : List ByteArray} {i : Nat} {s : ByteArray} (h : l[i]? = some s) : catL (l.take (i + 1)) = catL (l.take i) ++ s.data.toList := by
  rw [List.take_add_one, h]; simp [catL]
theorem catL_len {l : List ByteArray} {i : Nat} {s : ByteArray} (h : l[i]? = some s) : (catL (l.take i)).length + s.size ≤ (catL l).length := by
  have e : catL l = catL (l.take (i + 1)) ++ catL (l.drop (i + 1)) := by rw [catL, catL, catL, ← List.flatMap_append, List.take_append_drop]
  rw [catL_take h] at e
  have e2 : s.data.toList.length = s.size := by rw [Array.length_toList]; rfl
  rw [e, List.length_append, List.length_append, e2]; omega

set_option maxHeartbeats 2000000 in
set_option maxRecDepth 100000 in
/-- put, at any texts. -/
theorem sput_any (hT : 83 ≠ 5) (rest : List Value) (hl : liesAt Tryz.prog Tryz.prog.depth 83 ((rest.length + 2) / Tryz.prog.cellsOf 83) 0 81 1 = true) (B b g cap : Nat) (l : List UInt8) (ls : List ByteArray) (w : World) (cs : Array Value) (fr : Nat × Nat)
    (h : BufAt 83 rest B b l w) (hg : w.heap[g]? = some (.cells cs 9 fr)) (hcs : ∀ (i : Nat) (s : ByteArray), ls[i]? = some s → cs[i]? = some (Value.string s)) (hgb : g ≠ b) (hn : l.length + (catL ls).length ≤ 140737488355328) (hls : ls.length ≤ 9223372036854775807) (hgB : B ≤ g) :
    Calls Tryz.prog 43 #[.pointer (some ⟨b, 0, none⟩), .slice (some ⟨g, 0, none⟩) ls.length cap] w fun e w' => e = .returned (.tuple #[]) ∧ BufAt 83 rest B b (l ++ catL ls) w' ∧ Below B w w' ∧ Wr b w w' := by
  have HG := Lib.hid hg
  have HCS := Lib.hid hcs
  have HN := Lib.hid hn
  have HH := Lib.hid h
  have HL := Lib.hid hl
  clear hg hcs hn h hl
  go_enter Tryz.func43, Tryz.ntmps43
  go_wp2_with fail
  go_loopg [8] ls.length (fun kx s8 wr => ∃ i : Nat, s8 = .int .i64 i ∧ i ≤ ls.length ∧ ls.length - i ≤ kx ∧ Aside (BufAt 83 rest B b (l ++ catL (ls.take i)) wr ∧ Below B w wr ∧ Wr b w wr))
  case atStart => exact ⟨0, rfl, by omega, by omega, by simpa [catL] using HH.out, Below.refl _ _, Wr.refl _ _⟩
  case round =>
    obtain ⟨i, rfl, hi, hk, hA⟩ := hrel
    by_cases hil : i < ls.length
    · have hx : ls[i]? = some ls[i] := List.getElem?_eq_getElem hil
      have hc := HCS.out i _ hx
      have hx3 := hA.out.2.2.cell HG.out hgb (by decide)
      have d0 : wr.cell? ⟨g, i, none⟩ = some (.string ls[i]) := (Lib.cell_of_heap hx3 i).trans hc
      have HCALL := Lib.hid (writeString_any hT HL.out B b _ ls[i] wr hA.out.1 (by have := catL_len hx; have := HN.out; rw [List.length_append]; omega))
      have HX := Lib.hid hx
      have HA := Lib.hid hA.out
      have hi1 : (i : Int) < (ls.length : Int) := by omega
      have hi0 : (0 : Int) ≤ (i : Int) := by omega
      generalize ls[i] = s at *
      clear hc hx3 hx hA
      go_wp2_with fail
      go_at_call 74
      refine HCALL.out.mono ?_
      rintro e w2 ⟨rfl, hb2, hB2, hW2⟩
      have HR := Lib.hid (And.intro hb2 (And.intro (HA.out.2.1.trans hB2) (HA.out.2.2.trans hW2)))
      clear HCALL hb2 hB2 hW2 d0
      simp only
      go_wp2_with fail
      go_roundg (ls.length - (i + 1))
      case measure => omega
      case rel => exact ⟨i + 1, by go_num, by omega, Nat.le_refl _, by rw [catL_take HX.out, ← List.append_assoc]; exact HR.out.1, HR.out.2⟩
    · obtain rfl : i = ls.length := by omega
      have HA := Lib.hid hA.out
      clear hA
      go_wp2_with fail
      go_end0
      refine ⟨rfl, ?_⟩
      have := HA.out
      rwa [List.take_length] at this
end Go.Proofs.YtggjeecpadnihaaGreatDoor

namespace Go.Proofs.YtggjeecpadnihaaGreatDoor
open Go.RowKit Go.Proofs Go.Deep Go.Sx
set_option linter.unusedVariables false
set_option linter.unusedSimpArgs false

theorem digit_any (c : UInt8) (w : World) : Calls Tryz.prog 123 #[.int .u8 c.toNat] w fun e w' => e = .returned (.bool (digB c)) ∧ w = w' := by
  unfold digB
  generalize c.toNat = n
  have e1 : decide (48 ≤ n) = decide ((48 : Int) ≤ (n : Int)) := by rw [Bool.eq_iff_iff]; simp; omega
  have e2 : decide (n ≤ 57) = decide ((n : Int) ≤ 57) := by rw [Bool.eq_iff_iff]; simp; omega
  rw [e1, e2]
  clear e1 e2
  generalize h1 : decide ((48 : Int) ≤ (n : Int)) = b1
  generalize h2 : decide ((n : Int) ≤ 57) = b2
  cases b1 <;> cases b2 <;>
  (go_enter Tryz.func123, Tryz.ntmps123
   go_wp2
   go_ret
   exact ⟨rfl, rfl⟩)
theorem let_all : ∀ n : Fin 256, (((decide (97 ≤ bits BinOp.or .u8 (n.val : Int) 32)) && (decide (bits BinOp.or .u8 (n.val : Int) 32 ≤ 122))) || ((n.val : Int) == 95)) = letB (UInt8.ofNat n.val) := by decide +kernel
theorem let_eq (c : UInt8) : letB c = (((decide (97 ≤ bits BinOp.or .u8 (c.toNat : Int) 32)) && (decide (bits BinOp.or .u8 (c.toNat : Int) 32 ≤ 122))) || ((c.toNat : Int) == 95)) := by
  have h := let_all ⟨c.toNat, c.toNat_lt⟩
  simp only [UInt8.ofNat_toNat] at h
  exact h.symm
theorem letter_any (c : UInt8) (w : World) : Calls Tryz.prog 126 #[.int .u8 c.toNat] w fun e w' => e = .returned (.bool (letB c)) ∧ w = w' := by
  rw [let_eq]
  generalize h1 : decide (97 ≤ bits BinOp.or .u8 (c.toNat : Int) 32) = b1
  generalize h2 : decide (bits BinOp.or .u8 (c.toNat : Int) 32 ≤ 122) = b2
  generalize h3 : ((c.toNat : Int) == 95) = b3
  cases b1 <;> cases b2 <;> cases b3 <;>
  (go_enter Tryz.func126, Tryz.ntmps126
   go_wp2
   go_ret
   exact ⟨rfl, rfl⟩)
theorem nameC_any (c : UInt8) (w : World) : Calls Tryz.prog 125 #[.int .u8 c.toNat] w fun e w' => e = .returned (.bool (ldB c)) ∧ w = w' := by
  unfold ldB
  have H1 := Lib.hid (fun w => letter_any c w)
  have H2 := Lib.hid (fun w => digit_any c w)
  generalize letB c = b1 at *
  generalize digB c = b2 at *
  cases b1 <;>
  (go_enter Tryz.func125, Tryz.ntmps125
   go_wp2_with (first
    | (go_at_call 126; with_reducible refine (H1.out _).mono ?_; rintro e w' ⟨rfl, rfl⟩)
    | (go_at_call 123; with_reducible refine (H2.out _).mono ?_; rintro e w' ⟨rfl, rfl⟩))
   go_ret
   exact ⟨rfl, rfl⟩)

theorem tw_all {p : UInt8 → Bool} : ∀ (l : List UInt8) (x : UInt8), x ∈ l.takeWhile p → p x = true
  | [], x, h => by simp at h
  | a :: l, x, h => by
    rw [List.takeWhile_cons] at h
    cases ha : p a with
    | false => rw [ha] at h; simp at h
    | true =>
      rw [ha] at h
      simp only [if_true] at h
      rcases List.mem_cons.1 h with rfl | h
      · exact ha
      · exact tw_all l x h
/-- How many bytes at the front are of names. -/
def frontN (l : List UInt8) : Nat := (l.takeWhile ldB).length
theorem front_step {l : List UInt8} {i : Nat} {c : UInt8} (h : l[i]? = some c) (hb : ldB c = true) (hi : frontN (l.take i) = i) : frontN (l.take (i + 1)) = i + 1 := by
  unfold frontN at *
  rw [List.take_add_one, h]
  have hlen : (l.take i).length = i := by have := (List.getElem?_eq_some_iff.1 h).1; rw [List.length_take]; omega
  have hall : ∀ x ∈ l.take i, ldB x = true := by
    have e : (l.take i).takeWhile ldB = l.take i := List.IsPrefix.eq_of_length (List.takeWhile_prefix _) (by rw [hi, hlen])
    intro x hx
    rw [← e] at hx
    exact tw_all _ _ hx
  rw [List.takeWhile_append_of_pos hall]
  simp [List.takeWhile, hb, hlen]
theorem front_end {l : List UInt8} {i : Nat} {c : UInt8} (h : l[i]? = some c) (hb : ldB c = false) (hi : frontN (l.take i) = i) : frontN l = i := by
  unfold frontN at *
  have hlen : (l.take i).length = i := by have := (List.getElem?_eq_some_iff.1 h).1; rw [List.length_take]; omega
  have hall : ∀ x ∈ l.take i, ldB x = true := by
    have e : (l.take i).takeWhile ldB = l.take i := List.IsPrefix.eq_of_length (List.takeWhile_prefix _) (by rw [hi, hlen])
    intro x hx
    rw [← e] at hx
    exact tw_all _ _ hx
  have e : l = l.take i ++ (c :: l.drop (i + 1)) := by
    obtain ⟨hlt, h2⟩ := List.getElem?_eq_some_iff.1 h
    rw [← h2, List.getElem_cons_drop, List.take_append_drop]
  rw [e, List.takeWhile_append_of_pos hall]
  simp [List.takeWhile, hb, hlen]

set_option maxRecDepth 100000 in
theorem row_any (s : ByteArray) (w : World) (hs : s.size ≤ 9223372036854775807) : Calls Tryz.prog 124 #[.string s, .func (.func 125) #[] #[]] w fun e w' => e = .returned (.int .i64 (frontN s.data.toList)) ∧ w = w' := by
  go_enter Tryz.func124, Tryz.ntmps124
  go_wp2_with fail
  go_loopg [5] s.size (fun kx s5 wr => ∃ i : Nat, s5 = .int .i64 i ∧ i ≤ s.size ∧ s.size - i ≤ kx ∧ frontN (s.data.toList.take i) = i ∧ wr = w)
  case atStart => exact ⟨0, rfl, by omega, by omega, rfl, rfl⟩
  case round =>
    obtain ⟨i, rfl, hi, hk, hf, rfl⟩ := hrel
    have HF := Lib.hid hf
    clear hf
    by_cases hil : i < s.size
    · have hx : s.data.toList[i]? = some s[i] := by rw [Array.getElem?_toList]; exact Array.getElem?_eq_getElem hil
      have HX := Lib.hid hx
      clear hx
      have hi0 : (0 : Int) ≤ (i : Int) := by omega
      have hi1 : (i : Int) < (s.size : Int) := by omega
      have HC := Lib.hid (fun w => nameC_any s[i] w)
      cases hb : ldB s[i] with
      | true =>
        have HBB := Lib.hid hb
        rw [hb] at HC
        clear hb
        go_wp2_with (go_at_call 125; with_reducible refine (HC.out _).mono ?_; rintro e w' ⟨rfl, rfl⟩)
        go_roundg (s.size - (i + 1))
        case measure => omega
        case rel => exact ⟨i + 1, by go_num, by omega, Nat.le_refl _, front_step HX.out HBB.out HF.out, rfl⟩
      | false =>
        have HBB := Lib.hid hb
        rw [hb] at HC
        clear hb
        go_wp2_with (go_at_call 125; with_reducible refine (HC.out _).mono ?_; rintro e w' ⟨rfl, rfl⟩)
        go_ret
        exact ⟨by rw [front_end HX.out HBB.out HF.out]; rfl, rfl⟩
    · obtain rfl : i = s.size := by omega
      go_wp2_with fail
      go_ret
      refine ⟨?_, rfl⟩
      have := HF.out
      have e : s.data.toList.take s.size = s.data.toList := List.take_of_length_le (by rw [Array.length_toList]; exact Nat.le_refl _)
      rw [e] at this
      rw [this]
      rfl
end Go.Proofs.YtggjeecpadnihaaGreatDoor

namespace Go.Proofs.YtggjeecpadnihaaGreatDoor
open Go.RowKit Go.Proofs Go.Deep Go.Sx
set_option linter.unusedVariables false
set_option linter.unusedSimpArgs false

/-- The words lie in their table. -/
def WordsAt (w : World) : Prop := ∀ (i : Nat) (s : ByteArray), words[i]? = some s → w.cell? ⟨2, i, none⟩ = some (.string s)
theorem WordsAt.below {w w' : World} (h : WordsAt w) (hb : Below w.heap.size w w') : WordsAt w' := fun i s hi => by
  have h1 := h i s hi
  exact (hb.cell (World.block_lt_of_cell? w _ h1)).trans h1

set_option maxRecDepth 100000 in
theorem word_any (s : ByteArray) (w : World) (hw : WordsAt w) : Calls Tryz.prog 102 #[.string s] w fun e w' => e = .returned (.bool (wordB s)) ∧ w = w' := by
  have HW := Lib.hid hw
  clear hw
  go_enter Tryz.func102, Tryz.ntmps102
  go_wp2_with fail
  go_loopg [4] 10 (fun kx s4 wr => ∃ i : Nat, s4 = .int .i64 i ∧ i ≤ 10 ∧ 10 - i ≤ kx ∧ Aside ((words.take i).all (fun x => !(x.toList == s.toList)) = true) ∧ wr = w)
  case atStart => exact ⟨0, rfl, by omega, by omega, rfl, rfl⟩
  case round =>
    obtain ⟨i, rfl, hi, hk, hf, rfl⟩ := hrel
    have HF := Lib.hid hf.out
    clear hf
    by_cases hil : i < 10
    · have hx : words[i]? = some words[i] := List.getElem?_eq_getElem hil
      have hc := HW.out i _ hx
      have HX := Lib.hid hx
      clear hx
      have hi0 : (0 : Int) ≤ (i : Int) := by omega
      have hi1 : (i : Int) < 10 := by omega
      cases hb : (words[i].toList == s.toList) with
      | true =>
        have FIN : Hid (wordB s = true) := Lib.hid (List.any_eq_true.2 ⟨_, List.mem_of_getElem? HX.out, hb⟩)
        generalize words[i] = wi at *
        go_wp2
        go_ret
        exact ⟨by rw [FIN.out]; rfl, rfl⟩
      | false =>
        have FIN : Hid ((words.take (i + 1)).all (fun x => !(x.toList == s.toList)) = true) := Lib.hid (by
          rw [List.take_add_one, HX.out, List.all_append, HF.out]; simp [hb])
        generalize words[i] = wi at *
        go_wp2
        go_roundg (10 - (i + 1))
        case measure => omega
        case rel => exact ⟨i + 1, by go_num, by omega, Nat.le_refl _, FIN.out, rfl⟩
    · obtain rfl : i = 10 := by omega
      have FIN : Hid (wordB s = false) := Lib.hid (by
        have h : words.all (fun x => !(x.toList == s.toList)) = true := HF.out
        unfold wordB
        rw [List.any_eq_false]
        intro x hx
        have := List.all_eq_true.1 h x hx
        simpa using this)
      clear HF
      go_wp2
      go_ret
      exact ⟨by rw [FIN.out]; rfl, rfl⟩

theorem front_all (l : List UInt8) : (((frontN l : Nat) : Int) == (l.length : Int)) = l.all ldB := by
  unfold frontN
  rw [Bool.eq_iff_iff]
  constructor
  · intro h
    have h := eq_of_beq h
    have h : (l.takeWhile ldB).length = l.length := by omega
    have e : l.takeWhile ldB = l := List.IsPrefix.eq_of_length (List.takeWhile_prefix _) h
    rw [List.all_eq_true]
    intro x hx
    rw [← e] at hx
    exact tw_all _ _ hx
  · intro h
    have : l.takeWhile ldB = l := by
      induction l with
      | nil => rfl
      | cons a l ih =>
        rw [List.all_cons, Bool.and_eq_true] at h
        rw [List.takeWhile_cons, h.1]
        simp only [if_true]
        rw [ih h.2]
    rw [this]; simp

set_option maxRecDepth 100000 in
theorem lname_any (s : ByteArray) (w : World) (hw : WordsAt w) : Calls Tryz.prog 100 #[.string s] w fun e w' => e = .returned (.bool (nameB s)) ∧ w = w' := by
  have HWD := Lib.hid (word_any s w hw)
  unfold nameB
  have HA := Lib.hid (front_all s.data.toList)
  have hlen : s.data.toList.length = s.size := by rw [Array.length_toList]; rfl
  have HL := Lib.hid hlen
  clear hw hlen
  generalize wordB s = b4 at *
  generalize h5 : s.data.toList.all ldB = b5 at *
  clear h5
  cases h1 : s.toList.isEmpty with
  | true =>
    go_enter Tryz.func100, Tryz.ntmps100
    go_wp2
    go_ret
    exact ⟨rfl, rfl⟩
  | false =>
    cases h2 : decide ((s.size : Int) ≤ 20) with
    | false =>
      go_enter Tryz.func100, Tryz.ntmps100
      go_wp2
      go_ret
      exact ⟨rfl, rfl⟩
    | true =>
      have HR := Lib.hid (row_any s w (by have := of_decide_eq_true h2; omega))
      have h0 : 0 < s.size := by
        rcases Nat.eq_zero_or_pos s.size with h | h
        · exfalso
          rw [ByteArray.toList_eq, List.isEmpty_eq_false_iff] at h1
          exact h1 (List.eq_nil_of_length_eq_zero (by rw [Array.length_toList]; exact h))
        · exact h
      have e0 : firstDig s.data.toList = digB s[0] := by
        have hx : s.data.toList[0]? = some s[0] := by rw [Array.getElem?_toList]; exact Array.getElem?_eq_getElem h0
        match hq : s.data.toList, hx with
        | c :: l, hx => simp at hx; subst hx; rfl
      rw [e0]
      have HD := Lib.hid (fun w => digit_any s[0] w)
      have h0' : (0 : Int) < (s.size : Int) := by omega
      clear e0
      generalize digB s[0] = b3 at *
      cases b3 with
      | true =>
        go_enter Tryz.func100, Tryz.ntmps100
        go_wp2_with (go_at_call 123; with_reducible refine (HD.out _).mono ?_; rintro e w' ⟨rfl, rfl⟩)
        go_ret
        exact ⟨rfl, rfl⟩
      | false =>
        cases b4 with
        | true =>
          go_enter Tryz.func100, Tryz.ntmps100
          go_wp2_with (first
            | (go_at_call 123; with_reducible refine (HD.out _).mono ?_; rintro e w' ⟨rfl, rfl⟩)
            | (go_at_call 102; with_reducible refine HWD.out.mono ?_; rintro e w' ⟨rfl, rfl⟩))
          go_ret
          exact ⟨rfl, rfl⟩
        | false =>
          have hb5 : (((frontN s.data.toList : Nat) : Int) == (s.size : Int)) = b5 := by
            rw [← HL.out]; exact HA.out
          cases b5 <;>
          (go_enter Tryz.func100, Tryz.ntmps100
           go_wp2_with (first
            | (go_at_call 123; with_reducible refine (HD.out _).mono ?_; rintro e w' ⟨rfl, rfl⟩)
            | (go_at_call 102; with_reducible refine HWD.out.mono ?_; rintro e w' ⟨rfl, rfl⟩)
            | (go_at_call 124; with_reducible refine HR.out.mono ?_; rintro e w' ⟨rfl, rfl⟩))
           go_ret
           exact ⟨rfl, rfl⟩)
end Go.Proofs.YtggjeecpadnihaaGreatDoor

namespace Go.Proofs.YtggjeecpadnihaaGreatDoor
open Go.RowKit Go.Proofs Go.Deep Go.Sx
set_option linter.unusedVariables false
set_option linter.unusedSimpArgs false

def badR (x : Nat) : Bool := ((x : Int) != 10) && (decide ((x : Int) < 32) || decide (126 < (x : Int)))
theorem badR_any (x : Nat) (w : World) : Calls Tryz.prog 128 #[.int .i32 x] w fun e w' => e = .returned (.bool (badR x)) ∧ w = w' := by
  unfold badR
  generalize h1 : ((x : Int) != 10) = b1
  generalize h2 : decide ((x : Int) < 32) = b2
  generalize h3 : decide (126 < (x : Int)) = b3
  cases b1 <;> cases b2 <;> cases b3 <;>
  (go_enter Tryz.func128, Tryz.ntmps128
   go_wp2
   go_ret
   exact ⟨rfl, rfl⟩)
theorem bad_plain (c : UInt8) : badR c.toNat = !plainC c := by
  unfold badR plainC
  rw [Bool.eq_iff_iff]
  simp
  omega
theorem bad_high {x : Nat} (h : 128 ≤ x) : badR x = true := by
  unfold badR
  simp
  omega
theorem idx_from (s : ByteArray) : ∀ (f pos : Nat), s.size ≤ pos + f → decide (0 ≤ Lib.idxFuncFrom badR true s f pos) = !((s.data.toList.drop pos).all plainC)
  | 0, pos, h => by
    have hl : s.data.toList.length = s.size := by rw [Array.length_toList]; rfl
    rw [List.drop_eq_nil_of_le (by omega)]
    rfl
  | f + 1, pos, h => by
    have hl : s.data.toList.length = s.size := by rw [Array.length_toList]; rfl
    unfold Lib.idxFuncFrom
    by_cases hp : pos < s.size
    · rw [if_pos hp]
      have hd : s.data.toList.drop pos = s[pos] :: s.data.toList.drop (pos + 1) := by
        rw [List.drop_eq_getElem_cons (by omega)]
        congr 1
      rw [hd, List.all_cons]
      by_cases ha : s[pos].toNat < 128
      · rw [decode_ascii s pos hp ha]
        simp only
        rw [bad_plain]
        cases hpl : plainC s[pos] with
        | true => simp only [Bool.not_true, Bool.false_eq_true, if_false, Bool.true_and]; exact idx_from s f (pos + 1) (by omega)
        | false => simp
      · obtain ⟨h1, h2⟩ := decode_high s pos hp (by omega)
        rw [bad_high h1]
        have : plainC s[pos] = false := by
          unfold plainC; simp; omega
        rw [this]
        simp
    · rw [if_neg hp, List.drop_eq_nil_of_le (by omega)]
      rfl
theorem idx_all (s : ByteArray) : decide (0 ≤ Lib.idxFunc badR true s) = !(s.data.toList.all plainC) := by
  have := idx_from s s.size 0 (by omega)
  rw [List.drop_zero] at this
  exact this

theorem index_any (s : ByteArray) (w : World) : Calls Tryz.prog 129 #[.string s, .func (.func 128) #[] #[]] w fun e w' => e = .returned (.int .i64 (Lib.idxFunc badR true s)) ∧ Below w.heap.size w w' :=
  Tryz.strings_IndexFunc_grows 128 #[] (fun args w => by kernel_rfl) badR s w (fun W x hx hb => (badR_any x W).mono (by rintro e w' ⟨rfl, rfl⟩; exact ⟨rfl, Below.refl _ _⟩))

def QuotePost (s : ByteArray) (w : World) (e : Ending) (w' : World) : Prop :=
  e = .returned (.tuple #[.string (if plainB s = true then ⟨(quotL s).toArray⟩ else ⟨#[]⟩), .bool (plainB s)]) ∧ Below w.heap.size w w'
set_option maxRecDepth 100000 in
theorem quote_no (s : ByteArray) (w : World) (h : plainB s = false) : Calls Tryz.prog 104 #[.string s] w (QuotePost s w) := by
  have FIN : Hid (∀ w', Below w.heap.size w w' → QuotePost s w (.returned (.tuple #[.string ⟨#[]⟩, .bool false])) w') := Lib.hid fun w' hb => ⟨by rw [h]; rfl, hb⟩
  have HI := Lib.hid (index_any s w)
  have hi := idx_all s
  unfold plainB at h
  have e1 : decide (s.size ≤ 255) = !decide (255 < (s.size : Int)) := by rw [Bool.eq_iff_iff]; simp; omega
  rw [e1] at h
  clear e1
  generalize hx : Lib.idxFunc badR true s = x at *
  generalize s.data.toList.all plainC = b2 at *
  clear hx
  cases h1 : decide (255 < (s.size : Int)) with
  | true =>
    clear hi h
    go_enter Tryz.func104, Tryz.ntmps104
    go_wp2
    go_ret2
    exact FIN.out _ (Below.refl _ _)
  | false =>
    rw [h1] at h
    have hb2 : b2 = false := by simpa using h
    subst hb2
    clear h
    go_enter Tryz.func104, Tryz.ntmps104
    go_wp2_with (go_at_call 129; with_reducible refine HI.out.mono ?_; rintro e w' ⟨rfl, hb⟩)
    go_ret2
    exact FIN.out _ hb
end Go.Proofs.YtggjeecpadnihaaGreatDoor

namespace Go.Proofs.YtggjeecpadnihaaGreatDoor
open Go.RowKit Go.Proofs Go.Deep Go.Sx
set_option linter.unusedVariables false
set_option linter.unusedSimpArgs false

/-- What is written in another way. -/
def spec (c : UInt8) : Bool := c == 92 || c == 34 || c == 10
def specN (l : List UInt8) : Nat := (l.filter spec).length
theorem esc_one {c : UInt8} (h : spec c = false) : escC c = [c] := by
  unfold spec at h
  simp only [Bool.or_eq_false_iff, beq_eq_false_iff_ne] at h
  unfold escC
  rw [if_neg h.1.1, if_neg h.1.2, if_neg h.2]
theorem esc_two {c : UInt8} (h : spec c = true) : ∃ b, escC c = [92, b] := by
  unfold spec at h
  simp only [Bool.or_eq_true, beq_iff_eq] at h
  unfold escC
  rcases h with (rfl | rfl) | rfl
  · exact ⟨92, by simp⟩
  · exact ⟨34, by simp⟩
  · exact ⟨110, by simp⟩
theorem escL_snoc (l : List UInt8) (c : UInt8) : escL (l ++ [c]) = escL l ++ escC c := by simp [escL]
theorem escL_len (l : List UInt8) : (escL l).length = l.length + specN l := by
  induction l with
  | nil => rfl
  | cons c l ih =>
    have e : escL (c :: l) = escC c ++ escL l := by simp [escL]
    rw [e, List.length_append, ih]
    unfold specN
    rw [List.filter_cons]
    cases h : spec c with
    | false => rw [esc_one h]; simp; omega
    | true => obtain ⟨b, hb⟩ := esc_two h; rw [hb]; simp; omega
theorem escL_none {l : List UInt8} (h : specN l = 0) : escL l = l := by
  induction l with
  | nil => rfl
  | cons c l ih =>
    have e : escL (c :: l) = escC c ++ escL l := by simp [escL]
    unfold specN at h
    rw [List.filter_cons] at h
    cases hs : spec c with
    | false =>
      rw [hs] at h
      simp only [Bool.false_eq_true, if_false] at h
      rw [e, esc_one hs, ih h]; rfl
    | true => rw [hs] at h; simp at h
theorem specN_snoc (l : List UInt8) (c : UInt8) : specN (l ++ [c]) = specN l + (if spec c = true then 1 else 0) := by
  unfold specN
  rw [List.filter_append, List.length_append]
  cases h : spec c <;> simp [List.filter, h]
theorem specN_le (l : List UInt8) : specN l ≤ l.length := List.length_filter_le _ _
theorem byte_take {s : ByteArray} {i : Nat} (h : i < s.size) : s.data.toList.take (i + 1) = s.data.toList.take i ++ [s[i]] := by
  rw [List.take_succ_eq_append_getElem (by rw [Array.length_toList]; exact h)]; rfl

theorem escL_take {s : ByteArray} {i : Nat} (h : i < s.size) : escL (s.data.toList.take (i + 1)) = escL (s.data.toList.take i) ++ escC s[i] := by rw [byte_take h, escL_snoc]
theorem escL_take_le (l : List UInt8) (i : Nat) : (escL (l.take i)).length ≤ (escL l).length := by
  have e : escL l = escL (l.take i) ++ escL (l.drop i) := by
    have : l = l.take i ++ l.drop i := (List.take_append_drop i l).symm
    conv => lhs; rw [this]
    unfold escL
    rw [List.flatMap_append]
  rw [e, List.length_append]; omega
theorem set_take {α : Type} {l : List α} {j : Nat} {v : α} (h : j < l.length) : (l.set j v).take (j + 1) = l.take j ++ [v] := by
  rw [List.take_succ_eq_append_getElem (by simpa using h), List.getElem_set_self, List.take_set_of_le (Nat.le_refl _)]
theorem splice_take {α : Type} {l cs : List α} {j : Nat} (h : j + cs.length ≤ l.length) : (splice l j cs).take (j + cs.length) = l.take j ++ cs := by
  unfold splice
  rw [← List.append_assoc, List.take_append_of_le_length (by rw [List.length_append, List.length_take]; omega)]
  rw [List.take_of_length_le (by rw [List.length_append, List.length_take]; omega)]
theorem cell_arr {w : World} {b j : Nat} {cur : List Value} {t : TypeId} {fr : Nat × Nat} (h : w.heap[b]? = some (.cells cur.toArray t fr)) {v : Value} (hv : cur[j]? = some v) : w.cell? ⟨b, j, none⟩ = some v := by
  rw [Lib.cell_of_heap h, List.getElem?_toArray, hv]

/-- The table of the replacer. -/
structure RepAt (hb : Nat) (w : World) : Prop where
  lt : hb < w.heap.size
  one : ∀ c : UInt8, spec c = false → w.cell? ⟨hb, c.toNat, none⟩ = some (.slice none 0 0)
  two : ∀ c : UInt8, spec c = true → ∃ g o cap, w.cell? ⟨hb, c.toNat, none⟩ = some (.slice (some ⟨g, o, none⟩) 2 cap) ∧ ∀ (j : Nat) b, (escC c)[j]? = some b → w.cell? ⟨g, o + j, none⟩ = some (.int .u8 b.toNat)
  rep : ∃ g o cap, w.cell? ⟨hb, 256, none⟩ = some (.slice (some ⟨g, o, none⟩) 3 cap) ∧ w.cell? ⟨g, o, none⟩ = some (.string ⟨#[10]⟩) ∧ w.cell? ⟨g, o + 1, none⟩ = some (.string ⟨#[34]⟩) ∧ w.cell? ⟨g, o + 2, none⟩ = some (.string ⟨#[92]⟩)

set_option maxRecDepth 100000 in
set_option maxHeartbeats 1000000 in
theorem rep_short (hb : Nat) (s : ByteArray) (w : World) (h : RepAt hb w) (hs : s.size < 24) :
    Calls Tryz.prog 250 #[.pointer (some ⟨hb, 0, none⟩), .string s] w fun e w' => e = .returned (.string ⟨(escL s.data.toList).toArray⟩) ∧ Below w.heap.size w w' := by
  have HR := Lib.hid h
  obtain ⟨gr, orr, capr, k256, _⟩ := h.rep
  have hs1 : ¬ (24 : Int) ≤ (s.size : Int) := by omega
  go_enter Tryz.func250, Tryz.ntmps250
  go_wp2_with fail
  go_loopg [5, 6, 10] s.size (fun kx s5 s6 s10 wr => ∃ i : Nat, s5 = .int .i64 ((s.size + specN (s.data.toList.take i) : Nat) : Int) ∧ s6 = .bool (decide (0 < specN (s.data.toList.take i))) ∧ s10 = .int .i64 i ∧ i ≤ s.size ∧ s.size - i ≤ kx ∧ wr = w)
  case atStart => exact ⟨0, rfl, rfl, rfl, by omega, by omega, rfl⟩
  case round =>
    obtain ⟨i, rfl, rfl, rfl, hi, hk, rfl⟩ := hrel
    have hsp := specN_le (s.data.toList.take i)
    rw [List.length_take, Array.length_toList] at hsp
    have hsp2 : specN (s.data.toList.take i) ≤ 24 := by have : s.data.size = s.size := rfl; omega
    clear hsp
    by_cases hil : i < s.size
    · have hi0 : (0 : Int) ≤ (i : Int) := by omega
      have hi1 : (i : Int) < (s.size : Int) := by omega
      have HT := Lib.hid (byte_take hil)
      have hc256 : ((s[i].toNat : Nat) : Int) < 256 := by have := s[i].toNat_lt; omega
      cases hc : spec s[i] with
      | false =>
        have c1 := HR.out.one _ hc
        have FIN : Hid (specN (s.data.toList.take (i + 1)) = specN (s.data.toList.take i)) := Lib.hid (by rw [HT.out, specN_snoc, hc]; simp)
        clear hc
        go_wp2
        go_roundg (s.size - (i + 1))
        case measure => omega
        case rel => exact ⟨i + 1, by rw [FIN.out], by rw [FIN.out], by go_num, by omega, Nat.le_refl _, rfl⟩
      | true =>
        obtain ⟨g, o, cap, c1, _⟩ := HR.out.two _ hc
        have FIN : Hid (specN (s.data.toList.take (i + 1)) = specN (s.data.toList.take i) + 1) := Lib.hid (by rw [HT.out, specN_snoc, hc]; simp)
        clear hc
        go_wp2
        go_roundg (s.size - (i + 1))
        case measure => omega
        case rel => exact ⟨i + 1, by rw [FIN.out]; go_num, by rw [FIN.out]; simp, by go_num, by omega, Nat.le_refl _, rfl⟩
    · obtain rfl : i = s.size := by omega
      have e : s.data.toList.take s.size = s.data.toList := List.take_of_length_le (by rw [Array.length_toList]; exact Nat.le_refl _)
      rw [e] at hsp2 ⊢
      clear e
      generalize hN : specN s.data.toList = N at *
      have HNN := Lib.hid hN
      clear hN
      by_cases h0 : N = 0
      · subst h0
        go_wp2
        go_ret
        refine ⟨?_, Below.refl _ _⟩
        rw [escL_none HNN.out]
        rfl
      · have h0' : decide (0 < N) = true := decide_eq_true (by omega)
        rw [h0']
        obtain ⟨i0, hi0, hz0, hz1, hz2⟩ := info_parts (show (Tryz.prog.info? 5).map (fun i => (i.zero, i.size, i.bytes)) = some (some (.int .u8 0), 1, 1) by kernel_rfl)
        have hLEN := Lib.hid (show (escL s.data.toList).length = s.size + N by rw [escL_len, HNN.out, Array.length_toList]; rfl)
        go_wp2_with (at_make; refine wpList_make_full _ rfl _ _ 79 rfl wr.heap.size 5 i0 (.int .u8 0) 1 Tryz.underlying79 hi0 hz0 hz1 _ _ _ _ (s.size + N) rfl rfl (by omega) (by omega) (by rw [hz2]; omega) (by unfold maxLen; omega) (Nat.le_refl _) ?_)
        intro w1 hown hgrow
        have hb1 : Below wr.heap.size wr w1 := (Below.refl _ _).grown hgrow (Nat.le_refl _) (fun k hk => by cases hk)
        obtain ⟨cur0, q1, q2⟩ : ∃ cur : Array Value, w1.heap[wr.heap.size]? = some (.cells cur 5 (0, 0)) ∧ cur.size = s.size + N := by
          rcases hown.2 with ⟨hv, _⟩ | ⟨g, cap, cur, hv, _, hg, _, _, hsz, _⟩
          · cases hv
          · injection hv with hv _ hv3
            injection hv with hv
            injection hv with hv
            subst hv; subst hv3
            exact ⟨cur, hg, by omega⟩
        obtain ⟨W0, hW0⟩ : ∃ W0, W0 = wr := ⟨_, rfl⟩
        subst hW0
        have HB1 := Lib.hid hb1
        have HQ := Lib.hid (And.intro q1 q2)
        clear hown hgrow hb1 q1 q2 HNN hz0 hz1 hz2 hi0
        have hk0 : 0 < s.size + N := by omega
        go_wp2_with fail
        go_loopg [13, 14] s.size (fun kx s13 s14 wr => ∃ (i : Nat) (cur : List Value), s13 = .int .i64 (((escL (s.data.toList.take i)).length : Nat) : Int) ∧ s14 = .int .i64 i ∧ i ≤ s.size ∧ s.size - i ≤ kx ∧ Aside (wr.heap[W0.heap.size]? = some (.cells cur.toArray 5 (0, 0)) ∧ cur.length = s.size + N ∧ cur.take (escL (s.data.toList.take i)).length = Lib.byteCells (escL (s.data.toList.take i))) ∧ Aside (Below W0.heap.size W0 wr))
        case atStart => exact ⟨0, cur0.toList, rfl, rfl, by omega, by omega, ⟨by simpa using HQ.out.1, by simpa using HQ.out.2, rfl⟩, HB1.out⟩
        case round =>
          obtain ⟨i, cur, rfl, rfl, hi, hk, hA, hBB⟩ := hrel
          have HA := Lib.hid hA.out
          have HB2 := Lib.hid hBB.out
          clear hA hBB
          have hj1 := escL_take_le s.data.toList i
          rw [hLEN.out] at hj1
          by_cases hil : i < s.size
          · have HT := Lib.hid (escL_take hil)
            have HTL := Lib.hid (escL_take_le s.data.toList (i + 1))
            have hi0 : (0 : Int) ≤ (i : Int) := by omega
            have hi1 : (i : Int) < (s.size : Int) := by omega
            have hc256 : ((s[i].toNat : Nat) : Int) < 256 := by have := s[i].toNat_lt; omega
            have hlt := HR.out.lt
            have mv : ∀ p v, W0.cell? p = some v → wr.cell? p = some v := fun p v hp => (HB2.out.cell (World.block_lt_of_cell? W0 p hp)).trans hp
            cases hc : spec s[i] with
            | false =>
              have c1 := mv _ _ (HR.out.one _ hc)
              have hE := esc_one hc
              have hjlt : (escL (s.data.toList.take i)).length < s.size + N := by
                have := HTL.out
                rw [HT.out, hE, List.length_append, hLEN.out] at this
                simp only [List.length_cons, List.length_nil] at this
                omega
              have hfz : wr.frozen? ⟨W0.heap.size, (escL (s.data.toList.take i)).length, none⟩ = false := Lib.frozen_of_heap HA.out.1 _
              have hcl : wr.cell? ⟨W0.heap.size, (escL (s.data.toList.take i)).length, none⟩ = some (cur[(escL (s.data.toList.take i)).length]'(by rw [HA.out.2.1]; exact hjlt)) := cell_arr HA.out.1 (List.getElem?_eq_getElem _)
              have FIN : Hid (∃ cur' : List Value, (wr.setCell ⟨W0.heap.size, (escL (s.data.toList.take i)).length, none⟩ (.int .u8 s[i].toNat)).heap[W0.heap.size]? = some (.cells cur'.toArray 5 (0, 0)) ∧ cur'.length = s.size + N ∧ cur'.take (escL (s.data.toList.take (i + 1))).length = Lib.byteCells (escL (s.data.toList.take (i + 1)))) := Lib.hid (by
                refine ⟨cur.set (escL (s.data.toList.take i)).length (.int .u8 s[i].toNat), ?_, by rw [List.length_set]; exact HA.out.2.1, ?_⟩
                · rw [setCell_row' HA.out.1]; simp
                · rw [HT.out, hE, List.length_append]
                  show List.take (_ + 1) _ = _
                  rw [set_take (by rw [HA.out.2.1]; exact hjlt), HA.out.2.2]
                  simp [Lib.byteCells])
              have FINL : Hid ((escL (s.data.toList.take (i + 1))).length = (escL (s.data.toList.take i)).length + 1) := Lib.hid (by rw [HT.out, hE, List.length_append]; rfl)
              have FINB : Hid (Below W0.heap.size W0 (wr.setCell ⟨W0.heap.size, (escL (s.data.toList.take i)).length, none⟩ (.int .u8 s[i].toNat))) := Lib.hid (HB2.out.setCell (Nat.le_refl _) _)
              generalize (escL (s.data.toList.take i)).length = j at *
              have hj2 : (j : Int) < (s.size : Int) + (N : Int) := by omega
              have hj3 : (0 : Int) ≤ (j : Int) := by omega
              generalize cur[j]'_ = v0 at hcl
              clear hc mv hE HT HTL
              go_wp2
              go_roundg (s.size - (i + 1))
              case measure => omega
              case rel =>
                obtain ⟨cur', f1, f2, f3⟩ := FIN.out
                exact ⟨i + 1, cur', by rw [FINL.out]; go_num, by go_num, by omega, Nat.le_refl _, ⟨f1, f2, f3⟩, FINB.out⟩
            | true =>
              obtain ⟨b, hE⟩ := esc_two hc
              obtain ⟨g, o, cap, c1, hcells⟩ := HR.out.two _ hc
              have c1 := mv _ _ c1
              have hjlt : (escL (s.data.toList.take i)).length + 2 ≤ s.size + N := by
                have := HTL.out
                rw [HT.out, hE, List.length_append, hLEN.out] at this
                simp only [List.length_cons, List.length_nil] at this
                omega
              have hcs : ∀ (j : Nat) v, (Lib.byteCells (escC s[i]))[j]? = some v → wr.cell? ((⟨g, o, none⟩ : Addr).add j) = some v := fun j v hv => by
                rw [Lib.byteCells, List.getElem?_map] at hv
                obtain ⟨x, hx, rfl⟩ := Option.map_eq_some_iff.1 hv
                have := mv _ _ (hcells j x hx)
                simpa [Addr.add_lit] using this
              have HCS := Lib.hid hcs
              have FINL : Hid ((escL (s.data.toList.take (i + 1))).length = (escL (s.data.toList.take i)).length + 2) := Lib.hid (by rw [HT.out, hE, List.length_append]; rfl)
              have HL2 : Hid ((Lib.byteCells (escC s[i])).length = 2) := Lib.hid (by rw [hE]; rfl)
              have FIN : Hid (∀ w' : World, w'.heap[W0.heap.size]? = some (.cells (splice cur (escL (s.data.toList.take i)).length (Lib.byteCells (escC s[i]))).toArray 5 (0, 0)) → ∃ cur' : List Value, w'.heap[W0.heap.size]? = some (.cells cur'.toArray 5 (0, 0)) ∧ cur'.length = s.size + N ∧ cur'.take (escL (s.data.toList.take (i + 1))).length = Lib.byteCells (escL (s.data.toList.take (i + 1)))) := Lib.hid (fun w' hw' => by
                refine ⟨_, hw', ?_, ?_⟩
                · rw [length_splice _ _ _ (by rw [HL2.out, HA.out.2.1]; exact hjlt)]; exact HA.out.2.1
                · rw [FINL.out, ← HL2.out, splice_take (by rw [HL2.out, HA.out.2.1]; exact hjlt), HA.out.2.2, HT.out]
                  simp [Lib.byteCells])
              generalize (escL (s.data.toList.take i)).length = j at *
              have hj2 : (j : Int) < (s.size : Int) + (N : Int) := by omega
              have hj3 : (0 : Int) ≤ (j : Int) := by omega
              clear hc mv hE HT HTL hcells hcs
              have hjne : ¬ s.size + N = j := by omega
              have hjN : (j : Int) ≤ (s.size : Int) + (N : Int) := by omega
              have HMIN : Hid ((Lib.byteCells (escC s[i])).length = Nat.min 2 (s.size + N - j)) := Lib.hid (by rw [HL2.out]; exact (Nat.min_eq_left (by omega)).symm)
              have HFIT : Hid (j + (Lib.byteCells (escC s[i])).length ≤ cur.length) := Lib.hid (by rw [HL2.out, HA.out.2.1]; omega)
              have HONE : Hid (∀ v ∈ Lib.byteCells (escC s[i]), v.oneCell' = true) := Lib.hid (by
                intro v hv
                simp only [Lib.byteCells, List.mem_map] at hv
                obtain ⟨x, _, rfl⟩ := hv; rfl)
              go_wp2
              go_region_law (refine step_copy_splice rfl (.tmp 105) (.tmp 111) 79 79 rfl 5 Tryz.underlying79 (by kernel_rfl) _ _ _ _ _ _ rfl rfl W0.heap.size j cur 5 HA.out.1 (Lib.byteCells (escC s[i])) HMIN.out (fun _ => ⟨rfl, _, rfl, HCS.out⟩) HFIT.out HONE.out W0.heap.size W0 HB2.out.drew (Nat.le_refl _) ?_; intro w4 hg4 hb4)
              all_goals
                rw [HL2.out]
                have FIN2 := Lib.hid (FIN.out w4 hg4.out)
                have HB4 := Lib.hid hb4
                clear hg4 hb4
                go_wp2
                go_roundg (s.size - (i + 1))
                case measure => omega
                case rel =>
                  obtain ⟨cur', f1, f2, f3⟩ := FIN2.out
                  exact ⟨i + 1, cur', by rw [FINL.out]; go_num, by go_num, by omega, Nat.le_refl _, ⟨f1, f2, f3⟩, HB4.out⟩
          · obtain rfl : i = s.size := by omega
            have e : s.data.toList.take s.size = s.data.toList := List.take_of_length_le (by rw [Array.length_toList]; exact Nat.le_refl _)
            rw [e] at HA ⊢
            have hcv : (convert 79 9 (.slice (some ⟨W0.heap.size, 0, none⟩) (s.size + N) (s.size + N))).run Tryz.prog wr = .ok (.string ⟨(escL s.data.toList).toArray⟩) wr := by
              have h := run_convert_bytes_back (P := Tryz.prog) wr 79 9 5 ⟨W0.heap.size, 0, none⟩ (s.size + N) (escL s.data.toList) Tryz.underlying79 Tryz.underlying5 Tryz.underlying9 (fun j hj => by
                have h1 : (cur.take (escL s.data.toList).length)[j]? = some (.int .u8 ((escL s.data.toList)[j].toNat : Int)) := by
                  rw [HA.out.2.2, Lib.byteCells, List.getElem?_map, List.getElem?_eq_getElem hj]; rfl
                rw [List.getElem?_take_of_lt hj] at h1
                have := cell_arr HA.out.1 h1
                simpa [Addr.add_lit] using this)
              rw [hLEN.out] at h
              exact h
            go_wp2
            go_ret
            exact ⟨rfl, HB2.out⟩
end Go.Proofs.YtggjeecpadnihaaGreatDoor

namespace Go.Proofs.YtggjeecpadnihaaGreatDoor
open Go.RowKit Go.Proofs Go.Deep Go.Sx
set_option linter.unusedVariables false
set_option linter.unusedSimpArgs false

theorem spec_count (l : List UInt8) : specN l = Lib.countByte l 10 + Lib.countByte l 34 + Lib.countByte l 92 := by
  unfold specN Lib.countByte
  induction l with
  | nil => rfl
  | cons c l ih =>
    rw [List.filter_cons, List.count_cons, List.count_cons, List.count_cons]
    by_cases h1 : c = 92
    · subst h1
      rw [show spec 92 = true from rfl, show ((92 : UInt8) == 10) = false by decide, show ((92 : UInt8) == 34) = false by decide, show ((92 : UInt8) == 92) = true by decide]
      simp only [if_true, Bool.false_eq_true, if_false, List.length_cons, ih]; omega
    · by_cases h2 : c = 34
      · subst h2
        rw [show spec 34 = true from rfl, show ((34 : UInt8) == 10) = false by decide, show ((34 : UInt8) == 34) = true by decide, show ((34 : UInt8) == 92) = false by decide]
        simp only [if_true, Bool.false_eq_true, if_false, List.length_cons, ih]; omega
      · by_cases h3 : c = 10
        · subst h3
          rw [show spec 10 = true from rfl, show ((10 : UInt8) == 10) = true by decide, show ((10 : UInt8) == 34) = false by decide, show ((10 : UInt8) == 92) = false by decide]
          simp only [if_true, Bool.false_eq_true, if_false, List.length_cons, ih]; omega
        · have hs : spec c = false := by unfold spec; simp [h1, h2, h3]
          rw [hs, show (c == 10) = false by simpa using h3, show (c == 34) = false by simpa using h2, show (c == 92) = false by simpa using h1]
          simp only [Bool.false_eq_true, if_false, ih]; omega
theorem cell_heq {w w' : World} (e : w'.heap = w.heap) (p : Addr) : w'.cell? p = w.cell? p := World.cell?_of_block (by rw [e])
theorem RepAt.heq {hb : Nat} {w w' : World} (h : RepAt hb w) (e : w'.heap = w.heap) : RepAt hb w' := by
  obtain ⟨h1, h2, h3, h4⟩ := h
  refine ⟨by rw [e]; exact h1, fun c hc => (cell_heq e _).trans (h2 c hc), fun c hc => ?_, ?_⟩
  · obtain ⟨g, o, cap, k1, k2⟩ := h3 c hc
    exact ⟨g, o, cap, (cell_heq e _).trans k1, fun j b hb => (cell_heq e _).trans (k2 j b hb)⟩
  · obtain ⟨g, o, cap, k1, k2, k3, k4⟩ := h4
    exact ⟨g, o, cap, (cell_heq e _).trans k1, (cell_heq e _).trans k2, (cell_heq e _).trans k3, (cell_heq e _).trans k4⟩
def cntK (l : List UInt8) : Nat → Nat
  | 0 => 0
  | 1 => Lib.countByte l 10
  | 2 => Lib.countByte l 10 + Lib.countByte l 34
  | _ => Lib.countByte l 10 + Lib.countByte l 34 + Lib.countByte l 92

set_option maxRecDepth 100000 in
set_option maxHeartbeats 2000000 in
theorem rep_long (hb : Nat) (s : ByteArray) (w : World) (h : RepAt hb w) (hs : 24 ≤ s.size) (hs2 : s.size ≤ 1000) :
    Calls Tryz.prog 250 #[.pointer (some ⟨hb, 0, none⟩), .string s] w fun e w' => e = .returned (.string ⟨(escL s.data.toList).toArray⟩) ∧ Below w.heap.size w w' := by
  have HR := Lib.hid h
  obtain ⟨gr, orr, capr, k256, x0, x1, x2⟩ := h.rep
  have HSC := Lib.hid (spec_count s.data.toList)
  have HSL : Hid (specN s.data.toList ≤ s.size) := Lib.hid (by have := specN_le s.data.toList; rwa [Array.length_toList] at this)
  have hs1 : (24 : Int) ≤ (s.size : Int) := by omega
  have HCT := Lib.hid (fun c w => Tryz.strings_Count_one s c w)
  go_enter Tryz.func250, Tryz.ntmps250
  go_wp2_with fail
  go_loopg [5, 6, 32] 3 (fun kx s5 s6 s32 wr => ∃ i : Nat, s5 = .int .i64 ((s.size + cntK s.data.toList i : Nat) : Int) ∧ s6 = .bool (decide (0 < cntK s.data.toList i)) ∧ s32 = .int .i64 i ∧ i ≤ 3 ∧ 3 - i ≤ kx ∧ Aside (wr.heap = w.heap ∧ Below w.heap.size w wr))
  case atStart => exact ⟨0, rfl, rfl, rfl, by omega, by omega, rfl, Below.refl _ _⟩
  case round =>
    obtain ⟨i, rfl, rfl, rfl, hi, hk, hWB⟩ := hrel
    have HWH := Lib.hid hWB.out.1
    have HWB := Lib.hid hWB.out.2
    have HRo := Lib.hid (HR.out.heq HWH.out)
    have k256' := (cell_heq HWH.out _).trans k256
    have x0' := (cell_heq HWH.out _).trans x0
    have x1' := (cell_heq HWH.out _).trans x1
    have x2' := (cell_heq HWH.out _).trans x2
    clear hWB HR k256 x0 x1 x2
    obtain ⟨HR, hHR⟩ : ∃ H : Hid (RepAt hb wr), True := ⟨HRo, trivial⟩
    clear hHR HRo
    have hall : ∀ i, cntK s.data.toList i ≤ 1000 := by
      intro i
      have h1 := HSC.out; have h2 := HSL.out
      match i with
      | 0 => simp [cntK]
      | 1 => simp only [cntK]; omega
      | 2 => simp only [cntK]; omega
      | i + 3 => simp only [cntK]; omega
    have HALL := Lib.hid hall
    clear hall
    by_cases hil : i < 3
    · skip
      have hsp2 := HALL.out i
      match i, hil with
      | 0, _ =>
        obtain ⟨g, o, cap, c1', _⟩ := HR.out.two 10 (by decide)
        have c1 : wr.cell? ⟨hb, 10, none⟩ = some (.slice (some ⟨g, o, none⟩) 2 cap) := c1'
        clear c1'
        have hix : ∀ w : World, (Instr.index 9 (.string ⟨#[10]⟩) (.int .i64 0)).run Tryz.prog w = .ok (.int .u8 10) w := fun _ => by kernel_rfl
        have hcK : cntK s.data.toList 1 = cntK s.data.toList 0 + Lib.countByte s.data.toList 10 := by simp [cntK]
        have HK := Lib.hid hcK
        have HC := Lib.hid (fun w => HCT.out 10 w)
        have hcn : Lib.countByte s.data.toList 10 ≤ 1000 := by have := HALL.out 1; omega
        generalize Lib.countByte s.data.toList 10 = C at *
        generalize cntK s.data.toList 0 = K0 at *
        clear hcK HCT HALL
        by_cases h0 : C = 0
        · subst h0
          go_wp2_with (go_at_call 252; with_reducible refine (HC.out _).mono ?_; rintro e w' ⟨rfl, rfl⟩)
          go_roundg (3 - 1)
          case measure => omega
          case rel => exact ⟨1, by rw [HK.out]; rfl, by rw [HK.out]; rfl, by go_num, by omega, Nat.le_refl _, HWH.out, HWB.out⟩
        · have h0' : ((C : Int) != 0) = true := by simpa using h0
          go_wp2_with (go_at_call 252; with_reducible refine (HC.out _).mono ?_; rintro e w' ⟨rfl, rfl⟩)
          go_region
          all_goals
            go_wp2
            go_roundg (3 - 1)
            case measure => omega
            case rel => exact ⟨1, by rw [HK.out]; go_num, by rw [HK.out]; congr 1; symm; simp; omega, by go_num, by omega, Nat.le_refl _, HWH.out, HWB.out.drew⟩

      | 1, _ =>
        obtain ⟨g, o, cap, c1', _⟩ := HR.out.two 34 (by decide)
        have c1 : wr.cell? ⟨hb, 34, none⟩ = some (.slice (some ⟨g, o, none⟩) 2 cap) := c1'
        clear c1'
        have hix : ∀ w : World, (Instr.index 9 (.string ⟨#[34]⟩) (.int .i64 0)).run Tryz.prog w = .ok (.int .u8 34) w := fun _ => by kernel_rfl
        have hcK : cntK s.data.toList 2 = cntK s.data.toList 1 + Lib.countByte s.data.toList 34 := by simp [cntK]
        have HK := Lib.hid hcK
        have HC := Lib.hid (fun w => HCT.out 34 w)
        have hcn : Lib.countByte s.data.toList 34 ≤ 1000 := by have := HALL.out 2; omega
        generalize Lib.countByte s.data.toList 34 = C at *
        generalize cntK s.data.toList 1 = K0 at *
        clear hcK HCT HALL
        by_cases h0 : C = 0
        · subst h0
          go_wp2_with (go_at_call 252; with_reducible refine (HC.out _).mono ?_; rintro e w' ⟨rfl, rfl⟩)
          go_roundg (3 - 2)
          case measure => omega
          case rel => exact ⟨2, by rw [HK.out]; rfl, by rw [HK.out]; rfl, by go_num, by omega, Nat.le_refl _, HWH.out, HWB.out⟩
        · have h0' : ((C : Int) != 0) = true := by simpa using h0
          go_wp2_with (go_at_call 252; with_reducible refine (HC.out _).mono ?_; rintro e w' ⟨rfl, rfl⟩)
          go_region
          all_goals
            go_wp2
            go_roundg (3 - 2)
            case measure => omega
            case rel => exact ⟨2, by rw [HK.out]; go_num, by rw [HK.out]; congr 1; symm; simp; omega, by go_num, by omega, Nat.le_refl _, HWH.out, HWB.out.drew⟩

      | 2, _ =>
        obtain ⟨g, o, cap, c1', _⟩ := HR.out.two 92 (by decide)
        have c1 : wr.cell? ⟨hb, 92, none⟩ = some (.slice (some ⟨g, o, none⟩) 2 cap) := c1'
        clear c1'
        have hix : ∀ w : World, (Instr.index 9 (.string ⟨#[92]⟩) (.int .i64 0)).run Tryz.prog w = .ok (.int .u8 92) w := fun _ => by kernel_rfl
        have hcK : cntK s.data.toList 3 = cntK s.data.toList 2 + Lib.countByte s.data.toList 92 := by simp [cntK]
        have HK := Lib.hid hcK
        have HC := Lib.hid (fun w => HCT.out 92 w)
        have hcn : Lib.countByte s.data.toList 92 ≤ 1000 := by have := HALL.out 3; omega
        generalize Lib.countByte s.data.toList 92 = C at *
        generalize cntK s.data.toList 2 = K0 at *
        clear hcK HCT HALL
        by_cases h0 : C = 0
        · subst h0
          go_wp2_with (go_at_call 252; with_reducible refine (HC.out _).mono ?_; rintro e w' ⟨rfl, rfl⟩)
          go_roundg (3 - 3)
          case measure => omega
          case rel => exact ⟨3, by rw [HK.out]; rfl, by rw [HK.out]; rfl, by go_num, by omega, Nat.le_refl _, HWH.out, HWB.out⟩
        · have h0' : ((C : Int) != 0) = true := by simpa using h0
          go_wp2_with (go_at_call 252; with_reducible refine (HC.out _).mono ?_; rintro e w' ⟨rfl, rfl⟩)
          go_region
          all_goals
            go_wp2
            go_roundg (3 - 3)
            case measure => omega
            case rel => exact ⟨3, by rw [HK.out]; go_num, by rw [HK.out]; congr 1; symm; simp; omega, by go_num, by omega, Nat.le_refl _, HWH.out, HWB.out.drew⟩

    · obtain rfl : i = 3 := by omega
      have e : cntK s.data.toList 3 = specN s.data.toList := HSC.out.symm
      have hsp2 := HSL.out
      rw [e]
      clear e HSC HSL HALL HCT
      generalize hN : specN s.data.toList = N at *
      have HNN := Lib.hid hN
      clear hN
      by_cases h0 : N = 0
      · subst h0
        go_wp2
        go_ret
        refine ⟨?_, HWB.out⟩
        rw [escL_none HNN.out]
        rfl
      · have h0' : decide (0 < N) = true := decide_eq_true (by omega)
        rw [h0']
        obtain ⟨i0, hi0, hz0, hz1, hz2⟩ := info_parts (show (Tryz.prog.info? 5).map (fun i => (i.zero, i.size, i.bytes)) = some (some (.int .u8 0), 1, 1) by kernel_rfl)
        have hLEN := Lib.hid (show (escL s.data.toList).length = s.size + N by rw [escL_len, HNN.out, Array.length_toList]; rfl)
        go_wp2_with (at_make; refine wpList_make_full _ rfl _ _ 79 rfl wr.heap.size 5 i0 (.int .u8 0) 1 Tryz.underlying79 hi0 hz0 hz1 _ _ _ _ (s.size + N) rfl rfl (by omega) (by omega) (by rw [hz2]; omega) (by unfold maxLen; omega) (Nat.le_refl _) ?_)
        intro w1 hown hgrow
        have hb1 : Below wr.heap.size wr w1 := (Below.refl _ _).grown hgrow (Nat.le_refl _) (fun k hk => by cases hk)
        obtain ⟨cur0, q1, q2⟩ : ∃ cur : Array Value, w1.heap[wr.heap.size]? = some (.cells cur 5 (0, 0)) ∧ cur.size = s.size + N := by
          rcases hown.2 with ⟨hv, _⟩ | ⟨g, cap, cur, hv, _, hg, _, _, hsz, _⟩
          · cases hv
          · injection hv with hv _ hv3
            injection hv with hv
            injection hv with hv
            subst hv; subst hv3
            exact ⟨cur, hg, by omega⟩
        obtain ⟨W0, hW0⟩ : ∃ W0, W0 = wr := ⟨_, rfl⟩
        subst hW0
        have HB1 := Lib.hid hb1
        have HQ := Lib.hid (And.intro q1 q2)
        clear hown hgrow hb1 q1 q2 HNN hz0 hz1 hz2 hi0
        have hk0 : 0 < s.size + N := by omega
        go_wp2_with fail
        go_loopg [13, 14] s.size (fun kx s13 s14 wr => ∃ (i : Nat) (cur : List Value), s13 = .int .i64 (((escL (s.data.toList.take i)).length : Nat) : Int) ∧ s14 = .int .i64 i ∧ i ≤ s.size ∧ s.size - i ≤ kx ∧ Aside (wr.heap[W0.heap.size]? = some (.cells cur.toArray 5 (0, 0)) ∧ cur.length = s.size + N ∧ cur.take (escL (s.data.toList.take i)).length = Lib.byteCells (escL (s.data.toList.take i))) ∧ Aside (Below W0.heap.size W0 wr))
        case atStart => exact ⟨0, cur0.toList, rfl, rfl, by omega, by omega, ⟨by simpa using HQ.out.1, by simpa using HQ.out.2, rfl⟩, HB1.out⟩
        case round =>
          obtain ⟨i, cur, rfl, rfl, hi, hk, hA, hBB⟩ := hrel
          have HA := Lib.hid hA.out
          have HB2 := Lib.hid hBB.out
          clear hA hBB
          have hj1 := escL_take_le s.data.toList i
          rw [hLEN.out] at hj1
          by_cases hil : i < s.size
          · have HT := Lib.hid (escL_take hil)
            have HTL := Lib.hid (escL_take_le s.data.toList (i + 1))
            have hi0 : (0 : Int) ≤ (i : Int) := by omega
            have hi1 : (i : Int) < (s.size : Int) := by omega
            have hc256 : ((s[i].toNat : Nat) : Int) < 256 := by have := s[i].toNat_lt; omega
            have hlt := HR.out.lt
            have mv : ∀ p v, W0.cell? p = some v → wr.cell? p = some v := fun p v hp => (HB2.out.cell (World.block_lt_of_cell? W0 p hp)).trans hp
            cases hc : spec s[i] with
            | false =>
              have c1 := mv _ _ (HR.out.one _ hc)
              have hE := esc_one hc
              have hjlt : (escL (s.data.toList.take i)).length < s.size + N := by
                have := HTL.out
                rw [HT.out, hE, List.length_append, hLEN.out] at this
                simp only [List.length_cons, List.length_nil] at this
                omega
              have hfz : wr.frozen? ⟨W0.heap.size, (escL (s.data.toList.take i)).length, none⟩ = false := Lib.frozen_of_heap HA.out.1 _
              have hcl : wr.cell? ⟨W0.heap.size, (escL (s.data.toList.take i)).length, none⟩ = some (cur[(escL (s.data.toList.take i)).length]'(by rw [HA.out.2.1]; exact hjlt)) := cell_arr HA.out.1 (List.getElem?_eq_getElem _)
              have FIN : Hid (∃ cur' : List Value, (wr.setCell ⟨W0.heap.size, (escL (s.data.toList.take i)).length, none⟩ (.int .u8 s[i].toNat)).heap[W0.heap.size]? = some (.cells cur'.toArray 5 (0, 0)) ∧ cur'.length = s.size + N ∧ cur'.take (escL (s.data.toList.take (i + 1))).length = Lib.byteCells (escL (s.data.toList.take (i + 1)))) := Lib.hid (by
                refine ⟨cur.set (escL (s.data.toList.take i)).length (.int .u8 s[i].toNat), ?_, by rw [List.length_set]; exact HA.out.2.1, ?_⟩
                · rw [setCell_row' HA.out.1]; simp
                · rw [HT.out, hE, List.length_append]
                  show List.take (_ + 1) _ = _
                  rw [set_take (by rw [HA.out.2.1]; exact hjlt), HA.out.2.2]
                  simp [Lib.byteCells])
              have FINL : Hid ((escL (s.data.toList.take (i + 1))).length = (escL (s.data.toList.take i)).length + 1) := Lib.hid (by rw [HT.out, hE, List.length_append]; rfl)
              have FINB : Hid (Below W0.heap.size W0 (wr.setCell ⟨W0.heap.size, (escL (s.data.toList.take i)).length, none⟩ (.int .u8 s[i].toNat))) := Lib.hid (HB2.out.setCell (Nat.le_refl _) _)
              generalize (escL (s.data.toList.take i)).length = j at *
              have hj2 : (j : Int) < (s.size : Int) + (N : Int) := by omega
              have hj3 : (0 : Int) ≤ (j : Int) := by omega
              generalize cur[j]'_ = v0 at hcl
              clear hc mv hE HT HTL
              go_wp2
              go_roundg (s.size - (i + 1))
              case measure => omega
              case rel =>
                obtain ⟨cur', f1, f2, f3⟩ := FIN.out
                exact ⟨i + 1, cur', by rw [FINL.out]; go_num, by go_num, by omega, Nat.le_refl _, ⟨f1, f2, f3⟩, FINB.out⟩
            | true =>
              obtain ⟨b, hE⟩ := esc_two hc
              obtain ⟨g, o, cap, c1, hcells⟩ := HR.out.two _ hc
              have c1 := mv _ _ c1
              have hjlt : (escL (s.data.toList.take i)).length + 2 ≤ s.size + N := by
                have := HTL.out
                rw [HT.out, hE, List.length_append, hLEN.out] at this
                simp only [List.length_cons, List.length_nil] at this
                omega
              have hcs : ∀ (j : Nat) v, (Lib.byteCells (escC s[i]))[j]? = some v → wr.cell? ((⟨g, o, none⟩ : Addr).add j) = some v := fun j v hv => by
                rw [Lib.byteCells, List.getElem?_map] at hv
                obtain ⟨x, hx, rfl⟩ := Option.map_eq_some_iff.1 hv
                have := mv _ _ (hcells j x hx)
                simpa [Addr.add_lit] using this
              have HCS := Lib.hid hcs
              have FINL : Hid ((escL (s.data.toList.take (i + 1))).length = (escL (s.data.toList.take i)).length + 2) := Lib.hid (by rw [HT.out, hE, List.length_append]; rfl)
              have HL2 : Hid ((Lib.byteCells (escC s[i])).length = 2) := Lib.hid (by rw [hE]; rfl)
              have FIN : Hid (∀ w' : World, w'.heap[W0.heap.size]? = some (.cells (splice cur (escL (s.data.toList.take i)).length (Lib.byteCells (escC s[i]))).toArray 5 (0, 0)) → ∃ cur' : List Value, w'.heap[W0.heap.size]? = some (.cells cur'.toArray 5 (0, 0)) ∧ cur'.length = s.size + N ∧ cur'.take (escL (s.data.toList.take (i + 1))).length = Lib.byteCells (escL (s.data.toList.take (i + 1)))) := Lib.hid (fun w' hw' => by
                refine ⟨_, hw', ?_, ?_⟩
                · rw [length_splice _ _ _ (by rw [HL2.out, HA.out.2.1]; exact hjlt)]; exact HA.out.2.1
                · rw [FINL.out, ← HL2.out, splice_take (by rw [HL2.out, HA.out.2.1]; exact hjlt), HA.out.2.2, HT.out]
                  simp [Lib.byteCells])
              generalize (escL (s.data.toList.take i)).length = j at *
              have hj2 : (j : Int) < (s.size : Int) + (N : Int) := by omega
              have hj3 : (0 : Int) ≤ (j : Int) := by omega
              clear hc mv hE HT HTL hcells hcs
              have hjne : ¬ s.size + N = j := by omega
              have hjN : (j : Int) ≤ (s.size : Int) + (N : Int) := by omega
              have HMIN : Hid ((Lib.byteCells (escC s[i])).length = Nat.min 2 (s.size + N - j)) := Lib.hid (by rw [HL2.out]; exact (Nat.min_eq_left (by omega)).symm)
              have HFIT : Hid (j + (Lib.byteCells (escC s[i])).length ≤ cur.length) := Lib.hid (by rw [HL2.out, HA.out.2.1]; omega)
              have HONE : Hid (∀ v ∈ Lib.byteCells (escC s[i]), v.oneCell' = true) := Lib.hid (by
                intro v hv
                simp only [Lib.byteCells, List.mem_map] at hv
                obtain ⟨x, _, rfl⟩ := hv; rfl)
              go_wp2
              go_region_law (refine step_copy_splice rfl (.tmp 105) (.tmp 111) 79 79 rfl 5 Tryz.underlying79 (by kernel_rfl) _ _ _ _ _ _ rfl rfl W0.heap.size j cur 5 HA.out.1 (Lib.byteCells (escC s[i])) HMIN.out (fun _ => ⟨rfl, _, rfl, HCS.out⟩) HFIT.out HONE.out W0.heap.size W0 HB2.out.drew (Nat.le_refl _) ?_; intro w4 hg4 hb4)
              all_goals
                rw [HL2.out]
                have FIN2 := Lib.hid (FIN.out w4 hg4.out)
                have HB4 := Lib.hid hb4
                clear hg4 hb4
                go_wp2
                go_roundg (s.size - (i + 1))
                case measure => omega
                case rel =>
                  obtain ⟨cur', f1, f2, f3⟩ := FIN2.out
                  exact ⟨i + 1, cur', by rw [FINL.out]; go_num, by go_num, by omega, Nat.le_refl _, ⟨f1, f2, f3⟩, HB4.out⟩
          · obtain rfl : i = s.size := by omega
            have e : s.data.toList.take s.size = s.data.toList := List.take_of_length_le (by rw [Array.length_toList]; exact Nat.le_refl _)
            rw [e] at HA ⊢
            have hcv : (convert 79 9 (.slice (some ⟨W0.heap.size, 0, none⟩) (s.size + N) (s.size + N))).run Tryz.prog wr = .ok (.string ⟨(escL s.data.toList).toArray⟩) wr := by
              have h := run_convert_bytes_back (P := Tryz.prog) wr 79 9 5 ⟨W0.heap.size, 0, none⟩ (s.size + N) (escL s.data.toList) Tryz.underlying79 Tryz.underlying5 Tryz.underlying9 (fun j hj => by
                have h1 : (cur.take (escL s.data.toList).length)[j]? = some (.int .u8 ((escL s.data.toList)[j].toNat : Int)) := by
                  rw [HA.out.2.2, Lib.byteCells, List.getElem?_map, List.getElem?_eq_getElem hj]; rfl
                rw [List.getElem?_take_of_lt hj] at h1
                have := cell_arr HA.out.1 h1
                simpa [Addr.add_lit] using this)
              rw [hLEN.out] at h
              exact h
            go_wp2
            go_ret
            exact ⟨rfl, HWB.out.trans (HB2.out.mono HWB.out.size)⟩
end Go.Proofs.YtggjeecpadnihaaGreatDoor

namespace Go.Proofs.YtggjeecpadnihaaGreatDoor
open Go Go.Proofs Go.Eng Go.RowKit Go.Sx
set_option linter.unusedVariables false
set_option linter.unusedSimpArgs false

theorem rep_any (hb : Nat) (s : ByteArray) (w : World) (h : RepAt hb w) (hs : s.size ≤ 1000) :
    Calls Tryz.prog 250 #[.pointer (some ⟨hb, 0, none⟩), .string s] w fun e w' => e = .returned (.string ⟨(escL s.data.toList).toArray⟩) ∧ Below w.heap.size w w' := by
  rcases Nat.lt_or_ge s.size 24 with h1 | h1
  · exact rep_short hb s w h h1
  · exact rep_long hb s w h h1 hs

theorem vrels1 {ρ : Rho} {env : Nat → Value} {a : AVal} {l : List Value} (h : VRels ρ env [a] l) : ∃ x, l = [x] ∧ VRel ρ env a x := by
  match l, h.1 with
  | [x], _ => exact ⟨x, rfl, h.2 0 _ _ rfl rfl⟩
theorem vrels2 {ρ : Rho} {env : Nat → Value} {a b : AVal} {l : List Value} (h : VRels ρ env [a, b] l) : ∃ x y, l = [x, y] ∧ VRel ρ env a x ∧ VRel ρ env b y := by
  match l, h.1 with
  | [x, y], _ => exact ⟨x, y, rfl, h.2 0 _ _ rfl rfl, h.2 1 _ _ rfl rfl⟩

def isU8 (v : Option AVal) (n : Nat) : Bool := match v with
  | some (.int .u8 (.ofNat m)) => Nat.beq m n
  | _ => false
def isStr1 (v : Option AVal) (n : Nat) : Bool := match v with
  | some (.str l m) => Nat.beq l 1 && Nat.beq m n
  | _ => false
def specT (c : Nat) : Bool := Nat.beq c 92 || (Nat.beq c 34 || Nat.beq c 10)
def escT (c : Nat) : Nat := match Nat.beq c 10 with
  | true => 110
  | false => c
noncomputable section
def pairT (h : AHeap) (b o c : Nat) : Bool := match h.get b with
  | some (.row _ _ _ _ cs2) => isU8 (cs2.get o) 92 && isU8 (cs2.get (Nat.succ o)) (escT c)
  | _ => false
def tabT (h : AHeap) (cs : T AVal) (c : Nat) : Bool := match specT c with
  | false => (match cs.get c with
    | some .nslc => true
    | _ => false)
  | true => (match cs.get c with
    | some (.slc b o l _) => Nat.beq l 2 && pairT h b o c
    | _ => false)
def tripT (h : AHeap) (b o : Nat) : Bool := match h.get b with
  | some (.row _ _ _ _ cs2) => isStr1 (cs2.get o) 10 && (isStr1 (cs2.get (Nat.succ o)) 34 && isStr1 (cs2.get (Nat.succ (Nat.succ o))) 92)
  | _ => false
def repT (h : AHeap) (cs : T AVal) : Bool := match cs.get 256 with
  | some (.slc b o l _) => Nat.beq l 3 && tripT h b o
  | _ => false
def allN (f : Nat → Bool) : Nat → Bool
  | 0 => true
  | n + 1 => f n && allN f n
def repChk : List AVal → AHeap → Option AVal := fun args h => match args with
  | [.ptr b o, .sym j] => (match Nat.beq o 0 && Nat.beq j 0 with
    | true => (match h.get b with
      | some (.row _ _ false _ cs) => (match repT h cs && allN (tabT h cs) 256 with
        | true => some (.sym 2)
        | false => none)
      | _ => none)
    | false => none)
  | _ => none
def idxChk : List AVal → AHeap → Option AVal := fun args _ => match args with
  | [.sym j, .func f [] []] => (match Nat.beq j 0 && Nat.beq f 128 with
    | true => some (.int .i64 (-1))
    | false => none)
  | _ => none
end
theorem allN_of {f : Nat → Bool} : ∀ {n : Nat}, allN f n = true → ∀ i, i < n → f i = true
  | 0, _, i, h => absurd h (Nat.not_lt_zero _)
  | n + 1, h, i, hi => by
    simp only [allN, Bool.and_eq_true] at h
    rcases Nat.lt_or_ge i n with h1 | h1
    · exact allN_of h.2 i h1
    · obtain rfl : i = n := by omega
      exact h.1

section
variable {P : Program} {env : Nat → Value} {okc : FuncId → Code → Bool} {ρ : Rho} {h : AHeap} {w : World}
theorem row_cell (hr : HRel P env okc ρ h w) {b : Nat} {i : BI} {e : TypeId} {n : Nat} {op ro : Bool} {cs : T AVal} (hg : h.get b = some (.row e n op ro cs)) (hρ : ρ b = some i) {k : Nat} {u : AVal} (hk : cs.get k = some u) :
    ∃ x, w.cell? ⟨i.blk, i.shift + k, none⟩ = some x ∧ VRel ρ env u x := by
  obtain ⟨ob, k1, k2⟩ := hr.obj _ _ _ hg rfl hρ
  obtain ⟨c, frz, rfl, r1, r2, r3, r4, r5, r6⟩ := k2
  obtain ⟨_, x, x1, x2, _⟩ := r3 k _ hk
  exact ⟨x, (Lib.cell_of_heap k1 _).trans x1, x2⟩
theorem slc_some {b o l : Nat} {cap : Cap} {x : Value} (hl : 0 < l) (hx : VRel ρ env (.slc b o l cap) x) : ∃ i c, ρ b = some i ∧ x = .slice (some ⟨i.blk, i.shift + o, none⟩) l c := by
  cases hx with
  | slcK _ _ _ h => exact ⟨_, _, h, rfl⟩
  | slcO h _ _ _ => exact ⟨_, _, h, rfl⟩
  | slcE _ _ h _ => omega
theorem isU8_of {v : Option AVal} {n : Nat} (h : isU8 v n = true) : v = some (.int .u8 (n : Int)) := by
  unfold isU8 at h
  split at h
  · rw [Nat.eq_of_beq_eq_true h]; rfl
  · cases h
theorem isStr1_of {v : Option AVal} {n : Nat} (h : isStr1 v n = true) : v = some (.str 1 n) := by
  unfold isStr1 at h
  split at h
  · rw [Bool.and_eq_true] at h
    rw [Nat.eq_of_beq_eq_true h.1, Nat.eq_of_beq_eq_true h.2]
  · cases h
theorem str1_of {n : Nat} {x : Value} (h : VRel ρ env (.str 1 n) x) : x = .string (byteArr 1 n) := by cases h; rfl

theorem pair_cells (hr : HRel P env okc ρ h w) {b o c : Nat} {i : BI} (hp : pairT h b o c = true) (hρ : ρ b = some i) : w.cell? ⟨i.blk, i.shift + o, none⟩ = some (.int .u8 92) ∧ w.cell? ⟨i.blk, i.shift + (o + 1), none⟩ = some (.int .u8 (escT c : Nat)) := by
  unfold pairT at hp
  split at hp
  · rename_i e n op ro cs2 hg
    rw [Bool.and_eq_true] at hp
    obtain ⟨x, x1, x2⟩ := row_cell hr hg hρ (isU8_of hp.1)
    obtain ⟨y, y1, y2⟩ := row_cell hr hg hρ (isU8_of hp.2)
    rw [x2.of_int] at x1
    rw [y2.of_int] at y1
    exact ⟨x1, y1⟩
  · cases hp
theorem rep_cells (hr : HRel P env okc ρ h w) {b : Nat} {i : BI} {e : TypeId} {n : Nat} {ro : Bool} {cs : T AVal} (hg : h.get b = some (.row e n false ro cs)) (hρ : ρ b = some i) (h1 : repT h cs = true) (h2 : allN (tabT h cs) 256 = true) : RepAt i.blk w ∧ i.shift = 0 := by
  have hsh : i.shift = 0 := by
    obtain ⟨ob, k1, k2⟩ := hr.obj _ _ _ hg rfl hρ
    obtain ⟨c, frz, rfl, r1, r2, r3, r4, r5, r6⟩ := k2
    exact (r6 rfl).1
  refine ⟨⟨hr.bound _ _ hρ, fun c hc => ?_, fun c hc => ?_, ?_⟩, hsh⟩
  · have ht := allN_of h2 c.toNat c.toNat_lt
    unfold tabT at ht
    have hs : specT c.toNat = false := by
      unfold spec at hc
      simp only [Bool.or_eq_false_iff, beq_eq_false_iff_ne] at hc
      unfold specT
      have q : ∀ k : Nat, k < 256 → c ≠ UInt8.ofNat k → Nat.beq c.toNat k = false := fun k hk hne => by
        cases hq : Nat.beq c.toNat k with
        | false => rfl
        | true => exact absurd (by rw [← Nat.eq_of_beq_eq_true hq, UInt8.ofNat_toNat]) hne
      rw [q 92 (by decide) hc.1.1, q 34 (by decide) hc.1.2, q 10 (by decide) hc.2]
      rfl
    rw [hs] at ht
    simp only at ht
    split at ht
    · rename_i hcs
      obtain ⟨x, x1, x2⟩ := row_cell hr hg hρ hcs
      rw [hsh, Nat.zero_add] at x1
      cases x2
      exact x1
    · cases ht
  · have ht := allN_of h2 c.toNat c.toNat_lt
    unfold tabT at ht
    have hs : specT c.toNat = true ∧ ∀ (j : Nat) b, (escC c)[j]? = some b → (j = 0 ∧ b = 92) ∨ (j = 1 ∧ b.toNat = escT c.toNat) := by
      unfold spec at hc
      simp only [Bool.or_eq_true, beq_iff_eq] at hc
      have key : ∀ (c b : UInt8) (n : Nat), escC c = [92, b] → b.toNat = n → ∀ (j : Nat) (y : UInt8), (escC c)[j]? = some y → (j = 0 ∧ y = 92) ∨ (j = 1 ∧ y.toNat = n) := by
        intro c b n he hb j y hy
        rw [he] at hy
        match j, hy with
        | 0, hy => cases hy; exact .inl ⟨rfl, rfl⟩
        | 1, hy => cases hy; exact .inr ⟨rfl, hb⟩
        | j + 2, hy => simp at hy
      rcases hc with (rfl | rfl) | rfl
      · exact ⟨rfl, key 92 92 _ (by unfold escC; simp) rfl⟩
      · exact ⟨rfl, key 34 34 _ (by unfold escC; simp) rfl⟩
      · exact ⟨rfl, key 10 110 _ (by unfold escC; simp) rfl⟩
    rw [hs.1] at ht
    simp only at ht
    split at ht
    · rename_i b' o' l' cap' hcs
      rw [Bool.and_eq_true] at ht
      obtain rfl := Nat.eq_of_beq_eq_true ht.1
      obtain ⟨x, x1, x2⟩ := row_cell hr hg hρ hcs
      rw [hsh, Nat.zero_add] at x1
      obtain ⟨i', c', k1, rfl⟩ := slc_some (by decide) x2
      obtain ⟨p1, p2⟩ := pair_cells hr ht.2 k1
      refine ⟨i'.blk, i'.shift + o', c', x1, fun j b hb => ?_⟩
      rcases hs.2 j b hb with ⟨rfl, rfl⟩ | ⟨rfl, hb'⟩
      · exact p1
      · rw [hb']; exact p2
    · cases ht
  · unfold repT at h1
    split at h1
    · rename_i b' o' l' cap' hcs
      rw [Bool.and_eq_true] at h1
      obtain rfl := Nat.eq_of_beq_eq_true h1.1
      obtain ⟨x, x1, x2⟩ := row_cell hr hg hρ hcs
      rw [hsh, Nat.zero_add] at x1
      obtain ⟨i', c', k1, rfl⟩ := slc_some (by decide) x2
      have h3 := h1.2
      unfold tripT at h3
      split at h3
      · rename_i e2 n2 op2 ro2 cs2 hg2
        rw [Bool.and_eq_true, Bool.and_eq_true] at h3
        obtain ⟨y0, z0, u0⟩ := row_cell hr hg2 k1 (isStr1_of h3.1)
        obtain ⟨y1, z1, u1⟩ := row_cell hr hg2 k1 (isStr1_of h3.2.1)
        obtain ⟨y2, z2, u2⟩ := row_cell hr hg2 k1 (isStr1_of h3.2.2)
        rw [str1_of u0] at z0
        rw [str1_of u1] at z1
        rw [str1_of u2] at z2
        exact ⟨i'.blk, i'.shift + o', c', x1, z0, z1, z2⟩
      · cases h3
    · cases h1
end
end Go.Proofs.YtggjeecpadnihaaGreatDoor

namespace Go.Proofs.YtggjeecpadnihaaGreatDoor
open Go Go.Proofs Go.Eng Go.RowKit Go.Sx
set_option linter.unusedVariables false
set_option linter.unusedSimpArgs false

noncomputable section
def isValR (v : AVal) : Option (AEnd × AHeap) → Nat
  | some (.ret u, _) => (match beqV u v with | true => 1 | false => 0)
  | _ => 0
theorem isValR_of {v : AVal} {r : Option (AEnd × AHeap)} (h : isValR v r = 1) : ∃ h', r = some (.ret v, h') := by
  unfold isValR at h
  split at h
  · rename_i u h'
    split at h
    · rename_i hb
      exact ⟨h', by rw [beqV_eq _ _ hb]⟩
    · cases h
  · cases h
/-- A run over the tables alone, that ends with a value. -/
theorem val_calls {P : Program} {env : Nat → Value} {hv : Value} {w : World} {okc : FuncId → Code → Bool} {ng : Nat} {call : CallF} (hk : env KH = hv) (ho : Value.one hv = true) (hc : CallOk P env okc ng call) {f : FuncId} {args : List AVal} {v : AVal} {gl : List (Nat × List AVal)} (hlt : ∀ x ∈ gl, x.1 < ng)
    (hx : isValR v (call (.fn f) args (globH ng (globElem w) gl)) = 1) (hb : (bodyOf P f).isSome = true) (hng : ng ≤ w.heap.size) (hgl : Globs hv w gl) {args' : List Value} (ha : VRels (globR ng w) env args args') :
    Calls P f ⟨args'⟩ w fun x w' => (∃ y ρ', x = .returned y ∧ VRel ρ' env v y) ∧ Below w.heap.size w w' := by
  obtain ⟨h', hx'⟩ := isValR_of hx
  exact closed_calls hc hx' hb (globH_rel hk ho hlt hng hgl) (globR_ok ng w) (globH_live ng _ gl) ha

def qF : List Fact := [⟨.len, .sym 0, .nptr, .sym 1⟩, ⟨.bin .gtr, .sym 1, .int .i64 255, .bool false⟩, ⟨.bin .add, .str 1 34, .sym 2, .sym 3⟩, ⟨.bin .add, .sym 3, .str 1 34, .sym 4⟩]
def qX : Cx := ⟨qF, 9⟩
def qExt : CallF := orExt (extV 129 gl idxChk) (extV 250 gl repChk)
def escB (s : ByteArray) : ByteArray := ⟨(escL s.data.toList).toArray⟩
def qEnv (s : ByteArray) : List Value := [.string s, .int .i64 s.size, .string (escB s), .string (byteArr 1 34 ++ escB s), .string (byteArr 1 34 ++ escB s ++ byteArr 1 34)]
theorem quote_run (es : Nat → TypeId) : isValR (.tup [.sym 4, .bool true]) (callN Tryz.prog qX qExt 100 (.fn 104) [.sym 0] (globH 9 es gl)) = 1 := by kernel_rfl
end
theorem esc_size (s : ByteArray) (h : s.size ≤ 255) : (escB s).size ≤ 510 := by
  have h1 := escL_len s.data.toList
  have h2 := specN_le s.data.toList
  have h3 : s.data.toList.length = s.size := by rw [Array.length_toList]; rfl
  have h4 : (escB s).size = (escL s.data.toList).length := by simp [escB, ByteArray.size]
  omega
theorem quot_eq (s : ByteArray) : byteArr 1 34 ++ escB s ++ byteArr 1 34 = ⟨(quotL s).toArray⟩ := by
  apply byteArr_ext
  simp [ByteArray.data_append, byteArr_data, escB, quotL]
  rfl
theorem qF_ok (s : ByteArray) (h : s.size ≤ 255) : ∀ f ∈ qF, FactOk Tryz.prog (envL hv (qEnv s)) f := by
  have he := esc_size s h
  intro f hf
  simp only [qF, List.mem_cons, List.not_mem_nil, or_false] at hf
  rcases hf with rfl | rfl | rfl | rfl
  · exact fact_slen (a := s) rfl rfl
  · exact fact_left (n := (s.size : Int)) (k := .i64) rfl (fun t xo yo => by rw [binA_cmp rfl]; simp [cmpB, ltI_eq]; omega)
  · exact fact_constS (a := escB s) rfl rfl (by decide) (by omega)
  · refine fact_sconst (a := byteArr 1 34 ++ escB s) rfl rfl (by decide) ?_
    rw [ByteArray.size_append, byteArr_size]; omega
theorem qEnv_ok (s : ByteArray) : EnvOk (envL hv (qEnv s)) := by
  refine envL_ok rfl fun x hx => ?_
  simp only [qEnv, List.mem_cons, List.not_mem_nil, or_false] at hx
  rcases hx with rfl | rfl | rfl | rfl | rfl <;> rfl
theorem qK (s : ByteArray) : envL hv (qEnv s) KH = hv := envL_K (show (5 : Nat) ≤ KH by decide)
theorem plain_idx {s : ByteArray} (h : plainB s = true) : Lib.idxFunc badR true s = -1 := by
  unfold plainB at h
  rw [Bool.and_eq_true] at h
  have h1 := idx_all s
  rw [h.2] at h1
  rcases Lib.idxFuncFrom_range badR true s s.size 0 with h2 | ⟨h2, _⟩
  · exact h2
  · have : decide (0 ≤ Lib.idxFunc badR true s) = true := decide_eq_true h2
    rw [this] at h1; cases h1
theorem idxX_ok {s : ByteArray} (h : plainB s = true) : CallOk Tryz.prog (envL hv (qEnv s)) (okcP Tryz.prog) 9 (extV 129 gl idxChk) := by
  refine extV_ok (qK s) gl_lt gl_lit ?_
  intro ρ h' w args v args' hr hc ha hng hg
  unfold idxChk at hc
  split at hc
  · rename_i j f
    split at hc
    · rename_i hq
      cases hc
      rw [Bool.and_eq_true] at hq
      obtain rfl := Nat.eq_of_beq_eq_true hq.1
      obtain rfl := Nat.eq_of_beq_eq_true hq.2
      obtain ⟨x, y, rfl, hx, hy⟩ := vrels2 ha
      rw [hx.of_symv]
      cases hy with
      | func _ l1 l2 _ _ =>
      rename_i a' c' _ _
      obtain rfl : a' = [] := List.eq_nil_of_length_eq_zero l1.symm
      obtain rfl : c' = [] := List.eq_nil_of_length_eq_zero l2.symm
      refine (index_any s w).mono ?_
      rintro e w' ⟨rfl, hb⟩
      rw [plain_idx h]
      exact ⟨⟨_, rfl, .int _ _⟩, hb⟩
    · cases hc
  · cases hc
theorem repX_ok {s : ByteArray} (h : s.size ≤ 255) : CallOk Tryz.prog (envL hv (qEnv s)) (okcP Tryz.prog) 9 (extV 250 gl repChk) := by
  refine extV_ok (qK s) gl_lt gl_lit ?_
  intro ρ h' w args v args' hr hc ha hng hg
  unfold repChk at hc
  split at hc
  · rename_i b o j
    split at hc
    · rename_i hq
      rw [Bool.and_eq_true] at hq
      obtain rfl := Nat.eq_of_beq_eq_true hq.1
      obtain rfl := Nat.eq_of_beq_eq_true hq.2
      split at hc
      · rename_i e n ro cs hget
        split at hc
        · rename_i hchk
          cases hc
          rw [Bool.and_eq_true] at hchk
          obtain ⟨x, y, rfl, hx, hy⟩ := vrels2 ha
          rw [hy.of_symv]
          cases hx with
          | @ptr _ _ i hρ =>
          obtain ⟨hR, hsh⟩ := rep_cells hr hget hρ hchk.1 hchk.2
          rw [hsh]
          refine (rep_any i.blk s w hR (by omega)).mono ?_
          rintro e' w' ⟨rfl, hb⟩
          exact ⟨⟨_, rfl, VRel.at rfl⟩, hb⟩
        · cases hc
      · cases hc
    · cases hc
  · cases hc
theorem quote_yes (s : ByteArray) (w : World) (h : plainB s = true) (hg : Globs hv w gl) (hng : 9 ≤ w.heap.size) : Calls Tryz.prog 104 #[.string s] w (QuotePost s w) := by
  have hsz : s.size ≤ 255 := by unfold plainB at h; rw [Bool.and_eq_true] at h; simpa using h.1
  refine (val_calls (qK s) rfl (callN_ok (P := Tryz.prog) (X := qX) (qEnv_ok s) (qF_ok s hsz) prog_mix prog_ok (orExt_ok (idxX_ok h) (repX_ok hsz)) 100) gl_lt (quote_run (globElem w)) (by kernel_rfl) hng hg (.cons (VRel.at rfl) .nil)).mono ?_
  rintro e w' ⟨⟨y, ρ, rfl, hy⟩, hb⟩
  obtain ⟨l, rfl, hl⟩ := hy.of_tup
  obtain ⟨x, z, rfl, hx, hz⟩ := vrels2 hl
  rw [hx.of_symv, hz.of_bool]
  refine ⟨?_, hb⟩
  show Ending.returned (.tuple #[.string (byteArr 1 34 ++ escB s ++ byteArr 1 34), .bool true]) = _
  rw [quot_eq, h]
  rfl
theorem quote_any (s : ByteArray) (w : World) (hg : Globs hv w gl) (hng : 9 ≤ w.heap.size) : Calls Tryz.prog 104 #[.string s] w (QuotePost s w) := by
  cases h : plainB s with
  | true => exact quote_yes s w h hg hng
  | false => exact quote_no s w h
end Go.Proofs.YtggjeecpadnihaaGreatDoor

namespace Go.Proofs.YtggjeecpadnihaaGreatDoor
open Go Go.Proofs Go.Eng Go.RowKit Go.Sx
set_option linter.unusedVariables false
set_option linter.unusedSimpArgs false

theorem words_lits : tb Rows.laid_hindcast_lex_words = words.map fun s => AVal.str s.size (packL s.data.toList) := by kernel_rfl
theorem words_of {w : World} (h : Globs hv w gl) : WordsAt w := by
  obtain ⟨c, e, frz, h1, hl, h2⟩ := h (2, tb Rows.laid_hindcast_lex_words) (by simp [gl])
  rw [words_lits] at hl h2
  intro i s hs
  simp only at h1
  have hi : i < c.toList.length := by
    rw [← hl]; have := (List.getElem?_eq_some_iff.1 hs).1; simpa using this
  obtain ⟨_, k⟩ := h2 i (.str s.size (packL s.data.toList)) _ (by rw [List.getElem?_map, hs]; rfl) (List.getElem?_eq_getElem hi)
  have k2 : VRel (fun _ => none) (fun _ => hv) (.str s.size (packL s.data.toList)) (.string s) := VRel.of_string s
  have p1 : ∀ {l m : Nat} (x : Value), VRel (fun _ => none) (fun _ => hv) (.str l m) x → x = .string (byteArr l m) := fun x h => by cases h; rfl
  have e1 : c.toList[i] = .string s := (p1 _ k).trans (p1 _ k2).symm
  rw [Lib.cell_of_heap h1, ← e1]
  have : c.toList[i] = c[i]'(by simpa using hi) := by simp
  rw [this]
  exact Array.getElem?_eq_getElem _

theorem pow_lits : tb Rows.laid_internal_strconv_uint64pow10 = Lib.pow10Tab.map fun z => AVal.int .u64 z := by kernel_rfl
theorem pow_named : Tryz.prog.globalNamed "internal/strconv.uint64pow10" = some 3 := by kernel_rfl
theorem tab_of {w : World} (h : Globs hv w gl) : Lib.TabIs Tryz.prog w "internal/strconv.uint64pow10" .u64 Lib.pow10Tab := by
  obtain ⟨c, e, frz, h1, hl, h2⟩ := h (3, tb Rows.laid_internal_strconv_uint64pow10) (by simp [gl])
  rw [pow_lits] at hl h2
  unfold Lib.TabIs World.var?
  rw [pow_named]
  simp only [Option.bind_some]
  simp only at h1
  rw [h1]
  simp only
  congr 1
  apply Array.ext'
  apply List.ext_getElem?
  intro i
  by_cases hi : i < Lib.pow10Tab.length
  · have hi2 : i < c.toList.length := by rw [← hl]; simpa using hi
    have e1 : (Lib.pow10Tab.map fun z => AVal.int .u64 z)[i]? = some (.int .u64 Lib.pow10Tab[i]) := by rw [List.getElem?_map, List.getElem?_eq_getElem hi]; rfl
    obtain ⟨_, k⟩ := h2 i _ _ e1 (List.getElem?_eq_getElem hi2)
    rw [List.getElem?_eq_getElem hi2, k.of_int]
    simp [List.getElem?_map, List.getElem?_eq_getElem hi]
  · rw [List.getElem?_eq_none (by rw [← hl]; simpa using hi), List.getElem?_eq_none (by simpa using hi)]

/-- What Text tells: a text, or what may not be. -/
def textR (ok : Bool) (t : ByteArray) : Ending := match ok with
  | true => .returned (.tuple #[.string t, .int .i64 0])
  | false => .returned (.tuple #[.string ⟨#[]⟩, .int .i64 2])
def TextPost (ok : Bool) (t : ByteArray) (w : World) (e : Ending) (w' : World) : Prop := e = textR ok t ∧ Below w.heap.size w w'

set_option maxRecDepth 100000 in
theorem text_name (s : ByteArray) (w : World) (hg : Globs hv w gl) : Calls Tryz.prog 73 #[.agg #[.int .i64 1, .string s, .int .i64 0, .int .i64 0, .int .i64 0]] w (TextPost (nameB s) s w) := by
  have hal : Below w.heap.size w (w.alloc (.cells #[.int .i64 1, .string s, .int .i64 0, .int .i64 0, .int .i64 0] 90)) := (Below.refl _ _).alloc (Nat.le_refl _) _
  have HN := Lib.hid (lname_any s _ (words_of (hg.below hal)))
  have FIN : Hid (∀ b, TextPost b s w (textR b s) (w.alloc (.cells #[.int .i64 1, .string s, .int .i64 0, .int .i64 0, .int .i64 0] 90))) := Lib.hid fun b => ⟨rfl, hal⟩
  clear hg hal
  generalize nameB s = b at *
  cases b <;>
  (go_enter Tryz.func73, Tryz.ntmps73
   go_wp2_with (go_at_call 100; (with_reducible refine HN.out.mono ?_); rintro e w' ⟨rfl, rfl⟩)
   go_ret2
   exact FIN.out _)

set_option maxRecDepth 100000 in
theorem text_int (s : ByteArray) (n : Int) (w : World) (hg : Globs hv w gl) (h0 : -9223372036854775808 ≤ n) (h1 : n ≤ 9223372036854775807) : Calls Tryz.prog 73 #[.agg #[.int .i64 2, .string s, .int .i64 n, .int .i64 0, .int .i64 0]] w (TextPost (s.toList.isEmpty && decide (0 ≤ n)) ⟨(Lib.itoa n).toArray⟩ w) := by
  have hal : Below w.heap.size w (w.alloc (.cells #[.int .i64 2, .string s, .int .i64 n, .int .i64 0, .int .i64 0] 90)) := (Below.refl _ _).alloc (Nat.le_refl _) _
  have HI := Lib.hid (Tryz.strconv_Itoa n h0 h1 _ (tab_of (hg.below hal)))
  have HAL := Lib.hid hal
  clear hg hal h0 h1
  generalize h2 : s.toList.isEmpty = b1
  generalize h3 : decide (0 ≤ n) = b2
  cases b1 <;> cases b2 <;>
  (go_enter Tryz.func73, Tryz.ntmps73
   go_wp2_with (go_at_call 103; (with_reducible refine HI.out.mono ?_); rintro e w' ⟨rfl, k, os, rfl⟩)
   go_ret2
   exact ⟨rfl, HAL.out.trans (RowKit.Below.mono (Lib.below_grow _ _ (Nat.le_refl _) _ _) HAL.out.size)⟩)

set_option maxRecDepth 100000 in
theorem text_str (s : ByteArray) (w : World) (hg : Globs hv w gl) (hng : 9 ≤ w.heap.size) : Calls Tryz.prog 73 #[.agg #[.int .i64 3, .string s, .int .i64 0, .int .i64 0, .int .i64 0]] w (TextPost (plainB s) ⟨(quotL s).toArray⟩ w) := by
  have hal : Below w.heap.size w (w.alloc (.cells #[.int .i64 3, .string s, .int .i64 0, .int .i64 0, .int .i64 0] 90)) := (Below.refl _ _).alloc (Nat.le_refl _) _
  have HQ := Lib.hid (quote_any s _ (hg.below hal) (by have := hal.size; omega))
  have HAL := Lib.hid hal
  have hbk : (w.alloc (.cells #[.int .i64 3, .string s, .int .i64 0, .int .i64 0, .int .i64 0] 90)).heap[w.heap.size]? = some (.cells #[.int .i64 3, .string s, .int .i64 0, .int .i64 0, .int .i64 0] 90 (0, 0)) := heap_alloc_new _ _
  have HBK := Lib.hid hbk
  have HSZ := Lib.hid (show (w.alloc (.cells #[.int .i64 3, .string s, .int .i64 0, .int .i64 0, .int .i64 0] 90)).heap.size = w.heap.size + 1 from Array.size_push ..)
  clear hg hal hng hbk
  unfold QuotePost at HQ
  generalize plainB s = b at *
  cases b <;>
  (simp only [Bool.false_eq_true, if_false, if_true] at HQ
   go_enter Tryz.func73, Tryz.ntmps73
   go_wp2_with (go_at_call 104; (with_reducible refine HQ.out.mono ?_); rintro e w' ⟨rfl, hb⟩; have c2 : w'.cell? ⟨w.heap.size, 2, none⟩ = some (.int .i64 0) := (hb.cell (p := ⟨w.heap.size, 2, none⟩) (by rw [HSZ.out]; exact Nat.lt_succ_self _)).trans ((Lib.cell_of_heap HBK.out 2).trans rfl); have FIN := Lib.hid (HAL.out.trans (RowKit.Below.mono hb HAL.out.size)); clear hb)
   go_ret2
   exact ⟨rfl, FIN.out⟩)

set_option maxRecDepth 100000 in
theorem sname_any (s : ByteArray) (w : World) (hg : Globs hv w gl) : Calls Tryz.prog 75 #[.string s] w fun e w' => e = .returned (.bool (nameB s)) ∧ Below w.heap.size w w' := by
  have HT := Lib.hid (text_name s w hg)
  clear hg
  generalize nameB s = b at *
  cases b <;>
  (go_enter Tryz.func75, Tryz.ntmps75
   go_wp2_with (go_at_call 73; (with_reducible refine HT.out.mono ?_); rintro e w' ⟨rfl, hb⟩; simp only [textR])
   go_ret
   exact ⟨rfl, hb⟩)
end Go.Proofs.YtggjeecpadnihaaGreatDoor

namespace Go.Proofs.YtggjeecpadnihaaGreatDoor
open Go Go.Proofs Go.Eng Go.RowKit Go.Sx
set_option linter.unusedVariables false
set_option linter.unusedSimpArgs false

abbrev Tw : TypeId := 83
theorem tw_lies : liesAt Tryz.prog Tryz.prog.depth 83 ((([] : List Value).length + 2) / Tryz.prog.cellsOf 83) 0 81 1 = true := by kernel_rfl

/-- A step of the writer: it writes t behind l, or gives up. -/
def WPost (B b : Nat) (l t : List UInt8) (ok : Bool) (w : World) (e : Ending) (w' : World) : Prop := match ok with
  | true => e = .returned (.tuple #[]) ∧ BufAt 83 [] B b (l ++ t) w' ∧ Below B w w' ∧ Wr b w w'
  | false => e = .panicked unfitP ∧ Below B w w'

theorem catL_one (s : ByteArray) : catL [s] = s.data.toList := by simp [catL]
theorem Below.wr {B b : Nat} {w w' : World} (h : Below w.heap.size w w') : Wr b w w' := Wr.of h

theorem sput_row {B b : Nat} {l : List UInt8} {w : World} (ls : List ByteArray) (cap : Nat) (h : BufAt 83 [] B b l w) (hB : B ≤ w.heap.size) (hn : l.length + (catL ls).length ≤ 140737488355328) (hls : ls.length ≤ 1000) :
    Calls Tryz.prog 43 #[.pointer (some ⟨b, 0, none⟩), .slice (some ⟨w.heap.size, 0, none⟩) ls.length cap] (w.alloc (.cells (ls.map Value.string).toArray 9)) fun e w' =>
      e = .returned (.tuple #[]) ∧ BufAt 83 [] B b (l ++ catL ls) w' ∧ Below B w w' ∧ Wr b w w' := by
  have hal : Below w.heap.size w (w.alloc (.cells (ls.map Value.string).toArray 9)) := (RowKit.Below.refl _ _).alloc (Nat.le_refl _) _
  have hlt := h.lt
  refine (sput_any (by decide) [] tw_lies B b w.heap.size cap l ls _ _ (0, 0) (h.below hal) (heap_alloc_new _ _) (fun i s hs => by rw [List.getElem?_toArray, List.getElem?_map, hs]; rfl) (by omega) hn (by omega) hB).mono ?_
  rintro e w' ⟨rfl, h1, h2, h3⟩
  exact ⟨rfl, h1, (RowKit.Below.mono hal hB).trans h2, (Wr.of hal).trans h3⟩
theorem sput1 {B b : Nat} {l : List UInt8} {w : World} (s : ByteArray) (h : BufAt 83 [] B b l w) (hB : B ≤ w.heap.size) (hn : l.length + s.size ≤ 140737488355328) :
    Calls Tryz.prog 43 #[.pointer (some ⟨b, 0, none⟩), .slice (some ⟨w.heap.size, 0, none⟩) 1 1] (w.alloc (.cells #[.string s] 9)) fun e w' =>
      e = .returned (.tuple #[]) ∧ BufAt 83 [] B b (l ++ s.data.toList) w' ∧ Below B w w' ∧ Wr b w w' := by
  have h1 := sput_row [s] 1 h hB (by rw [catL_one, Array.length_toList]; exact hn) (by simp)
  rw [catL_one] at h1
  exact h1

set_option maxRecDepth 100000 in
theorem wname_any {B b : Nat} {l : List UInt8} {w : World} (s : ByteArray) (h : BufAt 83 [] B b l w) (hB : B ≤ w.heap.size) (hg : Globs hv w gl) (hn : l.length + 1000 ≤ 140737488355328) :
    Calls Tryz.prog 44 #[.pointer (some ⟨b, 0, none⟩), .string s] w (WPost B b l s.data.toList (nameB s) w) := by
  have HS := Lib.hid (sname_any s w hg)
  have HH := Lib.hid h
  have HB := Lib.hid hB
  have HN := Lib.hid hn
  have hsz : nameB s = true → s.size ≤ 20 := fun h => by
    unfold nameB at h
    simp only [Bool.and_eq_true, decide_eq_true_eq] at h
    omega
  have HSZ := Lib.hid hsz
  clear h hB hg hn hsz
  generalize nameB s = ok at *
  cases ok with
  | false =>
    go_enter Tryz.func44, Tryz.ntmps44
    go_wp2_with (first
      | (go_at_call 75; (with_reducible refine HS.out.mono ?_); rintro e w' ⟨rfl, hb⟩)
      | (go_at_call 18; (with_reducible refine (need_no _).mono ?_); rintro e w' ⟨rfl, rfl⟩))
    exact ⟨rfl, rfl, RowKit.Below.mono hb HB.out⟩
  | true =>
    go_enter Tryz.func44, Tryz.ntmps44
    go_wp2_with (first
      | (go_at_call 75; (with_reducible refine HS.out.mono ?_); rintro e w1 ⟨rfl, hb⟩)
      | (go_at_call 18; (with_reducible refine (need_yes _).mono ?_); rintro e w' ⟨rfl, rfl⟩))
    have HP := Lib.hid (sput1 s (HH.out.below hb) (Nat.le_trans HB.out hb.size) (by have := HN.out; have := HSZ.out (by first | rfl | trivial); omega))
    have HBB := Lib.hid hb
    clear hb
    go_at_call 43
    refine HP.out.mono ?_
    rintro e w2 ⟨rfl, p1, p2, p3⟩
    have FIN : Hid (WPost B b l s.data.toList true w (.returned (.tuple #[])) w2) := Lib.hid ⟨rfl, p1, (RowKit.Below.mono HBB.out HB.out).trans p2, (Wr.of HBB.out).trans p3⟩
    clear p1 p2 p3
    simp only
    go_wp2
    go_end0
    exact FIN.out

set_option maxRecDepth 100000 in
theorem token_any {B b : Nat} {l : List UInt8} {w : World} (k n : Int) (s t : ByteArray) (ok : Bool) (h : BufAt 83 [] B b l w) (hB : B ≤ w.heap.size)
    (hT : ∀ w', Below w.heap.size w w' → Calls Tryz.prog 73 #[.agg #[.int .i64 k, .string s, .int .i64 n, .int .i64 0, .int .i64 0]] w' (TextPost ok t w')) (hn : l.length + t.size ≤ 140737488355328) :
    Calls Tryz.prog 42 #[.pointer (some ⟨b, 0, none⟩), .agg #[.int .i64 k, .string s, .int .i64 n, .int .i64 0, .int .i64 0]] w (WPost B b l t.data.toList ok w) := by
  have hal : Below w.heap.size w (w.alloc (.cells #[.int .i64 k, .string s, .int .i64 n, .int .i64 0, .int .i64 0] 90)) := (RowKit.Below.refl _ _).alloc (Nat.le_refl _) _
  have HT := Lib.hid (hT _ hal)
  have HAL := Lib.hid hal
  have HH := Lib.hid h
  have HB := Lib.hid hB
  have HN := Lib.hid hn
  clear hT h hB hn hal
  cases ok with
  | false =>
    go_enter Tryz.func42, Tryz.ntmps42
    go_wp2_with (first
      | (go_at_call 73; (with_reducible refine HT.out.mono ?_); rintro e w' ⟨rfl, hb⟩; simp only [textR])
      | (go_at_call 18; (with_reducible refine (need_no _).mono ?_); rintro e w' ⟨rfl, rfl⟩))
    exact ⟨rfl, rfl, (RowKit.Below.mono HAL.out HB.out).trans (RowKit.Below.mono hb (Nat.le_trans HB.out HAL.out.size))⟩
  | true =>
    go_enter Tryz.func42, Tryz.ntmps42
    go_wp2_with (first
      | (go_at_call 73; (with_reducible refine HT.out.mono ?_); rintro e w1 ⟨rfl, hb⟩; simp only [textR])
      | (go_at_call 18; (with_reducible refine (need_yes _).mono ?_); rintro e w' ⟨rfl, rfl⟩))
    have hbw := HAL.out.trans (RowKit.Below.mono hb HAL.out.size)
    have HP := Lib.hid (sput1 t (HH.out.below hbw) (Nat.le_trans HB.out hbw.size) HN.out)
    have HBB := Lib.hid hbw
    clear hb hbw
    go_at_call 43
    refine HP.out.mono ?_
    rintro e w2 ⟨rfl, p1, p2, p3⟩
    have FIN : Hid (WPost B b l t.data.toList true w (.returned (.tuple #[])) w2) := Lib.hid ⟨rfl, p1, (RowKit.Below.mono HBB.out HB.out).trans p2, (Wr.of HBB.out).trans p3⟩
    clear p1 p2 p3
    simp only
    go_wp2
    go_end0
    exact FIN.out
end Go.Proofs.YtggjeecpadnihaaGreatDoor
