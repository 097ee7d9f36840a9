/- The engine, part X: the evaluator once more, compiled: what is known of a function's text is done once; no proof here. -/
import Derived.Test.YtggjeecpadnihaaGreatDoorEngB
set_option linter.unusedSectionVars false
set_option linter.unusedSimpArgs false
noncomputable section
set_option linter.unusedVariables false
namespace Go.Eng

/-! ### Tries, by a path that is known -/
section
variable {α : Type}

def T.v (t : T α) : Option α := T.rec (motive := fun _ => Option α) none (fun v _ _ _ _ _ _ _ _ => v) t
def T.c0 (t : T α) : T α := T.rec (motive := fun _ => T α) .leaf (fun _ a _ _ _ _ _ _ _ => a) t
def T.c1 (t : T α) : T α := T.rec (motive := fun _ => T α) .leaf (fun _ _ b _ _ _ _ _ _ => b) t
def T.c2 (t : T α) : T α := T.rec (motive := fun _ => T α) .leaf (fun _ _ _ c _ _ _ _ _ => c) t
def T.c3 (t : T α) : T α := T.rec (motive := fun _ => T α) .leaf (fun _ _ _ _ d _ _ _ _ => d) t

structure PG (α : Type) where
  f : T α → Option α

def pg0 (s : PG α) : PG α := ⟨fun t => s.f (T.c0 t)⟩
def pg1 (s : PG α) : PG α := ⟨fun t => s.f (T.c1 t)⟩
def pg2 (s : PG α) : PG α := ⟨fun t => s.f (T.c2 t)⟩
def pg3 (s : PG α) : PG α := ⟨fun t => s.f (T.c3 t)⟩

/-- The way to the number m + 1. (A part of a way that is met again is the same term: it is made once.) -/
def pgS (ih : Nat → PG α) (q : Nat) : PG α := Nat.rec (motive := fun _ => PG α) ⟨T.v⟩ (fun m _ => ih m) q
def pgC (f : Nat) : Nat → PG α :=
  Nat.rec (motive := fun _ => Nat → PG α) (fun m => ⟨fun t => T.get t (Nat.succ m)⟩)
    (fun _ ih m => sel4 (pg0 (pgS ih (Nat.div m 4))) (pg1 (pgS ih (Nat.div m 4))) (pg2 (pgS ih (Nat.div m 4))) (pg3 (pgS ih (Nat.div m 4))) (Nat.mod m 4)) f

structure PS (α : Type) where
  f : α → T α → T α

def setH (x : α) (t : T α) : T α := T.rec (motive := fun _ => T α) (.node (some x) .leaf .leaf .leaf .leaf) (fun _ a b c d _ _ _ _ => .node (some x) a b c d) t
def set0 (s : PS α) (x : α) (t : T α) : T α := T.rec (motive := fun _ => T α) (.node none (s.f x .leaf) .leaf .leaf .leaf) (fun v a b c d _ _ _ _ => .node v (s.f x a) b c d) t
def set1 (s : PS α) (x : α) (t : T α) : T α := T.rec (motive := fun _ => T α) (.node none .leaf (s.f x .leaf) .leaf .leaf) (fun v a b c d _ _ _ _ => .node v a (s.f x b) c d) t
def set2 (s : PS α) (x : α) (t : T α) : T α := T.rec (motive := fun _ => T α) (.node none .leaf .leaf (s.f x .leaf) .leaf) (fun v a b c d _ _ _ _ => .node v a b (s.f x c) d) t
def set3 (s : PS α) (x : α) (t : T α) : T α := T.rec (motive := fun _ => T α) (.node none .leaf .leaf .leaf (s.f x .leaf)) (fun v a b c d _ _ _ _ => .node v a b c (s.f x d)) t

def psS (ih : Nat → PS α) (q : Nat) : PS α := Nat.rec (motive := fun _ => PS α) ⟨setH⟩ (fun m _ => ih m) q
def psC (f : Nat) : Nat → PS α :=
  Nat.rec (motive := fun _ => Nat → PS α) (fun m => ⟨fun x t => T.set x t (Nat.succ m)⟩)
    (fun _ ih m => sel4 ⟨set0 (psS ih (Nat.div m 4))⟩ ⟨set1 (psS ih (Nat.div m 4))⟩ ⟨set2 (psS ih (Nat.div m 4))⟩ ⟨set3 (psS ih (Nat.div m 4))⟩ (Nat.mod m 4)) f

/-- How deep a way may be: the numbers up to 4 to this. -/
def deep : Nat := 24
end

/-! tables of lists -/
section
variable {α : Type}
def getT (t : T α) (i : Nat) : Option α := Nat.rec (motive := fun _ => Option α) (T.v t) (fun m _ => (pgC deep m).f t) i
def putT (t : T α) (i : Nat) (x : α) : T α := Nat.rec (motive := fun _ => T α) (setH x t) (fun m _ => (psC deep m).f x t) i
def tabL (l : List α) : Nat → T α → T α := List.rec (motive := fun _ => Nat → T α → T α) (fun _ t => t) (fun x _ ih i t => ih (Nat.add i 1) (putT t i x)) l
end

/-! (by recursion: so the number's term is ever the same) -/
def pgO (m : Nat) : PG AObj := pgC deep m
def pgV (m : Nat) : PG AVal := pgC deep m
def psO (m : Nat) : PS AObj := psC deep m
def psV (m : Nat) : PS AVal := psC deep m
def getO2 (t : T AObj) (m : Nat) (_ : Option AObj) : Option AObj := (pgO m).f t
def getOt (t : T AObj) (b : Nat) : Option AObj := Nat.rec (motive := fun _ => Option AObj) (T.v t) (getO2 t) b
def getO (h : AHeap) (b : Nat) : Option AObj := getOt h.tr b
def putO2 (t : T AObj) (o : AObj) (m : Nat) (_ : T AObj) : T AObj := (psO m).f o t
def putOt (t : T AObj) (b : Nat) (o : AObj) : T AObj := Nat.rec (motive := fun _ => T AObj) (setH o t) (putO2 t o) b
def putO (h : AHeap) (b : Nat) (o : AObj) : AHeap := ⟨h.next, putOt h.tr b o⟩
def getV2 (t : T AVal) (m : Nat) (_ : Option AVal) : Option AVal := (pgV m).f t
def getV (t : T AVal) (o : Nat) : Option AVal := Nat.rec (motive := fun _ => Option AVal) (T.v t) (getV2 t) o
def setV2 (t : T AVal) (v : AVal) (m : Nat) (_ : T AVal) : T AVal := (psV m).f v t
def setV (v : AVal) (t : T AVal) (o : Nat) : T AVal := Nat.rec (motive := fun _ => T AVal) (setH v t) (setV2 t v) o

/-! ### By the form of a value -/
section
variable {β : Type}
def onPtr (k : Nat → Nat → β) (e : AVal → β) (v : AVal) : β :=
  AVal.rec (motive_1 := fun _ => β) (motive_2 := fun _ => Unit) (fun b => e (.bool b)) (fun k n => e (.int k n)) (fun l n => e (.str l n)) k (e .nptr) (fun b o n c => e (.slc b o n c)) (e .nslc) (fun b => e (.map b)) (e .nmap)
    (fun f a c _ _ => e (.func f a c)) (fun b => e (.yield b)) (e .nfunc) (fun t v _ => e (.iface t v)) (e .niface) (fun l _ => e (.agg l)) (fun l _ => e (.tup l)) (fun i => e (.sym i)) (e .any) () (fun _ _ _ _ => ()) v
def onInt (k : IntKind → Int → β) (e : AVal → β) (v : AVal) : β :=
  AVal.rec (motive_1 := fun _ => β) (motive_2 := fun _ => Unit) (fun b => e (.bool b)) k (fun l n => e (.str l n)) (fun b o => e (.ptr b o)) (e .nptr) (fun b o n c => e (.slc b o n c)) (e .nslc) (fun b => e (.map b)) (e .nmap)
    (fun f a c _ _ => e (.func f a c)) (fun b => e (.yield b)) (e .nfunc) (fun t v _ => e (.iface t v)) (e .niface) (fun l _ => e (.agg l)) (fun l _ => e (.tup l)) (fun i => e (.sym i)) (e .any) () (fun _ _ _ _ => ()) v
def onStr (k : Nat → Nat → β) (e : AVal → β) (v : AVal) : β :=
  AVal.rec (motive_1 := fun _ => β) (motive_2 := fun _ => Unit) (fun b => e (.bool b)) (fun k n => e (.int k n)) k (fun b o => e (.ptr b o)) (e .nptr) (fun b o n c => e (.slc b o n c)) (e .nslc) (fun b => e (.map b)) (e .nmap)
    (fun f a c _ _ => e (.func f a c)) (fun b => e (.yield b)) (e .nfunc) (fun t v _ => e (.iface t v)) (e .niface) (fun l _ => e (.agg l)) (fun l _ => e (.tup l)) (fun i => e (.sym i)) (e .any) () (fun _ _ _ _ => ()) v
def onSlc (k : Nat → Nat → Nat → Cap → β) (z : β) (e : AVal → β) (v : AVal) : β :=
  AVal.rec (motive_1 := fun _ => β) (motive_2 := fun _ => Unit) (fun b => e (.bool b)) (fun k n => e (.int k n)) (fun l n => e (.str l n)) (fun b o => e (.ptr b o)) (e .nptr) k z (fun b => e (.map b)) (e .nmap)
    (fun f a c _ _ => e (.func f a c)) (fun b => e (.yield b)) (e .nfunc) (fun t v _ => e (.iface t v)) (e .niface) (fun l _ => e (.agg l)) (fun l _ => e (.tup l)) (fun i => e (.sym i)) (e .any) () (fun _ _ _ _ => ()) v
def onBool (k : Bool → β) (tp : List AVal → β) (e : β) (v : AVal) : β :=
  AVal.rec (motive_1 := fun _ => β) (motive_2 := fun _ => Unit) k (fun _ _ => e) (fun _ _ => e) (fun _ _ => e) e (fun _ _ _ _ => e) e (fun _ => e) e
    (fun _ _ _ _ _ => e) (fun _ => e) e (fun _ _ _ => e) e (fun _ _ => e) (fun l _ => tp l) (fun _ => e) e () (fun _ _ _ _ => ()) v
end

def scal (v : AVal) : Bool :=
  AVal.rec (motive_1 := fun _ => Bool) (motive_2 := fun _ => Unit) (fun _ => true) (fun _ _ => true) (fun _ _ => true) (fun _ _ => true) true (fun _ _ _ _ => true) true (fun _ => true) true
    (fun _ _ _ _ _ => true) (fun _ => true) true (fun _ _ _ => true) true (fun _ _ => false) (fun _ _ => false) (fun _ => true) false () (fun _ _ _ _ => ()) v

/-- A row that is there. -/
def onRow {β : Type} (e : β) (k : TypeId → Nat → Bool → Bool → T AVal → β) (x : Option AObj) : β :=
  Option.rec (motive := fun _ => β) e (fun o => AObj.rec (motive := fun _ => β) k (fun _ _ => e) (fun _ _ _ => e) (fun _ _ _ _ => e) (fun _ _ _ _ _ _ _ _ => e) (fun _ => e) e o) x

def bO {α β : Type} (e : β) (k : α → β) (x : Option α) : β := Option.rec (motive := fun _ => β) e k x
def bB {β : Type} (f t : β) (b : Bool) : β := Bool.rec (motive := fun _ => β) f t b

/-! ### The values that a region has made so far -/
inductive Vs where
  | nil
  | cons (v : AVal) (l : Vs)

def Vs.hd (l : Vs) : AVal := Vs.rec (motive := fun _ => AVal) .any (fun v _ _ => v) l
def Vs.tl (l : Vs) : Vs := Vs.rec (motive := fun _ => Vs) .nil (fun _ l _ => l) l

/-- Where a slot's value lies. -/
inductive Src where
  /-- the value that was the p-th to be made -/
  | pos (p : Nat)
  | slot (t : Nat)
  | val (v : AVal)

structure Acc where
  f : Vs → T AVal → AVal

def pgT (t : Nat) : PG AVal := Nat.rec (motive := fun _ => PG AVal) ⟨T.v⟩ (fun m _ => pgV m) t
def psT (t : Nat) : PS AVal := Nat.rec (motive := fun _ => PS AVal) ⟨setH⟩ (fun m _ => psV m) t
def acSlot (t : Nat) : Acc := ⟨fun _ tm => orAny ((pgT t).f tm)⟩
def acVal (v : AVal) : Acc := ⟨fun _ _ => v⟩
def acPos (d : Nat) : Acc := Nat.rec (motive := fun _ => Acc) ⟨fun vs _ => vs.hd⟩ (fun _ ih => ⟨fun vs tm => ih.f vs.tl tm⟩) d

def findE (E : List (Nat × Src)) (t : Nat) : Src := List.rec (motive := fun _ => Src) (.slot t) (fun p _ ih => Bool.rec (motive := fun _ => Src) ih p.2 (Nat.beq p.1 t)) E

def acSrc (n : Nat) : Src → Acc
  | .pos p => acPos (Nat.sub (Nat.sub n 1) p)
  | .slot t => acSlot t
  | .val v => acVal v

/-- What is known ahead of a region's operation: the slots, and how many values there are. -/
structure Env where
  E : List (Nat × Src)
  n : Nat
  /-- of which slots something is known, as bits -/
  m : Nat

def Env.push (e : Env) (dst : Option Nat) : Env :=
  match dst with
  | some d => ⟨(d, .pos e.n) :: e.E, e.n + 1, Nat.lor e.m (Nat.pow 2 d)⟩
  | none => e

def Env.find (e : Env) (t : Nat) : Src := bB (.slot t) (findE e.E t) (bitOf e.m t)

section
variable (P : Program) (X : Cx)

def tyT : T TypeInfo := tabL P.types.toList 0 .leaf
def infoK (t : TypeId) : Option TypeInfo := bO (P.info? t) some (getT (tyT P) t)
def undK (t : TypeId) : Option TypeDesc :=
  match infoK P t with
  | some { desc := .named _ u, .. } => (infoK P u).map (·.desc)
  | some i => some i.desc
  | none => none
def sizeK (t : TypeId) : Option Nat :=
  match infoK P t with
  | some i => some i.size
  | none => none
def zeroK (t : TypeId) : Option AVal :=
  match infoK P t with
  | some i => match i.zero with | some v => ofConst v | none => none
  | none => none
def aggK (t : TypeId) : Option Bool :=
  match undK P t with
  | some (.struct _) | some (.array _ _) => some true
  | some _ => some false
  | none => none
def fieldK (t : TypeId) (i : Nat) : Option Field :=
  match undK P t with
  | some (.struct fs) => fs[i]?
  | _ => none
def placeK (fs : Array Field) (i : Nat) : Option (Nat × Nat) :=
  match fs[i]? with
  | some f => (match sizeK P f.type with | some n => some (f.offset, n) | none => none)
  | none => none

def fnT : T Func := tabL P.funcs.toList 0 .leaf
/-- (Where no function bears the one name that has no body of its own: see 'plainNames'.) -/
def bodyK (f : FuncId) : Option (Func × Code) :=
  match getT (fnT P) f with
  | some fn => (match fn.body with | some c => some (fn, c) | none => none)
  | none => none
def plainNames : Bool := P.funcs.toList.all fun fn => !(fn.name == "runtime.NumGoroutine")

def srcOf (e : Env) : Operand → Option Src
  | .tmp t => some (e.find t)
  | .const v => match ofConst v with | some x => some (.val x) | none => none
  | .global g => match Nat.ble (g + 1) X.nglob with | true => some (.val (.ptr g 0)) | false => none
  | .func f => some (.val (.func f [] []))

def accOf (e : Env) (x : Operand) : Option Acc :=
  match srcOf X e x with
  | some s => some (acSrc e.n s)
  | none => none

/-- The old evaluation of an operand, out of accessors. -/
def evK (e : Env) (vs : Vs) (tm : T AVal) (x : Operand) : Option AVal :=
  match accOf X e x with
  | some a => some (a.f vs tm)
  | none => none

/-! ### Operations -/
structure VK where
  f : Vs → T AVal → AHeap → Option AVal
structure AK where
  f : Vs → T AVal → AHeap → Nat → Option (AVal × AHeap)
structure SK where
  f : Vs → T AVal → AHeap → Option AHeap
structure GK where
  f : Vs → T AVal → AHeap → Nat → Option ANext
structure LK where
  f : Vs → T AVal → List AVal

inductive OpK where
  | v (k : VK)
  | a (k : AK)
  | s (k : SK)
  | call (f : FuncId) (k : LK)
  | g (k : GK)

def noneA (_ : AVal) : Option AVal := none

/-! loads -/
def ld2 (h : AHeap) (b o : Nat) : Option AVal := onRow none (fun _ _ _ _ cs => getV cs o) (getO h b)
def ldS (h : AHeap) (a : AVal) : Option AVal := onPtr (ld2 h) noneA a
def ldG2 (t : TypeId) (h : AHeap) (b o : Nat) : Option AVal := loadA P h t b o
def ldG (t : TypeId) (h : AHeap) (a : AVal) : Option AVal := onPtr (ldG2 P t h) noneA a

def kLoad (t : TypeId) (a : Acc) : VK :=
  match aggK P t with
  | some false => ⟨fun vs tm h => ldS h (a.f vs tm)⟩
  | _ => ⟨fun vs tm h => ldG P t h (a.f vs tm)⟩

/-! stores -/
def st3 (h : AHeap) (b o : Nat) (v : AVal) (e : TypeId) (n : Nat) (op ro : Bool) (cs : T AVal) : Option AHeap :=
  bB (bB none (some (putO h b (.row e n op false (setV v cs o)))) (Nat.ble (Nat.succ o) n)) none ro
def st2 (h : AHeap) (v : AVal) (b o : Nat) : Option AHeap := onRow none (st3 h b o v) (getO h b)
def noneH (_ : AVal) : Option AHeap := none
def stG2 (t : TypeId) (h : AHeap) (v : AVal) (b o : Nat) : Option AHeap := storeA P h t b o v
def stG (t : TypeId) (h : AHeap) (v a : AVal) : Option AHeap := onPtr (stG2 P t h v) noneH a
def stS (t : TypeId) (h : AHeap) (v a : AVal) : Option AHeap := bB (stG P t h v a) (onPtr (st2 h v) noneH a) (scal v)

def kStore (t : TypeId) (a x : Acc) : SK :=
  match sizeK P t with
  | some 1 => ⟨fun vs tm h => stS P t h (x.f vs tm) (a.f vs tm)⟩
  | _ => ⟨fun vs tm h => stG P t h (x.f vs tm) (a.f vs tm)⟩

/-! addresses -/
def fa2 (off b o : Nat) : Option AVal := some (.ptr b (Nat.add o off))
def kFieldAddr (t : TypeId) (x : Acc) (i : Nat) : VK :=
  match fieldK P t i with
  | some f => (match sizeK P f.type with
    | some (_ + 1) => ⟨fun vs tm h => onPtr (fa2 f.offset) noneA (x.f vs tm)⟩
    | _ => ⟨fun _ _ _ => none⟩)
  | none => ⟨fun _ _ _ => none⟩

def ixN {β : Type} (e : β) (k : Nat → β) (_ : IntKind) (n : Int) : β := Int.rec (motive := fun _ => β) k (fun _ => e) n
def ix3 (size b o n i : Nat) : Option AVal := bB none (some (.ptr b (Nat.add o (Nat.mul i size)))) (Nat.ble (Nat.succ i) n)
def ix2 (size : Nat) (i : AVal) (b o n : Nat) (_ : Cap) : Option AVal := onInt (ixN none (ix3 size b o n)) noneA i
def ixS (size : Nat) (i x : AVal) : Option AVal := onSlc (ix2 size i) none noneA x
def kIndexAddr (t : TypeId) (x i : Acc) : VK :=
  match undK P t with
  | some (.slice e) => (match sizeK P e with
    | some size => ⟨fun vs tm h => ixS size (i.f vs tm) (x.f vs tm)⟩
    | none => ⟨fun _ _ _ => none⟩)
  | _ => ⟨fun vs tm h => indexAddrA P t (x.f vs tm) (i.f vs tm)⟩

/-! whole numbers -/
def kNum (k : IntKind) : Nat := IntKind.rec (motive := fun _ => Nat) 0 1 2 3 4 5 6 7 k
def sameK (k k' : IntKind) : Bool := Nat.beq (kNum k) (kNum k')
def mxK (k : IntKind) : Nat := Nat.sub (hw k) 1

def addN (k : IntKind) (m n s : Nat) : Int := bB (wrapF k (Int.add (.ofNat m) (.ofNat n))) (.ofNat s) (Nat.ble s (mxK k))
def addI (k : IntKind) (x y : Int) : Int :=
  Int.rec (motive := fun _ => Int) (fun m => Int.rec (motive := fun _ => Int) (fun n => addN k m n (Nat.add m n)) (fun n => wrapF k (Int.add (.ofNat m) (.negSucc n))) y) (fun m => wrapF k (Int.add (.negSucc m) y)) x
def subN (k : IntKind) (m n : Nat) : Int := bB (wrapF k (Int.add (.ofNat m) (Int.neg (.ofNat n)))) (.ofNat (Nat.sub m n)) (Nat.ble n m && Nat.ble m (mxK k))
def subI (k : IntKind) (x y : Int) : Int :=
  Int.rec (motive := fun _ => Int) (fun m => Int.rec (motive := fun _ => Int) (fun n => subN k m n) (fun n => wrapF k (Int.add (.ofNat m) (Int.neg (.negSucc n)))) y) (fun m => wrapF k (Int.add (.negSucc m) (Int.neg y))) x

def rAdd (k : IntKind) (x y : Int) : Option AVal := some (.int k (addI k x y))
def rSub (k : IntKind) (x y : Int) : Option AVal := some (.int k (subI k x y))
def rEq (_ : IntKind) (x y : Int) : Option AVal := some (.bool (eqI x y))
def rNe (_ : IntKind) (x y : Int) : Option AVal := some (.bool (!eqI x y))
def rLt (_ : IntKind) (x y : Int) : Option AVal := some (.bool (ltI x y))
def rLe (_ : IntKind) (x y : Int) : Option AVal := some (.bool (leI x y))
def rGt (_ : IntKind) (x y : Int) : Option AVal := some (.bool (ltI y x))
def rGe (_ : IntKind) (x y : Int) : Option AVal := some (.bool (leI y x))

/-- Which numbers' operation. -/
def arK (op : BinOp) : IntKind → Int → Int → Option AVal :=
  match op with
  | .add => rAdd
  | .sub => rSub
  | .eql => rEq
  | .neq => rNe
  | .lss => rLt
  | .leq => rLe
  | .gtr => rGt
  | .geq => rGe
  | .shl => shiftA .shl
  | .shr => shiftA .shr
  | op => arithA op

def isShift (op : BinOp) : Bool :=
  match op with
  | .shl => true
  | .shr => true
  | _ => false

def bi4 (ar : IntKind → Int → Int → Option AVal) (sh : Bool) (k : IntKind) (n : Int) (k' : IntKind) (n' : Int) : Option AVal := bB none (ar k n n') (sh || sameK k k')
def bi3 (els : AVal → AVal → Option AVal) (k : IntKind) (n : Int) (y : AVal) : Option AVal := els (.int k n) y
def bi2 (ar : IntKind → Int → Int → Option AVal) (sh : Bool) (els : AVal → AVal → Option AVal) (y : AVal) (k : IntKind) (n : Int) : Option AVal := onInt (bi4 ar sh k n) (bi3 els k n) y
def biS (ar : IntKind → Int → Int → Option AVal) (sh : Bool) (els : AVal → AVal → Option AVal) (y x : AVal) : Option AVal := onInt (bi2 ar sh els y) (fun x => els x y) x

def kBin (op : BinOp) (t : TypeId) (xo yo : Operand) (x y : Acc) : VK :=
  ⟨fun vs tm h => biS (arK op) (isShift op) (binA P X.facts op t xo yo) (y.f vs tm) (x.f vs tm)⟩

/-! lengths, choices, parts -/
def lnS (_ _ n : Nat) (_ : Cap) : Option AVal := some (.int .i64 (.ofNat n))
def lnT (l _ : Nat) : Option AVal := some (.int .i64 (.ofNat l))
def kLen (t : TypeId) (x : Acc) : VK :=
  match undK P t with
  | some (.slice _) => ⟨fun vs tm h => onSlc lnS (some (.int .i64 0)) (lenA P X.facts h t) (x.f vs tm)⟩
  | some .string => ⟨fun vs tm h => onStr lnT (lenA P X.facts h t) (x.f vs tm)⟩
  | _ => ⟨fun vs tm h => lenA P X.facts h t (x.f vs tm)⟩

def noneL (_ : List AVal) : Option AVal := none
def pickB (a b : AVal) (c : Bool) : Option AVal := bB (some b) (some a) c
def kPick (c a b : Acc) : VK := ⟨fun vs tm h => onBool (pickB (a.f vs tm) (b.f vs tm)) noneL none (c.f vs tm)⟩

def kExtract (x : Acc) (i : Nat) : VK := ⟨fun vs tm h => onBool (fun _ => none) (fun l => nthA l i) none (x.f vs tm)⟩

def lenL (l : List AVal) : Nat := List.rec (motive := fun _ => Nat) 0 (fun _ _ ih => Nat.succ ih) l
def allS (l : List AVal) : Bool := List.rec (motive := fun _ => Bool) true (fun v _ ih => bB false ih (scal v)) l
def cellsK (v : AVal) : List AVal :=
  AVal.rec (motive_1 := fun _ => List AVal) (motive_2 := fun _ => Unit) (fun b => [.bool b]) (fun k n => [.int k n]) (fun l n => [.str l n]) (fun b o => [.ptr b o]) [.nptr] (fun b o n c => [.slc b o n c]) [.nslc] (fun b => [.map b]) [.nmap]
    (fun f a c _ _ => [.func f a c]) (fun b => [.yield b]) [.nfunc] (fun t v _ => [.iface t v]) [.niface] (fun l _ => l) (fun l _ => [.tup l]) (fun i => [.sym i]) [.any] () (fun _ _ _ _ => ()) v
/-- Cells into a row. -/
def wrK (l : List AVal) : Nat → T AVal → T AVal :=
  List.rec (motive := fun _ => Nat → T AVal → T AVal) (fun _ cs => cs) (fun v _ ih o cs => ih (Nat.succ o) (setV v cs o)) l
def rowK (e : TypeId) (l : List AVal) (op : Bool) : AObj := .row e (lenL l) op false (wrK l 0 .leaf)

def kAlloc (t : TypeId) : Option AK :=
  match zeroK P t with
  | some z => (match z.cells.all AVal.scalar with
    | true => some ⟨fun vs tm h rid => some (.ptr rid 0, putO h rid (.row t z.cells.length false false (rowOf z.cells)))⟩
    | false => none)
  | none => none

def bxG (t : TypeId) (h : AHeap) (rid : Nat) (l : List AVal) : Option (AVal × AHeap) := bB none (some (.ptr rid 0, putO h rid (rowK t l false))) (allS l)
def bxS (t : TypeId) (h : AHeap) (rid : Nat) (v : AVal) : Option (AVal × AHeap) := bB (bxG t h rid (cellsK v)) (some (.ptr rid 0, putO h rid (.row t 1 false false (setH v .leaf)))) (scal v)
def kBox (t : TypeId) (x : Acc) : AK := ⟨fun vs tm h rid => bxS t h rid (x.f vs tm)⟩

/-! rows and structs that are built -/
def catK (b : Bool) (l : List AVal) (r : Option (List AVal)) : Option (List AVal) := bB none (bO none (fun r => some (l ++ r)) r) b

/-- A part of a struct: cells that are known, or an operand's. -/
inductive Seg where
  | zero (l : List AVal)
  | part (x : Acc) (size : Nat)

structure SgF where
  f : Vs → T AVal → Option (List AVal)

def one (v : AVal) (r : List AVal) : Option (List AVal) := some (v :: r)
def many (l : List AVal) (r : List AVal) : Option (List AVal) := some (l ++ r)
def notAny (v : AVal) : Bool :=
  AVal.rec (motive_1 := fun _ => Bool) (motive_2 := fun _ => Unit) (fun _ => true) (fun _ _ => true) (fun _ _ => true) (fun _ _ => true) true (fun _ _ _ _ => true) true (fun _ => true) true
    (fun _ _ _ _ _ => true) (fun _ => true) true (fun _ _ _ => true) true (fun _ _ => true) (fun _ _ => true) (fun _ => true) false () (fun _ _ _ _ => ()) v
def segN (size : Nat) (v : AVal) (r : Option (List AVal)) : Option (List AVal) := bB none (bO none (many (cellsK v)) r) (notAny v && Nat.beq (lenL (cellsK v)) size)
def seg1 (v : AVal) (r : Option (List AVal)) : Option (List AVal) := bB (segN 1 v r) (bO none (one v) r) (scal v)

def segF (l : List Seg) : SgF :=
  List.rec (motive := fun _ => SgF) ⟨fun _ _ => some []⟩ (fun s _ ih => match s with
    | .zero l => ⟨fun vs tm => bO none (many l) (ih.f vs tm)⟩
    | .part x 1 => ⟨fun vs tm => seg1 (x.f vs tm) (ih.f vs tm)⟩
    | .part x n => ⟨fun vs tm => segN n (x.f vs tm) (ih.f vs tm)⟩) l

def segS (e : Env) (size : Nat) (s : Src) : Seg :=
  match s with
  | .val v => (match notAny v && Nat.beq (lenL (cellsK v)) size with | true => .zero (cellsK v) | false => .part (acSrc e.n (.val v)) size)
  | s => .part (acSrc e.n s) size

/-- The parts of what is built, and the zero cells between them; pos: how many cells stand ahead. -/
def segsOf (e : Env) : List (Nat × Nat × Operand) → Nat → List AVal → Option (List Seg)
  | [], _, z => some [.zero z]
  | (off, size, x) :: l, pos, z =>
    match Nat.ble pos off, takeN (off - pos) z, srcOf X e x with
    | true, some z0, some s =>
      match takeN size (dropN (off - pos) z), segsOf e l (off + size) (dropN size (dropN (off - pos) z)) with
      | some _, some r =>
        some ((match z0 with | [] => id | _ => fun l => Seg.zero z0 :: l) (segS e size s :: r))
      | _, _ => none
    | _, _, _ => none

def placed (place : Nat → Option (Nat × Nat)) : List (Nat × Operand) → Option (List (Nat × Nat × Operand))
  | [] => some []
  | (i, x) :: l => match place i, placed place l with | some (off, size), some r => some ((off, size, x) :: r) | _, _ => none

def segsFor (e : Env) (place : Nat → Option (Nat × Nat)) (z : List AVal) (parts : List (Nat × Operand)) : Option (List Seg) :=
  match placed place parts with
  | some l => segsOf X e l 0 z
  | none => none

def agO (l : List AVal) : Option AVal := some (.agg l)

def kBuild (e : Env) (t : TypeId) (parts : List (Nat × Operand)) : Option VK :=
  match zeroK P t, undK P t with
  | some z, some (.struct fs) =>
    (match fs.all (fun f => (sizeK P f.type).isSome), segsFor X e (placeK P fs) z.cells parts with
    | true, some l => (match segF l with | sg => some ⟨fun vs tm h => bO none agO (sg.f vs tm)⟩)
    | _, _ => none)
  | _, _ => none

def slK (t : TypeId) (n : Nat) (h : AHeap) (rid : Nat) (cs : List AVal) : Option (AVal × AHeap) :=
  bB none (some (.slc rid 0 n (.kn n), putO h rid (rowK t cs false))) (allS cs)

def kBuildSlice (e : Env) (t : TypeId) (n : Nat) (parts : List (Nat × Operand)) : Option AK :=
  match undK P t with
  | some (.slice el) =>
    (match sizeK P el, zeroK P el with
    | some size, some z =>
      (match z.cells.length = size && Nat.ble (n * size) 16777216, segsFor X e (fun i => some (i * size, size)) (repeatA n z.cells []) parts with
      | true, some l => (match segF l with | sg => some ⟨fun vs tm h rid => bO none (slK el n h rid) (sg.f vs tm)⟩)
      | _, _ => none)
    | _, _ => none)
  | _ => none

def kArgs (l : List Acc) : LK :=
  List.rec (motive := fun _ => LK) ⟨fun _ _ => []⟩ (fun a _ ih => ⟨fun vs tm => a.f vs tm :: ih.f vs tm⟩) l

def accs (e : Env) : List Operand → Option (List Acc)
  | [] => some []
  | x :: l => match accOf X e x, accs e l with | some a, some r => some (a :: r) | _, _ => none

def kGen (e : Env) (op : Op) : OpK := .g ⟨fun vs tm h rid => (compOp P X op).f (evK X e vs tm) h rid⟩

/-- An operation, compiled. -/
def kOp (e : Env) (op : Op) : OpK :=
  match op with
  | .load t a => (match accOf X e a with | some a => .v (kLoad P t a) | none => kGen P X e op)
  | .store t a x => (match accOf X e a, accOf X e x with | some a, some x => .s (kStore P t a x) | _, _ => kGen P X e op)
  | .fieldAddr t x i => (match accOf X e x with | some x => .v (kFieldAddr P t x i) | none => kGen P X e op)
  | .indexAddr t x i => (match accOf X e x, accOf X e i with | some x, some i => .v (kIndexAddr P t x i) | _, _ => kGen P X e op)
  | .binOp op' t xo yo _ => (match accOf X e xo, accOf X e yo with | some x, some y => .v (kBin P X op' t xo yo x y) | _, _ => kGen P X e op)
  | .pick c a b => (match accOf X e c, accOf X e a, accOf X e b with | some c, some a, some b => .v (kPick c a b) | _, _, _ => kGen P X e op)
  | .extract x i => (match accOf X e x with | some x => .v (kExtract x i) | none => kGen P X e op)
  | .build t parts => (match kBuild P X e t parts.toList with | some k => .v k | none => kGen P X e op)
  | .buildSlice t n parts => (match kBuildSlice P X e t n parts.toList with | some k => .a k | none => kGen P X e op)
  | .alloc t => (match kAlloc P t with | some k => .a k | none => kGen P X e op)
  | .box t x => (match accOf X e x with | some x => .a (kBox t x) | none => kGen P X e op)
  | .call c =>
    (match c.callee with
    | .builtin .len => (match c.argTypes.toList, c.args.toList with
      | t :: _, [x] => (match accOf X e x with | some x => .v (kLen P X t x) | none => kGen P X e op)
      | _, _ => kGen P X e op)
    | .value (.func f) => (match bodyK P f, accs X e c.args.toList with | some _, some l => .call f (kArgs l) | _, _ => kGen P X e op)
    | _ => kGen P X e op)
  | _ => kGen P X e op

/-! ### Regions in order -/
/-- How a part of code is left. -/
inductive CR where
  | bad
  | norm (tm : T AVal) (h : AHeap)
  | ret (tm : T AVal) (h : AHeap)
  | exit (id : Nat) (tm : T AVal) (h : AHeap)
  | pan (v : AVal) (h : AHeap)

/-- A region's operations, from one on; the number is that of the first block that the region makes. -/
structure RF where
  f : CallF → T AVal → Nat → Vs → AHeap → CR

def pushK (dst : Option Nat) (v : AVal) (vs : Vs) : Vs :=
  match dst with
  | some _ => .cons v vs
  | none => vs

def okV (ih : RF) (call : CallF) (tm : T AVal) (st : Nat) (vs : Vs) (h : AHeap) (v : AVal) : CR := ih.f call tm st (.cons v vs) h
def okH (ih : RF) (call : CallF) (tm : T AVal) (st : Nat) (vs : Vs) (h : AHeap) : CR := ih.f call tm st vs h
def okA (ih : RF) (call : CallF) (tm : T AVal) (st : Nat) (vs : Vs) (p : AVal × AHeap) : CR := Prod.rec (motive := fun _ => CR) (fun v h => ih.f call tm st (.cons v vs) h) p
def okVn (ih : RF) (call : CallF) (tm : T AVal) (st : Nat) (vs : Vs) (h : AHeap) (_ : AVal) : CR := ih.f call tm st vs h
def okAn (ih : RF) (call : CallF) (tm : T AVal) (st : Nat) (vs : Vs) (p : AVal × AHeap) : CR := Prod.rec (motive := fun _ => CR) (fun _ h => ih.f call tm st vs h) p

def afterR (dst : Option Nat) (ih : RF) (call : CallF) (tm : T AVal) (st : Nat) (vs : Vs) (p : AEnd × AHeap) : CR :=
  Prod.rec (motive := fun _ => CR) (fun e h => AEnd.rec (motive := fun _ => CR) (fun v => ih.f call tm st (pushK dst v vs) h) (fun v => .pan v h) e) p

def goG (dst : Option Nat) (ih : RF) (call : CallF) (tm : T AVal) (st : Nat) (vs : Vs) (n : ANext) : CR :=
  match n with
  | .val v h => ih.f call tm st (pushK dst v vs) h
  | .enter t args h => bO .bad (afterR dst ih call tm st vs) (call t args h)
  | .pan v h => .pan v h
  | _ => .bad

/-- An operation, then the rest. k: how many blocks were made so far. -/
def stepK (o : OpK) (dst : Option Nat) (k : Nat) (ih : RF) : RF :=
  match o, dst with
  | .v g, some _ => ⟨fun call tm st vs h => bO .bad (okV ih call tm st vs h) (g.f vs tm h)⟩
  | .v g, none => ⟨fun call tm st vs h => bO .bad (okVn ih call tm st vs h) (g.f vs tm h)⟩
  | .a g, some _ => ⟨fun call tm st vs h => bO .bad (okA ih call tm st vs) (g.f vs tm h (Nat.add st k))⟩
  | .a g, none => ⟨fun call tm st vs h => bO .bad (okAn ih call tm st vs) (g.f vs tm h (Nat.add st k))⟩
  | .s g, none => ⟨fun call tm st vs h => bO .bad (okH ih call tm st vs) (g.f vs tm h)⟩
  | .s g, some _ => ⟨fun call tm st vs h => bO .bad (okH ih call tm st (.cons undefA vs)) (g.f vs tm h)⟩
  | .call f g, dst => ⟨fun call tm st vs h => bO .bad (afterR dst ih call tm st vs) (call (.fn f) (g.f vs tm) h)⟩
  | .g g, dst => ⟨fun call tm st vs h => bO .bad (goG dst ih call tm st vs) (g.f vs tm h (Nat.add st k))⟩

def skipK (dst : Option Nat) (ih : RF) : RF :=
  match dst with
  | some _ => ⟨fun call tm st vs h => ih.f call tm st (.cons undefA vs) h⟩
  | none => ih

def isNilL {β : Type} (a b : β) (l : List AVal) : β := List.rec (motive := fun _ => β) a (fun _ _ _ => b) l

def guardB (want : Bool) (run skip : CR) (b : Bool) : CR := bB skip run (b == want)
def guardK (a : Acc) (want : Bool) (run skip : RF) : RF :=
  ⟨fun call tm st vs h => onBool (guardB want (run.f call tm st vs h) (skip.f call tm st vs h)) (isNilL (skip.f call tm st vs h) .bad) .bad (a.f vs tm)⟩

/-- Another name for a value that is there. -/
def aliasOf (e : Env) (o : Oper) : Option Env :=
  match o.guard, o.dst, o.op with
  | none, some d, .move x => (match srcOf X e x with | some s => some ⟨(d, s) :: e.E, e.n, Nat.lor e.m (Nat.pow 2 d)⟩ | none => none)
  | none, some d, .assign x => (match srcOf X e x with | some s => some ⟨(d, s) :: e.E, e.n, Nat.lor e.m (Nat.pow 2 d)⟩ | none => none)
  | _, _, _ => none

structure TmF where
  f : Vs → T AVal → T AVal

def flushC (m n : Nat) (E : List (Nat × Src)) : TmF :=
  List.rec (motive := fun _ => TmF) ⟨fun _ tm => tm⟩ (fun p _ ih => Bool.rec (motive := fun _ => TmF) ih ⟨fun vs tm => (psT p.1).f ((acSrc n p.2).f vs tm) (ih.f vs tm)⟩ (bitOf m p.1)) E

def nextK (op : Op) (k : Nat) : Nat := match mayAlloc P op with | true => Nat.succ k | false => k

structure RC where
  f : Env → Nat → RF

def stepO (ops : Array Oper) (o : Oper) (e : Env) (k : Nat) (ih : RF) : RF :=
  match o.guard with
  | none => stepK (kOp P X e o.op) o.dst k ih
  | some (j, want) =>
    match dstOf ops j with
    | some d => guardK (acSrc e.n (e.find d)) want (stepK (kOp P X e o.op) o.dst k ih) (skipK o.dst ih)
    | none => ⟨fun _ _ _ _ _ => .bad⟩

def cOps (mask : Nat) (ops : Array Oper) (l : List Oper) : RC :=
  List.rec (motive := fun _ => RC) ⟨fun e _ => ⟨fun _ tm _ vs h => .norm ((flushC mask e.n e.E).f vs tm) h⟩⟩
    (fun o _ ih => ⟨fun e k => match aliasOf X e o with
      | some e' => ih.f e' k
      | none => stepO P X ops o e k (ih.f (e.push o.dst) (nextK P o.op k))⟩) l

def cntOps (l : List Oper) (k : Nat) : Nat := List.rec (motive := fun _ => Nat → Nat) (fun k => k) (fun o _ ih k => ih (nextK P o.op k)) l k

structure CF where
  f : CallF → T AVal → AHeap → CR

def rgnK (rf : RF) (k : Nat) : CF := ⟨fun call tm h => rf.f call tm h.next .nil ⟨Nat.add h.next k, h.tr⟩⟩

/-- Does an operation leave the heap as it is, in every order? -/
def quietOp (o : Oper) : Bool := match clsOf P o.op with | .pure => true | .read => true | _ => false

/-! ### Regions whose order is open -/
/-- A read that was made. -/
structure RdK where
  i : Nat
  m : Nat
  k : VK
  vs : Vs
  v : AVal

structure DF where
  f : CallF → T AVal → Nat → Vs → AHeap → List Pd → List Pd → List Sn → List RdK → CR

def valOf (n : ANext) : Option AVal := match n with | .val v _ => some v | _ => none
def vOf : OpK → VK
  | .v k => k
  | .g k => ⟨fun vs tm h => bO none valOf (k.f vs tm h 0)⟩
  | _ => ⟨fun _ _ _ => none⟩
def valOf2 (n : ANext) : Option (AVal × AHeap) := match n with | .val v h => some (v, h) | _ => none
def aOf : OpK → AK
  | .a k => k
  | .g k => ⟨fun vs tm h rid => bO none valOf2 (k.f vs tm h rid)⟩
  | _ => ⟨fun _ _ _ _ => none⟩

def dPure (dst : Option Nat) (ih : DF) (call : CallF) (tm : T AVal) (st : Nat) (vs : Vs) (h : AHeap) (pend al : List Pd) (sn : List Sn) (rs : List RdK) (v : AVal) : CR :=
  ih.f call tm st (pushK dst v vs) h pend al sn rs

def dRead (dst : Option Nat) (i m : Nat) (k : VK) (ih : DF) (call : CallF) (tm : T AVal) (st : Nat) (vs : Vs) (h : AHeap) (pend al : List Pd) (sn : List Sn) (rs : List RdK) (v : AVal) : CR :=
  ih.f call tm st (pushK dst v vs) h pend al sn (⟨i, m, k, vs, v⟩ :: rs)

def dAlloc2 (dst : Option Nat) (i rid : Nat) (ih : DF) (call : CallF) (tm : T AVal) (st : Nat) (vs : Vs) (h : AHeap) (pend al : List Pd) (sn : List Sn) (rs : List RdK) (v : AVal) (obj : AObj) : CR :=
  ih.f call tm st (pushK dst v vs) h (⟨i, rid, obj⟩ :: pend) (⟨i, rid, obj⟩ :: al) sn rs
def dAlloc (dst : Option Nat) (i rid : Nat) (ih : DF) (call : CallF) (tm : T AVal) (st : Nat) (vs : Vs) (h : AHeap) (pend al : List Pd) (sn : List Sn) (rs : List RdK) (p : AVal × AHeap) : CR :=
  Prod.rec (motive := fun _ => CR) (fun v h' => bO .bad (dAlloc2 dst i rid ih call tm st vs h pend al sn rs v) (getO h' rid)) p

def commitF (m : Nat) (l : List Pd) (h : AHeap) : AHeap := List.rec (motive := fun _ => AHeap) h (fun p _ ih => bB ih (putO ih p.rid p.obj) (bitOf m p.i)) l
def commitAllF (l : List Pd) (h : AHeap) : AHeap := List.rec (motive := fun _ => AHeap) h (fun p _ ih => putO ih p.rid p.obj) l
def keepF (m : Nat) (l : List Pd) : List Pd := List.rec (motive := fun _ => List Pd) [] (fun p _ ih => bB (p :: ih) ih (bitOf m p.i)) l
def openF (l : List Sn) (al : List Pd) : List Pd := List.rec (motive := fun _ => List Pd) al (fun s _ ih => keepF s.m ih) l
def aheadF (r : RdK) (l : List Sn) : Bool := List.rec (motive := fun _ => Bool) false (fun s _ _ => bitOf s.m r.i) l
def lastF (m : Nat) (l : List Sn) : Bool := List.rec (motive := fun _ => Bool) true (fun s _ _ => bitOf m s.e) l

def asF (tm : T AVal) (h : AHeap) (r : RdK) : Bool := bO false (fun v => beqV v r.v) (r.k.f r.vs tm h)
def readsF (tm : T AVal) (h : AHeap) (e : Option Nat) (l : List Sn) (rs : List RdK) : Bool :=
  List.rec (motive := fun _ => Bool) true (fun r _ ih => bB (bB (bB false ih (asF tm h r)) ih (aheadF r l)) ih (bO false (bitOf r.m) e)) rs
def snapsF (tm : T AVal) (al : List Pd) (rs : List RdK) (l : List Sn) : Bool :=
  List.rec (motive := fun _ => Bool) true (fun s l ih => bB false ih (readsF tm (commitAllF (openF l al) s.h) (some s.e) l rs)) l

def dAfter (dst : Option Nat) (i m : Nat) (tl : List (Oper × Nat)) (ih : DF) (call : CallF) (tm : T AVal) (st : Nat) (vs : Vs) (h : AHeap) (pend al : List Pd) (sn : List Sn) (rs : List RdK) (p : AEnd × AHeap) : CR :=
  Prod.rec (motive := fun _ => CR) (fun e h' => AEnd.rec (motive := fun _ => CR) (fun v => ih.f call tm st (pushK dst v vs) h' (keepF m pend) al (⟨i, m, h⟩ :: sn) rs)
    (fun v => bB .bad (.pan v h') (allAfter i tl && snapsF tm al rs (⟨i, m, h⟩ :: sn))) e) p
def dVal (dst : Option Nat) (i m : Nat) (ih : DF) (call : CallF) (tm : T AVal) (st : Nat) (vs : Vs) (h : AHeap) (pend al : List Pd) (sn : List Sn) (rs : List RdK) (v : AVal) (h' : AHeap) : CR :=
  ih.f call tm st (pushK dst v vs) h' (keepF m pend) al (⟨i, m, h⟩ :: sn) rs
def dGo (dst : Option Nat) (i m : Nat) (tl : List (Oper × Nat)) (ih : DF) (call : CallF) (tm : T AVal) (st : Nat) (vs : Vs) (h : AHeap) (pend al : List Pd) (sn : List Sn) (rs : List RdK) (n : ANext) : CR :=
  match n with
  | .val v h' => dVal dst i m ih call tm st vs h pend al sn rs v h'
  | .enter t args h' => bO .bad (dAfter dst i m tl ih call tm st vs h pend al sn rs) (call t args h')
  | .pan v h' => bB .bad (.pan v h') (allAfter i tl && snapsF tm al rs (⟨i, m, h⟩ :: sn))
  | _ => .bad

def dEff (o : OpK) (dst : Option Nat) (i m k : Nat) (tl : List (Oper × Nat)) (ih : DF) : DF :=
  match o with
  | .v g => ⟨fun call tm st vs h pend al sn rs => bB .bad (bO .bad (fun v => dVal dst i m ih call tm st vs h pend al sn rs v (commitF m pend h)) (g.f vs tm (commitF m pend h))) (lastF m sn)⟩
  | .a g => ⟨fun call tm st vs h pend al sn rs => bB .bad (bO .bad (fun p => Prod.rec (motive := fun _ => CR) (dVal dst i m ih call tm st vs h pend al sn rs) p) (g.f vs tm (commitF m pend h) (Nat.add st k))) (lastF m sn)⟩
  | .s g => ⟨fun call tm st vs h pend al sn rs => bB .bad (bO .bad (dVal dst i m ih call tm st vs h pend al sn rs undefA) (g.f vs tm (commitF m pend h))) (lastF m sn)⟩
  | .call f g => ⟨fun call tm st vs h pend al sn rs => bB .bad (bO .bad (dAfter dst i m tl ih call tm st vs h pend al sn rs) (call (.fn f) (g.f vs tm) (commitF m pend h))) (lastF m sn)⟩
  | .g g => ⟨fun call tm st vs h pend al sn rs => bB .bad (bO .bad (dGo dst i m tl ih call tm st vs h pend al sn rs) (g.f vs tm (commitF m pend h) (Nat.add st k))) (lastF m sn)⟩

def dStep (o : OpK) (c : Cls) (dst : Option Nat) (i m k : Nat) (tl : List (Oper × Nat)) (ih : DF) : DF :=
  match c with
  | .pure => ⟨fun call tm st vs h pend al sn rs => bO .bad (dPure dst ih call tm st vs h pend al sn rs) ((vOf o).f vs tm h)⟩
  | .alloc => ⟨fun call tm st vs h pend al sn rs => bO .bad (dAlloc dst i (Nat.add st k) ih call tm st vs h pend al sn rs) ((aOf o).f vs tm h (Nat.add st k))⟩
  | .read => ⟨fun call tm st vs h pend al sn rs => bO .bad (dRead dst i m (vOf o) ih call tm st vs h pend al sn rs) ((vOf o).f vs tm (commitAllF pend h))⟩
  | .eff => dEff o dst i m k tl ih

def dSkip (dst : Option Nat) (ih : DF) : DF :=
  match dst with
  | some _ => ⟨fun call tm st vs h pend al sn rs => ih.f call tm st (.cons undefA vs) h pend al sn rs⟩
  | none => ih

def dGuard (a : Acc) (want : Bool) (run skip : DF) : DF :=
  ⟨fun call tm st vs h pend al sn rs => onBool (guardB want (run.f call tm st vs h pend al sn rs) (skip.f call tm st vs h pend al sn rs)) (isNilL (skip.f call tm st vs h pend al sn rs) .bad) .bad (a.f vs tm)⟩

def dStepO (ops : Array Oper) (o : Oper) (e : Env) (i m k : Nat) (tl : List (Oper × Nat)) (ih : DF) : DF :=
  match o.guard with
  | none => dStep (kOp P X e o.op) (clsOf P o.op) o.dst i m k tl ih
  | some (j, want) =>
    match dstOf ops j with
    | some d => dGuard (acSrc e.n (e.find d)) want (dStep (kOp P X e o.op) (clsOf P o.op) o.dst i m k tl ih) (dSkip o.dst ih)
    | none => ⟨fun _ _ _ _ _ _ _ _ _ => .bad⟩

def dEnd (fl : TmF) (tm : T AVal) (vs : Vs) (h : AHeap) (pend al : List Pd) (sn : List Sn) (rs : List RdK) : CR :=
  bB .bad (.norm (fl.f vs tm) (commitAllF pend h)) (readsF tm (commitAllF (openF sn al) h) none sn rs && snapsF tm al rs sn)

structure DC where
  f : Env → Nat → Nat → DF

def dOps (mask : Nat) (ops : Array Oper) (l : List (Oper × Nat)) : DC :=
  List.rec (motive := fun _ => DC) ⟨fun e _ _ => ⟨fun _ tm _ vs h pend al sn rs => dEnd (flushC mask e.n e.E) tm vs h pend al sn rs⟩⟩
    (fun om tl ih => ⟨fun e i k => match aliasOf X e om.1 with
      | some e' => ih.f e' (Nat.succ i) k
      | none => dStepO P X ops om.1 e i om.2 k tl (ih.f (e.push om.1.dst) (Nat.succ i) (nextK P om.1.op k))⟩) l

def drwK (df : DF) (k : Nat) : CF := ⟨fun call tm h => df.f call tm h.next .nil ⟨Nat.add h.next k, h.tr⟩ [] [] [] []⟩

def cRegion (mask : Nat) (ops : Array Oper) (draw : Bool) : CF :=
  match draw && !(ops.toList.all (quietOp P)) with
  | true => drwK ((dOps P X mask ops (plan ops)).f ⟨[], 0, 0⟩ 0 0) (cntOps P ops.toList 0)
  | false => rgnK ((cOps P X mask ops ops.toList).f ⟨[], 0, 0⟩ 0) (cntOps P ops.toList 0)

/-! ### Code -/
def seqK (b : CF) (call : CallF) (r : CR) : CR := CR.rec (motive := fun _ => CR) .bad (fun tm h => b.f call tm h) .ret .exit .pan r
def condK (a b : CF) (call : CallF) (tm : T AVal) (h : AHeap) (t : Bool) : CR := bB (b.f call tm h) (a.f call tm h) t
def badL (_ : List AVal) : CR := .bad
def blockE (id id' : Nat) (tm : T AVal) (h : AHeap) : CR := bB (.exit id' tm h) (.norm tm h) (Nat.beq id' id)
def blockK (id : Nat) (r : CR) : CR := CR.rec (motive := fun _ => CR) .bad .norm .ret (blockE id) .pan r
def endLoopK (r : CR) : CR := CR.rec (motive := fun _ => CR) .bad (fun _ _ => .bad) .ret .exit .pan r

structure IF where
  f : CallF → T AVal → AHeap → CR
def itK (ih : CF) (call : CallF) (r : CR) : CR := CR.rec (motive := fun _ => CR) .bad (fun tm h => ih.f call tm h) .ret .exit .pan r
def iterF (c : CF) (k : Nat) : CF := Nat.rec (motive := fun _ => CF) c (fun _ ih => ⟨fun call tm h => itK ih call (ih.f call tm h)⟩) k

def badC : CF := ⟨fun _ _ _ => .bad⟩

def cCode (mask : Nat) (c : Code) : CF :=
  Code.rec (motive := fun _ => CF)
    ⟨fun _ tm h => .norm tm h⟩
    (fun _ ops draw => cRegion P X mask ops draw)
    (fun _ _ a b => ⟨fun call tm h => seqK b call (a.f call tm h)⟩)
    (fun c _ _ a b => match accOf X ⟨[], 0, 0⟩ c with | some x => ⟨fun call tm h => onBool (condK a b call tm h) badL .bad (x.f .nil tm)⟩ | none => badC)
    (fun id _ c => ⟨fun call tm h => blockK id (c.f call tm h)⟩)
    (fun _ c => ⟨fun call tm h => endLoopK ((iterF c 20).f call tm h)⟩)
    (fun _ _ _ _ _ _ => badC)
    (fun id => ⟨fun _ tm h => .exit id tm h⟩)
    (fun _ c => c)
    (fun _ => ⟨fun _ tm h => .norm tm h⟩)
    (fun _ => badC)
    ⟨fun _ tm h => .ret tm h⟩
    (fun _ => badC) c

/-! ### Calls -/
structure ResF where
  f : AHeap → T AVal → Option (List AVal)

def consO (v : AVal) (l : List AVal) : Option (List AVal) := some (v :: l)
def resTmp (ih : ResF) (h : AHeap) (tm : T AVal) (v : AVal) : Option (List AVal) := bO none (consO v) (ih.f h tm)

def resC (l : List ResultVar) : ResF :=
  List.rec (motive := fun _ => ResF) ⟨fun _ _ => some []⟩ (fun r l ih => match r with
    | .tmp t => ⟨fun h tm => bO none (resTmp ih h tm) ((pgT t).f tm)⟩
    | .cell _ _ => ⟨fun h tm => resultsA P h tm (r :: l)⟩) l

/-! which slots are kept, by bits -/
def callL (c : Call) : List Operand :=
  match c.callee with
  | .value f => f :: c.args.toList
  | .invoke r _ => r :: c.args.toList
  | .builtin _ => c.args.toList
def opL (op : Op) : List Operand :=
  match op with
  | .move x | .assign x | .box _ x | .load _ x | .nilCheck x | .unOp _ _ x | .convert _ _ x | .makeInterface _ x | .fieldAddr _ x _ | .field _ x _ | .extract x _ | .panic x => [x]
  | .pick c a b => [c, a, b]
  | .store _ a v | .binOp _ _ a v _ | .indexAddr _ a v | .index _ a v => [a, v]
  | .alloc _ => []
  | .call c | .defer c => callL c
  | op => op.operands.toList
def rdK (x : Operand) (w m : Nat) : Nat := Operand.rec (motive := fun _ => Nat) (fun t => bB (Nat.lor m (Nat.pow 2 t)) m (bitOf w t)) (fun _ => m) (fun _ => m) (fun _ => m) x
def readsK (l : List Operand) (w : Nat) : Nat → Nat := List.rec (motive := fun _ => Nat → Nat) (fun m => m) (fun x _ ih m => ih (rdK x w m)) l
def dstK (d : Option Nat) (w : Nat) : Nat := bO w (fun d => Nat.lor w (Nat.pow 2 d)) d
def maskOpsK (l : List Oper) : Nat → Nat → Nat := List.rec (motive := fun _ => Nat → Nat → Nat) (fun _ m => m) (fun o _ ih w m => ih (dstK o.dst w) (readsK (opL o.op) w m)) l
def maskK (c : Code) : Nat → Nat :=
  Code.rec (motive := fun _ => Nat → Nat) (fun m => m) (fun _ ops _ m => maskOpsK ops.toList 0 m) (fun _ _ a b m => b (a m)) (fun c _ _ a b m => b (a (rdK c 0 m))) (fun _ _ c => c) (fun _ c => c)
    (fun f _ _ _ a b m => b (a (rdK f 0 m))) (fun _ m => m) (fun _ c => c) (fun _ m => m) (fun _ m => m) (fun m => m) (fun _ m => m) c
def maskFK (fn : Func) (c : Code) : Nat := maskK c (maskRes fn.results.toList 0)

structure FF where
  f : CallF → List AVal → AHeap → Option (AEnd × AHeap)

def retK (h : AHeap) (l : List AVal) : Option (AEnd × AHeap) := some (.ret (tupA l), h)
def doneK (rs : ResF) (tm : T AVal) (h : AHeap) : Option (AEnd × AHeap) := bO none (retK h) (rs.f h tm)
def endK (rs : ResF) (r : CR) : Option (AEnd × AHeap) :=
  CR.rec (motive := fun _ => Option (AEnd × AHeap)) none (doneK rs) (doneK rs) (fun _ _ _ => none) (fun v h => some (.pan v, h)) r

def parF (m : Nat) (l : List AVal) : Nat → T AVal → T AVal :=
  List.rec (motive := fun _ => Nat → T AVal → T AVal) (fun _ tm => tm) (fun v _ ih i tm => bB (ih (Nat.succ i) tm) (ih (Nat.succ i) (setV v tm i)) (bitOf m i)) l

def fnK (n m : Nat) (c : CF) (rs : ResF) : FF :=
  ⟨fun call args h => bB none (endK rs (c.f call (parF m args 0 .leaf) h)) (fits args n)⟩

def cFn (f : FuncId) : FF :=
  match bodyK P f with
  | some (fn, c) => fnK fn.ntmps (maskFK fn c) (cCode P X (maskFK fn c) c) (resC P fn.results.toList)
  | none => ⟨fun _ _ _ => none⟩

def enterK (ext call : CallF) (args : List AVal) (h : AHeap) (f : FuncId) : Option (AEnd × AHeap) := bO (bO ((compF P X call f).f args h) some ((cFn P X f).f call args h)) some (ext (.fn f) args h)

/-- A call, to a depth. -/
def callF (ext : CallF) (n : Nat) : CallF :=
  Nat.rec (motive := fun _ => CallF) ext
    (fun _ ih t args h => Tgt.rec (motive := fun _ => Option (AEnd × AHeap)) (enterK P X ext ih args h) (fun b => roundA P X ih b args h) t) n
end
end Go.Eng
