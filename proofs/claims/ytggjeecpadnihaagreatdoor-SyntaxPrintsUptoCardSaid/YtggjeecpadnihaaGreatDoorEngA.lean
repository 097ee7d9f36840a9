/- The engine, part A: abstract values, heaps and operations. A deterministic evaluator of Go code over a heap that is known in part; no proof here. -/
import Derived.Calls
import Derived.Recover
import Derived.AtR
set_option linter.unusedSectionVars false
set_option linter.unusedSimpArgs false
noncomputable section
set_option linter.unusedVariables false
namespace Go.Eng

/-! ### Tries, by numbers: 0 is here; of a number above it, less 1, the rest of a division by 4 says which way, the quotient what to look for there -/
inductive T (α : Type) where
  | leaf
  | node (v : Option α) (a b c d : T α)

variable {α : Type}

/-- One of four. -/
def sel4 {β : Type} (a b c d : β) (n : Nat) : β :=
  Nat.rec (motive := fun _ => β) a (fun n _ => Nat.rec (motive := fun _ => β) b (fun n _ => Nat.rec (motive := fun _ => β) c (fun _ _ => d) n) n) n

def T.get (t : T α) : Nat → Option α :=
  T.rec (motive := fun _ => Nat → Option α) (fun _ => none)
    (fun v _ _ _ _ ga gb gc gd i => Nat.rec (motive := fun _ => Option α) v (fun j _ => sel4 ga gb gc gd (Nat.mod j 4) (Nat.div j 4)) i) t

/-- A path that was not there. -/
def T.mk (x : α) (f : Nat) : Nat → T α :=
  Nat.rec (motive := fun _ => Nat → T α) (fun _ => .node (some x) .leaf .leaf .leaf .leaf)
    (fun _ ih i => Nat.rec (motive := fun _ => T α) (.node (some x) .leaf .leaf .leaf .leaf)
      (fun j _ => sel4 (.node none (ih (Nat.div j 4)) .leaf .leaf .leaf) (.node none .leaf (ih (Nat.div j 4)) .leaf .leaf)
        (.node none .leaf .leaf (ih (Nat.div j 4)) .leaf) (.node none .leaf .leaf .leaf (ih (Nat.div j 4))) (Nat.mod j 4)) i) f

def T.set (x : α) (t : T α) : Nat → T α :=
  T.rec (motive := fun _ => Nat → T α) (fun i => T.mk x i i)
    (fun v a b c d sa sb sc sd i => Nat.rec (motive := fun _ => T α) (.node (some x) a b c d)
      (fun j _ => sel4 (.node v (sa (Nat.div j 4)) b c d) (.node v a (sb (Nat.div j 4)) c d) (.node v a b (sc (Nat.div j 4)) d) (.node v a b c (sd (Nat.div j 4))) (Nat.mod j 4)) i) t

/-! ### Values -/
/-- A slice's capacity: known, or up to its block's end (elements of so many cells; 'lo': there is room for so many at least). -/
inductive Cap where
  | kn (c : Nat)
  | op (es lo : Nat)

/-- An abstract value. A text is its length and its bytes as one number (the first byte lowest). 'sym i': the i-th value that is not known; 'any': a value of which nothing is known. A slice's capacity is not known where it was made by append. -/
inductive AVal where
  | bool (b : Bool)
  | int (k : IntKind) (n : Int)
  | str (l n : Nat)
  | ptr (b o : Nat)
  | nptr
  | slc (b o len : Nat) (cap : Cap)
  | nslc
  | map (b : Nat)
  | nmap
  | func (f : FuncId) (first captured : List AVal)
  | yield (b : Nat)
  | nfunc
  | iface (t : TypeId) (v : AVal)
  | niface
  | agg (cs : List AVal)
  | tup (vs : List AVal)
  | sym (i : Nat)
  | any
  deriving Inhabited

/-- The bytes of a text. -/
def bytesL : Nat → Nat → List UInt8
  | 0, _ => []
  | l + 1, n => UInt8.ofNat (n % 256) :: bytesL l (n / 256)

def packL : List UInt8 → Nat
  | [] => 0
  | b :: l => b.toNat + 256 * packL l

/-- A deferred call of a function. -/
structure ADef where
  f : FuncId
  cap : List AVal
  args : List AVal

inductive ADefd where
  | call (d : ADef)
  | collected (b : Nat)

/-- What a heap's block is. -/
inductive AObj where
  /-- cells of elements of a type: n of them are known; 'op': there may be more; 'ro': not to be written. -/
  | row (elem : TypeId) (n : Nat) (op ro : Bool) (cs : T AVal)
  | map (es : List (AVal × AVal × Nat)) (clock : Nat)
  | siter (l n pos : Nat)
  /-- an iterator over a map: the map's block, the map's clock at the start, which entries were seen, the clock at the last one. -/
  | miter (m since : Nat) (seen : List Nat) (last : Nat)
  | loop (st : LoopState) (pending : Option Code) (fn : FuncId) (tm : T AVal) (params : List Tmp) (assign body : Code) (defers : Nat)
  | defs (d : Option (List ADefd))
  | dead

structure AHeap where
  next : Nat
  tr : T AObj

def AHeap.get (h : AHeap) (b : Nat) : Option AObj := h.tr.get b
def AHeap.put (h : AHeap) (b : Nat) (o : AObj) : AHeap := ⟨h.next, T.set o h.tr b⟩

/-! ### Constants and types -/
def ofScalar : Value → Option AVal
  | .bool b => some (.bool b)
  | .int k n => some (.int k n)
  | .string s => some (.str s.data.toList.length (packL s.data.toList))
  | .pointer none => some .nptr
  | .slice none 0 0 => some .nslc
  | .map none => some .nmap
  | .nilFunc => some .nfunc
  | .nilIface => some .niface
  | .func (.func f) ⟨[]⟩ ⟨[]⟩ => some (.func f [] [])
  | _ => none

def ofScalars : List Value → Option (List AVal)
  | [] => some []
  | v :: l =>
    match ofScalar v with
    | some x => match ofScalars l with | some xs => some (x :: xs) | none => none
    | none => none

def ofConst (v : Value) : Option AVal :=
  match v with
  | .agg cs => match ofScalars cs.toList with | some l => some (.agg l) | none => none
  | .tuple cs => match ofScalars cs.toList with | some l => some (.tup l) | none => none
  | .iface t v => match ofScalar v with | some x => some (.iface t x) | none => none
  | v => ofScalar v

def AVal.cells : AVal → List AVal
  | .agg cs => cs
  | v => [v]

def undefA : AVal := .tup []

section
variable (P : Program)

/-- The cells of a type's zero value. -/
def zeroA (t : TypeId) : Option AVal :=
  match P.info? t with
  | some i => match i.zero with | some v => ofConst v | none => none
  | none => none

def sizeA (t : TypeId) : Option Nat :=
  match P.info? t with
  | some i => some i.size
  | none => none

def bytesA (t : TypeId) : Option Nat :=
  match P.info? t with
  | some i => some i.bytes
  | none => none

/-- Is a value of the type an aggregate? none: there is no such type. -/
def aggA (t : TypeId) : Option Bool :=
  match P.underlying t with
  | some (.struct _) | some (.array _ _) => some true
  | some _ => some false
  | none => none

/-! ### Cells -/
def readCells (cs : T AVal) : Nat → Nat → Option (List AVal)
  | 0, _ => some []
  | k + 1, o =>
    match cs.get o with
    | some v => match readCells cs k (o + 1) with | some l => some (v :: l) | none => none
    | none => none

def writeCells (cs : T AVal) : List AVal → Nat → T AVal
  | [], _ => cs
  | v :: l, o => writeCells (T.set v cs o) l (o + 1)

def rowOf (l : List AVal) : T AVal := writeCells .leaf l 0

/-- The cells of a block from one on. -/
def cellsAt (h : AHeap) (b o k : Nat) : Option (List AVal) :=
  match h.get b with
  | some (.row _ _ _ _ cs) => readCells cs k o
  | _ => none

/-- A scalar: what one cell may hold. -/
def AVal.scalar : AVal → Bool
  | .agg _ | .tup _ | .any => false
  | _ => true

def loadA (h : AHeap) (t : TypeId) (b o : Nat) : Option AVal :=
  match aggA P t with
  | some true =>
    match sizeA P t with
    | some n => match cellsAt h b o n with | some l => some (.agg l) | none => none
    | none => none
  | some false =>
    match h.get b with
    | some (.row _ _ _ _ cs) => cs.get o
    | _ => none
  | none => none

def putCells (h : AHeap) (b o : Nat) (l : List AVal) : Option AHeap :=
  match h.get b with
  | some (.row e n op false cs) =>
    if o + l.length ≤ n && l.all AVal.scalar then some (h.put b (.row e n op false (writeCells cs l o))) else none
  | _ => none

def storeA (h : AHeap) (t : TypeId) (b o : Nat) (v : AVal) : Option AHeap :=
  match sizeA P t with
  | some n => if v.cells.length = n then putCells h b o v.cells else none
  | none => none

/-- A new row: the block's number is handed in. -/
def newRowA (h : AHeap) (rid : Nat) (elem : TypeId) (l : List AVal) (op : Bool) : AHeap :=
  h.put rid (.row elem l.length op false (rowOf l))

end
section
variable (P : Program)

def takeN : Nat → List AVal → Option (List AVal)
  | 0, _ => some []
  | n + 1, v :: l => match takeN n l with | some r => some (v :: r) | none => none
  | _ + 1, [] => none

def dropN : Nat → List AVal → List AVal
  | 0, l => l
  | n + 1, _ :: l => dropN n l
  | _ + 1, [] => []

def nthA : List AVal → Nat → Option AVal
  | [], _ => none
  | v :: _, 0 => some v
  | _ :: l, n + 1 => nthA l n

/-- A part of an aggregate's cells. -/
def partA (t : TypeId) (cs : List AVal) (off : Nat) : Option AVal :=
  match aggA P t with
  | some true => match sizeA P t with | some n => (match takeN n (dropN off cs) with | some l => some (.agg l) | none => none) | none => none
  | some false => nthA cs off
  | none => none
end
/-! ### Whole numbers -/
def pw : IntKind → Nat
  | .i8 | .u8 => 256
  | .i16 | .u16 => 65536
  | .i32 | .u32 => 4294967296
  | .i64 | .u64 => 18446744073709551616

def hw : IntKind → Nat
  | .i8 | .u8 => 128
  | .i16 | .u16 => 32768
  | .i32 | .u32 => 2147483648
  | .i64 | .u64 => 9223372036854775808

/-- A number by its rest: of a kind with a sign the upper half is below 0. -/
def ofRest (k : IntKind) (m : Nat) : Int :=
  match k.signed with
  | true => match Nat.ble (hw k) m with | true => Int.negSucc (Nat.sub (Nat.sub (pw k) m) 1) | false => Int.ofNat m
  | false => Int.ofNat m

/-- A number's rest. -/
def restOf (k : IntKind) : Int → Nat
  | .ofNat m => Nat.mod m (pw k)
  | .negSucc m => Nat.sub (Nat.sub (pw k) 1) (Nat.mod m (pw k))

def wrapF (k : IntKind) (n : Int) : Int := ofRest k (restOf k n)

def eqI : Int → Int → Bool
  | .ofNat a, .ofNat b => Nat.beq a b
  | .negSucc a, .negSucc b => Nat.beq a b
  | _, _ => false

def leI : Int → Int → Bool
  | .ofNat a, .ofNat b => Nat.ble a b
  | .negSucc a, .negSucc b => Nat.ble b a
  | .negSucc _, .ofNat _ => true
  | .ofNat _, .negSucc _ => false

def ltI (a b : Int) : Bool := !leI b a

def arithA (op : BinOp) (k : IntKind) (x y : Int) : Option AVal :=
  match op with
  | .add => some (.int k (wrapF k (Int.add x y)))
  | .sub => some (.int k (wrapF k (Int.add x (Int.neg y))))
  | .mul => some (.int k (wrapF k (Int.mul x y)))
  | .quo => if eqI y 0 then none else some (.int k (wrapF k (Int.tdiv x y)))
  | .rem => if eqI y 0 then none else some (.int k (Int.tmod x y))
  | .and => some (.int k (ofRest k (Nat.land (restOf k x) (restOf k y))))
  | .or => some (.int k (ofRest k (Nat.lor (restOf k x) (restOf k y))))
  | .xor => some (.int k (ofRest k (Nat.xor (restOf k x) (restOf k y))))
  | .andNot => some (.int k (ofRest k (Nat.land (restOf k x) (Nat.sub (Nat.sub (pw k) 1) (restOf k y)))))
  | .eql => some (.bool (eqI x y))
  | .neq => some (.bool (!eqI x y))
  | .lss => some (.bool (ltI x y))
  | .leq => some (.bool (leI x y))
  | .gtr => some (.bool (ltI y x))
  | .geq => some (.bool (leI y x))
  | _ => none

def minB (a b : Nat) : Nat := match Nat.ble a b with | true => a | false => b

def shrI (x : Int) (n : Nat) : Int := match x with | .ofNat m => .ofNat (Nat.shiftRight m n) | .negSucc m => .negSucc (Nat.shiftRight m n)

def shiftA (op : BinOp) (k : IntKind) (x y : Int) : Option AVal :=
  match y with
  | .negSucc _ => none
  | .ofNat y =>
    match op with
    | .shl => some (.int k (wrapF k (Int.mul x (Int.ofNat (Nat.pow 2 (minB y k.bits))))))
    | .shr => some (.int k (shrI x (minB y k.bits)))
    | _ => none

/-! ### Texts: the number of a text's bytes and the bytes as one number -/
def p256 (n : Nat) : Nat := Nat.pow 256 n

def byteAt (n i : Nat) : Nat := Nat.mod (Nat.div n (p256 i)) 256

def strCat (l m l' m' : Nat) : AVal := .str (Nat.add l l') (Nat.add m (Nat.mul m' (p256 l)))

/-- The bytes from lo to hi. -/
def strCut (n lo hi : Nat) : AVal := .str (Nat.sub hi lo) (Nat.mod (Nat.div n (p256 lo)) (p256 (Nat.sub hi lo)))

def strEq (l m l' m' : Nat) : Bool := match Nat.beq l l' with | true => Nat.beq m m' | false => false

/-- Is the first text less than the other by its bytes? l, l': how many bytes are left. -/
def strLess : Nat → Nat → Nat → Nat → Bool
  | _, _, 0, _ => false
  | 0, _, _ + 1, _ => true
  | l + 1, m, l' + 1, m' =>
    match Nat.beq (Nat.mod m 256) (Nat.mod m' 256) with
    | true => strLess l (Nat.div m 256) l' (Nat.div m' 256)
    | false => Nat.ble (Nat.mod m 256) (Nat.mod m' 256)

def strA (op : BinOp) (l m l' m' : Nat) : Option AVal :=
  match op with
  | .add => match Nat.ble (Nat.add l l') 9223372036854775807 with | true => some (strCat l m l' m') | false => none
  | .eql => some (.bool (strEq l m l' m'))
  | .neq => some (.bool (!strEq l m l' m'))
  | .lss => some (.bool (strLess l m l' m'))
  | .leq => some (.bool (strLess l m l' m' || strEq l m l' m'))
  | .gtr => some (.bool (!(strLess l m l' m' || strEq l m l' m')))
  | .geq => some (.bool (!strLess l m l' m'))
  | _ => none

/-! ### What is known of values that are not known: answers of operations -/
/-- Which operation a fact speaks of. -/
inductive FKey where
  | bin (op : BinOp)
  | un (op : UnOp)
  | conv (src dst : TypeId)
  | len
  | eqi
  deriving DecidableEq

/-- 'the operation at x (and y) answers ans', x or y a value that is not known. -/
structure Fact where
  key : FKey
  x : AVal
  y : AVal
  ans : AVal

/-- Simple values that are the same. -/
def sameS : AVal → AVal → Bool
  | .int k n, .int k' n' => decide (k = k') && eqI n n'
  | .sym i, .sym j => Nat.beq i j
  | .str l m, .str l' m' => strEq l m l' m'
  | .nptr, .nptr => true
  | .bool a, .bool b => a == b
  | _, _ => false

def factOf (key : FKey) (x y : AVal) : List Fact → Option AVal
  | [] => none
  | f :: l => if decide (f.key = key) && sameS f.x x && sameS f.y y then some f.ans else factOf key x y l

section
variable (P : Program)

/-- Are the fields of two structs the same, one after the other? -/
def eqFieldsA (eq : TypeId → AVal → AVal → Option Bool) : List Field → List AVal → List AVal → Option Bool
  | [], _, _ => some true
  | f :: fs, xs, ys =>
    if f.name = "_" then eqFieldsA eq fs xs ys else
    match partA P f.type xs f.offset, partA P f.type ys f.offset with
    | some a, some b =>
      match eq f.type a b with
      | some true => eqFieldsA eq fs xs ys
      | r => r
    | _, _ => none

/-- Are elements of two arrays the same, one after the other? -/
def eqElemsA (eq : AVal → AVal → Option Bool) (e : TypeId) (size : Nat) : Nat → Nat → List AVal → List AVal → Option Bool
  | 0, _, _, _ => some true
  | k + 1, o, xs, ys =>
    match partA P e xs o, partA P e ys o with
    | some a, some b =>
      match eq a b with
      | some true => eqElemsA eq e size k (o + size) xs ys
      | r => r
    | _, _ => none

/-- Two numbers of which one is not known: are they the same? -/
def eqiOf (fs : List Fact) (x y : AVal) : Option Bool :=
  match factOf .eqi x y fs with
  | some (.bool b) => some b
  | _ => none

/-- Are two values the same, as values of a type? d: how deep to go. -/
def equalA (fc : List Fact) : Nat → TypeId → AVal → AVal → Option Bool
  | 0, _, _, _ => none
  | d + 1, t, x, y =>
    match P.underlying t with
    | some .bool => match x, y with | .bool a, .bool b => some (a == b) | _, _ => none
    | some (.int _) => match x, y with | .int k a, .int k' b => if k = k' then some (eqI a b) else none | .sym i, y => eqiOf fc (.sym i) y | x, .sym j => eqiOf fc x (.sym j) | _, _ => none
    | some .string => match x, y with | .str l m, .str l' m' => some (strEq l m l' m') | _, _ => none
    | some (.pointer e) =>
      match x, y with
      | .nptr, .nptr => some true
      | .nptr, .ptr _ _ => some false
      | .ptr _ _, .nptr => some false
      | .ptr b o, .ptr b' o' => if Nat.beq b b' then (match sizeA P e with | some (_ + 1) => some (Nat.beq o o') | _ => none) else none
      | _, _ => none
    | some (.slice _) => match x, y with | .nslc, .nslc => some true | .nslc, .slc _ _ _ _ => some false | .slc _ _ _ _, .nslc => some false | _, _ => none
    | some (.map _ _) => match x, y with | .nmap, .nmap => some true | .nmap, .map _ => some false | .map _, .nmap => some false | _, _ => none
    | some (.func _ _ _) => match x, y with | .nfunc, .nfunc => some true | .nfunc, .func _ _ _ => some false | .func _ _ _, .nfunc => some false | _, _ => none
    | some (.interface _) =>
      match x, y with
      | .niface, .niface => some true
      | .niface, .iface _ _ => some false
      | .iface _ _, .niface => some false
      | .iface tx vx, .iface ty vy =>
        if tx = ty then
          match P.info? tx with
          | some i => if i.comparable then equalA fc d tx vx vy else none
          | none => none
        else some false
      | _, _ => none
    | some (.struct fs) =>
      match x, y with
      | .agg xs, .agg ys => if P.stoodInHeld t then none else eqFieldsA P (equalA fc d) fs.toList xs ys
      | _, _ => none
    | some (.array n e) =>
      match x, y, sizeA P e with
      | .agg xs, .agg ys, some size => eqElemsA P (equalA fc d e) e size n 0 xs ys
      | _, _, _ => none
    | _ => none
end

section
variable (P : Program) (facts : List Fact)

def AVal.isConst : Operand → Bool
  | .const _ => true
  | _ => false

/-- What Go's '==' asks ahead (Dispatch.eqGuard): here it must pass. -/
def guardA (t : TypeId) (x y : Operand) : AVal → AVal → Bool
  | .niface, .niface => AVal.isConst x || AVal.isConst y
  | .agg _, .agg _ => !P.eqGuardType P.depth t
  | .any, _ => false
  | _, .any => false
  | .sym _, _ => false
  | _, .sym _ => false
  | _, _ => true

def eqA (neg : Bool) (t : TypeId) (xo yo : Operand) (x y : AVal) : Option AVal :=
  if guardA P t xo yo x y then
    match equalA P facts 40 t x y with
    | some b => some (.bool (b != neg))
    | none => none
  else none

def binA (op : BinOp) (t : TypeId) (xo yo : Operand) (x y : AVal) : Option AVal :=
  match x, y with
  | .int k a, .int k' b =>
    match op with
    | .shl => shiftA .shl k a b
    | .shr => shiftA .shr k a b
    | op => if k = k' then arithA op k a b else none
  | .str l m, .str l' m' => strA op l m l' m'
  | .sym i, y => factOf (.bin op) (.sym i) y facts
  | x, .sym j => factOf (.bin op) x (.sym j) facts
  | x, y =>
    match op with
    | .eql => eqA P facts false t xo yo x y
    | .neq => eqA P facts true t xo yo x y
    | _ => none

def unA (op : UnOp) (x : AVal) : Option AVal :=
  match op, x with
  | .neg, .int k n => some (.int k (wrapF k (Int.neg n)))
  | .xor, .int k n => some (.int k (ofRest k (Nat.sub (Nat.sub (pw k) 1) (restOf k n))))
  | .not, .bool b => some (.bool (!b))
  | op, .sym i => factOf (.un op) (.sym i) .nptr facts
  | _, _ => none

/-! ### Operations over the heap -/
/-- The bytes of cells. -/
def bytesOfCells : List AVal → Option (Nat × Nat)
  | [] => some (0, 0)
  | .int .u8 (.ofNat n) :: l =>
    match bytesOfCells l with
    | some (k, m) => if Nat.ble n 255 then some (Nat.add k 1, Nat.add n (Nat.mul 256 m)) else none
    | none => none
  | _ :: _ => none

def cellsOfBytes : Nat → Nat → List AVal
  | 0, _ => []
  | l + 1, n => .int .u8 (.ofNat (Nat.mod n 256)) :: cellsOfBytes l (Nat.div n 256)

def convA (h : AHeap) (rid : Nat) (src dst : TypeId) (x : AVal) : Option (AVal × AHeap) :=
  match x with
  | .sym i =>
    match P.underlying dst with
    | some (.slice _) => none
    | _ => match factOf (.conv src dst) (.sym i) .nptr facts with | some v => some (v, h) | none => none
  | .int _ n =>
    match P.underlying src, P.underlying dst with
    | some _, some (.int k) => some (.int k (wrapF k n), h)
    | some _, some .string => some (.str (Utf8.encode n).data.toList.length (packL (Utf8.encode n).data.toList), h)
    | _, _ => none
  | .str l m =>
    match P.underlying src, P.underlying dst with
    | some _, some .string => some (.str l m, h)
    | some _, some (.slice e) =>
      match P.underlying e, sizeA P e with
      | some (.int .u8), some 1 => some (.slc rid 0 l (.op 1 l), newRowA h rid e (cellsOfBytes l m) true)
      | _, _ => none
    | _, _ => none
  | .nslc =>
    match P.underlying src, P.underlying dst with
    | some (.slice e), some .string => (match P.underlying e with | some (.int .u8) => some (.str 0 0, h) | _ => none)
    | _, _ => none
  | .nptr =>
    match P.underlying src, P.underlying dst with
    | some (.pointer _), some .unsafePointer => some (.nptr, h)
    | some .unsafePointer, some (.pointer _) => some (.nptr, h)
    | _, _ => none
  | .ptr b o =>
    match P.underlying src, P.underlying dst, h.get b with
    | some (.pointer t), some .unsafePointer, some (.row _ n _ _ _) =>
      match sizeA P t with
      | some (_ + 1) => if Nat.ble (o + 1) n then some (.ptr b o, h) else none
      | _ => none
    | some .unsafePointer, some (.pointer u), some (.row e n false _ _) =>
      match sizeA P u with
      | some (_ + 1) => if liesAt P P.depth e (n / P.cellsOf e) o u 1 then some (.ptr b o, h) else none
      | _ => none
    | _, _, _ => none
  | .slc b o n _ =>
    match P.underlying src, P.underlying dst with
    | some (.slice e), some .string =>
      match P.underlying e with
      | some (.int .u8) =>
        match cellsAt h b o n with
        | some l => match bytesOfCells l with | some (k, m) => some (.str k m, h) | none => none
        | none => none
      | _ => none
    | _, _ => none
  | _ => none

/-- unsafe.SliceData of a slice that is not empty. -/
def sliceDataA : AVal → Option AVal
  | .nslc => some .nptr
  | .slc b o _ (.kn (_ + 1)) => some (.ptr b o)
  | .slc b o (_ + 1) (.op _ _) => some (.ptr b o)
  | _ => none

/-- unsafe.String: the bytes are not to be written any more. -/
def unsafeStringA (h : AHeap) (pt : TypeId) : AVal → AVal → Option (AVal × AHeap)
  | .nptr, .int _ (.ofNat 0) => some (.str 0 0, h)
  | .ptr _ _, .int _ (.ofNat 0) => some (.str 0 0, h)
  | .ptr b o, .int _ (.ofNat n) =>
    match P.underlying pt, h.get b with
    | some (.pointer u), some (.row e m op false cs) =>
      if P.cellsOf e = 1 && decide (u = e) && Nat.ble (o + n) m && Nat.ble n 1048576 then
        match readCells cs n o with
        | some l => match bytesOfCells l with | some (k, x) => some (.str k x, h.put b (.row e m op true cs)) | none => none
        | none => none
      else none
    | _, _ => none
  | _, _ => none

def aNat : AVal → Option Nat
  | .int _ (.ofNat n) => some n
  | _ => none

def aNatO : Option AVal → Option (Option Nat)
  | none => some none
  | some v => match aNat v with | some n => some (some n) | none => none

/-- How many elements there are at least. -/
def capMin : Cap → Nat
  | .kn c => c
  | .op _ lo => lo

/-- Where a part begins: a part of no capacity begins where the whole did. -/
def cutO (o l m size : Nat) : Nat := match Nat.beq l m with | true => o | false => o + l * size

/-- A slice's part from l to h: without a third bound. -/
def cutA (b o l h size : Nat) : Cap → Option AVal
  | .kn c => some (.slc b (cutO o l c size) (h - l) (.kn (c - l)))
  | .op es lo => match Nat.beq es size with | true => some (.slc b (o + l * size) (h - l) (.op es (lo - l))) | false => none

/-- A slice of a text, or of a slice. Bounds out of range: none. -/
def sliceA (t : TypeId) (x : AVal) (lo hi mx : Option AVal) : Option AVal :=
  match aNatO lo, aNatO hi, aNatO mx with
  | some lo, some hi, some mx =>
    let l := lo.getD 0
    match x, P.underlying t with
    | .str n m, some .string =>
      let h := hi.getD n
      match mx with
      | none => if Nat.ble h n && Nat.ble l h then some (strCut m l h) else none
      | some _ => none
    | .nslc, some (.slice e) =>
      match sizeA P e with
      | none => none
      | some _ => if Nat.beq l 0 && Nat.beq (hi.getD 0) 0 && Nat.beq (mx.getD 0) 0 && (mx.isNone || hi.isSome) then some .nslc else none
    | .slc b o n cap, some (.slice e) =>
      match sizeA P e with
      | none => none
      | some size =>
        let h := hi.getD n
        match mx with
        | none => if Nat.ble l h && Nat.ble h (capMin cap) then cutA b o l h size cap else none
        | some m =>
          if hi.isSome && Nat.ble l h && Nat.ble h m && Nat.ble m (capMin cap) then
            some (.slc b (cutO o l m size) (h - l) (.kn (m - l)))
          else none
    | _, _ => none
  | _, _, _ => none

/-- A pointer's slice of an array that is a variable (the address is handed in). -/
def sliceAtA (t : TypeId) (x : AVal) (lo hi mx : Option AVal) : Option AVal :=
  match P.underlying t with
  | some (.array n e) =>
    match x, aNatO lo, aNatO hi, aNatO mx, sizeA P e with
    | .ptr b o, some lo, some hi, some mx, some size =>
      let m := mx.getD n
      let h := hi.getD n
      let l := lo.getD 0
      if (mx.isNone || hi.isSome) && Nat.ble l h && Nat.ble h m && Nat.ble m n then some (.slc b (cutO o l m size) (h - l) (.kn (m - l))) else none
    | _, _, _, _, _ => none
  | _ => sliceA P t x lo hi mx

def indexAddrA (t : TypeId) (x ix : AVal) : Option AVal :=
  match aNat ix with
  | some i =>
    match P.underlying t, x with
    | some (.slice e), .slc b o n _ => match sizeA P e with | some size => if Nat.ble (i + 1) n then some (.ptr b (o + i * size)) else none | none => none
    | some (.array n e), .ptr b o => match sizeA P e with | some size => if Nat.ble (i + 1) n then some (.ptr b (o + i * size)) else none | none => none
    | _, _ => none
  | none => none

def indexA (t : TypeId) (x ix : AVal) : Option AVal :=
  match aNat ix with
  | some i =>
    match P.underlying t, x with
    | some .string, .str l m => if Nat.ble (i + 1) l then some (.int .u8 (.ofNat (byteAt m i))) else none
    | some (.array n e), .agg cs => match sizeA P e with | some size => if Nat.ble (i + 1) n then partA P e cs (i * size) else none | none => none
    | _, _ => none
  | none => none

def fieldOf (t : TypeId) (i : Nat) : Option Field :=
  match P.underlying t with
  | some (.struct fs) => fs[i]?
  | _ => none

def fieldAddrA (t : TypeId) (x : AVal) (i : Nat) : Option AVal :=
  match fieldOf P t i, x with
  | some f, .ptr b o => (match sizeA P f.type with | some 0 => none | some _ => some (.ptr b (o + f.offset)) | none => none)
  | _, _ => none

def fieldA (t : TypeId) (x : AVal) (i : Nat) : Option AVal :=
  match fieldOf P t i, x with
  | some f, .agg cs => partA P f.type cs f.offset
  | _, _ => none

/-- A slice as a pointer to an array: not of length 0. -/
def arrayAtA (arr : TypeId) (x : AVal) : Option AVal :=
  match P.underlying arr, x with
  | some (.array (n + 1) _), .slc b o len _ => match Nat.ble (n + 1) len with | true => some (.ptr b o) | false => none
  | _, _ => none

/-! Aggregates are filled part by part. -/
def setAt : List AVal → Nat → List AVal → Option (List AVal)
  | cs, 0, [] => some cs
  | _ :: cs, 0, v :: l => match setAt cs 0 l with | some r => some (v :: r) | none => none
  | c :: cs, n + 1, l => match setAt cs n l with | some r => some (c :: r) | none => none
  | [], _, _ => none

def fillA (place : Nat → Option (Nat × Nat)) (cells : List AVal) : List (Nat × AVal) → Option (List AVal)
  | [] => some cells
  | (_, .any) :: _ => none
  | (i, v) :: rest =>
    match place i with
    | none => none
    | some (off, size) =>
      if v.cells.length = size then match setAt cells off v.cells with | some cs => fillA place cs rest | none => none
      else none

def placeA (fs : Array Field) (i : Nat) : Option (Nat × Nat) :=
  match fs[i]? with
  | some f => (match sizeA P f.type with | some n => some (f.offset, n) | none => none)
  | none => none

def buildA (t : TypeId) (parts : List (Nat × AVal)) : Option AVal :=
  match zeroA P t with
  | none => none
  | some z =>
    match P.underlying t with
    | some (.struct fs) => if fs.all (fun f => (sizeA P f.type).isSome) then (match fillA (placeA P fs) z.cells parts with | some cs => some (.agg cs) | none => none) else none
    | some (.array _ e) =>
      match sizeA P e with
      | some size => match fillA (fun i => some (i * size, size)) z.cells parts with | some cs => some (.agg cs) | none => none
      | none => none
    | _ => none

def repeatA : Nat → List AVal → List AVal → List AVal
  | 0, _, acc => acc
  | n + 1, z, acc => repeatA n z (z ++ acc)

def buildSliceA (h : AHeap) (rid : Nat) (t : TypeId) (len : Nat) (parts : List (Nat × AVal)) : Option (AVal × AHeap) :=
  match P.underlying t with
  | some (.slice e) =>
    match sizeA P e, zeroA P e with
    | some size, some z =>
      if z.cells.length = size && Nat.ble (len * size) 16777216 then
        match fillA (fun i => some (i * size, size)) (repeatA len z.cells []) parts with
        | some cs => if cs.all AVal.scalar then some (.slc rid 0 len (.kn len), newRowA h rid e cs false) else none
        | none => none
      else none
    | _, _ => none
  | _ => none

def makeSliceA (h : AHeap) (rid : Nat) (t : TypeId) (len cap : AVal) : Option (AVal × AHeap) :=
  match P.underlying t, aNat len, aNat cap with
  | some (.slice e), some l, some c =>
    match sizeA P e, bytesA P e, zeroA P e with
    | some size, some bytes, some z =>
      if z.cells.length = size && Nat.ble c 1048576 && Nat.ble bytes 65536 && Nat.ble l c && z.cells.all AVal.scalar then
        some (.slc rid 0 l (.kn c), newRowA h rid e (repeatA c z.cells []) false)
      else none
    | _, _, _ => none
  | _, _, _ => none

def allocA (h : AHeap) (rid : Nat) (t : TypeId) : Option (AVal × AHeap) :=
  match zeroA P t with
  | some z => if z.cells.all AVal.scalar then some (.ptr rid 0, newRowA h rid t z.cells false) else none
  | none => none

def boxA (h : AHeap) (rid : Nat) (t : TypeId) (v : AVal) : Option (AVal × AHeap) :=
  if v.cells.all AVal.scalar then some (.ptr rid 0, newRowA h rid t v.cells false) else none

/-! ### append, copy, len -/
/-- The first cells of what is appended or copied. -/
def cellsFrom (h : AHeap) (size : Nat) : AVal → Option (Nat × List AVal)
  | .nslc => some (0, [])
  | .slc b o n _ => match cellsAt h b o (n * size) with | some l => some (n, l) | none => none
  | .str l m => if Nat.beq size 1 then some (l, cellsOfBytes l m) else none
  | _ => none

/-- Zero elements, onto nil. -/
def appendZ (h : AHeap) (rid : Nat) (e : TypeId) (s x : AVal) : Option (AVal × AHeap) :=
  match s, x with
  | .nslc, .int .i64 (.ofNat n) =>
    match sizeA P e, bytesA P e, zeroA P e with
    | some size, some bytes, some z =>
      if Nat.ble 1 size && Nat.ble 1 bytes && Nat.ble bytes 65536 && Nat.ble n 1048576 && z.cells.length = size && z.cells.all AVal.scalar then
        (match Nat.beq n 0 with | true => some (.nslc, h) | false => some (.slc rid 0 n (.op size n), newRowA h rid e (repeatA n z.cells []) true))
      else none
    | _, _, _ => none
  | _, _ => none

def appendA (h : AHeap) (rid : Nat) (sT xT : TypeId) (s x : AVal) : Option (AVal × AHeap) :=
  match P.underlying sT, P.underlying xT with
  | some (.slice e), some (.int _) => appendZ P h rid e s x
  | some (.slice e), some _ =>
    match sizeA P e, bytesA P e, zeroA P e with
    | some size, some bytes, some z =>
      match cellsFrom h size x with
      | none => none
      | some (n, new) =>
        if !(Nat.ble 1 size && Nat.ble 1 bytes && Nat.ble bytes 65536 && Nat.ble n 1048576 && z.cells.length = size && new.all AVal.scalar) then none else
        match s with
        | .nslc => if Nat.beq n 0 then some (.nslc, h) else some (.slc rid 0 n (.op size n), newRowA h rid e new true)
        | .slc b o len cap =>
          if Nat.beq n 0 then (match Nat.ble len (capMin cap) with | true => some (.slc b o len cap, h) | false => none)
          else if Nat.ble (len + n) 1048576 then
            match cap with
            | .kn c =>
              match Nat.ble (len + n) c with
              | true =>
                match putCells h b (o + len * size) new with
                | some h' => some (.slc b o (len + n) (.kn c), h')
                | none => none
              | false =>
                match cellsAt h b o (len * size) with
                | some old => some (.slc rid 0 (len + n) (.op size (len + n)), newRowA h rid e (old ++ new) true)
                | none => none
            | .op es lo =>
              match Nat.ble (len + n) lo with
              | true =>
                match Nat.beq es size, putCells h b (o + len * size) new with
                | true, some h' => some (.slc b o (len + n) (.op es lo), h')
                | _, _ => none
              | false =>
                match h.get b with
                | some (.row e' m true false cs) =>
                  if Nat.beq es size && decide (e' = e) then
                    match Nat.beq o 0 && Nat.beq m (len * size) with
                    | true => some (.slc rid 0 (len + n) (.op size (len + n)), (h.put b .dead).put rid (.row e (m + n * size) true false (writeCells cs new m)))
                    | false =>
                      if Nat.ble (o + len * size) m then
                        match readCells cs (len * size) o with
                        | some old => some (.slc rid 0 (len + n) (.op size (len + n)), newRowA (h.put b .dead) rid e (old ++ new) true)
                        | none => none
                      else none
                  else none
                | _ => none
          else none
        | _ => none
    | _, _, _ => none
  | _, _ => none

/-- Zero elements in a slice. -/
def clearA (h : AHeap) (t : TypeId) (x : AVal) : Option AHeap :=
  match P.underlying t, x with
  | some (.slice _), .nslc => some h
  | some (.slice _), .slc _ _ 0 _ => some h
  | some (.slice e), .slc b o n _ =>
    match zeroA P e with
    | some z => if z.cells.all AVal.scalar then putCells h b o (repeatA n z.cells []) else none
    | none => none
  | _, _ => none

def copyA (h : AHeap) (dT : TypeId) (dst src : AVal) : Option (AVal × AHeap) :=
  match P.underlying dT with
  | some (.slice e) =>
    match sizeA P e with
    | some size =>
      match cellsFrom h size src, dst with
      | some (n, l), .slc b o len _ =>
        match takeN (minB n len * size) l with
        | some l' => if minB n len = 0 then some (.int .i64 0, h) else match putCells h b o l' with | some h' => some (.int .i64 (.ofNat (minB n len)), h') | none => none
        | none => none
      | some _, .nslc => some (.int .i64 0, h)
      | _, _ => none
    | none => none
  | _ => none

def lenA (h : AHeap) (t : TypeId) (x : AVal) : Option AVal :=
  match x, P.underlying t with
  | .str l _, some .string => some (.int .i64 (.ofNat l))
  | .slc _ _ n _, some (.slice _) => some (.int .i64 (.ofNat n))
  | .nslc, some (.slice _) => some (.int .i64 0)
  | .nmap, some (.map _ _) => some (.int .i64 0)
  | .map b, some (.map _ _) => match h.get b with | some (.map es _) => some (.int .i64 (.ofNat es.length)) | _ => none
  | .sym i, some .string => factOf .len (.sym i) .nptr facts
  | _, some (.array n _) => some (.int .i64 (.ofNat n))
  | _, _ => none

def capA (t : TypeId) (x : AVal) : Option AVal :=
  match x, P.underlying t with
  | .slc _ _ _ (.kn c), some (.slice _) => some (.int .i64 (.ofNat c))
  | .nslc, some (.slice _) => some (.int .i64 0)
  | _, _ => none

def max2A (big : Bool) : AVal → AVal → Option AVal
  | .int k x, .int k' y => if k = k' then some (.int k (match big with | true => if ltI x y then y else x | false => if ltI y x then y else x)) else none
  | _, _ => none

def maxA (big : Bool) : AVal → List AVal → Option AVal
  | x, [] => some x
  | x, y :: l => match max2A big x y with | some z => maxA big z l | none => none

/-! ### Maps -/
/-- Is a key one that can be asked for without a panic? Texts, numbers, truths, structs of these. -/
def keyOk : Nat → TypeId → AVal → Bool
  | 0, _, _ => false
  | d + 1, t, v =>
    match P.underlying t, v with
    | some .string, .str _ _ => true
    | some (.int _), .int _ _ => true
    | some .bool, .bool _ => true
    | some (.struct fs), .agg cs => fs.toList.all fun f => f.name == "_" || (match partA P f.type cs f.offset with | some x => keyOk d f.type x | none => false)
    | _, _ => false

/-- The place of a key, and the value there. -/
def findA (kT : TypeId) (k : AVal) : List (AVal × AVal × Nat) → Nat → Option (Option (Nat × AVal × Nat))
  | [], _ => some none
  | (k', v, born) :: es, i =>
    match equalA P [] 40 kT k k' with
    | some true => some (some (i, v, born))
    | some false => findA kT k es (i + 1)
    | none => none

def lookupA (h : AHeap) (t : TypeId) (x k : AVal) (ok : Bool) : Option AVal :=
  match P.underlying t with
  | some (.map kT eT) =>
    if keyOk P 40 kT k then
      match zeroA P eT with
      | none => none
      | some z =>
        let told (v : AVal) (b : Bool) : AVal := match ok with | true => .tup [v, .bool b] | false => v
        match x with
        | .nmap => some (told z false)
        | .map b =>
          match h.get b with
          | some (.map es _) => match findA P kT k es 0 with | some (some (_, v, _)) => some (told v true) | some none => some (told z false) | none => none
          | _ => none
        | _ => none
    else none
  | _ => none

def modAt (f : AVal × AVal × Nat → AVal × AVal × Nat) : List (AVal × AVal × Nat) → Nat → List (AVal × AVal × Nat)
  | [], _ => []
  | e :: l, 0 => f e :: l
  | e :: l, n + 1 => e :: modAt f l n

/-- Are two keys the same, bit by bit? -/
def sameKs : List AVal → List AVal → Bool
  | [], [] => true
  | .int k n :: l, .int k' n' :: l' => decide (k = k') && eqI n n' && sameKs l l'
  | .str a m :: l, .str a' m' :: l' => strEq a m a' m' && sameKs l l'
  | .bool a :: l, .bool b :: l' => a == b && sameKs l l'
  | _, _ => false

def sameKey : AVal → AVal → Bool
  | .agg l, .agg l' => sameKs l l'
  | a, b => sameKs [a] [b]

def keyAt : List (AVal × AVal × Nat) → Nat → AVal
  | [], _ => .any
  | e :: _, 0 => e.1
  | _ :: l, n + 1 => keyAt l n

def mapUpdateA (h : AHeap) (t : TypeId) (m k v : AVal) : Option AHeap :=
  match P.underlying t, m with
  | some (.map kT _), .map b =>
    if keyOk P 40 kT k then
      match h.get b with
      | some (.map es clock) =>
        match findA P kT k es 0 with
        | some (some (i, _, _)) => match sameKey (keyAt es i) k with | true => some (h.put b (.map (modAt (fun e => (k, v, e.2.2)) es i) clock)) | false => none
        | some none => some (h.put b (.map (es ++ [(k, v, clock)]) (clock + 1)))
        | none => none
      | _ => none
    else none
  | _, _ => none

def dropAt : List (AVal × AVal × Nat) → Nat → List (AVal × AVal × Nat)
  | [], _ => []
  | _ :: l, 0 => l
  | e :: l, n + 1 => e :: dropAt l n

def deleteA (h : AHeap) (t : TypeId) (m k : AVal) : Option AHeap :=
  match P.underlying t, m with
  | some (.map kT _), .nmap => if keyOk P 40 kT k then some h else none
  | some (.map kT _), .map b =>
    if keyOk P 40 kT k then
      match h.get b with
      | some (.map es clock) =>
        match findA P kT k es 0 with
        | some (some (i, _, _)) => some (h.put b (.map (dropAt es i) clock))
        | some none => some h
        | none => none
      | _ => none
    else none
  | _, _ => none

/-! ### Ranges over maps: of one entry that is left -/
def rangeMapA (h : AHeap) (rid : Nat) (t : TypeId) (x : AVal) : Option (AVal × AHeap) :=
  match P.underlying t, x with
  | some (.map _ _), .map b =>
    match h.get b with
    | some (.map _ clock) => some (.ptr rid 0, h.put rid (.miter b clock [] clock))
    | _ => none
  | _, _ => none

def hasN : List Nat → Nat → Bool
  | [], _ => false
  | a :: l, n => match Nat.beq a n with | true => true | false => hasN l n

/-- The entries that were not seen. -/
def leftA (seen : List Nat) : List (AVal × AVal × Nat) → List (AVal × AVal × Nat)
  | [] => []
  | e :: l => match hasN seen e.2.2 with | true => leftA seen l | false => e :: leftA seen l

def allNewA (last : Nat) : List (AVal × AVal × Nat) → Bool
  | [] => true
  | e :: l => match Nat.ble last e.2.2 with | true => allNewA last l | false => false

/-- The next entry, where there is none left, or just one that was there at the start. -/
def nextA (h : AHeap) (x : AVal) (isString : Bool) : Option (AVal × AHeap) :=
  match x, isString with
  | .ptr r 0, false =>
    match h.get r with
    | some (.miter b since seen last) =>
      match h.get b with
      | some (.map es clock) =>
        if !seen.isEmpty && !es.isEmpty && allNewA last es then none else
        match leftA seen es with
        | [] => some (.tup [.bool false], h)
        | [e] => if Nat.ble (e.2.2 + 1) since then some (.tup [.bool true, e.1, e.2.1], h.put r (.miter b since (seen ++ [e.2.2]) clock)) else none
        | _ => none
      | _ => none
    | _ => none
  | _, _ => none

def lastN : List Nat → Option Nat
  | [] => none
  | [a] => some a
  | _ :: l => lastN l

def bornA (n : Nat) : List (AVal × AVal × Nat) → Option AVal
  | [] => none
  | e :: l => match Nat.beq e.2.2 n with | true => some (.tup [e.1, e.2.1]) | false => bornA n l

/-- The entry that was seen last. -/
def entryA (h : AHeap) (x : AVal) : Option AVal :=
  match x with
  | .ptr r 0 =>
    match h.get r with
    | some (.miter b _ seen last) =>
      match h.get b, lastN seen with
      | some (.map es clock), some n => if Nat.beq clock last then bornA n es else none
      | _, _ => none
    | _ => none
  | _ => none

/-! ### Bytes of a text that are one byte -/
def countB : Nat → Nat → Nat → Nat → Nat
  | 0, _, _, a => a
  | l + 1, m, c, a => countB l (Nat.div m 256) c (match Nat.beq (Nat.mod m 256) c with | true => Nat.succ a | false => a)

def indexB : Nat → Nat → Nat → Nat → Int
  | 0, _, _, _ => -1
  | l + 1, m, c, i => match Nat.beq (Nat.mod m 256) c with | true => .ofNat i | false => indexB l (Nat.div m 256) c (Nat.succ i)

/-! ### Interfaces -/
def holdsA (commaOk : Bool) (v : AVal) : AVal := match commaOk with | true => .tup [v, .bool true] | false => v

def failsA (asserted : TypeId) (commaOk : Bool) : Option AVal :=
  match commaOk with
  | true => match zeroA P asserted with | some z => some (.tup [z, .bool false]) | none => none
  | false => none

def typeAssertA (x : AVal) (asserted : TypeId) (commaOk : Bool) : Option AVal :=
  match P.underlying asserted, x with
  | some (.interface _), .niface => failsA P asserted commaOk
  | some (.interface want), .iface t v =>
    match P.info? t with
    | some i => match Instr.missingMethod want i.methods with | none => some (holdsA commaOk (.iface t v)) | some _ => failsA P asserted commaOk
    | none => none
  | some _, .niface => failsA P asserted commaOk
  | some _, .iface t v => if t = asserted then some (holdsA commaOk v) else failsA P asserted commaOk
  | _, _ => none

/-- The function that a method's call on an interface value enters, and its receiver. -/
def methodA (t : TypeId) (v : AVal) (name : String) : Option (FuncId × AVal) :=
  match P.info? t with
  | some i =>
    match i.methods.find? (·.name == name) with
    | some m =>
      match m.path.toList, m.func, P.underlying t with
      | [], some (f, true), some (.pointer _) => some (f, v)
      | [], some (_, false), some (.pointer _) => none
      | [], some (f, false), some _ => some (f, v)
      | _, _, _ => none
    | none => none
  | none => none
end
end Go.Eng
