/- The engine, part B: operations, regions, code and calls, evaluated over abstract heaps; no proof here. -/
import Derived.Test.YtggjeecpadnihaaGreatDoorEngA
set_option linter.unusedSectionVars false
set_option linter.unusedSimpArgs false
noncomputable section
set_option linter.unusedVariables false
namespace Go.Eng

/-! ### What is called, and how it ends -/
inductive Tgt where
  | fn (f : FuncId)
  | round (b : Nat)

inductive AEnd where
  | ret (v : AVal)
  | pan (v : AVal)

/-- What stands one frame further out, of a frame that was deferred: how it is left. -/
inductive UM where
  | no
  | ret
  | pan (v : AVal) (recovered : Bool)

abbrev CallF := Tgt → List AVal → AHeap → Option (AEnd × AHeap)

/-- What the evaluator is given besides the program. -/
structure Cx where
  facts : List Fact
  /-- how many package-level variables are known: their blocks are the first ones -/
  nglob : Nat

/-- The values that a region has laid into slots so far, the latest first. -/
inductive Loc where
  | nil
  | cons (s : Nat) (v : AVal) (l : Loc)

inductive ANext where
  | val (v : AVal) (h : AHeap)
  | enter (t : Tgt) (args : List AVal) (h : AHeap)
  | pan (v : AVal) (h : AHeap)
  | dfr (d : ADef) (h : AHeap)
  | recover (h : AHeap)

section
variable (P : Program) (X : Cx)

def lookL (loc : Loc) (t : Nat) (tm : T AVal) : Option AVal :=
  Loc.rec (motive := fun _ => Option AVal) (tm.get t) (fun s v _ ih => Bool.rec (motive := fun _ => Option AVal) ih (some v) (Nat.beq s t)) loc

def orAny : Option AVal → AVal
  | some v => v
  | none => .any

def evA (loc : Loc) (tm : T AVal) : Operand → Option AVal
  | .tmp t => some (orAny (lookL loc t tm))
  | .const v => ofConst v
  | .global g => match Nat.ble (g + 1) X.nglob with | true => some (.ptr g 0) | false => none
  | .func f => some (.func f [] [])

def evs (ev : Operand → Option AVal) (l : List Operand) : Option (List AVal) :=
  List.rec (motive := fun _ => Option (List AVal)) (some []) (fun x _ ih => match ev x with
    | some v => (match ih with | some r => some (v :: r) | none => none)
    | none => none) l

def evO (ev : Operand → Option AVal) : Option Operand → Option (Option AVal)
  | none => some none
  | some x => match ev x with | some v => some (some v) | none => none

def evParts (ev : Operand → Option AVal) (l : List (Nat × Operand)) : Option (List (Nat × AVal)) :=
  List.rec (motive := fun _ => Option (List (Nat × AVal))) (some []) (fun p _ ih => match ev p.2 with
    | some v => (match ih with | some r => some ((p.1, v) :: r) | none => none)
    | none => none) l

/-- A function with a body that may be entered. -/
def bodyOf (f : FuncId) : Option (Func × Code) :=
  match P.funcs[f]? with
  | some fn => if fn.name == "runtime.NumGoroutine" then none else (match fn.body with | some c => some (fn, c) | none => none)
  | none => none

/-- The element type of the slice that a function tells. -/
def noZeroElem (fn : Func) : Option TypeId :=
  match fn.resultTypes.toList with
  | [t] => match P.underlying t with
    | some (.slice e) => match sizeA P e with | some 1 => some e | _ => none
    | _ => none
  | _ => none

/-- The number in a cell. -/
def numAt (h : AHeap) (b o : Nat) (k : IntKind) : Option Int :=
  match h.get b with
  | some (.row _ _ _ _ cs) => (match cs.get o with
    | some (.int k' n) => if k' = k then some n else none
    | _ => none)
  | _ => none
def putN (h : AHeap) (b o : Nat) (k : IntKind) (n : Int) : Option AHeap := putCells h b o [.int k n]
/-- Atomic operations, and the race detector's marks, in the run of one goroutine. -/
def atomA (nm : String) (args : List AVal) (h : AHeap) : Option (AVal × AHeap) :=
  match args with
  | [] => if nm == "internal/race.Disable" || nm == "internal/race.Enable" then some (.tup [], h) else none
  | [.ptr b o] =>
    if nm == "internal/race.Acquire" || nm == "internal/race.ReleaseMerge" then some (.tup [], h)
    else if nm == "sync/atomic.LoadUint32" then (match numAt h b o .u32 with | some n => some (.int .u32 n, h) | none => none)
    else none
  | [.ptr b o, .int .u32 y] =>
    if nm == "sync/atomic.StoreUint32" then (match numAt h b o .u32 with
      | some _ => (match putN h b o .u32 y with | some h' => some (.tup [], h') | none => none)
      | none => none)
    else none
  | [.ptr b o, .int .i32 y] =>
    if nm == "sync/atomic.AddInt32" then (match numAt h b o .i32 with
      | some x => (match putN h b o .i32 (wrapF .i32 (Int.add x y)) with | some h' => some (.int .i32 (wrapF .i32 (Int.add x y)), h') | none => none)
      | none => none)
    else none
  | [.ptr b o, .int .i32 x, .int .i32 y] =>
    if nm == "sync/atomic.CompareAndSwapInt32" then (match numAt h b o .i32 with
      | some z => if eqI z x then (match putN h b o .i32 y with | some h' => some (.bool true, h') | none => none) else none
      | none => none)
    else none
  | _ => none

/-- A function without a body that the model answers itself. -/
def externA (f : FuncId) (args : List AVal) (h : AHeap) : Option ANext :=
  match P.funcs[f]? with
  | some fn =>
    if fn.body.isNone then
      match (if fn.origin == "" then atomA fn.name args h else none) with
      | some (v, h') => some (.val v h')
      | none =>
      match args with
      | [.ptr b o] => if fn.name == "internal/abi.NoEscape" && fn.origin == "" then some (.val (.ptr b o) h) else none
      | [.int .i64 (.ofNat n)] =>
        if fn.name == "internal/bytealg.MakeNoZero" && fn.origin == "" && Nat.ble n 1048576 then
          match noZeroElem P fn with
          | some e => some (.val (.slc h.next 0 n (.op 1 n)) ⟨h.next + 1, T.set (.row e n true false .leaf) h.tr h.next⟩)
          | none => none
        else none
      | [.str l m, .int .u8 (.ofNat c)] =>
        if fn.origin == "" && Nat.ble c 255 then
          if fn.name == "internal/bytealg.CountString" then some (.val (.int .i64 (.ofNat (countB l m c 0))) h)
          else if fn.name == "internal/bytealg.IndexByteString" then some (.val (.int .i64 (indexB l m c 0)) h)
          else none
        else none
      | _ => none
    else none
  | none => none

def enterA (f : FuncId) (args : List AVal) (h : AHeap) : Option ANext :=
  match bodyOf P f with
  | some _ => some (.enter (.fn f) args h)
  | none => externA P f args h

def vh : Option (AVal × AHeap) → Option ANext
  | some (v, h) => some (.val v h)
  | none => none

def v1 (h : AHeap) : Option AVal → Option ANext
  | some v => some (.val v h)
  | none => none

def h1 : Option AHeap → Option ANext
  | some h => some (.val undefA h)
  | none => none

def builtinA (h : AHeap) (rid : Nat) (b : Builtin) (ts : List TypeId) (args : List AVal) : Option ANext :=
  match b, ts, args with
  | .append, [sT, xT], [s, x] => vh (appendA P h rid sT xT s x)
  | .copy, dT :: _, [d, s] => vh (copyA P h dT d s)
  | .len, t :: _, [x] => v1 h (lenA P X.facts h t x)
  | .cap, t :: _, [x] => v1 h (capA P t x)
  | .max, _, x :: l => v1 h (maxA true x l)
  | .min, _, x :: l => v1 h (maxA false x l)
  | .delete, t :: _, [m, k] => h1 (deleteA P h t m k)
  | .clear, t :: _, [x] => h1 (clearA P h t x)
  | .unsafeSliceData, _, [x] => v1 h (sliceDataA x)
  | .unsafeString, t :: _, [x, n] => vh (unsafeStringA P h t x n)
  | .panic, _, [.iface t v] => some (.pan (.iface t v) h)
  | .recover, _, [] => some (.recover h)
  | _, _, _ => none

def callA (ev : Operand → Option AVal) (h : AHeap) (rid : Nat) (c : Call) : Option ANext :=
  match evs ev c.args.toList with
  | none => none
  | some args =>
    match c.callee with
    | .builtin b => builtinA P X h rid b c.argTypes.toList args
    | .value f =>
      match ev f with
      | some (.func f first cap) => enterA P f (first ++ args ++ cap) h
      | some (.yield b) => some (.enter (.round b) args h)
      | _ => none
    | .invoke r name =>
      match ev r with
      | some (.iface t v) => match methodA P t v name with
        | some (f, recv) => enterA P f (recv :: args) h
        | none => none
      | _ => none

def deferA (ev : Operand → Option AVal) (h : AHeap) (c : Call) : Option ANext :=
  match evs ev c.args.toList, c.callee with
  | some args, .value f =>
    match ev f with
    | some (.func f first cap) => some (.dfr ⟨f, cap, first ++ args⟩ h)
    | _ => none
  | _, _ => none

/-- What an operation does: of its operands' values, a heap and the number of the block that it may make. (A structure: the kernel keeps what an operation comes to.) -/
structure OpF where
  f : (Operand → Option AVal) → AHeap → Nat → Option ANext

def compOp (op : Op) : OpF :=
  match op with
  | .move x | .assign x => ⟨fun ev h rid => v1 h (ev x)⟩
  | .pick c a b => ⟨fun ev h rid => match ev c with | some (.bool true) => v1 h (ev a) | some (.bool false) => v1 h (ev b) | _ => none⟩
  | .alloc t => ⟨fun ev h rid => vh (allocA P h rid t)⟩
  | .box t x => ⟨fun ev h rid => match ev x with | some v => vh (boxA h rid t v) | none => none⟩
  | .build t ps => ⟨fun ev h rid => match evParts ev ps.toList with | some l => v1 h (buildA P t l) | none => none⟩
  | .buildSlice t n ps => ⟨fun ev h rid => match evParts ev ps.toList with | some l => vh (buildSliceA P h rid t n l) | none => none⟩
  | .load t a => ⟨fun ev h rid => match ev a with | some (.ptr b o) => v1 h (loadA P h t b o) | _ => none⟩
  | .store t a x => ⟨fun ev h rid => match ev a, ev x with | some (.ptr b o), some v => h1 (storeA P h t b o v) | _, _ => none⟩
  | .nilCheck x => ⟨fun ev h rid => match ev x with | some (.ptr b o) => some (.val (.ptr b o) h) | some (.func f a c) => some (.val (.func f a c) h) | some (.iface t v) => some (.val (.iface t v) h) | _ => none⟩
  | .binOp op t x y _ => ⟨fun ev h rid => match ev x, ev y with | some a, some b => v1 h (binA P X.facts op t x y a b) | _, _ => none⟩
  | .unOp op _ x => ⟨fun ev h rid => match ev x with | some a => v1 h (unA X.facts op a) | none => none⟩
  | .convert s d x => ⟨fun ev h rid => match ev x with | some a => vh (convA P X.facts h rid s d a) | none => none⟩
  | .makeInterface t x => ⟨fun ev h rid => match P.underlying t, ev x with | some (.interface _), _ => none | some _, some v => some (.val (.iface t v) h) | _, _ => none⟩
  | .makeFunc (.func f) first cap => ⟨fun ev h rid => match evs ev first.toList, evs ev cap.toList with | some a, some c => some (.val (.func f a c) h) | _, _ => none⟩
  | .makeMap t none => ⟨fun ev h rid => some (.val (.map rid) (h.put rid (.map [] 0)))⟩
  | .makeSlice t l c => ⟨fun ev h rid => match ev l, ev c with | some l, some c => vh (makeSliceA P h rid t l c) | _, _ => none⟩
  | .sliceToArrayPointer t x => ⟨fun ev h rid => match ev x with | some v => v1 h (arrayAtA P t v) | none => none⟩
  | .range t x => ⟨fun ev h rid => match ev x with | some v => vh (rangeMapA P h rid t v) | none => none⟩
  | .next x isString => ⟨fun ev h rid => match ev x with | some v => vh (nextA h v isString) | none => none⟩
  | .entry x => ⟨fun ev h rid => match ev x with | some v => v1 h (entryA h v) | none => none⟩
  | .slice t x lo hi mx => ⟨fun ev h rid => match ev x, evO ev lo, evO ev hi, evO ev mx with | some v, some lo, some hi, some mx => v1 h (sliceAtA P t v lo hi mx) | _, _, _, _ => none⟩
  | .fieldAddr t x i => ⟨fun ev h rid => match ev x with | some v => v1 h (fieldAddrA P t v i) | none => none⟩
  | .field t x i => ⟨fun ev h rid => match ev x with | some v => v1 h (fieldA P t v i) | none => none⟩
  | .indexAddr t x i => ⟨fun ev h rid => match ev x, ev i with | some v, some n => v1 h (indexAddrA P t v n) | _, _ => none⟩
  | .index t x i => ⟨fun ev h rid => match ev x, ev i with | some v, some n => v1 h (indexA P t v n) | _, _ => none⟩
  | .lookup t x k ok => ⟨fun ev h rid => match ev x, ev k with | some m, some k => v1 h (lookupA P h t m k ok) | _, _ => none⟩
  | .mapUpdate t m k v | .insert t m k v => ⟨fun ev h rid => match ev m, ev k, ev v with | some m, some k, some v => h1 (mapUpdateA P h t m k v) | _, _, _ => none⟩
  | .typeAssert x _ t ok => ⟨fun ev h rid => match ev x with | some v => v1 h (typeAssertA P v t ok) | none => none⟩
  | .extract x i => ⟨fun ev h rid => match ev x with | some (.tup vs) => v1 h (nthA vs i) | _ => none⟩
  | .call c => ⟨fun ev h rid => callA P X ev h rid c⟩
  | .defer c => ⟨fun ev h rid => deferA ev h c⟩
  | .panic x => ⟨fun ev h rid => match ev x with | some (.iface t v) => some (.pan (.iface t v) h) | _ => none⟩
  | _ => ⟨fun ev h rid => none⟩

/-- One operation. rid: the number of the block that it may make. -/
def execA (ev : Operand → Option AVal) (h : AHeap) (rid : Nat) (op : Op) : Option ANext := (compOp P X op).f ev h rid

/-- May an operation make a block? -/
def mayAlloc : Op → Bool
  | .alloc _ | .box .. | .buildSlice .. | .makeSlice .. | .makeMap .. | .range .. => true
  | .convert _ dst _ => match P.underlying dst with | some (.slice _) => true | _ => false
  | .call { callee := .builtin .append, .. } => true
  | _ => false

/-- The next operation's number. -/
def nextRid (op : Op) (rid : Nat) : Nat := match mayAlloc P op with | true => Nat.succ rid | false => rid

def ridsOf (l : List Oper) (n : Nat) : Nat :=
  List.rec (motive := fun _ => Nat → Nat) (fun n => n) (fun o _ ih n => ih (nextRid P o.op n)) l n

/-! ### Regions -/
def dstOf (ops : Array Oper) (j : Nat) : Option Nat :=
  match ops[j]? with
  | some o => o.dst
  | none => none

def wantedA (ops : Array Oper) (loc : Loc) (tm : T AVal) (o : Oper) : Option Bool :=
  match o.guard with
  | none => some true
  | some (j, want) =>
    match dstOf ops j with
    | some d => match lookL loc d tm with
      | some (.bool b) => some (b == want)
      | some (.tup []) => some false
      | _ => none
    | none => none

def pushL (dst : Option Nat) (v : AVal) (loc : Loc) : Loc :=
  match dst with
  | some d => .cons d v loc
  | none => loc

/-- A frame's state between regions. -/
structure St where
  tm : T AVal
  ds : List ADefd
  h : AHeap
  um : UM

/-- How a region is left. -/
inductive RRes where
  | ok (loc : Loc) (ds : List ADefd) (h : AHeap) (um : UM)
  | pan (v : AVal) (ds : List ADefd) (h : AHeap) (um : UM)

def recoverA : UM → AVal × UM
  | .pan v false => (v, .pan v true)
  | u => (.niface, u)

/-- How an operation is left: a value for its destination. -/
inductive ORes where
  | ok (v : AVal) (ds : List ADefd) (h : AHeap) (um : UM)
  | pan (v : AVal) (ds : List ADefd) (h : AHeap) (um : UM)

/-- An operation with the call that it makes, if it makes one. -/
def operA (call : CallF) (rd : Bool) (ev : Operand → Option AVal) (ds : List ADefd) (h : AHeap) (um : UM) (rid : Nat) (op : Op) : Option ORes :=
  match execA P X ev h rid op with
  | some (.val v h') => some (.ok v ds h' um)
  | some (.enter t args h') =>
    match call t args h' with
    | some (.ret v, h'') => some (.ok v ds h'' um)
    | some (.pan v, h'') => some (.pan v ds h'' um)
    | none => none
  | some (.pan v h') => some (.pan v ds h' um)
  | some (.dfr d h') => match rd with | true => none | false => some (.ok undefA (.call d :: ds) h' um)
  | some (.recover h') => match rd with | true => none | false => some (.ok (recoverA um).1 ds h' (recoverA um).2)
  | none => none

/-- A region's operations, from one on: of the slots that are kept, the next block's number, and the state. -/
structure RegF where
  f : T AVal → Nat → Loc → List ADefd → AHeap → UM → Option RRes

def compOps (call : CallF) (rd : Bool) (ops : Array Oper) (l : List Oper) : RegF :=
  List.rec (motive := fun _ => RegF) ⟨fun _ _ loc ds h um => some (.ok loc ds h um)⟩
    (fun o _ ih => ⟨fun tm rid loc ds h um =>
      match wantedA ops loc tm o with
      | some true =>
        match operA P X call rd (evA X loc tm) ds h um rid o.op with
        | some (.ok v ds' h' um') => ih.f tm (nextRid P o.op rid) (pushL o.dst v loc) ds' h' um'
        | some (.pan v ds' h' um') => some (.pan v ds' h' um')
        | none => none
      | some false => ih.f tm (nextRid P o.op rid) (pushL o.dst undefA loc) ds h um
      | none => none⟩) l

/-- A region's operations in their order. -/
def runOps (call : CallF) (rd : Bool) (ops : Array Oper) (tm : T AVal) (l : List Oper) (rid : Nat) (loc : Loc) (ds : List ADefd) (h : AHeap) (um : UM) : Option RRes :=
  (compOps P X call rd ops l).f tm rid loc ds h um

/-! Regions whose order is open: see the head of part D. -/
inductive Cls where
  | pure | alloc | read | eff
  deriving DecidableEq

def clsOf (P : Program) : Op → Cls
  | .move _ | .assign _ | .pick .. | .build .. | .nilCheck _ | .binOp .. | .unOp .. | .makeInterface .. | .makeFunc .. | .slice .. | .fieldAddr .. | .field ..
  | .indexAddr .. | .index .. | .typeAssert .. | .extract .. | .sliceToArrayPointer .. => .pure
  | .alloc _ | .box .. | .buildSlice .. | .makeSlice .. | .makeMap .. => .alloc
  | .load .. | .lookup .. => .read
  | .convert src dst _ =>
    match P.underlying src, P.underlying dst with
    | _, some (.int _) => .pure
    | some (.int _), some .string => .pure
    | some .string, some .string => .pure
    | some (.slice _), some .string => .read
    | some .string, some (.slice _) => .alloc
    | _, _ => .eff
  | .call { callee := .builtin .len, .. } => .read
  | .call { callee := .builtin .cap, .. } => .pure
  | .call { callee := .builtin .max, .. } => .pure
  | .call { callee := .builtin .min, .. } => .pure
  | _ => .eff

def edgeMask (T' : T Nat) (es : List Edge) : Nat :=
  match es with
  | [] => 0
  | e :: l => if Region.binds .any e then Nat.lor (Nat.lor (Nat.pow 2 e.on) ((T'.get e.on).getD 0)) (edgeMask T' l) else edgeMask T' l

/-- Each operation with the set of those that stand ahead of it in every order. -/
def planFrom : List Oper → Nat → T Nat → List (Oper × Nat)
  | [], _, _ => []
  | o :: l, i, t => (o, edgeMask t o.after.toList) :: planFrom l (Nat.succ i) (T.set (edgeMask t o.after.toList) t i)

def plan (ops : Array Oper) : List (Oper × Nat) := planFrom ops.toList 0 .leaf

def bitOf (m i : Nat) : Bool := match Nat.land (Nat.shiftRight m i) 1 with | 0 => false | _ => true

def eqCap : Cap → Cap → Bool
  | .kn a, .kn b => Nat.beq a b
  | .op a l, .op b l' => match Nat.beq a b with | true => Nat.beq l l' | false => false
  | _, _ => false

mutual
def beqV : AVal → AVal → Bool
  | .bool a, .bool b => a == b
  | .int k n, .int k' n' => decide (k = k') && eqI n n'
  | .str l m, .str l' m' => Nat.beq l l' && Nat.beq m m'
  | .ptr b o, .ptr b' o' => Nat.beq b b' && Nat.beq o o'
  | .nptr, .nptr => true
  | .slc b o n c, .slc b' o' n' c' => Nat.beq b b' && Nat.beq o o' && Nat.beq n n' && eqCap c c'
  | .nslc, .nslc => true
  | .map b, .map b' => Nat.beq b b'
  | .nmap, .nmap => true
  | .func f a c, .func f' a' c' => Nat.beq f f' && beqVs a a' && beqVs c c'
  | .yield b, .yield b' => Nat.beq b b'
  | .nfunc, .nfunc => true
  | .iface t v, .iface t' v' => Nat.beq t t' && beqV v v'
  | .niface, .niface => true
  | .agg l, .agg l' => beqVs l l'
  | .tup l, .tup l' => beqVs l l'
  | .sym i, .sym j => Nat.beq i j
  | .any, .any => true
  | _, _ => false
def beqVs : List AVal → List AVal → Bool
  | [], [] => true
  | a :: l, b :: l' => beqV a b && beqVs l l'
  | _, _ => false
end

/-- A read that was made: where in the region, what stands ahead of it, the operation, what its operands came to, its value. -/
structure Rd where
  i : Nat
  m : Nat
  op : Op
  loc : Loc
  v : AVal

/-- An effect that was done: where in the region, what stands ahead of it, and the heap ahead of it. -/
structure Sn where
  e : Nat
  m : Nat
  h : AHeap

/-- A block that was made, by an operation that may come later. -/
structure Pd where
  i : Nat
  rid : Nat
  obj : AObj

def readsAs (tm : T AVal) (h : AHeap) (r : Rd) : Bool :=
  match execA P X (evA X r.loc tm) h 0 r.op with
  | some (.val v _) => beqV v r.v
  | _ => false

def commit (m : Nat) : List Pd → AHeap → AHeap
  | [], h => h
  | p :: l, h => match bitOf m p.i with | true => (commit m l h).put p.rid p.obj | false => commit m l h

def commitAll : List Pd → AHeap → AHeap
  | [], h => h
  | p :: l, h => (commitAll l h).put p.rid p.obj

def keep (m : Nat) : List Pd → List Pd
  | [] => []
  | p :: l => match bitOf m p.i with | true => keep m l | false => p :: keep m l

/-- Does a read stand ahead of the last of the effects? -/
def ahead (r : Rd) : List Sn → Bool
  | [] => false
  | s :: _ => bitOf s.m r.i

/-- The blocks that no effect has reached so far. -/
def openAt (l : List Sn) (al : List Pd) : List Pd :=
  List.rec (motive := fun _ => List Pd) al (fun s _ ih => keep s.m ih) l

/-- Do the reads that may come after these effects and ahead of the next come to the same there? -/
def readsOk (tm : T AVal) (h : AHeap) (e : Option Nat) (l : List Sn) : List Rd → Bool
  | [] => true
  | r :: rs => ((match e with | some e => bitOf r.m e | none => false) || ahead r l || readsAs P X tm h r) && readsOk tm h e l rs

def snapsOk (tm : T AVal) (al : List Pd) (rs : List Rd) : List Sn → Bool
  | [] => true
  | s :: l => readsOk P X tm (commitAll (openAt l al) s.h) (some s.e) l rs && snapsOk tm al rs l

/-- The state of a region whose order is open. -/
structure DS where
  loc : Loc
  ds : List ADefd
  h : AHeap
  um : UM
  pend : List Pd
  al : List Pd
  snaps : List Sn
  reads : List Rd

def lastEff (m : Nat) : List Sn → Bool
  | [] => true
  | s :: _ => bitOf m s.e

/-- Do all the operations that are left come after one? -/
def allAfter (i : Nat) : List (Oper × Nat) → Bool
  | [] => true
  | om :: l => bitOf om.2 i && allAfter i l

def endDraw (tm : T AVal) (s : DS) : Option RRes :=
  match readsOk P X tm (commitAll (openAt s.snaps s.al) s.h) none s.snaps s.reads && snapsOk P X tm s.al s.reads s.snaps with
  | true => some (.ok s.loc s.ds (commitAll s.pend s.h) s.um)
  | false => none

/-! Where an effect panics: the operations behind it that need not wait for it may be done ahead of it; they are gone through too. -/
structure TlF where
  f : T AVal → Nat → Nat → DS → Option DS

def compTail (ops : Array Oper) (p : Nat) (l : List (Oper × Nat)) : TlF :=
  List.rec (motive := fun _ => TlF) ⟨fun _ _ _ s => some s⟩
    (fun om _ ih => ⟨fun tm i rid s =>
    match bitOf om.2 p with
    | true => ih.f tm (Nat.succ i) (nextRid P om.1.op rid) s
    | false =>
      match wantedA ops s.loc tm om.1 with
      | some false => ih.f tm (Nat.succ i) (nextRid P om.1.op rid) { s with loc := pushL om.1.dst undefA s.loc }
      | none => none
      | some true =>
        match clsOf P om.1.op with
        | .pure =>
          match execA P X (evA X s.loc tm) s.h 0 om.1.op with
          | some (.val v _) => ih.f tm (Nat.succ i) (nextRid P om.1.op rid) { s with loc := pushL om.1.dst v s.loc }
          | _ => none
        | .alloc =>
          match execA P X (evA X s.loc tm) s.h rid om.1.op with
          | some (.val v h') =>
            match h'.get rid with
            | some obj => ih.f tm (Nat.succ i) (nextRid P om.1.op rid) { s with loc := pushL om.1.dst v s.loc, pend := ⟨i, rid, obj⟩ :: s.pend, al := ⟨i, rid, obj⟩ :: s.al }
            | none => none
          | _ => none
        | .read =>
          match execA P X (evA X s.loc tm) (commitAll s.pend s.h) 0 om.1.op with
          | some (.val v _) => ih.f tm (Nat.succ i) (nextRid P om.1.op rid) { s with loc := pushL om.1.dst v s.loc, reads := ⟨i, om.2, om.1.op, s.loc, v⟩ :: s.reads }
          | _ => none
        | .eff => none⟩) l

/-- May an effect panic where others stand behind it? -/
def panOk (ops : Array Oper) (tm : T AVal) (i m : Nat) (tl : List (Oper × Nat)) (rid : Nat) (s : DS) : Bool :=
  match (compTail P X ops i tl).f tm (Nat.succ i) rid s with
  | some s' => snapsOk P X tm s'.al s'.reads (⟨i, m, s.h⟩ :: s.snaps)
  | none => false

structure DrF where
  f : T AVal → Nat → Nat → DS → Option RRes

/-- A region whose order is open, from one operation on: of the slots that are kept, the operation's number, the next block's, and the state. -/
def compDraw (call : CallF) (rd : Bool) (ops : Array Oper) (l : List (Oper × Nat)) : DrF :=
  List.rec (motive := fun _ => DrF) ⟨fun tm _ _ s => endDraw P X tm s⟩
    (fun om tl ih => ⟨fun tm i rid s =>
    match wantedA ops s.loc tm om.1 with
    | some false => ih.f tm (Nat.succ i) (nextRid P om.1.op rid) { s with loc := pushL om.1.dst undefA s.loc }
    | none => none
    | some true =>
      match clsOf P om.1.op with
      | .pure =>
        match execA P X (evA X s.loc tm) s.h 0 om.1.op with
        | some (.val v _) => ih.f tm (Nat.succ i) (nextRid P om.1.op rid) { s with loc := pushL om.1.dst v s.loc }
        | _ => none
      | .alloc =>
        match execA P X (evA X s.loc tm) s.h rid om.1.op with
        | some (.val v h') =>
          match h'.get rid with
          | some obj => ih.f tm (Nat.succ i) (nextRid P om.1.op rid) { s with loc := pushL om.1.dst v s.loc, pend := ⟨i, rid, obj⟩ :: s.pend, al := ⟨i, rid, obj⟩ :: s.al }
          | none => none
        | _ => none
      | .read =>
        match execA P X (evA X s.loc tm) (commitAll s.pend s.h) 0 om.1.op with
        | some (.val v _) => ih.f tm (Nat.succ i) (nextRid P om.1.op rid) { s with loc := pushL om.1.dst v s.loc, reads := ⟨i, om.2, om.1.op, s.loc, v⟩ :: s.reads }
        | _ => none
      | .eff =>
        match lastEff om.2 s.snaps with
        | false => none
        | true =>
          match operA P X call rd (evA X s.loc tm) s.ds (commit om.2 s.pend s.h) s.um rid om.1.op with
          | some (.ok v ds h um) =>
            ih.f tm (Nat.succ i) (nextRid P om.1.op rid) { loc := pushL om.1.dst v s.loc, ds, h, um, pend := keep om.2 s.pend, al := s.al, snaps := ⟨i, om.2, s.h⟩ :: s.snaps, reads := s.reads }
          | some (.pan v ds h um) =>
            match panOk P X ops tm i om.2 tl (nextRid P om.1.op rid) s with
            | true => some (.pan v ds h um)
            | false => none
          | none => none⟩) l

def runDraw (call : CallF) (rd : Bool) (ops : Array Oper) (tm : T AVal) (l : List (Oper × Nat)) (i rid : Nat) (s : DS) : Option RRes :=
  (compDraw P X call rd ops l).f tm i rid s

/-! ### Code -/
/-- A region's values in the slots that are kept. -/
def flush (l : Loc) (m : Nat) (tm : T AVal) : T AVal :=
  Loc.rec (motive := fun _ => T AVal) tm (fun s v _ ih => Bool.rec (motive := fun _ => T AVal) ih (T.set v ih s) (bitOf m s)) l

def poison : List Oper → Nat → T AVal → T AVal
  | [], _, tm => tm
  | o :: l, m, tm => match o.dst with
    | some d => (match bitOf m d with | true => T.set .any (poison l m tm) d | false => poison l m tm)
    | none => poison l m tm

inductive AExit where
  | normal
  | exit (id : Nat)
  | ret
  | pan (v : AVal)

/-- A part of code: from state to state. -/
structure CodeF where
  f : St → Option (AExit × St)

def endRegion (mask : Nat) (ops : Array Oper) (tm : T AVal) : Option RRes → Option (AExit × St)
  | some (.ok loc ds h um) => some (.normal, ⟨flush loc mask tm, ds, h, um⟩)
  | some (.pan v ds h um) => some (.pan v, ⟨poison ops.toList mask tm, ds, h, um⟩)
  | none => none

def regionA (call : CallF) (rd : Bool) (mask : Nat) (ops : Array Oper) (draw : Bool) : CodeF :=
  match draw with
  | false => ⟨fun s => endRegion mask ops s.tm (runOps P X call rd ops s.tm ops.toList s.h.next .nil s.ds ⟨ridsOf P ops.toList s.h.next, s.h.tr⟩ s.um)⟩
  | true => ⟨fun s => endRegion mask ops s.tm (runDraw P X call rd ops s.tm (plan ops) 0 s.h.next ⟨.nil, s.ds, ⟨ridsOf P ops.toList s.h.next, s.h.tr⟩, s.um, [], [], [], []⟩)⟩

def iterA (f : St → Option (AExit × St)) (k : Nat) : St → Option (AExit × St) :=
  Nat.rec (motive := fun _ => St → Option (AExit × St)) f (fun _ ih s => match ih s with
    | some (.normal, s') => ih s'
    | r => r) k

/-- The jump that a round left, as an exit. -/
def jumpA : Option Code → Option AExit
  | none => some .normal
  | some .ret => some .ret
  | some (.exit id) => some (.exit id)
  | some _ => none

/-- Entering a range over a function: the block of the deferred calls is a new one at an outermost loop. -/
def enterLoopA (rd : Option Nat) (s : St) : Option (Nat × AHeap × List ADefd) :=
  match rd with
  | none => some (s.h.next, ⟨s.h.next + 2, T.set (.defs (some [])) s.h.tr s.h.next⟩, ADefd.collected s.h.next :: s.ds)
  | some l => match s.h.get l with
    | some (.loop _ _ _ _ _ _ _ dd) => some (dd, ⟨s.h.next + 2, s.h.tr⟩, s.ds)
    | _ => none

/-- A range over a function. -/
def rangeA (call : CallF) (rd : Option Nat) (fn : FuncId) (f : Operand) (params : Array Tmp) (assign body : Code) (s : St) : Option (AExit × St) :=
  match evA X .nil s.tm f with
  | some (.func g first cap) =>
    match enterLoopA rd s with
    | some (dd, h, ds) =>
      let l := s.h.next + 1
      match bodyOf P g, call (.fn g) (first ++ [AVal.yield l] ++ cap) (h.put l (.loop .ready none fn s.tm params.toList assign body dd)) with
      | some _, some (.ret _, h') =>
        match h'.get l with
        | some (.loop st pending a b c d e f) =>
          match st with
          | .busy => none
          | _ =>
            match jumpA pending with
            | some x => some (x, ⟨s.tm, ds, h'.put l (.loop .exhausted pending a b c d e f), s.um⟩)
            | none => none
        | _ => none
      | some _, some (.pan v, h') => some (.pan v, ⟨s.tm, ds, h', s.um⟩)
      | _, _ => none
    | none => none
  | _ => none

def loopA : Option (AExit × St) → Option (AExit × St)
  | some (.normal, _) => none
  | r => r

def blockA (id : Nat) : Option (AExit × St) → Option (AExit × St)
  | some (.exit id', s') => match Nat.beq id' id with | true => some (.normal, s') | false => some (.exit id', s')
  | r => r

def compC (call : CallF) (rd : Option Nat) (mask : Nat) (fn : FuncId) (c : Code) : CodeF :=
  Code.rec (motive := fun _ => CodeF)
    ⟨fun s => some (.normal, s)⟩
    (fun _ ops draw => regionA P X call rd.isSome mask ops draw)
    (fun _ _ a b => ⟨fun s => match a.f s with
      | some (.normal, s') => b.f s'
      | r => r⟩)
    (fun c _ _ a b => ⟨fun s => match evA X .nil s.tm c with
      | some (.bool true) => a.f s
      | some (.bool false) => b.f s
      | _ => none⟩)
    (fun id _ c => ⟨fun s => blockA id (c.f s)⟩)
    (fun _ c => ⟨fun s => loopA (iterA c.f 20 s)⟩)
    (fun f params assign body _ _ => ⟨fun s => rangeA P X call rd fn f params assign body s⟩)
    (fun id => ⟨fun s => some (.exit id, s)⟩)
    (fun _ c => c)
    (fun _ => ⟨fun s => some (.normal, s)⟩)
    (fun _ => ⟨fun _ => none⟩)
    ⟨fun s => some (.ret, s)⟩
    (fun _ => ⟨fun _ => none⟩) c

def execC (call : CallF) (rd : Option Nat) (mask : Nat) (fn : FuncId) (c : Code) (s : St) : Option (AExit × St) := (compC P X call rd mask fn c).f s

/-! ### Which slots are kept from region to region -/
def readsOf : List Operand → List Nat → Nat → Nat
  | [], _, m => m
  | .tmp t :: l, w, m => if w.contains t then readsOf l w m else readsOf l w (Nat.lor m (Nat.pow 2 t))
  | _ :: l, w, m => readsOf l w m

def maskOps : List Oper → List Nat → Nat → Nat
  | [], _, m => m
  | o :: l, w, m => maskOps l (match o.dst with | some d => d :: w | none => w) (readsOf o.op.operands.toList w m)

def maskOf : Code → Nat → Nat
  | .region _ ops _, m => maskOps ops.toList [] m
  | .seq a b, m => maskOf b (maskOf a m)
  | .cond c a b, m => maskOf b (maskOf a (readsOf [c] [] m))
  | .block _ c, m => maskOf c m
  | .loop c, m => maskOf c m
  | .scope c, m => maskOf c m
  | .rangeFunc f _ a b, m => maskOf b (maskOf a (readsOf [f] [] m))
  | _, m => m

def maskRes : List ResultVar → Nat → Nat
  | [], m => m
  | .tmp t :: l, m => maskRes l (Nat.lor m (Nat.pow 2 t))
  | .cell t _ :: l, m => maskRes l (Nat.lor m (Nat.pow 2 t))

def maskF (fn : Func) (c : Code) : Nat := maskOf c (maskRes fn.results.toList 0)

def paramsA (l : List AVal) (i m : Nat) (tm : T AVal) : T AVal :=
  List.rec (motive := fun _ => Nat → T AVal → T AVal) (fun _ tm => tm) (fun v _ ih i tm => match bitOf m i with | true => ih (Nat.succ i) (T.set v tm i) | false => ih (Nat.succ i) tm) l i tm

def resultsA (h : AHeap) (tm : T AVal) : List ResultVar → Option (List AVal)
  | [] => some []
  | .tmp t :: l => match tm.get t, resultsA h tm l with | some v, some r => some (v :: r) | _, _ => none
  | .cell a t :: l => match tm.get a, resultsA h tm l with
    | some (.ptr b o), some r => (match loadA P h t b o with | some v => some (v :: r) | none => none)
    | _, _ => none

def tupA : List AVal → AVal
  | [v] => v
  | l => .tup l

/-! ### Calls -/
/-- The deferred calls, one after the other; u: how the frame is left (never 'no'). -/
def unwind (call : CallF) (callD : FuncId → List AVal → UM → AHeap → Option (AEnd × UM × AHeap)) (fn : Func) (tm : T AVal) : List ADefd → UM → AHeap → Option (AEnd × AHeap)
  | [], .ret, h => match resultsA P h tm fn.results.toList with | some l => some (.ret (tupA l), h) | none => none
  | [], .pan v false, h => some (.pan v, h)
  | [], _, _ => none
  | .collected b :: l, u, h =>
    match h.get b with
    | some (.defs (some [])) => unwind call callD fn tm l u (h.put b (.defs none))
    | _ => none
  | .call d :: l, u, h =>
    match bodyOf P d.f with
    | some _ =>
      match callD d.f (d.args ++ d.cap) u h with
      | some (.ret _, .pan _ true, h') => unwind call callD fn tm l .ret h'
      | some (.ret _, u', h') => unwind call callD fn tm l u' h'
      | some (.pan v, .ret, h') => unwind call callD fn tm l (.pan v false) h'
      | _ => none
    | none => none

def setParams : List Tmp → List AVal → Nat → Nat → T AVal → Option (T AVal)
  | [], [], _, _, tm => some tm
  | t :: ts, v :: vs, n, m, tm =>
    match bitOf m t with
    | true => match Nat.ble (Nat.succ t) n with | true => setParams ts vs n m (T.set v tm t) | false => none
    | false => setParams ts vs n m tm
  | _, _, _, _, _ => none

/-- Are there no more arguments than slots? -/
def fits (l : List AVal) (n : Nat) : Bool := Nat.ble (List.rec (motive := fun _ => Nat) 0 (fun _ _ ih => Nat.succ ih) l) n

/-- A deferred call. -/
def callD (call : CallF) (f : FuncId) (args : List AVal) (u : UM) (h : AHeap) : Option (AEnd × UM × AHeap) :=
  match bodyOf P f with
  | some (fn, c) =>
    match fits args fn.ntmps with
    | false => none
    | true =>
    match execC P X call none (maskF fn c) f c ⟨paramsA args 0 (maskF fn c) .leaf, [], h, u⟩ with
    | some (.normal, ⟨tm, [], h', u'⟩) | some (.ret, ⟨tm, [], h', u'⟩) =>
      match resultsA P h' tm fn.results.toList with | some l => some (.ret (tupA l), u', h') | none => none
    | some (.pan v, ⟨_, [], h', u'⟩) => some (.pan v, u', h')
    | _ => none
  | none => none

def roundA (call : CallF) (b : Nat) (args : List AVal) (h : AHeap) : Option (AEnd × AHeap) :=
  match h.get b with
  | some (.loop st pend f tm params assign body dd) =>
    match bodyOf P f with
    | some (fn, c) =>
      match setParams params args fn.ntmps (maskF fn c) tm with
      | some tm0 =>
        match execC P X call (some b) (maskF fn c) f assign ⟨tm0, [], h, .no⟩ with
        | some (.normal, ⟨tm1, [], h1, _⟩) =>
          match h1.get b with
          | some (.loop .ready pend f' tm' params' assign' body' dd') =>
            match execC P X call (some b) (maskF fn c) f body ⟨tm1, [], h1.put b (.loop .busy pend f' tm' params' assign' body' dd'), .no⟩ with
            | some (e, ⟨_, [], h2, _⟩) =>
              match h2.get b with
              | some (.loop _ _ f2 tm2 params2 assign2 body2 dd2) =>
                match e with
                | .normal => some (.ret (.bool true), h2.put b (.loop .ready none f2 tm2 params2 assign2 body2 dd2))
                | .ret => some (.ret (.bool false), h2.put b (.loop .done (some .ret) f2 tm2 params2 assign2 body2 dd2))
                | .exit id => some (.ret (.bool false), h2.put b (.loop .done (some (.exit id)) f2 tm2 params2 assign2 body2 dd2))
                | .pan v => some (.pan v, h2)
              | _ => none
            | _ => none
          | _ => none
        | _ => none
      | none => none
    | none => none
  | _ => none

/-- The end of a function's body. -/
def endBody (call : CallF) (fn : Func) : Option (AExit × St) → Option (AEnd × AHeap)
  | some (.normal, s) => unwind P call (callD P X call) fn s.tm s.ds .ret s.h
  | some (.ret, s) => unwind P call (callD P X call) fn s.tm s.ds .ret s.h
  | some (.pan v, s) => unwind P call (callD P X call) fn s.tm s.ds (.pan v false) s.h
  | _ => none

structure FnF where
  f : List AVal → AHeap → Option (AEnd × AHeap)

/-- A function's call. -/
def compF (call : CallF) (f : FuncId) : FnF :=
  match bodyOf P f with
  | some (fn, c) => ⟨fun args h => match fits args fn.ntmps with
    | true => endBody P X call fn (execC P X call none (maskF fn c) f c ⟨paramsA args 0 (maskF fn c) .leaf, [], h, .no⟩)
    | false => none⟩
  | none => ⟨fun _ _ => none⟩

/-- A call, to a depth; 'ext': functions whose answers are known otherwise. -/
def callN (ext : CallF) (n : Nat) : CallF :=
  Nat.rec (motive := fun _ => CallF) ext
    (fun _ ih t args h => match t with
      | .fn f => (match ext (.fn f) args h with
        | some r => some r
        | none => (compF P X ih f).f args h)
      | .round b => roundA P X ih b args h) n

def noExt : CallF := fun _ _ _ => none
end
end Go.Eng
