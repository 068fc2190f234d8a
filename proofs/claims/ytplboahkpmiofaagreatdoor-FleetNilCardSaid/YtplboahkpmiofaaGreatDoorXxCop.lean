/- From the model's code to that of the abstract machine X. -/
import Derived.Test.YtplboahkpmiofaaGreatDoorXxRun
import GoSem.Core.Region
import GoSem.Core.View
import GoSem.Op.Equal
import GoSem.Core.Layout
namespace Go.X
open Go

/-- A constant. -/
def avOf : Nat → Value → Option AV
  | 0, _ => none
  | n + 1, v => match v with
    | .bool b => some (.bool b)
    | .int k x => some (.int k x)
    | .string s => some (.str (s.data.toList.map UInt8.toNat))
    | .pointer none => some .nilptr
    | .slice none 0 0 => some .nilslice
    | .map none => some .nilmap
    | .func (.func f) first cap => do some (.func f (← first.toList.mapM (avOf n)) (← cap.toList.mapM (avOf n)))
    | .nilFunc => some .nilfunc
    | .nilIface => some .niliface
    | .agg cs => do
      let l ← cs.toList.mapM (avOf n)
      if l.all AV.one then some (.agg l) else none
    | .tuple cs => do some (.tuple (← cs.toList.mapM (avOf n)))
    | _ => none
def opnd : Operand → Option XO
  | .tmp t => some (.t (.slot t))
  | .const v => (avOf 4 v).map .c
  | .global g => some (.c (.gptr g 0))
  | .func f => some (.c (.func f [] []))
def opndO : Option Operand → Option (Option XO)
  | none => some none
  | some x => (opnd x).map some

section
variable (P : Program)
def szOf (t : TypeId) : Option Nat := (P.info? t).map (·.size)
def byOf (t : TypeId) : Option Nat := (P.info? t).map (·.bytes)
def zeroOf (t : TypeId) : Option AV := ((P.info? t).bind (·.zero)).bind (avOf 4)
def isAggT (t : TypeId) : Option Bool := (P.underlying t).map fun | .struct _ | .array .. => true | _ => false
/-- The cells of a type's zero value, if there are as many as its size says. -/
def zeroC (t : TypeId) : Option (List AV) := do
  let cs ← (← zeroOf P t).cellsO
  if szOf P t == some cs.length then some cs else none
/-- Where the fields of a struct lie, and their sizes. -/
def placesOf (fs : Array Field) : Option (List (Nat × Nat)) := fs.toList.mapM fun f => (szOf P f.type).map fun n => (f.offset, n)
/-- How a value of a type is read: one cell ('none'), or so many. -/
def aggN (t : TypeId) : Option (Option Nat) := do if ← isAggT P t then some (some (← szOf P t)) else some none
def elemS (t : TypeId) : Option TypeId := match P.underlying t with | some (.slice e) => some e | _ => none
def elemP (t : TypeId) : Option TypeId := match P.underlying t with | some (.pointer e) => some e | _ => none
def keyT (t : TypeId) : Option Bool := match P.underlying t with
  | some (.map k _) => (match P.underlying k with | some (.int _) => some false | some .string => some true | _ => none)
  | _ => none
def mapElem (t : TypeId) : Option TypeId := match P.underlying t with | some (.map _ e) => some e | _ => none
def fieldOf (t : TypeId) (f : Nat) : Option Field := match P.underlying t with | some (.struct fs) => fs[f]? | _ => none

def binK : BinOp → Option XB
  | .add => some .add | .sub => some .sub | .mul => some .mul | .quo => some .quo | .rem => some .rem
  | .and => some .and | .or => some .or | .xor => some .xor | .andNot => some .andNot | .shl => some .shl | .shr => some .shr
  | .eql => some .eq | .neq => some .ne | .lss => some .lt | .leq => some .le | .gtr => some .gt | .geq => some .ge
def plainK (t : TypeId) : Option SK := match P.underlying t with | some .bool => some .bool | some (.int _) => some .int | some .string => some .str | _ => none
/-- The cells that an equality of a struct or an array of plain parts looks at. -/
def maskFs : List Field → Nat → Option (List (Option SK))
  | [], _ => some []
  | f :: fs, i => if f.offset == i then do
      let k ← plainK P f.type
      let r ← maskFs fs (i + 1)
      some ((if f.name == "_" then none else some k) :: r)
    else none
def maskOf (t : TypeId) : Option (List (Option SK)) := match P.underlying t with
  | some (.struct fs) => if P.stoodInHeld t || P.eqGuardType P.depth t then none else maskFs P fs.toList 0
  | some (.array n e) => if P.stoodInHeld t || P.eqGuardType P.depth t then none else (plainK P e).map fun k => List.replicate n (some k)
  | _ => none
def isNilC : Operand → Bool
  | .const .nilIface => true
  | _ => false
def eqOp (op : BinOp) (k : SK) (a b : XO) : Option XI := match op with
  | .eql => some (.same false k a b)
  | .neq => some (.same true k a b)
  | _ => none
def copArrEq (op : BinOp) (t e : TypeId) (a b : XO) : Option XI := match szOf P e == some 1, op with
  | true, .eql => (maskOf P t).map fun m => .sameCells false m a b
  | true, .neq => (maskOf P t).map fun m => .sameCells true m a b
  | _, _ => none
def copBin (op : BinOp) (t : TypeId) (x y : Operand) : Option XI := do
  let a ← opnd x
  let b ← opnd y
  match P.underlying t with
  | some (.int _) | some .string => some (.bin (← binK op) a b)
  | some (.struct _) => match op with
    | .eql => some (.sameCells false (← maskOf P t) a b)
    | .neq => some (.sameCells true (← maskOf P t) a b)
    | _ => none
  | some (.array _ e) => copArrEq P op t e a b
  | some (.interface _) => if isNilC x || isNilC y then eqOp op .iface a b else none
  | some (.pointer e) => match szOf P e with | some (_ + 1) => eqOp op .ptr a b | _ => none
  | some .bool => eqOp op .bool a b
  | some (.slice _) => eqOp op .slice a b
  | some (.map ..) => eqOp op .map a b
  | some (.func ..) => eqOp op .func a b
  | _ => none
def copParts (place : Nat → Option (Nat × Nat)) : List (Nat × Operand) → Option (List (Nat × Nat × XO))
  | [] => some []
  | (i, x) :: ps => do
    let (off, n) ← place i
    some ((off, n, ← opnd x) :: (← copParts place ps))
def isU8 (t : TypeId) : Bool := match P.underlying t with | some (.int .u8) => true | _ => false
def copConv (src dst : TypeId) (x : Operand) : Option XI := do
  let a ← opnd x
  match P.underlying src, P.underlying dst with
  | some (.int _), some (.int k) => some (.conv k a)
  | some .string, some .string => some (.cutStr a none none)
  | some .string, some (.slice e) => if isU8 P e then some (.toBytes e a) else none
  | some (.slice e), some .string => if isU8 P e then some (.toStr a) else none
  | some (.slice _), some (.slice e) => if src == dst && isU8 P e then some (.mark a) else none
  | some (.pointer t), some .unsafePointer => match szOf P t with | some (n + 1) => some (.uptr t (n + 1) a) | _ => none
  | some .unsafePointer, some (.pointer t) => match szOf P t with | some (n + 1) => some (.ptru t (n + 1) a) | _ => none
  | _, _ => none
def copBuiltin (rnd : Bool) (b : Builtin) (ts : Array TypeId) (args : Array Operand) : Option XC := do
  let xs ← args.toList.mapM opnd
  match b, xs with
  | .len, [a] => do
    let t ← ts[0]?
    match P.underlying t with
    | some .string => some (.ins (.len true a))
    | some (.slice _) => some (.ins (.len false a))
    | some (.array n _) => some (.ins (.lenC n))
    | some (.map ..) => some (.ins (.lenM a))
    | some (.pointer e) => match P.underlying e with | some (.array n _) => some (.ins (.lenC n)) | _ => none
    | _ => none
  | .cap, [a] => do
    match P.underlying (← ts[0]?) with
    | some (.slice _) => some (.ins (.cap a))
    | _ => none
  | .min, l => if l.isEmpty then none else some (.ins (.minmax false l))
  | .max, l => if l.isEmpty then none else some (.ins (.minmax true l))
  | .append, [s, x] => do
    let e ← elemS P (← ts[0]?)
    match P.underlying (← ts[1]?) with
    | some (.int _) => some (.ins (.appendZ e (← byOf P e) (← zeroC P e) s x))
    | some (.slice _) | some .string => do
      let _ ← zeroC P e
      some (.ins (.append e (← szOf P e) (← byOf P e) s x))
    | _ => none
  | .copy, [d, s] => do some (.ins (.copy (← szOf P (← elemS P (← ts[0]?))) d s))
  | .delete, [m, k] => do
    let s ← keyT P (← ts[0]?)
    some (.ins (.delete s m k))
  | .clear, [a] => do
    match P.underlying (← ts[0]?) with
    | some (.map ..) => some (.ins (.clearM a))
    | some (.slice e) => some (.ins (.clearS (← zeroC P e) a))
    | _ => none
  | .panic, [a] => some (.panic a)
  | .recover, [] => if rnd then none else some .recover
  | .unsafeString, [a, n] => do
    let e ← elemP P (← ts[0]?)
    if szOf P e == some 1 && isU8 P e then some (.ins (.ustring e a n)) else none
  | .unsafeSliceData, [a] => some (.ins (.sdata a))
  | _, _ => none
/-- A call of one of the library's functions without a body. -/
def copExt (fn : Func) (xs : List XO) : Option XC :=
  if fn.origin != "" then none else
  if fn.name == "internal/abi.NoEscape" then (match xs with | [a] => some (.ins (.mv a)) | _ => none)
  else if fn.name == "internal/bytealg.MakeNoZero" then (match xs, fn.resultTypes.toList with | [a], [t] => (elemS P t).map fun e => .ins (.mkbytes e a) | _, _ => none)
  else if fn.name == "internal/bytealg.abigen_runtime_cmpstring" then (match xs with | [a, b] => some (.ins (.cmpstr a b)) | _ => none)
  else none
def copOpO (rnd : Bool) (o : Oper) : Option XC := match o.op with
  | .move x | .assign x => do some (.ins (.mv (← opnd x)))
  | .pick c a b => do some (.ins (.pick (← opnd c) (← opnd a) (← opnd b)))
  | .alloc e => do some (.ins (.alloc e (← zeroC P e)))
  | .box e x => do some (.ins (.box e (← opnd x)))
  | .build t parts => do
    let z ← zeroC P t
    match P.underlying t with
    | some (.struct fs) => do
      let ps ← placesOf P fs
      some (.ins (.build z (← copParts (fun i => ps[i]?) parts.toList)))
    | some (.array _ e) => do
      let n ← szOf P e
      some (.ins (.build z (← copParts (fun i => some (i * n, n)) parts.toList)))
    | _ => none
  | .buildSlice t len parts => do
    let e ← elemS P t
    let n ← szOf P e
    if len * n > 2 ^ 24 then none else
    some (.ins (.bslice e n len (repeatL len (← zeroC P e)) (← copParts (fun i => some (i * n, n)) parts.toList)))
  | .load t a => do some (.ins (.load (← aggN P t) (← opnd a)))
  | .store t a x => do some (.ins (.store (← szOf P t) (← opnd a) (← opnd x)))
  | .nilCheck x => do some (.ins (.nilck (← opnd x)))
  | .binOp op t x y _ => do some (.ins (← copBin P op t x y))
  | .unOp .neg _ x => do some (.ins (.un .neg (← opnd x)))
  | .unOp .xor _ x => do some (.ins (.un .xor (← opnd x)))
  | .unOp .not _ x => do some (.ins (.un .not (← opnd x)))
  | .convert src dst x => do some (.ins (← copConv P src dst x))
  | .makeInterface t x => do
    match P.underlying t with
    | some (.interface _) | none => none
    | some _ => some (.ins (.mkif t (← opnd x)))
  | .makeFunc (.func f) first cap => do some (.ins (.mkfn f (← first.toList.mapM opnd) (← cap.toList.mapM opnd)))
  | .makeMap t none => do
    let _ ← keyT P t
    some (.ins .mkmap)
  | .makeSlice t l c => do
    let e ← elemS P t
    some (.ins (.mkslice e (← byOf P e) (← zeroC P e) (← opnd l) (← opnd c)))
  | .slice t x lo hi mx => do
    let a ← opnd x
    let l ← opndO lo
    let h ← opndO hi
    let m ← opndO mx
    if m.isSome && h.isNone then none else
    match P.underlying t with
    | some .string => if m.isSome then none else some (.ins (.cutStr a l h))
    | some (.slice e) => some (.ins (.cutSl (← szOf P e) a l h m))
    | some (.array n e) => some (.ins (.cutArr n (← szOf P e) a l h m))
    | _ => none
  | .fieldAddr t x f => do
    let f ← fieldOf P t f
    match szOf P f.type with
    | some (_ + 1) => some (.ins (.faddr f.offset (← opnd x)))
    | _ => none
  | .field t x f => do
    let f ← fieldOf P t f
    some (.ins (.fld f.offset (← aggN P f.type) (← opnd x)))
  | .indexAddr t x i => do
    match P.underlying t with
    | some (.array n e) => some (.ins (.iaddrA n (← szOf P e) (← opnd x) (← opnd i)))
    | some (.slice e) => some (.ins (.iaddrS (← szOf P e) (← opnd x) (← opnd i)))
    | _ => none
  | .index t x i => do
    match P.underlying t with
    | some (.array n e) => some (.ins (.idxA n (← szOf P e) (← aggN P e) (← opnd x) (← opnd i)))
    | some .string => some (.ins (.idxS (← opnd x) (← opnd i)))
    | _ => none
  | .lookup t x i ok => do
    let s ← keyT P t
    some (.ins (.lookup s (← zeroOf P (← mapElem P t)) ok (← opnd x) (← opnd i)))
  | .mapUpdate t m k x | .insert t m k x => do
    let s ← keyT P t
    some (.ins (.mapUpd s (← opnd m) (← opnd k) (← opnd x)))
  | .mapEntry t m k => do
    let s ← keyT P t
    some (.ins (.mapEntry s (← zeroOf P (← mapElem P t)) (← opnd m) (← opnd k)))
  | .entryStore _ m s x => do some (.ins (.entryStore (← opnd m) (← opnd s) (← opnd x)))
  | .range t x => do
    match P.underlying t with
    | some .string => some (.ins (.range true (← opnd x)))
    | some (.map ..) => some (.ins (.range false (← opnd x)))
    | _ => none
  | .next it s => do some (.ins (.next s (← opnd it)))
  | .entry it => do some (.ins (.entry (← opnd it)))
  | .typeAssert x _ t ok => do
    match P.underlying t with
    | some (.interface _) | none => none
    | some _ => some (.ins (.tas t (← zeroOf P t) ok (← opnd x)))
  | .extract x i => do some (.ins (.extr (← opnd x) i))
  | .call c => match c.callee with
    | .value (.func f) => do
      let xs ← c.args.toList.mapM opnd
      let fn ← P.funcs[f]?
      match fn.body with
      | some _ => some (.call f xs)
      | none => copExt P fn xs
    | .value f => do some (.callv (← opnd f) (← c.args.toList.mapM opnd))
    | .invoke r n => do some (.invoke (← opnd r) n (← c.args.toList.mapM opnd))
    | .builtin b => copBuiltin P rnd b c.argTypes c.args
  | .defer c => match c.callee with
    | .value f => if rnd then none else do some (.defer (← opnd f) (← c.args.toList.mapM opnd))
    | _ => none
  | .panic x => do some (.panic (← opnd x))
  | _ => none
/-- An operation that is not covered: it must not be reached. -/
def copOp (rnd : Bool) (o : Oper) : XC := match copOpO P rnd o with | some x => x | none => .ins .no
def guardOf (ops : Array Oper) : Option (Nat × Bool) → Option (Option (Slot × Bool))
  | none => some none
  | some (j, b) => do
    let d ← (← ops[j]?).dst
    some (some (.slot d, b))
def badOp : XOp := ⟨none, none, .ins .no⟩
def dstBad (n : Nat) : Option Tmp → Bool
  | some d => Nat.ble n d
  | none => false
def copOper (n : Nat) (rnd : Bool) (ops : Array Oper) (o : Oper) : XOp := match dstBad n o.dst, guardOf ops o.guard with
  | false, some g => { dst := o.dst.map .slot, guard := g, op := copOp P rnd o }
  | _, _ => badOp

/-- The kinds of operations, for regions whose order is open: 0: it looks at its operands alone · 1: it reads memory · 2: it makes a block · 3: all others. -/
def kindOf : XC → Nat
  | .ins i => match i with
    | .mv _ | .pick .. | .nilck _ | .bin .. | .same .. | .sameCells .. | .un .. | .conv .. | .mkif .. | .mkfn .. | .fld .. | .faddr .. | .iaddrA .. | .iaddrS .. | .idxA .. | .idxS .. | .cutStr .. | .cutArr .. | .extr ..
    | .tas .. | .len .. | .lenC _ | .cap _ | .minmax .. | .build .. | .sdata _ => 0
    | .cutSl .. | .load .. | .lookup .. | .lenM _ | .toStr _ | .entry _ => 1
    | .alloc .. | .box .. | .bslice .. | .mkmap | .mkslice .. => 2
    | _ => 3
  | _ => 3
/-! ### regions whose order is open -/
/-- The operations ahead of which an operation must not be. -/
def depsOf (o : Oper) : List Nat := (o.after.toList.filter (Region.binds .any)).map (·.on)
/-- Sets of operations, as numbers in binary. -/
def maskOfL : List Nat → Nat
  | [] => 0
  | i :: l => Nat.lor (2 ^ i) (maskOfL l)
def subM (a b : Nat) : Bool := Nat.beq (Nat.land a b) a
/-- One operation of such a region: its number, its form, what it waits for, all that is ahead of it, whether it is loud. -/
structure RO where
  i : Nat
  x : XOp
  deps : Nat
  bef : Nat
  loud : Bool
/-- The next quiet operation that can go; the next loud one. -/
def pickQ (can : Nat) : List RO → Option RO
  | [] => none
  | r :: l => match r.loud, Nat.testBit can r.i, subM r.deps can with
    | false, false, true => some r
    | _, _, _ => pickQ can l
def pickL (can : Nat) : List RO → Option RO
  | [] => none
  | r :: l => match r.loud, Nat.testBit can r.i, subM r.deps can with
    | true, false, true => some r
    | _, _, _ => pickL can l
/-- The quiet operations that can go, one after the other; and the set then. -/
def quietsOf (l : List RO) : Nat → Nat → List RO × Nat
  | 0, can => ([], can)
  | n + 1, can => match pickQ can l with
    | some r => match quietsOf l n (Nat.lor can (2 ^ r.i)) with | (rs, c) => (r :: rs, c)
    | none => ([], can)
/-- Those done that may still be ahead: 'past': what is ahead of some loud operation done. -/
def pendOf (can past : Nat) : List RO → List RO
  | [] => []
  | r :: l => match r.loud, Nat.testBit can r.i, Nat.testBit past r.i with
    | false, true, false => r :: pendOf can past l
    | _, _, _ => pendOf can past l
def xsOf : List RO → List XOp
  | [] => []
  | r :: l => r.x :: xsOf l
def storeOf (o : XOp) : Option (Nat × XO × XO) := match o.dst, o.guard, o.op with
  | none, none, .ins (.store n a x) => some (n, a, x)
  | _, _, _ => none
/-- A loud operation that might as well come ahead of the next one. -/
def pairOf (can : Nat) (r : RO) (l : List RO) : Option RO := match pickL (Nat.lor can (2 ^ r.i)) l with
  | none => none
  | some q => match Nat.testBit q.bef r.i, subM q.deps can with
    | false, true => some q
    | _, _ => none
def mkPair (l qs : List RO) (can past louds : Nat) (r q : RO) (rest : Option XCode) : Option XCode := match storeOf r.x, storeOf q.x, subM louds r.bef, subM louds q.bef with
  | some (n1, a1, x1), some (n2, a2, x2), true, true => (match pickQ (Nat.lor can (2 ^ r.i)) l, pickQ (Nat.lor can (2 ^ q.i)) l, rest with
    | none, none, some c => some (.pair (xsOf qs) (xsOf (pendOf can past l)) n1 a1 x1 (xsOf (pendOf (Nat.lor can (2 ^ r.i)) (Nat.lor past r.bef) l)) n2 a2 x2 (xsOf (pendOf (Nat.lor can (2 ^ q.i)) (Nat.lor past q.bef) l)) c)
    | _, _, _ => none)
  | _, _, _, _ => none
/-- 'louds': the loud operations done. The loud ones are in one order, but for pairs of stores; nothing is left over. -/
def mkPhases (l : List RO) (all : Nat) : Nat → Nat → Nat → Nat → Option XCode
  | 0, _, _, _ => none
  | n + 1, can, past, louds => match quietsOf l (n + 1) can with
    | (qs, can) => match pickQ can l with
      | some _ => none
      | none => match pickL can l with
        | some r => match pairOf can r l with
          | some q => mkPair l qs can past louds r q (mkPhases l all n (Nat.lor (Nat.lor can (2 ^ r.i)) (2 ^ q.i)) (Nat.lor (Nat.lor past r.bef) q.bef) (Nat.lor (Nat.lor louds (2 ^ r.i)) (2 ^ q.i)))
          | none => match subM louds r.bef, mkPhases l all n (Nat.lor can (2 ^ r.i)) (Nat.lor past r.bef) (Nat.lor louds (2 ^ r.i)) with
            | true, some c => some (.phase (xsOf qs) (xsOf (pendOf can past l)) r.x c)
            | _, _ => none
        | none => match Nat.beq can all with
          | true => some (.last (xsOf qs) (xsOf (pendOf can past l)))
          | false => none
def hasS (d : Slot) : List Slot → Bool
  | [] => false
  | u :: l => match d.beq u with | true => true | false => hasS d l
/-- Is an operation about a temporary? -/
def aboutS (d : Slot) (o : XOp) : Bool := match (match o.dst with | some e => d.beq e | none => false) with | true => true | false => hasS d o.names
/-- No two operations are about one temporary but in one order, the writer first; or the reader first, and the writer is loud. -/
def apart1 (d : Slot) (r : RO) : List RO → Bool
  | [] => true
  | q :: l => match Nat.beq r.i q.i, aboutS d q.x, Nat.testBit q.bef r.i, r.loud, Nat.testBit r.bef q.i with
    | true, _, _, _, _ => apart1 d r l
    | _, false, _, _, _ => apart1 d r l
    | _, _, true, _, _ => apart1 d r l
    | _, _, _, true, true => apart1 d r l
    | _, _, _, _, _ => false
/-- A quiet operation does not read what it writes. -/
def selfOk (d : Slot) (r : RO) : Bool := match r.loud, hasS d r.x.names with
  | false, true => false
  | _, _ => true
def apartAll (all : List RO) : List RO → Bool
  | [] => true
  | r :: l => match r.x.dst with
    | none => apartAll all l
    | some d => match apart1 d r all, selfOk d r with | true, true => apartAll all l | _, _ => false
/-- What is ahead of an operation is what it waits for, and what is ahead of that; all of it comes earlier in the text. -/
def orBefs (m : Nat) : List RO → Nat
  | [] => 0
  | q :: l => match Nat.testBit m q.i with | true => Nat.lor q.bef (orBefs m l) | false => orBefs m l
def befsOk (all : List RO) : List RO → Bool
  | [] => true
  | r :: l => match Nat.blt r.deps (2 ^ r.i), subM r.bef (Nat.lor r.deps (orBefs r.deps all)) with
    | true, true => befsOk all l
    | _, _ => false
def lateOf (n : Nat) (rnd : Bool) (ops : Array Oper) (i bef : Nat) (d : Option Slot) : Bool := match d with
  | none => false
  | some d => (List.range ops.size).any fun j => Nat.testBit bef j && ((ops[j]?).map fun o => aboutS d (copOper P n rnd ops o)) == some true && j != i
def roOf (n : Nat) (rnd : Bool) (ops : Array Oper) (b : Array Nat) (i : Nat) (o : Oper) : RO :=
  let x := copOper P n rnd ops o
  -- what writes a temporary that others name ahead of it goes with the loud ones
  { i, x, deps := maskOfL (depsOf o), bef := b.getD i 0, loud := match Nat.ble 3 (kindOf x.op) with | true => true | false => lateOf P n rnd ops i (b.getD i 0) x.dst }
def rosFrom (n : Nat) (rnd : Bool) (ops : Array Oper) (b : Array Nat) : Nat → List Oper → List RO
  | _, [] => []
  | i, o :: l => roOf P n rnd ops b i o :: rosFrom n rnd ops b (i + 1) l
def rosOf (n : Nat) (rnd : Bool) (ops : Array Oper) : List RO := rosFrom P n rnd ops (Region.before ops) 0 ops.toList
def copDraw (n : Nat) (rnd : Bool) (ops : Array Oper) : XCode :=
  match apartAll (rosOf P n rnd ops) (rosOf P n rnd ops), befsOk (rosOf P n rnd ops) (rosOf P n rnd ops), mkPhases (rosOf P n rnd ops) (2 ^ ops.size - 1) (ops.size + 1) 0 0 0 with
  | true, true, some c => c
  | _, _, _ => .reg [badOp]
def copRegion (n : Nat) (rnd : Bool) (ops : Array Oper) (draw : Bool) : XCode := match draw with
  | false => .reg (ops.toList.map (copOper P n rnd ops))
  | true => copDraw P n rnd ops
def badCode : XCode := .reg [badOp]
def cop (n : Nat) : Bool → Code → XCode
  | _, .skip => .skip
  | rnd, .region _ ops draw => copRegion P n rnd ops draw
  | rnd, .seq a b => .seq (cop n rnd a) (cop n rnd b)
  | rnd, .cond c a b => match opnd c with | some c => .cond c (cop n rnd a) (cop n rnd b) | none => badCode
  | rnd, .block id b => .block id (cop n rnd b)
  | rnd, .loop b => .loop (cop n rnd b)
  | rnd, .rangeFunc f ps a b => match opnd f, rnd || ps.toList.any (Nat.ble n ·) with
    | some f, false => .rfunc f (ps.toList.map .slot) n a b
    | _, _ => badCode
  | _, .exit id => .exit id
  | _, .ret => .ret
  | _, _ => badCode
def copRes : ResultVar → Option XRes
  | .tmp t => some (.tmp (.slot t))
  | .cell a t => do some (.cell (.slot a) (← aggN P t))
def copFun (fn : Func) : Option XFun := if fn.name == "runtime.NumGoroutine" then none else match fn.body, fn.results.toList.mapM (copRes P) with
  | some c, some rs => some (.code (cop P fn.ntmps false c) rs)
  | _, _ => none
end
end Go.X
