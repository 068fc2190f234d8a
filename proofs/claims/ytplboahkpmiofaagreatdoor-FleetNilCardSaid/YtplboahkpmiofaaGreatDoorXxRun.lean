/- The abstract machine X: regions, code, calls; by recursors and with continuations: the form that the kernel runs quickly. -/
import Derived.Test.YtplboahkpmiofaaGreatDoorXxFast
namespace Go.X
open Go

/-! ### what operations look at -/
def optL : Option XO → List XO
  | none => []
  | some x => [x]
def partsL : List (Nat × Nat × XO) → List XO
  | [] => []
  | (_, _, x) :: l => x :: partsL l
/-- The operands of an instruction. -/
def XI.ops : XI → List XO
  | .mv a => [a] | .pick c a b => [c, a, b] | .nilck a => [a] | .bin _ x y => [x, y] | .same _ _ x y => [x, y] | .sameCells _ _ x y => [x, y] | .un _ a => [a] | .conv _ a => [a] | .mkif _ a => [a]
  | .mkfn _ f c => f ++ c | .fld _ _ a => [a] | .faddr _ a => [a] | .iaddrA _ _ a i => [a, i] | .iaddrS _ a i => [a, i] | .idxA _ _ _ a i => [a, i] | .idxS a i => [a, i]
  | .cutStr a lo hi => a :: (optL lo ++ optL hi) | .cutSl _ a lo hi mx => a :: (optL lo ++ (optL hi ++ optL mx)) | .cutArr _ _ a lo hi mx => a :: (optL lo ++ (optL hi ++ optL mx))
  | .extr a _ => [a] | .tas _ _ _ a => [a] | .len _ a => [a] | .lenC _ => [] | .cap a => [a] | .minmax _ l => l | .build _ ps => partsL ps | .load _ a => [a] | .lookup _ _ _ m k => [m, k] | .lenM m => [m] | .toStr a => [a]
  | .alloc _ _ => [] | .box _ a => [a] | .bslice _ _ _ _ ps => partsL ps | .mkmap => [] | .mkslice _ _ _ l c => [l, c] | .toBytes _ a => [a] | .mark a => [a] | .store _ a x => [a, x] | .append _ _ _ s x => [s, x] | .appendZ _ _ _ s n => [s, n]
  | .copy _ d s => [d, s] | .delete _ m k => [m, k] | .clearM m => [m] | .clearS _ s => [s] | .mapUpd _ m k v => [m, k, v] | .mapEntry _ _ m k => [m, k] | .entryStore m s v => [m, s, v] | .range _ a => [a] | .next _ a => [a]
  | .entry a => [a] | .uptr _ _ a => [a] | .ptru _ _ a => [a] | .ustring _ a n => [a, n] | .sdata a => [a] | .cmpstr a b => [a, b] | .mkbytes _ n => [n] | .no => []
def XC.ops : XC → List XO
  | .ins i => i.ops
  | .call _ xs => xs
  | .callv f xs => f :: xs
  | .invoke r _ xs => r :: xs
  | .defer f xs => f :: xs
  | .recover => []
  | .panic a => [a]
def slotsOf : List XO → List Slot
  | [] => []
  | x :: l => match x with | .t p => p :: slotsOf l | .c _ => slotsOf l
/-- The temporaries that an operation reads. -/
def XOp.names (o : XOp) : List Slot := match o.guard with | some (p, _) => p :: slotsOf o.op.ops | none => slotsOf o.op.ops

/-! ### equality of values (for the checks of regions whose order is open) -/
def beqPosO : Pos → Nat → Pos → Nat → Bool
  | p, o, q, r => match p.beq q with | true => Nat.beq o r | false => false
def beqCap : Cap → Cap → Bool
  | .up a, .up b => Nat.beq a b
  | .ex a, .ex b => Nat.beq a b
  | _, _ => false
def beqB : Bool → Bool → Bool
  | true, b => b
  | false, b => match b with | true => false | false => true
mutual
def AV.beq : AV → AV → Bool
  | .bool a, w => match w with | .bool b => beqB a b | _ => false
  | .int k a, w => match w with | .int k' b => (match sameK k k' with | true => eqI a b | false => false) | _ => false
  | .str a, w => match w with | .str b => beqN a b | _ => false
  | .nilptr, w => match w with | .nilptr => true | _ => false
  | .ptr p o, w => match w with | .ptr q r => beqPosO p o q r | _ => false
  | .gptr p o, w => match w with | .gptr q r => (match Nat.beq p q with | true => Nat.beq o r | false => false) | _ => false
  | .iptr cs, w => match w with | .iptr ds => AV.beqs cs ds | _ => false
  | .nilslice, w => match w with | .nilslice => true | _ => false
  | .slice p o l c, w => match w with | .slice q r l' c' => (match beqPosO p o q r, Nat.beq l l' with | true, true => beqCap c c' | _, _ => false) | _ => false
  | .imm cs l f, w => match w with | .imm ds l' f' => (match Nat.beq l l', beqB f f' with | true, true => AV.beqs cs ds | _, _ => false) | _ => false
  | .nilmap, w => match w with | .nilmap => true | _ => false
  | .map p, w => match w with | .map q => p.beq q | _ => false
  | .nilfunc, w => match w with | .nilfunc => true | _ => false
  | .func f a b, w => match w with | .func g c d => (match Nat.beq f g with | true => (match AV.beqs a c with | true => AV.beqs b d | false => false) | false => false) | _ => false
  | .niliface, w => match w with | .niliface => true | _ => false
  | .iface t v, w => match w with | .iface u x => (match Nat.beq t u with | true => AV.beq v x | false => false) | _ => false
  | .agg cs, w => match w with | .agg ds => AV.beqs cs ds | _ => false
  | .tuple cs, w => match w with | .tuple ds => AV.beqs cs ds | _ => false
  | .any, w => match w with | .any => true | _ => false
  | .yield l, w => match w with | .yield m => l.beq m | _ => false
def AV.beqs : List AV → List AV → Bool
  | [], l => match l with | [] => true | _ :: _ => false
  | a :: as, l => match l with | [] => false | b :: bs => match AV.beq a b with | true => AV.beqs as bs | false => false
end

def beqEs : List (AV × AV × Nat) → List (AV × AV × Nat) → Bool
  | [], l => match l with | [] => true | _ :: _ => false
  | e :: es, l => match l with
    | [] => false
    | f :: fs => match AV.beq e.1 f.1, AV.beq e.2.1 f.2.1, Nat.beq e.2.2 f.2.2 with
      | true, true, true => beqEs es fs
      | _, _, _ => false
def beqObj : AObj → AObj → Bool
  | .row ty cs sp, .row ty' cs' sp' => (match Nat.beq ty ty', beqB sp sp' with | true, true => AV.beqs cs cs' | _, _ => false)
  | .map es cl, .map es' cl' => (match Nat.beq cl cl' with | true => beqEs es es' | false => false)
  | _, _ => false

/-- What a call comes to, from a heap with these blocks ('pre'): 'post' are the blocks that it turns or makes. 'exact': where the next block is 'n0' alone, and then 'n1'; else wherever that is, and no new blocks are kept. -/
structure Ent where
  args : List AV
  exact : Bool
  n0 : Pos
  pre : List (Pos × AObj)
  post : List (Pos × AObj)
  n1 : Pos
  v : AV
/-- Tables of what a function comes to, by keys. -/
inductive Tab where
  | leaf
  | node (key : Nat) (es : List Ent) (l r : Tab)

abbrev Dfd := AV × List AV

/-- A result variable: a temporary, or a cell ('n': how many, of a value with cells). -/
inductive XRes where
  | tmp (p : Slot)
  | cell (p : Slot) (n : Option Nat)
  deriving Inhabited

/-- A function: its body, its results. 'orc': what is known of it ('t': what some calls come to); else its body. -/
inductive XFun where
  | code (body : XCode) (res : List XRes)
  | orc (t : Tab) (body : XCode) (res : List XRes)

structure XEnv where
  fn : FuncId → Option XFun
  cop : Nat → Code → XCode
  meth : TypeId → String → Option FuncId

/-- What 'recover' finds: 'off': no panic to recover; 'on': this one. -/
inductive Pan where
  | off | on (v : AV)
  deriving Inhabited

noncomputable section
abbrev KS := Tm → List Dfd → Pan → Heap → R
abbrev KP := AV → Tm → List Dfd → Pan → Heap → R
abbrev KE := XExit → KS
abbrev KC := AV → Pan → Heap → R
abbrev CallK := AV → List AV → Pan → Heap → KC → KC → R

section
variable (E : XEnv)

def putF (d : Option Slot) (v : AV) (tm : Tm) (k : Tm → R) : R := Option.rec (motive := fun _ => R) (k tm) (fun p => setF tm p v k) d
/-- Is a guarded operation wanted? -/
def wantF (g : Option (Slot × Bool)) (tm : Tm) (k : Bool → R) : R := Option.rec (motive := fun _ => R) (k true) (fun q => Prod.rec (motive := fun _ => R) (fun p b => getF tm p fun v => wantV v b k) q) g
def callF (f : AV) (vs : List AV) (call : CallK) (d : Option Slot) (tm : Tm) (ds : List Dfd) (pan : Pan) (h : Heap) (k : KS) (kp : KP) : R :=
  call f vs .off h (fun v _ h => putF d v tm fun tm => k tm ds pan h) (fun v _ h => kp v tm ds pan h)
def opF (o : XC) : CallK → Option Slot → Tm → List Dfd → Pan → Heap → KS → KP → R := XC.rec (motive := fun _ => CallK → Option Slot → Tm → List Dfd → Pan → Heap → KS → KP → R)
  (fun i _ d tm ds pan h k _ => semF i tm h fun v h => putF d v tm fun tm => k tm ds pan h)
  (fun f args call d tm ds pan h k kp => withLF args tm fun vs => callF (.func f [] []) vs call d tm ds pan h k kp)
  (fun f args call d tm ds pan h k kp => withF f tm fun fv => withLF args tm fun vs => callF fv vs call d tm ds pan h k kp)
  (fun r name args call d tm ds pan h k kp => withF r tm fun rv => withLF args tm fun vs => kIface rv fun t v => Option.rec (motive := fun _ => R) .bad (fun f => callF (.func f [] []) (v :: vs) call d tm ds pan h k kp) (E.meth t name))
  (fun f args _ d tm ds pan h k _ => withF f tm fun fv => isFunc fv (withLF args tm fun vs => putF d unit tm fun tm => k tm ((fv, vs) :: ds) pan h))
  (fun _ d tm ds pan h k _ => Pan.rec (motive := fun _ => R) (putF d .niliface tm fun tm => k tm ds .off h) (fun v => putF d v tm fun tm => k tm ds .off h) pan)
  (fun a _ _ tm ds pan h _ kp => withF a tm fun v => isIface v (kp v tm ds pan h)) o
def xopF (o : XOp) : CallK → Tm → List Dfd → Pan → Heap → KS → KP → R := XOp.rec (motive := fun _ => CallK → Tm → List Dfd → Pan → Heap → KS → KP → R)
  (fun d g op call tm ds pan h k kp => wantF g tm fun b => Bool.rec (motive := fun _ => R) (putF d unit tm fun tm => k tm ds pan h) (opF E op call d tm ds pan h k kp) b) o
def opsF (l : List XOp) : CallK → Tm → List Dfd → Pan → Heap → KS → KP → R := List.rec (motive := fun _ => CallK → Tm → List Dfd → Pan → Heap → KS → KP → R)
  (fun _ tm ds pan h k _ => k tm ds pan h)
  (fun o _ ih call tm ds pan h k kp => xopF E o call tm ds pan h (fun tm ds pan h => ih call tm ds pan h k kp) kp) l
/-- A quiet operation. -/
def quietI (o : XC) : Option Slot → Tm → Heap → (Tm → Heap → R) → R := XC.rec (motive := fun _ => Option Slot → Tm → Heap → (Tm → Heap → R) → R)
  (fun i d tm h k => semF i tm h fun v h => putF d v tm fun tm => k tm h)
  (fun _ _ _ _ _ _ => .bad) (fun _ _ _ _ _ _ => .bad) (fun _ _ _ _ _ _ _ => .bad) (fun _ _ _ _ _ _ => .bad) (fun _ _ _ _ => .bad) (fun _ _ _ _ _ => .bad) o
def quietF (o : XOp) : Tm → Heap → (Tm → Heap → R) → R := XOp.rec (motive := fun _ => Tm → Heap → (Tm → Heap → R) → R)
  (fun d g op tm h k => wantF g tm fun b => Bool.rec (motive := fun _ => R) (putF d unit tm fun tm => k tm h) (quietI op d tm h k) b) o
def quietsF (l : List XOp) : Tm → Heap → (Tm → Heap → R) → R := List.rec (motive := fun _ => Tm → Heap → (Tm → Heap → R) → R)
  (fun tm h k => k tm h) (fun o _ ih tm h k => quietF o tm h fun tm h => ih tm h k) l
/-- Does an instruction make a block, and nothing else? -/
def XI.isNew : XI → Bool
  | .alloc .. | .box .. | .bslice .. | .mkmap | .mkslice .. => true
  | _ => false
/-- Two values but for the block. -/
def beqMod : AV → AV → Bool
  | .ptr _ o, .ptr _ r => Nat.beq o r
  | .slice _ o l c, .slice _ r l' c' => (match Nat.beq o r, Nat.beq l l' with | true, true => beqCap c c' | _, _ => false)
  | .map _, .map _ => true
  | _, _ => false
def AV.pos : AV → Option Pos
  | .ptr p _ => some p
  | .slice p _ _ _ => some p
  | .map p => some p
  | _ => none
/-- The new block would be the same as that of then is now. -/
def sameNew (v : AV) (h : Heap) (v' : AV) (h' : Heap) (k : R) : R := match beqMod v v', v.pos, v'.pos with
  | true, some p, some p' => yes? (beqObj (h.get p) (h'.get p')) k .bad
  | _, _, _ => .bad
/-- An operation done before would come to the same now. -/
def chkI (c : XC) : Option Slot → Tm → Heap → R → R := XC.rec (motive := fun _ => Option Slot → Tm → Heap → R → R)
  (fun i d tm h k => Option.rec (motive := fun _ => R) .bad (fun d => semF i tm h fun v h' => getF tm d fun v' => Bool.rec (motive := fun _ => R) (yes? (AV.beq v v') k .bad) (sameNew v h' v' h k) i.isNew) d)
  (fun _ _ _ _ _ _ => .bad) (fun _ _ _ _ _ _ => .bad) (fun _ _ _ _ _ _ _ => .bad) (fun _ _ _ _ _ _ => .bad) (fun _ _ _ _ => .bad) (fun _ _ _ _ _ => .bad) c
/-- One that was not wanted. -/
def chkU (d : Option Slot) (tm : Tm) (k : R) : R := Option.rec (motive := fun _ => R) k (fun d => getF tm d fun v => yes? (AV.beq unit v) k .bad) d
def chkF (o : XOp) : Tm → Heap → R → R := XOp.rec (motive := fun _ => Tm → Heap → R → R) (fun d g op tm h k => wantF g tm fun b => Bool.rec (motive := fun _ => R) (chkU d tm k) (chkI op d tm h k) b) o
def chksF (l : List XOp) : Tm → Heap → R → R := List.rec (motive := fun _ => Tm → Heap → R → R) (fun _ _ k => k) (fun o _ ih tm h k => chkF o tm h (ih tm h k)) l

/-- Two values that lead to different blocks. -/
def apartF (v1 v2 : AV) (k : R) : R := match v1.pos, v2.pos with
  | some p, some q => yes? (p.beq q) .bad k
  | _, _ => .bad
/-- Two stores: what comes of the first, of the second, of both. -/
def pairF (n1 : Nat) (a1 x1 : XO) (n2 : Nat) (a2 x2 : XO) (tm : Tm) (h : Heap) (k : Heap → Heap → Heap → R) : R :=
  semF (.store n1 a1 x1) tm h fun _ hA => semF (.store n2 a2 x2) tm hA fun _ hAB => semF (.store n2 a2 x2) tm h fun _ hB => withF a1 tm fun v1 => withF a2 tm fun v2 => apartF v1 v2 (k hA hB hAB)

def seqE (kn : KS) (k : KE) : KE := fun e => XExit.rec (motive := fun _ => KS) kn (fun id => k (.exit id)) (k .ret) e
def blockE (id : Nat) (k : KE) : KE := fun e => XExit.rec (motive := fun _ => KS) (k .normal) (fun i => Bool.rec (motive := fun _ => KS) (k (.exit i)) (k .normal) (Nat.beq i id)) (k .ret) e
def iterF (body : Tm → List Dfd → Pan → Heap → KE → KP → R) (n : Nat) : Tm → List Dfd → Pan → Heap → KE → KP → R := Nat.rec (motive := fun _ => Tm → List Dfd → Pan → Heap → KE → KP → R)
  (fun _ _ _ _ _ _ => .bad) (fun _ ih tm ds pan h k kp => body tm ds pan h (seqE (fun tm ds pan h => ih tm ds pan h k kp) k) kp) n
def loopF (ob : AObj) : (LoopState → XExit → Tm → List Slot → Nat → Code → Code → R) → R := AObj.rec (motive := fun _ => (LoopState → XExit → Tm → List Slot → Nat → Code → Code → R) → R) (fun _ => .bad) (fun _ _ _ _ => .bad) (fun _ _ _ => .bad) (fun _ _ _ => .bad) (fun _ _ _ _ _ => .bad) (fun st e tm ps n as bd k => k st e tm ps n as bd) ob
def rangeF (f : XO) (ps : List Slot) (n : Nat) (as bd : Code) (call : CallK) (tm : Tm) (ds : List Dfd) (pan : Pan) (h : Heap) (k : KE) (kp : KP) : R :=
  withF f tm fun fv => isFunc fv <| hpush h (.loop .ready .normal tm ps n as bd) fun l h => call fv [.yield l] .off h (fun _ _ h => hget h l fun ob => loopF ob fun st e tm' ps n as bd =>
    LoopState.rec (motive := fun _ => R) (hset h l (.loop .exhausted e tm' ps n as bd) fun h => k e tm ds pan h) .bad (hset h l (.loop .exhausted e tm' ps n as bd) fun h => k e tm ds pan h) (hset h l (.loop .exhausted e tm' ps n as bd) fun h => k e tm ds pan h) st) (fun v _ h => kp v tm ds pan h)
def codeF (c : XCode) : CallK → Nat → Tm → List Dfd → Pan → Heap → KE → KP → R := XCode.rec (motive := fun _ => CallK → Nat → Tm → List Dfd → Pan → Heap → KE → KP → R)
  (fun _ _ tm ds pan h k _ => k .normal tm ds pan h)
  (fun ops call _ tm ds pan h k kp => opsF E ops call tm ds pan h (k .normal) kp)
  (fun qs cs _ _ tm ds pan h k _ => quietsF qs tm h fun tm h => chksF cs tm h (k .normal tm ds pan h))
  (fun qs cs o _ ih call lp tm ds pan h k kp => quietsF qs tm h fun tm h => chksF cs tm h (xopF E o call tm ds pan h (fun tm ds pan h => ih call lp tm ds pan h k kp) (fun v _ => kp v .leaf)))
  (fun qs cs n1 a1 x1 c1 n2 a2 x2 c2 _ ih call lp tm ds pan h k kp => quietsF qs tm h fun tm h => chksF cs tm h (pairF n1 a1 x1 n2 a2 x2 tm h fun hA hB hAB => chksF c1 tm hA (chksF c2 tm hB (ih call lp tm ds pan hAB k kp))))
  (fun _ _ iha ihb call lp tm ds pan h k kp => iha call lp tm ds pan h (seqE (fun tm ds pan h => ihb call lp tm ds pan h k kp) k) kp)
  (fun c _ _ iha ihb call lp tm ds pan h k kp => withF c tm fun v => kBool v fun b => Bool.rec (motive := fun _ => R) (ihb call lp tm ds pan h k kp) (iha call lp tm ds pan h k kp) b)
  (fun id _ ih call lp tm ds pan h k kp => ih call lp tm ds pan h (blockE id k) kp)
  (fun _ ih call lp tm ds pan h k kp => iterF (ih call lp) lp tm ds pan h k kp)
  (fun f ps n as bd call _ tm ds pan h k kp => rangeF f ps n as bd call tm ds pan h k kp)
  (fun id _ _ tm ds pan h k _ => k (.exit id) tm ds pan h)
  (fun _ _ tm ds pan h k _ => k .ret tm ds pan h) c

/-- The results, read off the frame. -/
def resF (l : List XRes) : Tm → Heap → (List AV → R) → R := List.rec (motive := fun _ => Tm → Heap → (List AV → R) → R) (fun _ _ k => k [])
  (fun r _ ih tm h k => XRes.rec (motive := fun _ => R) (fun p => getF tm p fun v => ih tm h fun vs => k (v :: vs)) (fun p n => getF tm p fun a => loadVF a n h fun v _ => ih tm h fun vs => k (v :: vs)) r) l
def oneF (l : List AV) (k : AV → R) : R := List.rec (motive := fun _ => R) (k (.tuple l)) (fun v vs _ => List.rec (motive := fun _ => R) (k v) (fun _ _ _ => k (.tuple l)) vs) l
/-- How a frame ends: its deferred calls, one after the other ('m': the panic that it ends with, if any). -/
def leaveF (ds : List Dfd) : List XRes → Tm → CallK → Pan → Pan → Heap → KC → KC → R := List.rec (motive := fun _ => List XRes → Tm → CallK → Pan → Pan → Heap → KC → KC → R)
  (fun res tm _ m pan h k kp => Pan.rec (motive := fun _ => R) (resF res tm h fun vs => oneF vs fun v => k v pan h) (fun v => kp v pan h) m)
  (fun d _ ih res tm call m pan h k kp => Prod.rec (motive := fun _ => R) (fun f args => call f args m h (fun _ m h => ih res tm call m pan h k kp) (fun v _ h => ih res tm call (.on v) pan h k kp)) d) ds
def initF (l : List AV) : Nat → Tm → (Tm → R) → R := List.rec (motive := fun _ => Nat → Tm → (Tm → R) → R) (fun _ tm k => k tm) (fun v _ ih p tm k => setF tm (.slot p) v fun tm => ih (Nat.succ p) tm k) l
def setParamsF (ps : List Slot) : List AV → Tm → (Tm → R) → R := List.rec (motive := fun _ => List AV → Tm → (Tm → R) → R)
  (fun vs tm k => List.rec (motive := fun _ => R) (k tm) (fun _ _ _ => .bad) vs)
  (fun p _ ih vs tm k => List.rec (motive := fun _ => R) .bad (fun v vs _ => setF tm p v fun tm => ih vs tm k) vs) ps
def isNil {α : Type} (l : List α) (k : R) : R := List.rec (motive := fun _ => R) k (fun _ _ _ => .bad) l
def isNormal (e : XExit) (k : R) : R := XExit.rec (motive := fun _ => R) k (fun _ => .bad) .bad e
def roundEnd (l : Pos) (k : KC) (e : XExit) (h : Heap) : R := hget h l fun ob => loopF ob fun _ _ tm ps n as bd => XExit.rec (motive := fun _ => R)
  (hset h l (.loop .ready .normal tm ps n as bd) fun h => k (.bool true) .off h)
  (fun i => hset h l (.loop .done (.exit i) tm ps n as bd) fun h => k (.bool false) .off h)
  (hset h l (.loop .done .ret tm ps n as bd) fun h => k (.bool false) .off h) e
/-- One round of a range over a function. A panic in it is not covered. -/
def roundF (call : CallK) (lp : Nat) (l : Pos) (args : List AV) (h : Heap) (k : KC) : R := hget h l fun ob => loopF ob fun _ _ tm ps n as bd => setParamsF ps args tm fun tm =>
  codeF E (E.cop n as) call lp tm [] .off h (fun e tm ds _ h => isNormal e (isNil ds (hget h l fun ob => loopF ob fun st e' tm' ps' n' as' bd' => LoopState.rec (motive := fun _ => R)
    (hset h l (.loop .busy e' tm' ps' n' as' bd') fun h => codeF E (E.cop n bd) call lp tm [] .off h (fun e _ ds _ h => isNil ds (roundEnd l k e h)) (fun _ _ _ _ _ => .bad)) .bad .bad .bad st))) (fun _ _ _ _ _ => .bad)
def enterE (res : List XRes) (call : CallK) (k kp : KC) (e : XExit) : KS := XExit.rec (motive := fun _ => KS) (fun tm ds pan h => leaveF ds res tm call .off pan h k kp) (fun _ _ _ _ _ => .bad) (fun tm ds pan h => leaveF ds res tm call .off pan h k kp) e
def bodyF (body : XCode) (res : List XRes) (call : CallK) (lp : Nat) (args : List AV) (pan : Pan) (h : Heap) (k kp : KC) : R :=
  initF args 0 .leaf fun tm => codeF E body call lp tm [] pan h (enterE res call k kp) fun v tm ds pan h => leaveF ds res tm call (.on v) pan h k kp
/-- Numbers of at most 64 bits, as one. -/
def keyOf (l : List AV) : Nat := List.rec (motive := fun _ => Nat) 0 (fun v _ ih => AV.rec (motive_1 := fun _ => Nat) (motive_2 := fun _ => Unit) ih (fun _ => ih) (fun _ n => Int.rec (motive := fun _ => Nat) (fun n => Nat.add n (Nat.mul ih 18446744073709551616)) (fun _ => ih) n)
  (fun _ => ih) ih (fun _ _ => ih) (fun _ _ => ih) (fun _ _ => ih) ih (fun _ _ _ _ => ih) (fun _ _ _ _ => ih) ih (fun _ => ih) ih (fun _ _ _ _ _ => ih) (fun _ => ih) ih (fun _ _ _ => ih) (fun _ _ => ih) (fun _ _ => ih) () (fun _ _ _ _ => ()) v) l
/-- Are these blocks there? -/
def preF (l : List (Pos × AObj)) : Heap → R → R → R := List.rec (motive := fun _ => Heap → R → R → R) (fun _ y _ => y)
  (fun q _ ih h y n => Prod.rec (motive := fun _ => R) (fun p o => hget h p fun o' => yes? (beqObj o o') (ih h y n) n) q) l
def updF (l : List (Pos × AObj)) : Heap → (Heap → R) → R := List.rec (motive := fun _ => Heap → (Heap → R) → R) (fun h k => k h)
  (fun q _ ih h k => Prod.rec (motive := fun _ => R) (fun p o => hset h p o fun h => ih h k) q) l
def nextF (n : Pos) (h : Heap) (k : Heap → R) : R := Heap.rec (motive := fun _ => R) (fun _ m => k (Heap.mk n m)) h
def posF (p : Pos) (h : Heap) (y n : R) : R := Heap.rec (motive := fun _ => R) (fun q _ => yes? (p.beq q) y n) h
def entF (e : Ent) (args : List AV) (h : Heap) (k : AV → Heap → R) (n : R) : R := Ent.rec (motive := fun _ => R) (fun eargs exact n0 pre post n1 v => yes? (AV.beqs eargs args)
  (Bool.rec (motive := fun _ => R) (preF pre h (updF post h (k v)) n) (posF n0 h (preF pre h (updF post h fun h => nextF n1 h (k v)) n) n) exact) n) e
def entsF (l : List Ent) : List AV → Heap → (AV → Heap → R) → R → R := List.rec (motive := fun _ => List AV → Heap → (AV → Heap → R) → R → R) (fun _ _ _ n => n) (fun e _ ih args h k n => entF e args h k (ih args h k n)) l
def tabF (t : Tab) : Nat → List AV → Heap → (AV → Heap → R) → R → R := Tab.rec (motive := fun _ => Nat → List AV → Heap → (AV → Heap → R) → R → R) (fun _ _ _ _ n => n)
  (fun key es _ _ ihl ihr i args h k n => yes? (Nat.beq i key) (entsF es args h k n) (yes? (Nat.ble i key) (ihl i args h k n) (ihr i args h k n))) t
def enterF (x : XFun) : CallK → Nat → List AV → Pan → Heap → KC → KC → R := XFun.rec (motive := fun _ => CallK → Nat → List AV → Pan → Heap → KC → KC → R)
  (fun body res call lp args pan h k kp => bodyF E body res call lp args pan h k kp)
  (fun t body res call lp args pan h k kp => Pan.rec (motive := fun _ => R) (tabF t (keyOf args) args h (fun v h => k v .off h) (bodyF E body res call lp args .off h k kp)) (fun v => bodyF E body res call lp args (.on v) h k kp) pan) x
def goF (f : AV) : CallK → Nat → List AV → Pan → Heap → KC → KC → R := elFn (CallK → Nat → List AV → Pan → Heap → KC → KC → R) (fun _ _ _ _ _ _ _ => .bad)
  (fun g first cap call n args pan h k kp => Option.rec (motive := fun _ => R) .bad (fun x => appF first args fun a => appF a cap fun a => enterF E x call n a pan h k kp) (E.fn g))
  (fun l call n args _ h k _ => roundF E call n l args h k) f
/-- A call of a function value, in n steps of depth. -/
def callNF (n : Nat) : CallK := Nat.rec (motive := fun _ => CallK) (fun _ _ _ _ _ _ => .bad) (fun n ih f args pan h k kp => goF E f ih n args pan h k kp) n
end
end
end Go.X
