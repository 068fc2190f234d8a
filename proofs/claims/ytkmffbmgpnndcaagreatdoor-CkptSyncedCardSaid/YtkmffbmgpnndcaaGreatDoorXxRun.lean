/- The abstract machine X: regions, code, calls; by recursors and with continuations: the form that the kernel runs quickly. -/
import Derived.Test.YtkmffbmgpnndcaaGreatDoorXxFast
import GoSem.Core.Region
import GoSem.Core.View
import GoSem.Op.Equal
import GoSem.Core.Layout
namespace Go.X
open Go

/-! ### what operations look at -/
def optL:Option XO→List XO
  | none=>[]
  | some x=>[x]
def partsL:List (Nat × Nat × XO)→List XO
  | []=>[]
  | (_,_,x) :: l=>x :: partsL l
def XI.ops:XI→List XO
  | .mv a=>[a] | .pick c a b=>[c,a,b] | .nilck a=>[a] | .bin _ x y=>[x,y] | .same _ _ x y=>[x,y] | .sameCells _ _ x y=>[x,y] | .un _ a=>[a] | .conv _ a=>[a] | .mkif _ a=>[a]
  | .mkfn _ f c=>f++c | .fld _ _ a=>[a] | .faddr _ a=>[a] | .iaddrA _ _ a i=>[a,i] | .iaddrS _ a i=>[a,i] | .idxA _ _ _ a i=>[a,i] | .idxS a i=>[a,i]
  | .cutStr a lo hi=>a :: (optL lo++optL hi) | .cutSl _ a lo hi mx=>a :: (optL lo++(optL hi++optL mx)) | .cutArr _ _ a lo hi mx=>a :: (optL lo++(optL hi++optL mx))
  | .extr a _=>[a] | .tas _ _ _ a=>[a] | .len _ a=>[a] | .lenC _=>[] | .cap a=>[a] | .minmax _ l=>l | .build _ ps=>partsL ps | .load _ a=>[a] | .lookup _ _ _ m k=>[m,k] | .lenM m=>[m] | .toStr a=>[a]
  | .alloc _ _=>[] | .box _ a=>[a] | .bslice _ _ _ _ ps=>partsL ps | .mkmap=>[] | .mkslice _ _ _ l c=>[l,c] | .toBytes _ a=>[a] | .mark a=>[a] | .store _ a x=>[a,x] | .append _ _ _ s x=>[s,x] | .appendZ _ _ _ s n=>[s,n]
  | .copy _ d s=>[d,s] | .delete _ m k=>[m,k] | .clearM m=>[m] | .clearS _ s=>[s] | .mapUpd _ m k v=>[m,k,v] | .mapEntry _ _ m k=>[m,k] | .entryStore m s v=>[m,s,v] | .range _ a=>[a] | .next _ a=>[a]
  | .entry a=>[a] | .uptr _ _ a=>[a] | .ptru _ _ a=>[a] | .ustring _ a n=>[a,n] | .sdata a=>[a] | .cmpstr a b=>[a,b] | .mkbytes _ n=>[n] | .no=>[]
def XC.ops:XC→List XO
  | .ins i=>i.ops
  | .call _ xs=>xs
  | .callv f xs=>f :: xs
  | .invoke r _ xs=>r :: xs
  | .defer f xs=>f :: xs
  | .recover=>[]
  | .panic a=>[a]
def slotsOf:List XO→List Slot
  | []=>[]
  | x :: l=>match x with | .t p=>p :: slotsOf l | .c _=>slotsOf l
def XOp.names (o:XOp):List Slot:=match o.guard with | some (p,_)=>p :: slotsOf o.op.ops | none=>slotsOf o.op.ops

/-! ### equality of values (for the checks of regions whose order is open) -/
def beqPosO:Pos→Nat→Pos→Nat→Bool
  | p,o,q,r=>match p.beq q with | true=>Nat.beq o r | false=>false
def beqCap:Cap→Cap→Bool
  | .up a,.up b=>Nat.beq a b
  | .ex a,.ex b=>Nat.beq a b
  | _,_=>false
def beqB:Bool→Bool→Bool
  | true,b=>b
  | false,b=>match b with | true=>false | false=>true
mutual
def AV.beq:AV→AV→Bool
  | .bool a,w=>match w with | .bool b=>beqB a b | _=>false
  | .int k a,w=>match w with | .int k' b=>(match sameK k k' with | true=>eqI a b | false=>false) | _=>false
  | .str a,w=>match w with | .str b=>beqN a b | _=>false
  | .nilptr,w=>match w with | .nilptr=>true | _=>false
  | .ptr p o,w=>match w with | .ptr q r=>beqPosO p o q r | _=>false
  | .gptr p o,w=>match w with | .gptr q r=>(match Nat.beq p q with | true=>Nat.beq o r | false=>false) | _=>false
  | .iptr cs,w=>match w with | .iptr ds=>AV.beqs cs ds | _=>false
  | .nilslice,w=>match w with | .nilslice=>true | _=>false
  | .slice p o l c,w=>match w with | .slice q r l' c'=>(match beqPosO p o q r,Nat.beq l l' with | true,true=>beqCap c c' | _,_=>false) | _=>false
  | .imm cs l f,w=>match w with | .imm ds l' f'=>(match Nat.beq l l',beqB f f' with | true,true=>AV.beqs cs ds | _,_=>false) | _=>false
  | .nilmap,w=>match w with | .nilmap=>true | _=>false
  | .map p,w=>match w with | .map q=>p.beq q | _=>false
  | .nilfunc,w=>match w with | .nilfunc=>true | _=>false
  | .func f a b,w=>match w with | .func g c d=>(match Nat.beq f g with | true=>(match AV.beqs a c with | true=>AV.beqs b d | false=>false) | false=>false) | _=>false
  | .niliface,w=>match w with | .niliface=>true | _=>false
  | .iface t v,w=>match w with | .iface u x=>(match Nat.beq t u with | true=>AV.beq v x | false=>false) | _=>false
  | .agg cs,w=>match w with | .agg ds=>AV.beqs cs ds | _=>false
  | .tuple cs,w=>match w with | .tuple ds=>AV.beqs cs ds | _=>false
  | .any,w=>match w with | .any=>true | _=>false
  | .yield l,w=>match w with | .yield m=>l.beq m | _=>false
def AV.beqs:List AV→List AV→Bool
  | [],l=>match l with | []=>true | _ :: _=>false
  | a :: as,l=>match l with | []=>false | b :: bs=>match AV.beq a b with | true=>AV.beqs as bs | false=>false
end

def beqEs:List (AV × AV × Nat)→List (AV × AV × Nat)→Bool
  | [],l=>match l with | []=>true | _ :: _=>false
  | e :: es,l=>match l with
    | []=>false
    | f :: fs=>match AV.beq e.1 f.1,AV.beq e.2.1 f.2.1,Nat.beq e.2.2 f.2.2 with
      | true,true,true=>beqEs es fs
      | _,_,_=>false
def beqObj:AObj→AObj→Bool
  | .row ty cs sp,.row ty' cs' sp'=>(match Nat.beq ty ty',beqB sp sp' with | true,true=>AV.beqs cs cs' | _,_=>false)
  | .map es cl,.map es' cl'=>(match Nat.beq cl cl' with | true=>beqEs es es' | false=>false)
  | _,_=>false

structure Ent where
  args:List AV
  exact:Bool
  n0:Pos
  pre:List (Pos × AObj)
  post:List (Pos × AObj)
  n1:Pos
  v:AV
inductive Tab where
  | leaf
  | node (key:Nat) (es:List Ent) (l r:Tab)

abbrev Dfd:=AV × List AV

inductive XRes where
  | tmp (p:Slot)
  | cell (p:Slot) (n:Option Nat)
  deriving Inhabited

inductive XFun where
  | code (body:XCode) (res:List XRes)
  | orc (t:Tab) (body:XCode) (res:List XRes)
  | con (F:List AV→Heap→Option (AV × Heap))

structure XEnv where
  fn:FuncId→Option XFun
  cop:Nat→Code→XCode
  meth:TypeId→String→Option FuncId

inductive Pan where
  | off | on (v:AV)
  deriving Inhabited

noncomputable section
abbrev KS:=Tm→List Dfd→Pan→Heap→R
abbrev KP:=AV→Tm→List Dfd→Pan→Heap→R
abbrev KE:=XExit→KS
abbrev KC:=AV→Pan→Heap→R
abbrev CallK:=AV→List AV→Pan→Heap→KC→KC→R

section
variable (E:XEnv)

def putF (d:Option Slot) (v:AV) (tm:Tm) (k:Tm→R):R:=Option.rec (motive:=fun _=>R) (k tm) (fun p=>setF tm p v k) d
def wantF (g:Option (Slot × Bool)) (tm:Tm) (k:Bool→R):R:=Option.rec (motive:=fun _=>R) (k true) (fun q=>Prod.rec (motive:=fun _=>R) (fun p b=>getF tm p fun v=>wantV v b k) q) g
def callF (f:AV) (vs:List AV) (call:CallK) (d:Option Slot) (tm:Tm) (ds:List Dfd) (pan:Pan) (h:Heap) (k:KS) (kp:KP):R :=
  call f vs .off h (fun v _ h=>putF d v tm fun tm=>k tm ds pan h) (fun v _ h=>kp v tm ds pan h)
def opF (o:XC):CallK→Option Slot→Tm→List Dfd→Pan→Heap→KS→KP→R:=XC.rec (motive:=fun _=>CallK→Option Slot→Tm→List Dfd→Pan→Heap→KS→KP→R)
  (fun i _ d tm ds pan h k _=>semF i tm h fun v h=>putF d v tm fun tm=>k tm ds pan h)
  (fun f args call d tm ds pan h k kp=>withLF args tm fun vs=>callF (.func f [] []) vs call d tm ds pan h k kp)
  (fun f args call d tm ds pan h k kp=>withF f tm fun fv=>withLF args tm fun vs=>callF fv vs call d tm ds pan h k kp)
  (fun r name args call d tm ds pan h k kp=>withF r tm fun rv=>withLF args tm fun vs=>kIface rv fun t v=>Option.rec (motive:=fun _=>R) .bad (fun f=>callF (.func f [] []) (v :: vs) call d tm ds pan h k kp) (E.meth t name))
  (fun f args _ d tm ds pan h k _=>withF f tm fun fv=>isFunc fv (withLF args tm fun vs=>putF d unit tm fun tm=>k tm ((fv,vs) :: ds) pan h))
  (fun _ d tm ds pan h k _=>Pan.rec (motive:=fun _=>R) (putF d .niliface tm fun tm=>k tm ds .off h) (fun v=>putF d v tm fun tm=>k tm ds .off h) pan)
  (fun a _ _ tm ds pan h _ kp=>withF a tm fun v=>isIface v (kp v tm ds pan h)) o
def xopF (o:XOp):CallK→Tm→List Dfd→Pan→Heap→KS→KP→R:=XOp.rec (motive:=fun _=>CallK→Tm→List Dfd→Pan→Heap→KS→KP→R)
  (fun d g op call tm ds pan h k kp=>wantF g tm fun b=>Bool.rec (motive:=fun _=>R) (putF d unit tm fun tm=>k tm ds pan h) (opF E op call d tm ds pan h k kp) b) o
def opsF (l:List XOp):CallK→Tm→List Dfd→Pan→Heap→KS→KP→R:=List.rec (motive:=fun _=>CallK→Tm→List Dfd→Pan→Heap→KS→KP→R)
  (fun _ tm ds pan h k _=>k tm ds pan h)
  (fun o _ ih call tm ds pan h k kp=>xopF E o call tm ds pan h (fun tm ds pan h=>ih call tm ds pan h k kp) kp) l
def quietI (o:XC):Option Slot→Tm→Heap→(Tm→Heap→R)→R:=XC.rec (motive:=fun _=>Option Slot→Tm→Heap→(Tm→Heap→R)→R)
  (fun i d tm h k=>semF i tm h fun v h=>putF d v tm fun tm=>k tm h)
  (fun _ _ _ _ _ _=>.bad) (fun _ _ _ _ _ _=>.bad) (fun _ _ _ _ _ _ _=>.bad) (fun _ _ _ _ _ _=>.bad) (fun _ _ _ _=>.bad) (fun _ _ _ _ _=>.bad) o
def quietF (o:XOp):Tm→Heap→(Tm→Heap→R)→R:=XOp.rec (motive:=fun _=>Tm→Heap→(Tm→Heap→R)→R)
  (fun d g op tm h k=>wantF g tm fun b=>Bool.rec (motive:=fun _=>R) (putF d unit tm fun tm=>k tm h) (quietI op d tm h k) b) o
def quietsF (l:List XOp):Tm→Heap→(Tm→Heap→R)→R:=List.rec (motive:=fun _=>Tm→Heap→(Tm→Heap→R)→R)
  (fun tm h k=>k tm h) (fun o _ ih tm h k=>quietF o tm h fun tm h=>ih tm h k) l
def XI.isNew:XI→Bool
  | .alloc .. | .box .. | .bslice .. | .mkmap | .mkslice ..=>true
  | _=>false
def beqMod:AV→AV→Bool
  | .ptr _ o,.ptr _ r=>Nat.beq o r
  | .slice _ o l c,.slice _ r l' c'=>(match Nat.beq o r,Nat.beq l l' with | true,true=>beqCap c c' | _,_=>false)
  | .map _,.map _=>true
  | _,_=>false
def AV.pos:AV→Option Pos
  | .ptr p _=>some p
  | .slice p _ _ _=>some p
  | .map p=>some p
  | _=>none
def sameNew (v:AV) (h:Heap) (v':AV) (h':Heap) (k:R):R:=match beqMod v v',v.pos,v'.pos with
  | true,some p,some p'=>yes? (beqObj (h.get p) (h'.get p')) k .bad
  | _,_,_=>.bad
def chkI (c:XC):Option Slot→Tm→Heap→R→R:=XC.rec (motive:=fun _=>Option Slot→Tm→Heap→R→R)
  (fun i d tm h k=>Option.rec (motive:=fun _=>R) .bad (fun d=>semF i tm h fun v h'=>getF tm d fun v'=>Bool.rec (motive:=fun _=>R) (yes? (AV.beq v v') k .bad) (sameNew v h' v' h k) i.isNew) d)
  (fun _ _ _ _ _ _=>.bad) (fun _ _ _ _ _ _=>.bad) (fun _ _ _ _ _ _ _=>.bad) (fun _ _ _ _ _ _=>.bad) (fun _ _ _ _=>.bad) (fun _ _ _ _ _=>.bad) c
def chkU (d:Option Slot) (tm:Tm) (k:R):R:=Option.rec (motive:=fun _=>R) k (fun d=>getF tm d fun v=>yes? (AV.beq unit v) k .bad) d
def chkF (o:XOp):Tm→Heap→R→R:=XOp.rec (motive:=fun _=>Tm→Heap→R→R) (fun d g op tm h k=>wantF g tm fun b=>Bool.rec (motive:=fun _=>R) (chkU d tm k) (chkI op d tm h k) b) o
def chksF (l:List XOp):Tm→Heap→R→R:=List.rec (motive:=fun _=>Tm→Heap→R→R) (fun _ _ k=>k) (fun o _ ih tm h k=>chkF o tm h (ih tm h k)) l

def apartF (v1 v2:AV) (k:R):R:=match v1.pos,v2.pos with
  | some p,some q=>yes? (p.beq q) .bad k
  | _,_=>.bad
def pairF (n1:Nat) (a1 x1:XO) (n2:Nat) (a2 x2:XO) (tm:Tm) (h:Heap) (k:Heap→Heap→Heap→R):R :=
  semF (.store n1 a1 x1) tm h fun _ hA=>semF (.store n2 a2 x2) tm hA fun _ hAB=>semF (.store n2 a2 x2) tm h fun _ hB=>withF a1 tm fun v1=>withF a2 tm fun v2=>apartF v1 v2 (k hA hB hAB)

def seqE (kn:KS) (k:KE):KE:=fun e=>XExit.rec (motive:=fun _=>KS) kn (fun id=>k (.exit id)) (k .ret) e
def blockE (id:Nat) (k:KE):KE:=fun e=>XExit.rec (motive:=fun _=>KS) (k .normal) (fun i=>Bool.rec (motive:=fun _=>KS) (k (.exit i)) (k .normal) (Nat.beq i id)) (k .ret) e
def iterF (body:Tm→List Dfd→Pan→Heap→KE→KP→R) (n:Nat):Tm→List Dfd→Pan→Heap→KE→KP→R:=Nat.rec (motive:=fun _=>Tm→List Dfd→Pan→Heap→KE→KP→R)
  (fun _ _ _ _ _ _=>.bad) (fun _ ih tm ds pan h k kp=>body tm ds pan h (seqE (fun tm ds pan h=>ih tm ds pan h k kp) k) kp) n
def loopF (ob:AObj):(LoopState→XExit→Tm→List Slot→Nat→Code→Code→R)→R:=AObj.rec (motive:=fun _=>(LoopState→XExit→Tm→List Slot→Nat→Code→Code→R)→R) (fun _=>.bad) (fun _ _ _ _=>.bad) (fun _ _ _=>.bad) (fun _ _ _=>.bad) (fun _ _ _ _ _=>.bad) (fun st e tm ps n as bd k=>k st e tm ps n as bd) ob
def rangeF (f:XO) (ps:List Slot) (n:Nat) (as bd:Code) (call:CallK) (tm:Tm) (ds:List Dfd) (pan:Pan) (h:Heap) (k:KE) (kp:KP):R :=
  withF f tm fun fv=>isFunc fv <| hpush h (.loop .ready .normal tm ps n as bd) fun l h=>call fv [.yield l] .off h (fun _ _ h=>hget h l fun ob=>loopF ob fun st e tm' ps n as bd =>
    LoopState.rec (motive:=fun _=>R) (hset h l (.loop .exhausted e tm' ps n as bd) fun h=>k e tm ds pan h) .bad (hset h l (.loop .exhausted e tm' ps n as bd) fun h=>k e tm ds pan h) (hset h l (.loop .exhausted e tm' ps n as bd) fun h=>k e tm ds pan h) st) (fun v _ h=>kp v tm ds pan h)
def aroundF (rl:Option Pos) (h:Heap) (k:R):R:=Option.rec (motive:=fun _=>R) k (fun l=>hget h l fun ob=>loopF ob fun _ _ _ _ _ _ _=>k) rl
def codeF (c:XCode):CallK→Nat→Option Pos→Tm→List Dfd→Pan→Heap→KE→KP→R:=XCode.rec (motive:=fun _=>CallK→Nat→Option Pos→Tm→List Dfd→Pan→Heap→KE→KP→R)
  (fun _ _ _ tm ds pan h k _=>k .normal tm ds pan h)
  (fun ops call _ _ tm ds pan h k kp=>opsF E ops call tm ds pan h (k .normal) kp)
  (fun qs cs _ _ _ tm ds pan h k _=>quietsF qs tm h fun tm h=>chksF cs tm h (k .normal tm ds pan h))
  (fun qs cs o _ ih call lp rl tm ds pan h k kp=>quietsF qs tm h fun tm h=>chksF cs tm h (xopF E o call tm ds pan h (fun tm ds pan h=>ih call lp rl tm ds pan h k kp) (fun v _=>kp v .leaf)))
  (fun qs cs n1 a1 x1 c1 n2 a2 x2 c2 _ ih call lp rl tm ds pan h k kp=>quietsF qs tm h fun tm h=>chksF cs tm h (pairF n1 a1 x1 n2 a2 x2 tm h fun hA hB hAB=>chksF c1 tm hA (chksF c2 tm hB (ih call lp rl tm ds pan hAB k kp))))
  (fun _ _ iha ihb call lp rl tm ds pan h k kp=>iha call lp rl tm ds pan h (seqE (fun tm ds pan h=>ihb call lp rl tm ds pan h k kp) k) kp)
  (fun c _ _ iha ihb call lp rl tm ds pan h k kp=>withF c tm fun v=>kBool v fun b=>Bool.rec (motive:=fun _=>R) (ihb call lp rl tm ds pan h k kp) (iha call lp rl tm ds pan h k kp) b)
  (fun id _ ih call lp rl tm ds pan h k kp=>ih call lp rl tm ds pan h (blockE id k) kp)
  (fun _ ih call lp rl tm ds pan h k kp=>iterF (ih call lp rl) lp tm ds pan h k kp)
  (fun f ps n as bd call _ rl tm ds pan h k kp=>aroundF rl h <| rangeF f ps n as bd call tm ds pan h k kp)
  (fun id _ _ _ tm ds pan h k _=>k (.exit id) tm ds pan h)
  (fun _ _ _ tm ds pan h k _=>k .ret tm ds pan h) c

def resF (l:List XRes):Tm→Heap→(List AV→R)→R:=List.rec (motive:=fun _=>Tm→Heap→(List AV→R)→R) (fun _ _ k=>k [])
  (fun r _ ih tm h k=>XRes.rec (motive:=fun _=>R) (fun p=>getF tm p fun v=>ih tm h fun vs=>k (v :: vs)) (fun p n=>getF tm p fun a=>loadVF a n h fun v _=>ih tm h fun vs=>k (v :: vs)) r) l
def oneF (l:List AV) (k:AV→R):R:=List.rec (motive:=fun _=>R) (k (.tuple l)) (fun v vs _=>List.rec (motive:=fun _=>R) (k v) (fun _ _ _=>k (.tuple l)) vs) l
def AV.isFn:AV→Bool
  | .func _ _ _ | .nilmap | .map _ | .nilslice | .slice _ _ _ _=>true
  | _=>false
def oneFn:List AV→Bool
  | [v]=>v.isFn
  | [_,v]=>v.isFn
  | _=>false
def dfdF (f:AV) (args:List AV) (k:R):R:=match f with
  | .func _ first cap=>(match oneFn (first++args++cap) with | true=>.bad | false=>k)
  | _=>.bad
def leaveF (ds:List Dfd):List XRes→Tm→CallK→Pan→Pan→Heap→KC→KC→R:=List.rec (motive:=fun _=>List XRes→Tm→CallK→Pan→Pan→Heap→KC→KC→R)
  (fun res tm _ m pan h k kp=>Pan.rec (motive:=fun _=>R) (resF res tm h fun vs=>oneF vs fun v=>k v pan h) (fun v=>kp v pan h) m)
  (fun d _ ih res tm call m pan h k kp=>Prod.rec (motive:=fun _=>R) (fun f args=>dfdF f args (call f args m h (fun _ m h=>ih res tm call m pan h k kp) (fun v _ h=>ih res tm call (.on v) pan h k kp))) d) ds
def initF (l:List AV):Nat→Tm→(Tm→R)→R:=List.rec (motive:=fun _=>Nat→Tm→(Tm→R)→R) (fun _ tm k=>k tm) (fun v _ ih p tm k=>setF tm (.slot p) v fun tm=>ih (Nat.succ p) tm k) l
def setParamsF (ps:List Slot):List AV→Tm→(Tm→R)→R:=List.rec (motive:=fun _=>List AV→Tm→(Tm→R)→R)
  (fun vs tm k=>List.rec (motive:=fun _=>R) (k tm) (fun _ _ _=>.bad) vs)
  (fun p _ ih vs tm k=>List.rec (motive:=fun _=>R) .bad (fun v vs _=>setF tm p v fun tm=>ih vs tm k) vs) ps
def isNil {α:Type} (l:List α) (k:R):R:=List.rec (motive:=fun _=>R) k (fun _ _ _=>.bad) l
def isNormal (e:XExit) (k:R):R:=XExit.rec (motive:=fun _=>R) k (fun _=>.bad) .bad e
def roundEnd (l:Pos) (k:KC) (e:XExit) (h:Heap):R:=hget h l fun ob=>loopF ob fun _ _ tm ps n as bd=>XExit.rec (motive:=fun _=>R)
  (hset h l (.loop .ready .normal tm ps n as bd) fun h=>k (.bool true) .off h)
  (fun i=>hset h l (.loop .done (.exit i) tm ps n as bd) fun h=>k (.bool false) .off h)
  (hset h l (.loop .done .ret tm ps n as bd) fun h=>k (.bool false) .off h) e
def roundF (call:CallK) (lp:Nat) (l:Pos) (args:List AV) (h:Heap) (k kp:KC):R:=hget h l fun ob=>loopF ob fun _ _ tm ps n as bd=>setParamsF ps args tm fun tm =>
  codeF E (E.cop n as) call lp (some l) tm [] .off h (fun e tm ds _ h=>isNormal e (isNil ds (hget h l fun ob=>loopF ob fun st e' tm' ps' n' as' bd'=>LoopState.rec (motive:=fun _=>R)
    (hset h l (.loop .busy e' tm' ps' n' as' bd') fun h=>codeF E (E.cop n bd) call lp (some l) tm [] .off h (fun e _ ds _ h=>isNil ds (roundEnd l k e h)) (fun v _ ds _ h=>isNil ds (kp v .off h))) .bad .bad .bad st))) (fun v _ ds _ h=>isNil ds (kp v .off h))
def enterE (res:List XRes) (call:CallK) (k kp:KC) (e:XExit):KS:=XExit.rec (motive:=fun _=>KS) (fun tm ds pan h=>leaveF ds res tm call .off pan h k kp) (fun _ _ _ _ _=>.bad) (fun tm ds pan h=>leaveF ds res tm call .off pan h k kp) e
def bodyF (body:XCode) (res:List XRes) (call:CallK) (lp:Nat) (args:List AV) (pan:Pan) (h:Heap) (k kp:KC):R :=
  initF args 0 .leaf fun tm=>codeF E body call lp none tm [] pan h (enterE res call k kp) fun v tm ds pan h=>leaveF ds res tm call (.on v) pan h k kp
def keyOf (l:List AV):Nat:=List.rec (motive:=fun _=>Nat) 0 (fun v _ ih=>AV.rec (motive_1:=fun _=>Nat) (motive_2:=fun _=>Unit) ih (fun _=>ih) (fun _ n=>Int.rec (motive:=fun _=>Nat) (fun n=>Nat.add n (Nat.mul ih 18446744073709551616)) (fun _=>ih) n)
  (fun _=>ih) ih (fun _ _=>ih) (fun _ _=>ih) (fun _ _=>ih) ih (fun _ _ _ _=>ih) (fun _ _ _ _=>ih) ih (fun _=>ih) ih (fun _ _ _ _ _=>ih) (fun _=>ih) ih (fun _ _ _=>ih) (fun _ _=>ih) (fun _ _=>ih) () (fun _ _ _ _=>()) v) l
def preF (l:List (Pos × AObj)):Heap→R→R→R:=List.rec (motive:=fun _=>Heap→R→R→R) (fun _ y _=>y)
  (fun q _ ih h y n=>Prod.rec (motive:=fun _=>R) (fun p o=>hget h p fun o'=>yes? (beqObj o o') (ih h y n) n) q) l
def updF (l:List (Pos × AObj)):Heap→(Heap→R)→R:=List.rec (motive:=fun _=>Heap→(Heap→R)→R) (fun h k=>k h)
  (fun q _ ih h k=>Prod.rec (motive:=fun _=>R) (fun p o=>hset h p o fun h=>ih h k) q) l
def nextF (n:Pos) (h:Heap) (k:Heap→R):R:=Heap.rec (motive:=fun _=>R) (fun _ m=>k (Heap.mk n m)) h
def posF (p:Pos) (h:Heap) (y n:R):R:=Heap.rec (motive:=fun _=>R) (fun q _=>yes? (p.beq q) y n) h
def entF (e:Ent) (args:List AV) (h:Heap) (k:AV→Heap→R) (n:R):R:=Ent.rec (motive:=fun _=>R) (fun eargs exact n0 pre post n1 v=>yes? (AV.beqs eargs args)
  (Bool.rec (motive:=fun _=>R) (preF pre h (updF post h (k v)) n) (posF n0 h (preF pre h (updF post h fun h=>nextF n1 h (k v)) n) n) exact) n) e
def entsF (l:List Ent):List AV→Heap→(AV→Heap→R)→R→R:=List.rec (motive:=fun _=>List AV→Heap→(AV→Heap→R)→R→R) (fun _ _ _ n=>n) (fun e _ ih args h k n=>entF e args h k (ih args h k n)) l
def tabF (t:Tab):Nat→List AV→Heap→(AV→Heap→R)→R→R:=Tab.rec (motive:=fun _=>Nat→List AV→Heap→(AV→Heap→R)→R→R) (fun _ _ _ _ n=>n)
  (fun key es _ _ ihl ihr i args h k n=>yes? (Nat.beq i key) (entsF es args h k n) (yes? (Nat.ble i key) (ihl i args h k n) (ihr i args h k n))) t
def conF (F:List AV→Heap→Option (AV × Heap)) (args:List AV) (h:Heap) (k:AV→Heap→R):R:=match F args h with
  | some (v,h)=>k v h
  | none=>.bad
def enterF (x:XFun):CallK→Nat→List AV→Pan→Heap→KC→KC→R:=XFun.rec (motive:=fun _=>CallK→Nat→List AV→Pan→Heap→KC→KC→R)
  (fun body res call lp args pan h k kp=>bodyF E body res call lp args pan h k kp)
  (fun t body res call lp args pan h k kp=>Pan.rec (motive:=fun _=>R) (tabF t (keyOf args) args h (fun v h=>k v .off h) (bodyF E body res call lp args .off h k kp)) (fun v=>bodyF E body res call lp args (.on v) h k kp) pan)
  (fun F _ _ args pan h k _=>Pan.rec (motive:=fun _=>R) (conF F args h fun v h=>k v .off h) (fun _=>.bad) pan) x
def goF (f:AV):CallK→Nat→List AV→Pan→Heap→KC→KC→R:=elFn (CallK→Nat→List AV→Pan→Heap→KC→KC→R) (fun _ _ _ _ _ _ _=>.bad)
  (fun g first cap call n args pan h k kp=>Option.rec (motive:=fun _=>R) .bad (fun x=>appF first args fun a=>appF a cap fun a=>enterF E x call n a pan h k kp) (E.fn g))
  (fun l call n args _ h k kp=>roundF E call n l args h k kp) f
def callNF (n:Nat):CallK:=Nat.rec (motive:=fun _=>CallK) (fun _ _ _ _ _ _=>.bad) (fun n ih f args pan h k kp=>goF E f ih n args pan h k kp) n
end
end
end Go.X

/- From the model's code to that of the abstract machine X. -/
namespace Go.X
open Go

def avOf:Nat→Value→Option AV
  | 0,_=>none
  | n + 1,v=>match v with
    | .bool b=>some (.bool b)
    | .int k x=>some (.int k x)
    | .string s=>some (.str (s.data.toList.map UInt8.toNat))
    | .pointer none=>some .nilptr
    | .slice none 0 0=>some .nilslice
    | .map none=>some .nilmap
    | .func (.func f) first cap=>do some (.func f (← first.toList.mapM (avOf n)) (← cap.toList.mapM (avOf n)))
    | .nilFunc=>some .nilfunc
    | .nilIface=>some .niliface
    | .agg cs=>do
      let l ← cs.toList.mapM (avOf n)
      if l.all AV.one then some (.agg l) else none
    | .tuple cs=>do some (.tuple (← cs.toList.mapM (avOf n)))
    | _=>none
def opnd:Operand→Option XO
  | .tmp t=>some (.t (.slot t))
  | .const v=>(avOf 4 v).map .c
  | .global g=>some (.c (.gptr g 0))
  | .func f=>some (.c (.func f [] []))
def opndO:Option Operand→Option (Option XO)
  | none=>some none
  | some x=>(opnd x).map some

section
variable (P:Program)
def szOf (t:TypeId):Option Nat:=(P.info? t).map (·.size)
def byOf (t:TypeId):Option Nat:=(P.info? t).map (·.bytes)
def zeroOf (t:TypeId):Option AV:=((P.info? t).bind (·.zero)).bind (avOf 4)
def isAggT (t:TypeId):Option Bool:=(P.underlying t).map fun | .struct _ | .array ..=>true | _=>false
def zeroC (t:TypeId):Option (List AV):=do
  let cs ← (← zeroOf P t).cellsO
  if szOf P t == some cs.length then some cs else none
def placesOf (fs:Array Field):Option (List (Nat × Nat)):=fs.toList.mapM fun f=>(szOf P f.type).map fun n=>(f.offset,n)
def aggN (t:TypeId):Option (Option Nat):=do if ← isAggT P t then some (some (← szOf P t)) else some none
def elemS (t:TypeId):Option TypeId:=match P.underlying t with | some (.slice e)=>some e | _=>none
def elemP (t:TypeId):Option TypeId:=match P.underlying t with | some (.pointer e)=>some e | _=>none
def keyT (t:TypeId):Option Bool:=match P.underlying t with
  | some (.map k _)=>(match P.underlying k with | some (.int _)=>some false | some .string=>some true | _=>none)
  | _=>none
def mapElem (t:TypeId):Option TypeId:=match P.underlying t with | some (.map _ e)=>some e | _=>none
def fieldOf (t:TypeId) (f:Nat):Option Field:=match P.underlying t with | some (.struct fs)=>fs[f]? | _=>none

def binK:BinOp→Option XB
  | .add=>some .add | .sub=>some .sub | .mul=>some .mul | .quo=>some .quo | .rem=>some .rem
  | .and=>some .and | .or=>some .or | .xor=>some .xor | .andNot=>some .andNot | .shl=>some .shl | .shr=>some .shr
  | .eql=>some .eq | .neq=>some .ne | .lss=>some .lt | .leq=>some .le | .gtr=>some .gt | .geq=>some .ge
def plainK (t:TypeId):Option SK:=match P.underlying t with | some .bool=>some .bool | some (.int _)=>some .int | some .string=>some .str | _=>none
def maskFs:List Field→Nat→Option (List (Option SK))
  | [],_=>some []
  | f :: fs,i=>if f.offset == i then do
      let k ← plainK P f.type
      let r ← maskFs fs (i + 1)
      some ((if f.name == "_" then none else some k) :: r)
    else none
def maskOf (t:TypeId):Option (List (Option SK)):=match P.underlying t with
  | some (.struct fs)=>if P.stoodInHeld t || P.eqGuardType P.depth t then none else maskFs P fs.toList 0
  | some (.array n e)=>if P.stoodInHeld t || P.eqGuardType P.depth t then none else (plainK P e).map fun k=>List.replicate n (some k)
  | _=>none
def isNilC:Operand→Bool
  | .const .nilIface=>true
  | _=>false
def eqOp (op:BinOp) (k:SK) (a b:XO):Option XI:=match op with
  | .eql=>some (.same false k a b)
  | .neq=>some (.same true k a b)
  | _=>none
def copArrEq (op:BinOp) (t e:TypeId) (a b:XO):Option XI:=match szOf P e == some 1,op with
  | true,.eql=>(maskOf P t).map fun m=>.sameCells false m a b
  | true,.neq=>(maskOf P t).map fun m=>.sameCells true m a b
  | _,_=>none
def copBin (op:BinOp) (t:TypeId) (x y:Operand):Option XI:=do
  let a ← opnd x
  let b ← opnd y
  match P.underlying t with
  | some (.int _) | some .string=>some (.bin (← binK op) a b)
  | some (.struct _)=>match op with
    | .eql=>some (.sameCells false (← maskOf P t) a b)
    | .neq=>some (.sameCells true (← maskOf P t) a b)
    | _=>none
  | some (.array _ e)=>copArrEq P op t e a b
  | some (.interface _)=>if isNilC x || isNilC y then eqOp op .iface a b else none
  | some (.pointer e)=>match szOf P e with | some (_ + 1)=>eqOp op .ptr a b | _=>none
  | some .bool=>eqOp op .bool a b
  | some (.slice _)=>eqOp op .slice a b
  | some (.map ..)=>eqOp op .map a b
  | some (.func ..)=>eqOp op .func a b
  | _=>none
def copParts (place:Nat→Option (Nat × Nat)):List (Nat × Operand)→Option (List (Nat × Nat × XO))
  | []=>some []
  | (i,x) :: ps=>do
    let (off,n) ← place i
    some ((off,n,← opnd x) :: (← copParts place ps))
def isU8 (t:TypeId):Bool:=match P.underlying t with | some (.int .u8)=>true | _=>false
def copConv (src dst:TypeId) (x:Operand):Option XI:=do
  let a ← opnd x
  match P.underlying src,P.underlying dst with
  | some (.int _),some (.int k)=>some (.conv k a)
  | some .string,some .string=>some (.cutStr a none none)
  | some .string,some (.slice e)=>if isU8 P e then some (.toBytes e a) else none
  | some (.slice e),some .string=>if isU8 P e then some (.toStr a) else none
  | some (.slice _),some (.slice e)=>if src == dst && isU8 P e then some (.mark a) else none
  | some (.pointer t),some .unsafePointer=>match szOf P t with | some (n + 1)=>some (.uptr t (n + 1) a) | _=>none
  | some .unsafePointer,some (.pointer t)=>match szOf P t with | some (n + 1)=>some (.ptru t (n + 1) a) | _=>none
  | _,_=>none
def copBuiltin (rnd:Bool) (b:Builtin) (ts:Array TypeId) (args:Array Operand):Option XC:=do
  let xs ← args.toList.mapM opnd
  match b,xs with
  | .len,[a]=>do
    let t ← ts[0]?
    match P.underlying t with
    | some .string=>some (.ins (.len true a))
    | some (.slice _)=>some (.ins (.len false a))
    | some (.array n _)=>some (.ins (.lenC n))
    | some (.map ..)=>some (.ins (.lenM a))
    | some (.pointer e)=>match P.underlying e with | some (.array n _)=>some (.ins (.lenC n)) | _=>none
    | _=>none
  | .cap,[a]=>do
    match P.underlying (← ts[0]?) with
    | some (.slice _)=>some (.ins (.cap a))
    | _=>none
  | .min,l=>if l.isEmpty then none else some (.ins (.minmax false l))
  | .max,l=>if l.isEmpty then none else some (.ins (.minmax true l))
  | .append,[s,x]=>do
    let e ← elemS P (← ts[0]?)
    match P.underlying (← ts[1]?) with
    | some (.int _)=>some (.ins (.appendZ e (← byOf P e) (← zeroC P e) s x))
    | some (.slice _) | some .string=>do
      let _ ← zeroC P e
      some (.ins (.append e (← szOf P e) (← byOf P e) s x))
    | _=>none
  | .copy,[d,s]=>do some (.ins (.copy (← szOf P (← elemS P (← ts[0]?))) d s))
  | .delete,[m,k]=>do
    let s ← keyT P (← ts[0]?)
    some (.ins (.delete s m k))
  | .clear,[a]=>do
    match P.underlying (← ts[0]?) with
    | some (.map ..)=>some (.ins (.clearM a))
    | some (.slice e)=>some (.ins (.clearS (← zeroC P e) a))
    | _=>none
  | .panic,[a]=>some (.panic a)
  | .recover,[]=>if rnd then none else some .recover
  | .unsafeString,[a,n]=>do
    let e ← elemP P (← ts[0]?)
    if szOf P e == some 1 && isU8 P e then some (.ins (.ustring e a n)) else none
  | .unsafeSliceData,[a]=>some (.ins (.sdata a))
  | _,_=>none
def copExt (fn:Func) (xs:List XO):Option XC :=
  if fn.origin != "" then none else
  if fn.name == "internal/abi.NoEscape" then (match xs with | [a]=>some (.ins (.mv a)) | _=>none)
  else if fn.name == "internal/bytealg.MakeNoZero" then (match xs,fn.resultTypes.toList with | [a],[t]=>(elemS P t).map fun e=>.ins (.mkbytes e a) | _,_=>none)
  else if fn.name == "internal/bytealg.abigen_runtime_cmpstring" then (match xs with | [a,b]=>some (.ins (.cmpstr a b)) | _=>none)
  else none
def copOpO (rnd:Bool) (o:Oper):Option XC:=match o.op with
  | .move x | .assign x=>do some (.ins (.mv (← opnd x)))
  | .pick c a b=>do some (.ins (.pick (← opnd c) (← opnd a) (← opnd b)))
  | .alloc e=>do some (.ins (.alloc e (← zeroC P e)))
  | .box e x=>do some (.ins (.box e (← opnd x)))
  | .build t parts=>do
    let z ← zeroC P t
    match P.underlying t with
    | some (.struct fs)=>do
      let ps ← placesOf P fs
      some (.ins (.build z (← copParts (fun i=>ps[i]?) parts.toList)))
    | some (.array _ e)=>do
      let n ← szOf P e
      some (.ins (.build z (← copParts (fun i=>some (i * n,n)) parts.toList)))
    | _=>none
  | .buildSlice t len parts=>do
    let e ← elemS P t
    let n ← szOf P e
    if len * n > 2 ^ 24 then none else
    some (.ins (.bslice e n len (repeatL len (← zeroC P e)) (← copParts (fun i=>some (i * n,n)) parts.toList)))
  | .load t a=>do some (.ins (.load (← aggN P t) (← opnd a)))
  | .store t a x=>do some (.ins (.store (← szOf P t) (← opnd a) (← opnd x)))
  | .nilCheck x=>do some (.ins (.nilck (← opnd x)))
  | .binOp op t x y _=>do some (.ins (← copBin P op t x y))
  | .unOp .neg _ x=>do some (.ins (.un .neg (← opnd x)))
  | .unOp .xor _ x=>do some (.ins (.un .xor (← opnd x)))
  | .unOp .not _ x=>do some (.ins (.un .not (← opnd x)))
  | .convert src dst x=>do some (.ins (← copConv P src dst x))
  | .makeInterface t x=>do
    match P.underlying t with
    | some (.interface _) | none=>none
    | some _=>some (.ins (.mkif t (← opnd x)))
  | .makeFunc (.func f) first cap=>do some (.ins (.mkfn f (← first.toList.mapM opnd) (← cap.toList.mapM opnd)))
  | .makeMap t none=>do
    let _ ← keyT P t
    some (.ins .mkmap)
  | .makeSlice t l c=>do
    let e ← elemS P t
    some (.ins (.mkslice e (← byOf P e) (← zeroC P e) (← opnd l) (← opnd c)))
  | .slice t x lo hi mx=>do
    let a ← opnd x
    let l ← opndO lo
    let h ← opndO hi
    let m ← opndO mx
    if m.isSome && h.isNone then none else
    match P.underlying t with
    | some .string=>if m.isSome then none else some (.ins (.cutStr a l h))
    | some (.slice e)=>some (.ins (.cutSl (← szOf P e) a l h m))
    | some (.array n e)=>some (.ins (.cutArr n (← szOf P e) a l h m))
    | _=>none
  | .fieldAddr t x f=>do
    let f ← fieldOf P t f
    match szOf P f.type with
    | some (_ + 1)=>some (.ins (.faddr f.offset (← opnd x)))
    | _=>none
  | .field t x f=>do
    let f ← fieldOf P t f
    some (.ins (.fld f.offset (← aggN P f.type) (← opnd x)))
  | .indexAddr t x i=>do
    match P.underlying t with
    | some (.array n e)=>some (.ins (.iaddrA n (← szOf P e) (← opnd x) (← opnd i)))
    | some (.slice e)=>some (.ins (.iaddrS (← szOf P e) (← opnd x) (← opnd i)))
    | _=>none
  | .index t x i=>do
    match P.underlying t with
    | some (.array n e)=>some (.ins (.idxA n (← szOf P e) (← aggN P e) (← opnd x) (← opnd i)))
    | some .string=>some (.ins (.idxS (← opnd x) (← opnd i)))
    | _=>none
  | .lookup t x i ok=>do
    let s ← keyT P t
    some (.ins (.lookup s (← zeroOf P (← mapElem P t)) ok (← opnd x) (← opnd i)))
  | .mapUpdate t m k x | .insert t m k x=>do
    let s ← keyT P t
    some (.ins (.mapUpd s (← opnd m) (← opnd k) (← opnd x)))
  | .mapEntry t m k=>do
    let s ← keyT P t
    some (.ins (.mapEntry s (← zeroOf P (← mapElem P t)) (← opnd m) (← opnd k)))
  | .entryStore _ m s x=>do some (.ins (.entryStore (← opnd m) (← opnd s) (← opnd x)))
  | .range t x=>do
    match P.underlying t with
    | some .string=>some (.ins (.range true (← opnd x)))
    | some (.map ..)=>some (.ins (.range false (← opnd x)))
    | _=>none
  | .next it s=>do some (.ins (.next s (← opnd it)))
  | .entry it=>do some (.ins (.entry (← opnd it)))
  | .typeAssert x _ t ok=>do
    match P.underlying t with
    | some (.interface _) | none=>none
    | some _=>some (.ins (.tas t (← zeroOf P t) ok (← opnd x)))
  | .extract x i=>do some (.ins (.extr (← opnd x) i))
  | .call c=>match c.callee with
    | .value (.func f)=>do
      let xs ← c.args.toList.mapM opnd
      let fn ← P.funcs[f]?
      match fn.body with
      | some _=>some (.call f xs)
      | none=>copExt P fn xs
    | .value f=>do some (.callv (← opnd f) (← c.args.toList.mapM opnd))
    | .invoke r n=>do some (.invoke (← opnd r) n (← c.args.toList.mapM opnd))
    | .builtin b=>copBuiltin P rnd b c.argTypes c.args
  | .defer c=>match c.callee with
    | .value f=>if rnd then none else do some (.defer (← opnd f) (← c.args.toList.mapM opnd))
    | _=>none
  | .panic x=>do some (.panic (← opnd x))
  | _=>none
def copOp (rnd:Bool) (o:Oper):XC:=match copOpO P rnd o with | some x=>x | none=>.ins .no
def guardOf (ops:Array Oper):Option (Nat × Bool)→Option (Option (Slot × Bool))
  | none=>some none
  | some (j,b)=>do
    let d ← (← ops[j]?).dst
    some (some (.slot d,b))
def badOp:XOp:=⟨none,none,.ins .no⟩
def dstBad (n:Nat):Option Tmp→Bool
  | some d=>Nat.ble n d
  | none=>false
def copOper (n:Nat) (rnd:Bool) (ops:Array Oper) (o:Oper):XOp:=match dstBad n o.dst,guardOf ops o.guard with
  | false,some g=>{ dst:=o.dst.map .slot,guard:=g,op:=copOp P rnd o }
  | _,_=>badOp

def kindOf:XC→Nat
  | .ins i=>match i with
    | .mv _ | .pick .. | .nilck _ | .bin .. | .same .. | .sameCells .. | .un .. | .conv .. | .mkif .. | .mkfn .. | .fld .. | .faddr .. | .iaddrA .. | .iaddrS .. | .idxA .. | .idxS .. | .cutStr .. | .cutArr .. | .extr ..
    | .tas .. | .len .. | .lenC _ | .cap _ | .minmax .. | .build .. | .sdata _=>0
    | .cutSl .. | .load .. | .lookup .. | .lenM _ | .toStr _ | .entry _=>1
    | .alloc .. | .box .. | .bslice .. | .mkmap | .mkslice ..=>2
    | _=>3
  | _=>3
/-! ### regions whose order is open -/
def depsOf (o:Oper):List Nat:=(o.after.toList.filter (Region.binds .any)).map (·.on)
def maskOfL:List Nat→Nat
  | []=>0
  | i :: l=>Nat.lor (2 ^ i) (maskOfL l)
def subM (a b:Nat):Bool:=Nat.beq (Nat.land a b) a
structure RO where
  i:Nat
  x:XOp
  deps:Nat
  bef:Nat
  loud:Bool
def pickQ (can:Nat):List RO→Option RO
  | []=>none
  | r :: l=>match r.loud,Nat.testBit can r.i,subM r.deps can with
    | false,false,true=>some r
    | _,_,_=>pickQ can l
def pickL (can:Nat):List RO→Option RO
  | []=>none
  | r :: l=>match r.loud,Nat.testBit can r.i,subM r.deps can with
    | true,false,true=>some r
    | _,_,_=>pickL can l
def quietsOf (l:List RO):Nat→Nat→List RO × Nat
  | 0,can=>([],can)
  | n + 1,can=>match pickQ can l with
    | some r=>match quietsOf l n (Nat.lor can (2 ^ r.i)) with | (rs,c)=>(r :: rs,c)
    | none=>([],can)
def pendOf (can past:Nat):List RO→List RO
  | []=>[]
  | r :: l=>match r.loud,Nat.testBit can r.i,Nat.testBit past r.i with
    | false,true,false=>r :: pendOf can past l
    | _,_,_=>pendOf can past l
def xsOf:List RO→List XOp
  | []=>[]
  | r :: l=>r.x :: xsOf l
def storeOf (o:XOp):Option (Nat × XO × XO):=match o.dst,o.guard,o.op with
  | none,none,.ins (.store n a x)=>some (n,a,x)
  | _,_,_=>none
def pairOf (can:Nat) (r:RO) (l:List RO):Option RO:=match pickL (Nat.lor can (2 ^ r.i)) l with
  | none=>none
  | some q=>match Nat.testBit q.bef r.i,subM q.deps can with
    | false,true=>some q
    | _,_=>none
def mkPair (l qs:List RO) (can past louds:Nat) (r q:RO) (rest:Option XCode):Option XCode:=match storeOf r.x,storeOf q.x,subM louds r.bef,subM louds q.bef with
  | some (n1,a1,x1),some (n2,a2,x2),true,true=>(match pickQ (Nat.lor can (2 ^ r.i)) l,pickQ (Nat.lor can (2 ^ q.i)) l,rest with
    | none,none,some c=>some (.pair (xsOf qs) (xsOf (pendOf can past l)) n1 a1 x1 (xsOf (pendOf (Nat.lor can (2 ^ r.i)) (Nat.lor past r.bef) l)) n2 a2 x2 (xsOf (pendOf (Nat.lor can (2 ^ q.i)) (Nat.lor past q.bef) l)) c)
    | _,_,_=>none)
  | _,_,_,_=>none
def mkPhases (l:List RO) (all:Nat):Nat→Nat→Nat→Nat→Option XCode
  | 0,_,_,_=>none
  | n + 1,can,past,louds=>match quietsOf l (n + 1) can with
    | (qs,can)=>match pickQ can l with
      | some _=>none
      | none=>match pickL can l with
        | some r=>match pairOf can r l with
          | some q=>mkPair l qs can past louds r q (mkPhases l all n (Nat.lor (Nat.lor can (2 ^ r.i)) (2 ^ q.i)) (Nat.lor (Nat.lor past r.bef) q.bef) (Nat.lor (Nat.lor louds (2 ^ r.i)) (2 ^ q.i)))
          | none=>match subM louds r.bef,mkPhases l all n (Nat.lor can (2 ^ r.i)) (Nat.lor past r.bef) (Nat.lor louds (2 ^ r.i)) with
            | true,some c=>some (.phase (xsOf qs) (xsOf (pendOf can past l)) r.x c)
            | _,_=>none
        | none=>match Nat.beq can all with
          | true=>some (.last (xsOf qs) (xsOf (pendOf can past l)))
          | false=>none
def hasS (d:Slot):List Slot→Bool
  | []=>false
  | u :: l=>match d.beq u with | true=>true | false=>hasS d l
def aboutS (d:Slot) (o:XOp):Bool:=match (match o.dst with | some e=>d.beq e | none=>false) with | true=>true | false=>hasS d o.names
def apart1 (d:Slot) (r:RO):List RO→Bool
  | []=>true
  | q :: l=>match Nat.beq r.i q.i,aboutS d q.x,Nat.testBit q.bef r.i,r.loud,Nat.testBit r.bef q.i with
    | true,_,_,_,_=>apart1 d r l
    | _,false,_,_,_=>apart1 d r l
    | _,_,true,_,_=>apart1 d r l
    | _,_,_,true,true=>apart1 d r l
    | _,_,_,_,_=>false
def selfOk (d:Slot) (r:RO):Bool:=match r.loud,hasS d r.x.names with
  | false,true=>false
  | _,_=>true
def apartAll (all:List RO):List RO→Bool
  | []=>true
  | r :: l=>match r.x.dst with
    | none=>apartAll all l
    | some d=>match apart1 d r all,selfOk d r with | true,true=>apartAll all l | _,_=>false
def orBefs (m:Nat):List RO→Nat
  | []=>0
  | q :: l=>match Nat.testBit m q.i with | true=>Nat.lor q.bef (orBefs m l) | false=>orBefs m l
def befsOk (all:List RO):List RO→Bool
  | []=>true
  | r :: l=>match Nat.blt r.deps (2 ^ r.i),subM r.bef (Nat.lor r.deps (orBefs r.deps all)) with
    | true,true=>befsOk all l
    | _,_=>false
def lateOf (n:Nat) (rnd:Bool) (ops:Array Oper) (i bef:Nat) (d:Option Slot):Bool:=match d with
  | none=>false
  | some d=>(List.range ops.size).any fun j=>Nat.testBit bef j && ((ops[j]?).map fun o=>aboutS d (copOper P n rnd ops o)) == some true && j != i
def roOf (n:Nat) (rnd:Bool) (ops:Array Oper) (b:Array Nat) (i:Nat) (o:Oper):RO :=
  let x:=copOper P n rnd ops o
  -- what writes a temporary that others name ahead of it goes with the loud ones
  { i,x,deps:=maskOfL (depsOf o),bef:=b.getD i 0,loud:=match Nat.ble 3 (kindOf x.op) with | true=>true | false=>lateOf P n rnd ops i (b.getD i 0) x.dst }
def rosFrom (n:Nat) (rnd:Bool) (ops:Array Oper) (b:Array Nat):Nat→List Oper→List RO
  | _,[]=>[]
  | i,o :: l=>roOf P n rnd ops b i o :: rosFrom n rnd ops b (i + 1) l
def rosOf (n:Nat) (rnd:Bool) (ops:Array Oper):List RO:=rosFrom P n rnd ops (Region.before ops) 0 ops.toList
def copDraw (n:Nat) (rnd:Bool) (ops:Array Oper):XCode :=
  match apartAll (rosOf P n rnd ops) (rosOf P n rnd ops),befsOk (rosOf P n rnd ops) (rosOf P n rnd ops),mkPhases (rosOf P n rnd ops) (2 ^ ops.size - 1) (ops.size + 1) 0 0 0 with
  | true,true,some c=>c
  | _,_,_=>.reg [badOp]
def copRegion (n:Nat) (rnd:Bool) (ops:Array Oper) (draw:Bool):XCode:=match draw with
  | false=>.reg (ops.toList.map (copOper P n rnd ops))
  | true=>copDraw P n rnd ops
def badCode:XCode:=.reg [badOp]
def cop (n:Nat):Bool→Code→XCode
  | _,.skip=>.skip
  | rnd,.region _ ops draw=>copRegion P n rnd ops draw
  | rnd,.seq a b=>.seq (cop n rnd a) (cop n rnd b)
  | rnd,.cond c a b=>match opnd c with | some c=>.cond c (cop n rnd a) (cop n rnd b) | none=>badCode
  | rnd,.block id b=>.block id (cop n rnd b)
  | rnd,.loop b=>.loop (cop n rnd b)
  | _,.rangeFunc f ps a b=>match opnd f,ps.toList.any (Nat.ble n ·) with
    | some f,false=>.rfunc f (ps.toList.map .slot) n a b
    | _,_=>badCode
  | rnd,.scope b=>cop n rnd b
  | _,.label _=>.skip
  | _,.exit id=>.exit id
  | _,.ret=>.ret
  | _,_=>badCode
def copRes:ResultVar→Option XRes
  | .tmp t=>some (.tmp (.slot t))
  | .cell a t=>do some (.cell (.slot a) (← aggN P t))
def copFun (fn:Func):Option XFun:=if fn.name == "runtime.NumGoroutine" then none else match fn.body,fn.results.toList.mapM (copRes P) with
  | some c,some rs=>some (.code (cop P fn.ntmps false c) rs)
  | _,_=>none
end
end Go.X
