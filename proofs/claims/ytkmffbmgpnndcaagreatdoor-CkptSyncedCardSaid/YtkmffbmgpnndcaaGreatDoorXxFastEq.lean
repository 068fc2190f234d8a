/- The quick forms of the instructions of X are the instructions of X. -/
import Derived.Test.YtkmffbmgpnndcaaGreatDoorXxFast
namespace Go.X
open Go

def optR {α:Type} (o:Option α) (k:α→R):R:=match o with | some x=>k x | none=>.bad
@[simp] theorem optR_some {α:Type} (x:α) (k:α→R):optR (some x) k = k x:=rfl
@[simp] theorem viaOut_ok (v:AV) (h:Heap) (k:KI):viaOut (.ok v h) k = k v h:=rfl
@[simp] theorem viaOut_bad (k:KI):viaOut .bad k = .bad:=rfl
@[simp] theorem yes_true (a b:R):yes? true a b = a:=rfl
@[simp] theorem yes_false (a b:R):yes? false a b = b:=rfl
/-! ### stores -/
theorem N16.getK_eq {α:Type} (n:N16 α) (d:D16):N16.getK n d = n.get d:=by cases d <;> rfl
theorem N16.setK_eq {α:Type} (n:N16 α) (d:D16) (v:α) (k:N16 α→R):N16.setK n d v k = k (n.set d v):=by cases n;cases d <;> rfl
theorem pgetF_eq (t:PT AV) (p:BP):pgetF t p = t.get p:=by
  induction t generalizing p with
  | leaf=>cases p <;> rfl
  | node l v r ihl ihr=>cases p <;> first | rfl | exact ihl _ | exact ihr _
theorem pgetOF_eq (t:PT AObj) (p:BP):pgetOF t p = t.get p:=by
  induction t generalizing p with
  | leaf=>cases p <;> rfl
  | node l v r ihl ihr=>cases p <;> first | rfl | exact ihl _ | exact ihr _
theorem pleafF_eq (p:BP) (x:AV) (k:PT AV→R):pleafF p x k = k (PT.set .leaf p x):=by
  induction p generalizing k with
  | u=>rfl
  | o p ih=>exact ih _
  | i p ih=>exact ih _
theorem pleafOF_eq (p:BP) (x:AObj) (k:PT AObj→R):pleafOF p x k = k (PT.set .leaf p x):=by
  induction p generalizing k with
  | u=>rfl
  | o p ih=>exact ih _
  | i p ih=>exact ih _
theorem psetF_eq (t:PT AV) (p:BP) (x:AV) (k:PT AV→R):psetF t p x k = k (t.set p x):=by
  induction t generalizing p k with
  | leaf=>exact pleafF_eq p x k
  | node l v r ihl ihr=>cases p <;> first | rfl | exact ihl _ _ | exact ihr _ _
theorem psetOF_eq (t:PT AObj) (p:BP) (x:AObj) (k:PT AObj→R):psetOF t p x k = k (t.set p x):=by
  induction t generalizing p k with
  | leaf=>exact pleafOF_eq p x k
  | node l v r ihl ihr=>cases p <;> first | rfl | exact ihl _ _ | exact ihr _ _
theorem getF_eq (t:Tm) (p:Slot) (k:AV→R):getF t p k = optR (t.get p) k:=by
  cases t;cases p <;> simp only [getF,TT.get,N16.getK_eq,pgetF_eq,optR] <;> split <;> simp_all
theorem setF_eq (t:Tm) (p:Slot) (v:AV) (k:Tm→R):setF t p v k = k (t.set p v):=by
  cases t;cases p <;> simp only [setF,TT.set,N16.getK_eq,N16.setK_eq,psetF_eq]
theorem bsuccF_eq (p:BP) (k:BP→R):bsuccF p k = k p.succ:=by
  induction p generalizing k with
  | u=>rfl
  | o p ih=>rfl
  | i p ih=>exact ih _
theorem psuccF_eq (p:Pos) (k:Pos→R):psuccF p k = k p.succ:=by
  cases p with
  | hi p=>exact bsuccF_eq p _
  | lo a b c=>cases c <;> first | rfl | (cases b <;> first | rfl | (cases a <;> rfl))
theorem hget_eq (h:Heap) (p:Pos) (k:AObj→R):hget h p k = k (h.get p):=by
  cases h with | mk n m =>
  cases m;cases p <;> simp only [hget,hgetM,Heap.get,HT.get,N16.getK_eq,pgetOF_eq] <;> split <;> simp_all
theorem hset_eq (h:Heap) (p:Pos) (o:AObj) (k:Heap→R):hset h p o k = k (h.set p o):=by
  cases h with | mk n m =>
  cases m;cases p <;> simp only [hset,hsetM,Heap.set,HT.set,N16.getK_eq,N16.setK_eq,psetOF_eq]
theorem hpush_eq (h:Heap) (o:AObj) (k:Pos→Heap→R):hpush h o k = k h.next (h.push o):=by
  cases h with | mk n m =>
  cases m;cases n <;> simp only [hpush,hsetM,Heap.push,HT.set,N16.getK_eq,N16.setK_eq,psetOF_eq,psuccF_eq]

/-! ### lists -/
theorem nthF_eq (l:List AV) (n:Nat) (k:AV→R):nthF l n k = optR (nth l n) k:=by
  induction l generalizing n with
  | nil=>cases n <;> rfl
  | cons x xs ih=>cases n with
    | zero=>rfl
    | succ n=>exact ih n
theorem takeF_eq (l:List AV) (n:Nat) (k:List AV→R):takeF l n k = optR (takeE n l) k:=by
  induction l generalizing n k with
  | nil=>cases n <;> rfl
  | cons x xs ih=>cases n with
    | zero=>rfl
    | succ n =>
      refine (ih n _).trans ?_;simp only [takeE]
      cases takeE n xs <;> rfl
theorem dropF_eq (l:List AV) (n:Nat) (k:List AV→R):dropF l n k = optR (dropE n l) k:=by
  induction l generalizing n k with
  | nil=>cases n <;> rfl
  | cons x xs ih=>cases n with
    | zero=>rfl
    | succ n=>exact ih n _
theorem subF_eq (l:List AV) (o n:Nat) (k:List AV→R):subF l o n k = optR (sub l o n) k:=by
  simp only [subF,dropF_eq,takeF_eq,sub]
  cases dropE o l <;> rfl
theorem overF_eq (xs cs:List AV) (f:List AV→Out AV) (k:KI):viaOut (overK .bad xs cs f) k = overF xs cs (fun r=>viaOut (f r) k):=by
  induction xs generalizing cs f with
  | nil=>rfl
  | cons x xs ih=>cases cs with
    | nil=>rfl
    | cons c cs=>exact ih cs _
theorem spliceF_eq (n:Nat) (xs cs:List AV) (f:List AV→Out AV) (k:KI):viaOut (spliceK .bad n xs cs f) k = spliceF n xs cs (fun r=>viaOut (f r) k):=by
  induction n generalizing cs f with
  | zero=>exact overF_eq xs cs f k
  | succ n ih=>cases cs with
    | nil=>rfl
    | cons c cs=>exact ih cs _
theorem appF_eq (a b:List AV) (k:List AV→R):appF a b k = k (a++b):=by
  induction a generalizing k with
  | nil=>rfl
  | cons x xs ih=>exact ih _
theorem lenIsF_eq (l:List AV) (n:Nat) (k:R):lenIsF l n k = yes? (lengthIs l n) k .bad:=by
  induction l generalizing n with
  | nil=>cases n <;> rfl
  | cons x xs ih=>cases n with
    | zero=>rfl
    | succ n=>exact ih n
theorem beqNF_eq (x y:List Nat) (k:Bool→R):beqNF x y k = k (beqN x y):=by
  induction x generalizing y with
  | nil=>cases y <;> rfl
  | cons a x ih=>cases y with
    | nil=>rfl
    | cons b y =>
      have:beqNF (a :: x) (b :: y) k = yes? (Nat.beq a b) (beqNF x y k) (k false):=rfl;rw [this,ih];simp only [beqN]
      cases Nat.beq a b <;> rfl
theorem ltNF_eq (l x:List Nat) (k:Bool→R):ltNF l x k = k (ltN x l):=by
  induction l generalizing x with
  | nil=>cases x <;> rfl
  | cons b y ih=>cases x with
    | nil=>rfl
    | cons a x =>
      have:ltNF (b :: y) (a :: x) k = yes? (Nat.blt a b) (k true) (yes? (Nat.beq a b) (ltNF y x k) (k false)):=rfl;rw [this,ih];simp only [ltN]
      cases Nat.blt a b <;> cases Nat.beq a b <;> rfl
theorem lenF_eq {α:Type} (l:List α) (n:Nat) (k:Nat→R):lenF l n k = k (lenN l n):=by
  induction l generalizing n with
  | nil=>rfl
  | cons x xs ih=>exact ih _
theorem hasF_eq (l:List AV) (n:Nat):hasF l n = (dropE n l).isSome:=by
  induction l generalizing n with
  | nil=>cases n <;> rfl
  | cons x xs ih=>cases n with
    | zero=>rfl
    | succ n=>exact ih n
theorem avBytesF_eq (l:List Nat) (k:List AV→R):avBytesF l k = k (avBytes l):=by
  induction l generalizing k with
  | nil=>rfl
  | cons x xs ih=>exact ih _

/-! ### operands -/
theorem withF_eq (x:XO) (tm:Tm) (f:AV→Out AV) (k:KI):viaOut (x.withO tm f) k = withF x tm fun v=>viaOut (f v) k:=by
  cases x with
  | c v=>rfl
  | t p =>
    have:withF (.t p) tm (fun v=>viaOut (f v) k) = getF tm p fun v=>viaOut (f v) k:=rfl
    rw [this,getF_eq];simp only [XO.withO]
    cases tm.get p <;> rfl
theorem withIF_eq (x:XO) (tm:Tm) (f:IntKind→Int→Out AV) (k:KI):viaOut (x.withI tm f) k = withIF x tm fun c n=>viaOut (f c n) k:=by
  simp only [XO.withI,withF_eq,withIF]
  congr 1;funext v;cases v <;> rfl
theorem withBF_eq (x:XO) (tm:Tm) (f:Bool→Out AV) (k:KI):viaOut (x.withB tm f) k = withBF x tm fun b=>viaOut (f b) k:=by
  simp only [XO.withB,withF_eq,withBF]
  congr 1;funext v;cases v <;> rfl
theorem withNF_eq (x:XO) (tm:Tm) (f:Nat→Out AV) (k:KI):viaOut (x.withN tm f) k = withNF x tm fun b=>viaOut (f b) k:=by
  simp only [XO.withN,XO.withI,withF_eq,withNF]
  congr 1;funext v;cases v <;> first | rfl | (rename_i c n;cases n <;> rfl)
theorem withLF_eq (l:List XO) (tm:Tm) (f:List AV→Out AV) (k:KI):viaOut (withL l tm f) k = withLF l tm fun vs=>viaOut (f vs) k:=by
  induction l generalizing f with
  | nil=>rfl
  | cons x xs ih =>
    simp only [withL,withF_eq,ih];rfl

/-! ### numbers -/
theorem eqIF_eq (a b:Int) (k:Bool→R):eqIF a b k = k (eqI a b):=by cases a <;> cases b <;> rfl
theorem ltIF_eq (a b:Int) (k:Bool→R):ltIF a b k = k (ltI a b):=by cases a <;> cases b <;> rfl
theorem wrapIF_eq (a:IntKind) (n:Int) (h:Heap) (k:KI):wrapIF a n h k = k (.int a (wrapF a n)) h:=by
  cases a <;> first | rfl | (cases n <;> first | rfl | skip)
  all_goals
    rename_i m
    simp only [wrapIF,wrapF,wrap64F]
    cases hm:Nat.blt m 9223372036854775808 <;> simp only [yes?]
theorem addF_eq (a:IntKind) (x y:Int) (h:Heap) (k:KI):addF a x y h k = k (.int a (wrapF a (x + y))) h:=by
  unfold addF;rw [wrapIF_eq]
  cases x <;> cases y <;> rfl
theorem notB_eq (b:Bool):(Bool.rec true false b:Bool) = (match b with | true=>false | false=>true):=by cases b <;> rfl
theorem binIIF_eq (b:XB) (a:IntKind) (x y:Int) (h:Heap) (k:KI):binIIF b a x y h k = viaOut (binII b a x y h) k:=by
  cases b <;> simp only [binIIF,binII,addF_eq,wrapIF_eq,okI,okB,viaOut_ok,viaOut_bad,eqIF_eq,ltIF_eq,no,notB_eq,leI] <;> rfl
theorem binSSF_eq (b:XB) (x y:List Nat) (h:Heap) (k:KI):binSSF b x y h k = viaOut (binSS b x y h) k:=by
  cases b <;> simp only [binSSF,binSS,okB,viaOut_ok,viaOut_bad,beqNF_eq,ltNF_eq,no,notB_eq]
  all_goals cases ltN x y <;> rfl
theorem binVF_eq (b:XB) (v c:AV) (h:Heap) (k:KI):binVF v b c h k = viaOut (binVV b v c h) k:=by
  cases v <;> cases c <;> first | rfl | skip
  · rename_i a x c y
    have:binVF (.int a x) b (.int c y) h k = Bool.rec (motive:=fun _=>R) (sameKF a c (binIIF b a x y h k)) (shiftF b a x y h k) (isShift b):=rfl;rw [this,binIIF_eq]
    cases b <;> first | rfl | (simp only [isShift,binVV,sameKF];cases sameK a c <;> rfl)
  · rename_i x y
    have:binVF (.str x) b (.str y) h k = binSSF b x y h k:=rfl;rw [this,binSSF_eq]
    cases b <;> rfl

/-! ### equality -/
theorem sameF_eq (s:SK) (a b:AV) (k:Bool→R):sameF s a b k = optR (sameV s a b) k:=by
  cases s <;> cases a <;> cases b <;> first | rfl | skip
  · rename_i a b;cases a <;> cases b <;> rfl
  · rename_i a x c y
    have:sameF .int (.int a x) (.int c y) k = sameKF a c (eqIF x y k):=rfl;rw [this,eqIF_eq];simp only [sameKF,sameV,sameInt]
    cases sameK a c <;> rfl
  · exact beqNF_eq _ _ _
  · rename_i p o q r
    simp only [sameV,samePtr];have:sameF .ptr (.ptr p o) (.ptr q r) k = yes? (p.beq q) (k (Nat.beq o r)) no:=rfl;rw [this]
    cases p.beq q <;> rfl
theorem negF_eq (n b:Bool):negF n b = negIf n b:=by cases n <;> cases b <;> rfl
theorem sameLF_eq (ms:List (Option SK)) (as bs:List AV) (k:Bool→R):sameLF ms as bs k = optR (sameL ms as bs) k:=by
  induction ms generalizing as bs with
  | nil=>cases as <;> cases bs <;> rfl
  | cons m ms ih =>
    cases as with
    | nil=>cases bs <;> rfl
    | cons a as=>cases bs with
      | nil=>rfl
      | cons b bs =>
        cases m with
        | none=>exact ih as bs
        | some s =>
          have:sameLF (some s :: ms) (a :: as) (b :: bs) k = sameF s a b fun r=>yes? r (sameLF ms as bs k) (k false):=rfl
          rw [this,sameF_eq,ih];simp only [sameL]
          cases sameV s a b with
          | none=>rfl
          | some r=>cases r <;> rfl

/-! ### parts,memory -/
theorem partF_eq (cs:List AV) (o:Nat) (n:Option Nat) (h:Heap) (k:KI):partF cs o n h k = viaOut (partOf cs o n h) k:=by
  cases n with
  | none =>
    have:partF cs o none h k = nthF cs o fun v=>kAny v v h k:=rfl
    rw [this,nthF_eq];simp only [partOf]
    cases nth cs o with
    | none=>rfl
    | some v=>cases v <;> rfl
  | some n =>
    have:partF cs o (some n) h k = subF cs o n fun l=>k (.agg l) h:=rfl
    rw [this,subF_eq];simp only [partOf]
    cases sub cs o n <;> rfl
theorem ptrAddF_eq (v:AV) (n:Nat) (h:Heap) (k:KI):ptrAddF v n h k = viaOut (ptrAdd v n h) k:=by
  cases v <;> first | rfl | skip
  rename_i cs
  have:ptrAddF (.iptr cs) n h k = dropF cs n fun r=>k (.iptr r) h:=rfl
  rw [this,dropF_eq];simp only [ptrAdd]
  cases dropE n cs <;> rfl
theorem loadVF_eq (v:AV) (n:Option Nat) (h:Heap) (k:KI):loadVF v n h k = viaOut (match v with
  | .ptr p o=>match h.get p with | .row _ cs _=>partOf cs o n h | _=>.bad
  | .iptr cs=>partOf cs 0 n h
  | _=>.bad) k:=by
  cases v <;> first | rfl | skip
  · rename_i p o
    have:loadVF (.ptr p o) n h k = hget h p fun ob=>loadO ob n o h k:=rfl
    rw [this,hget_eq];dsimp only
    cases h.get p <;> first | rfl | exact partF_eq _ _ _ _ _
  · exact partF_eq _ _ _ _ _
theorem cellsF_eq (v:AV) (k:List AV→R):cellsF v v k = optR v.cellsO k:=by cases v <;> rfl
theorem writeF_eq (p:Pos) (o:Nat) (xs:List AV) (r:AV) (h:Heap) (k:KI):writeF p o xs r h k = viaOut (writeAt p o xs r h) k:=by
  simp only [writeF,hget_eq,writeAt]
  cases h.get p <;> first | rfl | skip
  rename_i ty cs sp
  dsimp only;rw [spliceF_eq];simp only [writeO,hset_eq,Heap.setK_eq,viaOut_ok]
theorem fillF_eq (ps:List (Nat × Nat × XO)) (tm:Tm) (cs:List AV) (f:List AV→Out AV) (k:KI):viaOut (fillK .bad ps tm cs f) k = fillF ps tm cs fun cs=>viaOut (f cs) k:=by
  induction ps generalizing cs with
  | nil=>rfl
  | cons p ps ih =>
    obtain ⟨off,n,x⟩:=p;have:fillF ((off,n,x) :: ps) tm cs (fun cs=>viaOut (f cs) k) = withF x tm fun v=>cellsF v v fun vs=>lenIsF vs n (spliceF off vs cs fun cs=>fillF ps tm cs fun cs=>viaOut (f cs) k):=rfl
    rw [this];simp only [fillK,withF_eq]
    congr 1;funext v
    rw [cellsF_eq]
    cases v.cellsO with
    | none=>rfl
    | some vs =>
      simp only [optR_some,lenIsF_eq]
      cases lengthIs vs n with
      | false=>rfl
      | true =>
        simp only [yes_true,spliceF_eq]
        congr 1;funext cs'
        exact ih cs'
theorem srcF_eq (v:AV) (esz:Nat) (h:Heap) (k:Nat→List AV→R):srcF v esz h k = optR (srcOf esz v h) fun p=>k p.1 p.2:=by
  cases v <;> first | rfl | skip
  · rename_i l
    have:srcF (.str l) esz h k = yes? (Nat.beq esz 1) (lenF l 0 fun n=>avBytesF l fun cs=>k n cs) no:=rfl;rw [this,lenF_eq,avBytesF_eq];simp only [srcOf]
    cases Nat.beq esz 1 <;> rfl
  · rename_i p o len c
    cases len with
    | zero=>rfl
    | succ len =>
      have:srcF (.slice p o (len + 1) c) esz h k = hget h p fun ob=>srcO ob o (len + 1) ((len + 1) * esz) k:=rfl
      rw [this,hget_eq];simp only [srcOf]
      cases h.get p <;> first | rfl | skip
      rename_i ty cs sp
      have:srcO (.row ty cs sp) o (len + 1) ((len + 1) * esz) k = subF cs o ((len + 1) * esz) fun l=>k (len + 1) l:=rfl
      rw [this,subF_eq];dsimp only
      cases sub cs o ((len + 1) * esz) <;> rfl
  · rename_i cs len f
    have:srcF (.imm cs len f) esz h k = takeF cs (len * esz) fun l=>k len l:=rfl
    rw [this,takeF_eq];simp only [srcOf]
    cases takeE (len * esz) cs <;> rfl
theorem smallF_eq (n bytes:Nat) (k:R):smallF n bytes k = (match small n bytes,Nat.beq bytes 0 with | true,false=>k | _,_=>.bad):=by
  unfold smallF
  cases small n bytes <;> cases Nat.beq bytes 0 <;> rfl
theorem smallNF_eq (n bytes:Nat) (k:R):smallNF n bytes k = (match smallN n bytes,Nat.beq bytes 0 with | true,false=>k | _,_=>.bad):=by
  unfold smallNF
  cases smallN n bytes <;> cases Nat.beq bytes 0 <;> rfl
theorem appO_eq (ob:AObj) (ty esz bytes:Nat) (p:Pos) (o len n:Nat) (xs:List AV) (h:Heap) (k:KI) :
    appO ob ty esz bytes p o len n xs h k = viaOut (match true,ob with
        | true,.row ty' cs sp=>match dropE (o + (len + n) * esz) cs with
          | some _=>writeAt p (o + len * esz) xs (.slice p o (len + n) (.up esz)) h
          | none=>match small (len + n) bytes,Nat.beq bytes 0,sp,Nat.beq ty' ty with
            | true,false,true,true=>match sub cs o (len * esz) with
              | some old=>h.setK p .dead fun h=>h.pushK (.row ty (old++xs) true) fun p h=>.ok (.slice p 0 (len + n) (.up esz)) h
              | none=>.bad
            | _,_,_,_=>.bad
        | _,_=>.bad) k:=by
  cases ob <;> first | rfl | skip
  rename_i ty' cs sp
  have:appO (.row ty' cs sp) ty esz bytes p o len n xs h k = Bool.rec (motive:=fun _=>R)
    (smallF (len + n) bytes (yes? sp (yes? (Nat.beq ty' ty) (subF cs o (len * esz) fun old=>hset h p .dead fun h=>appF old xs fun cs=>hpush h (.row ty cs true) fun p h=>k (.slice p 0 (len + n) (.up esz)) h) no) no))
    (writeF p (o + len * esz) xs (.slice p o (len + n) (.up esz)) h k) (hasF cs (o + (len + n) * esz)):=rfl
  rw [this,hasF_eq,smallF_eq,writeF_eq,subF_eq];dsimp only
  cases dropE (o + (len + n) * esz) cs with
  | some r=>rfl
  | none =>
    simp only [Option.isSome_none]
    cases small (len + n) bytes <;> cases Nat.beq bytes 0 <;> cases sp <;> cases Nat.beq ty' ty <;> first | rfl | skip
    simp only [yes_true]
    cases sub cs o (len * esz) with
    | none=>rfl
    | some old=>simp only [optR_some,hset_eq,appF_eq,hpush_eq,Heap.setK_eq,Heap.pushK_eq,viaOut_ok]
theorem appToF_eq (ty esz bytes:Nat) (s:AV) (n:Nat) (xs:List AV) (h:Heap) (k:KI):appToF ty esz bytes s n xs h k = viaOut (appendTo ty esz bytes s n xs h) k:=by
  cases esz with
  | zero=>rfl
  | succ z =>
    have:appToF ty (z + 1) bytes s n xs h k = appF1 s s ty (z + 1) bytes n xs h k:=rfl;rw [this]
    cases s <;> first | rfl | skip
    · -- nil
      cases n with
      | zero=>rfl
      | succ n =>
        have:appF1 .nilslice .nilslice ty (z + 1) bytes (n + 1) xs h k = smallNF (n + 1) bytes (hpush h (.row ty xs true) fun p h=>k (.slice p 0 (n + 1) (.up (z + 1))) h):=rfl;rw [this,smallNF_eq,hpush_eq];simp only [appendTo]
        cases smallN (n + 1) bytes <;> cases Nat.beq bytes 0 <;> rfl
    · rename_i p o len cap
      cases cap with
      | ex c =>
        have:appF1 (.slice p o len (.ex c)) (.slice p o len (.ex c)) ty (z + 1) bytes n xs h k = yes? (Nat.ble (len + n) c) (Nat.rec (motive:=fun _=>R) (k (.slice p o len (.ex c)) h) (fun _ _=>writeF p (o + len * (z + 1)) xs (.slice p o (len + n) (.ex c)) h k) n) (smallF (len + n) bytes (srcF (.slice p o len (.ex c)) (z + 1) h fun _ old=>appF old xs fun cs=>hpush h (.row ty cs true) fun p h=>k (.slice p 0 (len + n) (.up (z + 1))) h)):=rfl;rw [this,smallF_eq,srcF_eq];simp only [appendTo]
        cases Nat.ble (len + n) c with
        | true=>cases n <;> first | rfl | exact writeF_eq _ _ _ _ _ _
        | false =>
          simp only [yes_false]
          cases small (len + n) bytes <;> cases Nat.beq bytes 0 <;> first | rfl | skip
          dsimp only
          cases srcOf (z + 1) (.slice p o len (.ex c)) h with
          | none=>rfl
          | some r=>simp only [optR_some,appF_eq,hpush_eq,Heap.pushK_eq,viaOut_ok]
      | up y =>
        cases n with
        | zero=>rfl
        | succ n =>
          have:appF1 (.slice p o len (.up y)) (.slice p o len (.up y)) ty (z + 1) bytes (n + 1) xs h k = yes? (Nat.beq y (z + 1)) (hget h p fun ob=>appO ob ty (z + 1) bytes p o len (n + 1) xs h k) no:=rfl;rw [this,hget_eq,appO_eq];simp only [appendTo]
          cases Nat.beq y (z + 1) <;> first | rfl | (cases h.get p <;> rfl)
    · rename_i cs len full
      cases full with
      | false=>rfl
      | true =>
        cases n with
        | zero=>rfl
        | succ n =>
          have:appF1 (.imm cs len true) (.imm cs len true) ty (z + 1) bytes (n + 1) xs h k = smallF (len + (n + 1)) bytes (takeF cs (len * (z + 1)) fun old=>appF old xs fun cs=>hpush h (.row ty cs true) fun p h=>k (.slice p 0 (len + (n + 1)) (.up (z + 1))) h):=rfl;rw [this,smallF_eq,takeF_eq];simp only [appendTo]
          cases small (len + (n + 1)) bytes <;> cases Nat.beq bytes 0 <;> first | rfl | skip
          dsimp only
          cases takeE (len * (z + 1)) cs with
          | none=>rfl
          | some r=>simp only [optR_some,appF_eq,hpush_eq,Heap.pushK_eq,viaOut_ok]

/-! ### maps -/
theorem keyIsF_eq (a b:AV) (k:Bool→R):keyIsF a b k = optR (keyIs a b) k:=by
  cases a <;> cases b <;> first | rfl | skip
  · rename_i a x c y
    have:keyIsF (.int a x) (.int c y) k = sameKF a c (eqIF x y k):=rfl;rw [this,eqIF_eq];simp only [sameKF,keyIs]
    cases sameK a c <;> rfl
  · exact beqNF_eq _ _ _
theorem isKeyF_eq (v:AV) (s:Bool) (k:R):isKeyF v s k = (match isKey s v with | true=>k | false=>.bad):=by cases v <;> cases s <;> rfl
theorem findF_eq (es:List (AV × AV × Nat)) (x:AV) (i:Nat) (y:Nat→AV→R) (n:R):findF es x i y n = (match findE x es i with | some (some (i,v))=>y i v | some none=>n | none=>.bad):=by
  induction es generalizing i with
  | nil=>rfl
  | cons e es ih =>
    obtain ⟨a,v,b⟩:=e;have:findF ((a,v,b) :: es) x i y n = keyIsF x a fun b=>yes? b (y i v) (findF es x (Nat.succ i) y n):=rfl
    rw [this,keyIsF_eq,ih];simp only [findE]
    cases keyIs x a with
    | none=>rfl
    | some r=>cases r <;> rfl
theorem lookVF_eq (v x zero:AV) (ok:Bool) (h:Heap) (k:KI):lookVF v x zero ok h k = viaOut (match v with
    | .nilmap=>lookRes zero ok (some none) h
    | .map p=>match h.get p with | .map es _=>lookRes zero ok (findE x es 0) h | _=>.bad
    | _=>.bad) k:=by
  cases v <;> first | rfl | (cases ok <;> rfl) | skip
  rename_i p
  have:lookVF (.map p) x zero ok h k = hget h p fun ob=>lookO ob x zero ok h k:=rfl
  rw [this,hget_eq];dsimp only
  cases h.get p <;> first | rfl | skip
  rename_i es cl
  have:lookO (.map es cl) x zero ok h k = findF es x 0 (fun _ v=>Bool.rec (motive:=fun _=>R) (k v h) (k (.tuple [v,.bool true]) h) ok) (Bool.rec (motive:=fun _=>R) (k zero h) (k (.tuple [zero,.bool false]) h) ok):=rfl;rw [this,findF_eq];dsimp only
  cases findE x es 0 with
  | none=>rfl
  | some r=>cases r <;> cases ok <;> rfl
theorem updVF_eq (v x y:AV) (h:Heap) (k:KI):updVF v x y h k = viaOut (match v with
    | .map p=>match h.get p with
      | .map es cl=>match findE x es 0 with
        | some (some (i,_))=>h.setK p (.map (setVal y es i) cl) fun h=>.ok unit h
        | some none=>h.setK p (.map (es++[(x,y,cl)]) (cl + 1)) fun h=>.ok unit h
        | none=>.bad
      | _=>.bad
    | _=>.bad) k:=by
  cases v <;> first | rfl | skip
  rename_i p
  have:updVF (.map p) x y h k = hget h p fun ob=>updO ob p x y h k:=rfl
  rw [this,hget_eq];dsimp only
  cases h.get p <;> first | rfl | skip
  rename_i es cl
  have:updO (.map es cl) p x y h k = findF es x 0 (fun i _=>hset h p (.map (setVal y es i) cl) fun h=>k unit h) (hset h p (.map (es++[(x,y,cl)]) (cl + 1)) fun h=>k unit h):=rfl;rw [this,findF_eq];dsimp only
  cases findE x es 0 with
  | none=>rfl
  | some r=>cases r <;> simp only [hset_eq,Heap.setK_eq,viaOut_ok]

/-! ### all instructions -/
theorem semF_eq (i:XI) (tm:Tm) (h:Heap) (k:KI):semF i tm h k = viaOut (i.sem tm h) k:=by
  cases i <;> first | rfl | skip
  case mv a=>simp only [XI.sem,mvS,withF_eq];rfl
  case pick c a b =>
    simp only [XI.sem,pickS,withBF_eq];show withBF c tm _ = withBF c tm _
    congr 1;funext t;cases t <;> simp only [withF_eq] <;> rfl
  case nilck a =>
    simp only [XI.sem,nilckS,withF_eq];show withF a tm _ = withF a tm _
    congr 1;funext v;cases v <;> rfl
  case bin b x y =>
    simp only [XI.sem,binS,withF_eq,← binVF_eq];rfl
  case same n s x y =>
    simp only [XI.sem,sameS,withF_eq];show (withF x tm fun a=>withF y tm fun b=>sameF s a b fun r=>k (.bool (negF n r)) h) = _
    congr 1;funext a;congr 1;funext b
    rw [sameF_eq]
    cases sameV s a b with
    | none=>rfl
    | some r=>simp only [optR_some,negF_eq];rfl
  case sameCells n m x y =>
    simp only [XI.sem,sameCellsS,withF_eq];show (withF x tm fun a=>withF y tm fun b=>kAgg a fun as=>kAgg b fun bs=>sameLF m as bs fun r=>k (.bool (negF n r)) h) = _
    congr 1;funext a;congr 1;funext b
    cases a <;> cases b <;> first | rfl | skip
    rename_i as bs
    have:(kAgg (.agg as) fun as=>kAgg (.agg bs) fun bs=>sameLF m as bs fun r=>k (.bool (negF n r)) h) = sameLF m as bs fun r=>k (.bool (negF n r)) h:=rfl
    rw [this,sameLF_eq];dsimp only
    cases sameL m as bs with
    | none=>rfl
    | some r=>simp only [optR_some,negF_eq];rfl
  case conv c a =>
    simp only [XI.sem,convS,withIF_eq];show (withIF a tm fun _ n=>wrapIF c n h k) = _;simp only [wrapIF_eq];rfl
  case mkif t a=>simp only [XI.sem,mkifS,withF_eq];rfl
  case mkfn f a b=>simp only [XI.sem,mkfnS,withLF_eq];rfl
  case fld o n a =>
    simp only [XI.sem,fldS,withF_eq];show (withF a tm fun v=>kAgg v fun cs=>partF cs o n h k) = _
    congr 1;funext v;cases v <;> first | rfl | exact partF_eq _ _ _ _ _
  case faddr o a =>
    simp only [XI.sem,faddrS,withF_eq,← ptrAddF_eq];rfl
  case iaddrA len esz a i =>
    simp only [XI.sem,iaddrAS,withF_eq,withNF_eq];show (withF a tm fun v=>withNF i tm fun n=>yes? (Nat.blt n len) (ptrAddF v (n * esz) h k) no) = _
    congr 1;funext v;congr 1;funext n
    cases Nat.blt n len <;> first | rfl | exact ptrAddF_eq _ _ _ _
  case iaddrS esz a i =>
    simp only [XI.sem,iaddrSS,withF_eq,withNF_eq];show (withF a tm fun v=>withNF i tm fun n=>iaddrSF v esz n h k) = _
    congr 1;funext v;congr 1;funext n
    cases v <;> first | rfl | skip
    · rename_i p o len c
      have:iaddrSF (.slice p o len c) esz n h k = yes? (Nat.blt n len) (k (.ptr p (o + n * esz)) h) no:=rfl;rw [this];dsimp only
      cases Nat.blt n len <;> rfl
    · rename_i cs len f
      have:iaddrSF (.imm cs len f) esz n h k = yes? (Nat.blt n len) (dropF cs (n * esz) fun r=>List.rec (motive:=fun _=>R) .bad (fun _ _ _=>k (.iptr r) h) r) no:=rfl;rw [this,dropF_eq];dsimp only
      cases Nat.blt n len <;> first | rfl | skip
      cases dropE (n * esz) cs with
      | none=>rfl
      | some r=>cases r <;> rfl
  case extr a i =>
    simp only [XI.sem,extrS,withF_eq];show (withF a tm fun v=>kTuple v fun vs=>nthF vs i fun v=>k v h) = _
    congr 1;funext v;cases v <;> first | rfl | skip
    rename_i vs
    have:(kTuple (.tuple vs) fun vs=>nthF vs i fun v=>k v h) = nthF vs i fun v=>k v h:=rfl
    rw [this,nthF_eq];dsimp only
    cases nth vs i <;> rfl
  case tas t z ok a =>
    simp only [XI.sem,tasS,withF_eq];show (withF a tm fun v=>tasVF v t z ok h k) = _
    congr 1;funext v;cases v <;> first | rfl | (cases ok <;> rfl) | skip
    rename_i u x
    have:tasVF (.iface u x) t z ok h k = yes? (Nat.beq u t) (Bool.rec (motive:=fun _=>R) (k x h) (k (.tuple [x,.bool true]) h) ok) (Bool.rec (motive:=fun _=>R) no (k (.tuple [z,.bool false]) h) ok):=rfl;rw [this];dsimp only
    cases Nat.beq u t <;> cases ok <;> rfl
  case len s a =>
    simp only [XI.sem,lenS,withF_eq];show (withF a tm fun v=>lenVF v s h k) = _
    congr 1;funext v
    cases v <;> cases s <;> first | rfl | skip
    rename_i l
    exact lenF_eq _ _ _
  case build z ps=>simp only [XI.sem,buildS,fillF_eq];rfl
  case load n a =>
    simp only [XI.sem,loadS,withF_eq];show (withF a tm fun v=>loadVF v n h k) = _
    congr 1;funext v
    exact loadVF_eq v n h k
  case lookup s z ok m x =>
    simp only [XI.sem,lookupS,withF_eq];show (withF m tm fun v=>withF x tm fun x=>isKeyF x s (lookVF v x z ok h k)) = _
    congr 1;funext v;congr 1;funext x
    rw [isKeyF_eq,lookVF_eq]
    cases isKey s x <;> rfl
  case alloc ty z =>
    show (hpush h (.row ty z false) fun p h=>k (.ptr p 0) h) = _;rw [hpush_eq];rfl
  case box ty a =>
    simp only [XI.sem,boxS,withF_eq];show (withF a tm fun v=>cellsF v v fun cs=>hpush h (.row ty cs false) fun p h=>k (.ptr p 0) h) = _
    congr 1;funext v
    rw [cellsF_eq]
    cases v.cellsO with
    | none=>rfl
    | some cs=>simp only [optR_some,hpush_eq];rfl
  case bslice ty e len z ps =>
    simp only [XI.sem,bsliceS,fillF_eq];show (fillF ps tm z fun cs=>hpush h (.row ty cs false) fun p h=>k (.slice p 0 len (.ex len)) h) = _;simp only [hpush_eq];rfl
  case mkmap =>
    show (hpush h (.map [] 0) fun p h=>k (.map p) h) = _;rw [hpush_eq];rfl
  case store n a x =>
    simp only [XI.sem,storeS,withF_eq];show (withF a tm fun v=>withF x tm fun w=>storeVF v n w h k) = _
    congr 1;funext v;congr 1;funext w
    cases v <;> first | rfl | skip
    rename_i p o
    have:storeVF (.ptr p o) n w h k = cellsF w w fun cs=>lenIsF cs n (writeF p o cs unit h k):=rfl
    rw [this,cellsF_eq];dsimp only
    cases w.cellsO with
    | none=>rfl
    | some cs =>
      simp only [optR_some,lenIsF_eq,writeF_eq]
      cases lengthIs cs n <;> rfl
  case append ty esz b s x =>
    simp only [XI.sem,appendS,withF_eq];show (withF s tm fun v=>withF x tm fun w=>srcF w esz h fun n xs=>appToF ty esz b v n xs h k) = _
    congr 1;funext v;congr 1;funext w
    rw [srcF_eq]
    cases srcOf esz w h with
    | none=>rfl
    | some r=>simp only [optR_some,appToF_eq]
  case mapUpd s m x v =>
    simp only [XI.sem,mapUpdS,withF_eq];show (withF m tm fun mv=>withF x tm fun x=>withF v tm fun v=>isKeyF x s (updVF mv x v h k)) = _
    congr 1;funext a;congr 1;funext b;congr 1;funext c
    rw [isKeyF_eq,updVF_eq]
    cases isKey s b <;> first | rfl | (cases a <;> rfl)
end Go.X
