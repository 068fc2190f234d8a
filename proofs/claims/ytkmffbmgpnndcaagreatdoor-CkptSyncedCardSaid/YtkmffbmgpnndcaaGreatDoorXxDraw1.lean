/- Regions whose order is open: what the compiler looked at; what an operation looks at. -/
import Derived.Test.YtkmffbmgpnndcaaGreatDoorXxCode
import Derived.Test.YtkmffbmgpnndcaaGreatDoorXxNat
namespace Go.X
open Go

/-! ### temporaries left out -/
def PT.del {α:Type}:PT α→BP→PT α
  | .leaf,_=>.leaf
  | .node l _ r,.u=>.node l none r
  | .node l v r,.o p=>.node (PT.del l p) v r
  | .node l v r,.i p=>.node l v (PT.del r p)
theorem PT.get_del {α:Type} (t:PT α) (p q:BP):(PT.del t p).get q = if q = p then none else t.get q:=by
  induction t generalizing p q with
  | leaf=>cases p <;> simp [PT.del,PT.get_leaf]
  | node l v r ihl ihr=>cases p <;> cases q <;> simp [PT.del,PT.get,ihl,ihr]
def TT.del {α:Type} (t:TT α) (p:Slot):TT α:=match p with
  | .lo a b=>⟨t.lo.set a ((t.lo.get a).set b none),t.hi⟩
  | .hi p=>⟨t.lo,PT.del t.hi p⟩
theorem TT.get_del {α:Type} (t:TT α) (p q:Slot):(TT.del t p).get q = if q = p then none else t.get q:=by
  cases p with
  | hi p=>cases q with
    | lo a b=>simp [TT.del,TT.get]
    | hi q=>simp [TT.del,TT.get,PT.get_del]
  | lo a b=>cases q with
    | hi q=>simp [TT.del,TT.get]
    | lo d e =>
      simp only [TT.del,TT.get,Slot.lo.injEq]
      by_cases ha:a = d
      · subst ha;rw [N16.get_set_same]
        by_cases hb:b = e
        · subst hb;simp [N16.get_set_same]
        · rw [N16.get_set_ne _ _ hb,if_neg fun e=>hb e.2.symm]
      · rw [N16.get_set_ne _ _ ha,if_neg fun e=>ha e.1.symm]
def dels (tm:Tm):List Slot→Tm
  | []=>tm
  | p :: L=>TT.del (dels tm L) p
theorem get_dels (tm:Tm) (q:Slot):∀ L:List Slot,(dels tm L).get q = if q ∈ L then none else tm.get q
  | []=>by simp [dels]
  | p :: L=>by
    rw [dels,TT.get_del,get_dels tm q L]
    by_cases h:q = p
    · subst h;simp
    · simp [h]

/-! ### what an operation looks at -/
noncomputable section
variable {E:XEnv} {call:CallK} {tm tmP:Tm} {ds:List Dfd} {pan:Pan} {h:Heap}
theorem agree_slots:∀ {l:List XO},(∀ p ∈ slotsOf l,tm.get p = tmP.get p)→∀ x ∈ l,Agree tm tmP x
  | [],_,_,hx=>by simp at hx
  | y :: l,h,x,hx=>by
    have h2:∀ p ∈ slotsOf l,tm.get p = tmP.get p:=fun p hp=>h p (by cases y <;> simp [slotsOf,hp])
    rcases List.mem_cons.1 hx with rfl | hx
    · cases x with
      | c v=>trivial
      | t p=>exact h p (by simp [slotsOf])
    · exact agree_slots h2 x hx
theorem withF_agree {x:XO} (h:Agree tm tmP x):withF x tm = withF x tmP:=by
  funext k
  cases x with
  | c v=>rfl
  | t p =>
    show getF tm p k = getF tmP p k;rw [getF_eq,getF_eq,show tm.get p = tmP.get p from h]
theorem withLF_agree:∀ {l:List XO},(∀ x ∈ l,Agree tm tmP x)→withLF l tm = withLF l tmP
  | [],_=>rfl
  | x :: l,h=>by
    funext k
    show withF x tm (fun v=>withLF l tm fun vs=>k (v :: vs)) = withF x tmP fun v=>withLF l tmP fun vs=>k (v :: vs)
    rw [withF_agree (h x (by simp)),withLF_agree fun y hy=>h y (mS _ hy)]
theorem wantF_agree {g:Option (Slot × Bool)} (h:∀ p b,g = some (p,b)→tm.get p = tmP.get p):wantF g tm = wantF g tmP:=by
  funext k
  cases g with
  | none=>rfl
  | some pb =>
    obtain ⟨p,b⟩:=pb;show getF tm p _ = getF tmP p _;rw [getF_eq,getF_eq,h p b rfl]
abbrev KV:=AV→List Dfd→Pan→Heap→R
def callV (f:AV) (vs:List AV) (call:CallK) (ds:List Dfd) (pan:Pan) (h:Heap) (K:KV) (KP:AV→Heap→R):R:=call f vs .off h (fun v _ h=>K v ds pan h) (fun v _ h=>KP v h)
def opV (E:XEnv) (call:CallK) (tm:Tm) (ds:List Dfd) (pan:Pan) (h:Heap) (K:KV) (KP:AV→Heap→R):XC→R
  | .ins i=>semF i tm h fun v h=>K v ds pan h
  | .call f args=>withLF args tm fun vs=>callV (.func f [] []) vs call ds pan h K KP
  | .callv f args=>withF f tm fun fv=>withLF args tm fun vs=>callV fv vs call ds pan h K KP
  | .invoke r name args=>withF r tm fun rv=>withLF args tm fun vs=>kIface rv fun t v=>Option.rec (motive:=fun _=>R) .bad (fun f=>callV (.func f [] []) (v :: vs) call ds pan h K KP) (E.meth t name)
  | .defer f args=>withF f tm fun fv=>isFunc fv (withLF args tm fun vs=>K unit ((fv,vs) :: ds) pan h)
  | .recover=>Pan.rec (motive:=fun _=>R) (K .niliface ds .off h) (fun v=>K v ds .off h) pan
  | .panic a=>withF a tm fun v=>isIface v (KP v h)
theorem op_nat {op:XC} (hag:∀ x ∈ op.ops,Agree tm tmP x) {d:Option Slot} {k:KS} {kp:KP}:opF E op call d tmP ds pan h k kp = opV E call tm ds pan h (fun v ds pan h=>k (putT d v tmP) ds pan h) (fun v h=>kp v tmP ds pan h) op:=by
  cases op with
  | ins i =>
    show semF i tmP h (fun v h=>putF d v tmP fun tm=>k tm ds pan h) = semF i tm h _;rw [semF_eq,semF_eq,sem_congr hag]
    congr 1
    funext v h
    rw [putF_eq]
  | call f args =>
    show withLF args tmP _ = withLF args tm _;rw [withLF_agree (l:=args) hag]
    congr 1
    funext vs
    simp only [callF,callV,putF_eq]
  | callv f args =>
    show withF f tmP _ = withF f tm _;rw [withF_agree (hag f (by simp [XC.ops])),withLF_agree (l:=args) fun y hy=>hag y (by simp [XC.ops,hy])]
    congr 1
    funext fv
    congr 1
    funext vs
    simp only [callF,callV,putF_eq]
  | invoke ro s args =>
    show withF ro tmP _ = withF ro tm _;rw [withF_agree (hag ro (by simp [XC.ops])),withLF_agree (l:=args) fun y hy=>hag y (by simp [XC.ops,hy])]
    congr 1
    funext fv
    congr 1
    funext vs
    congr 1
    funext t v
    cases E.meth t s with
    | none=>rfl
    | some f=>simp only [callF,callV,putF_eq]
  | defer f args =>
    show withF f tmP _ = withF f tm _;rw [withF_agree (hag f (by simp [XC.ops])),withLF_agree (l:=args) fun y hy=>hag y (by simp [XC.ops,hy])];simp only [putF_eq]
  | recover =>
    cases pan with
    | off =>
      show putF d .niliface tmP (fun tm=>k tm ds .off h) = k (putT d .niliface tmP) ds .off h;exact putF_eq _ _ _ _
    | on v =>
      show putF d v tmP (fun tm=>k tm ds .off h) = k (putT d v tmP) ds .off h;exact putF_eq _ _ _ _
  | panic a =>
    show withF a tmP _ = withF a tm _;rw [withF_agree (hag a (by simp [XC.ops]))]
def xopV (E:XEnv) (o:XOp) (call:CallK) (tm:Tm) (ds:List Dfd) (pan:Pan) (h:Heap) (K:KV) (KP:AV→Heap→R):R :=
  wantF o.guard tm fun b=>match b with | false=>K unit ds pan h | true=>opV E call tm ds pan h K KP o.op
theorem xop_nat {o:XOp} (hag:∀ p ∈ o.names,tm.get p = tmP.get p) {k:KS} {kp:KP}:xopF E o call tmP ds pan h k kp = xopV E o call tm ds pan h (fun v ds pan h=>k (putT o.dst v tmP) ds pan h) (fun v h=>kp v tmP ds pan h):=by
  obtain ⟨d,g,op⟩:=o;have h1:∀ x ∈ op.ops,Agree tm tmP x:=agree_slots fun p hp=>hag p (by cases g <;> simp [XOp.names,hp])
  have h2:wantF g tm = wantF g tmP:=wantF_agree fun p b e=>hag p (by subst e;simp [XOp.names])
  show wantF g tmP _ = wantF g tm _;rw [h2]
  congr 1
  funext b
  cases b with
  | false=>exact putF_eq _ _ _ _
  | true=>exact op_nat h1
end

/-! ### sets,as numbers -/
theorem testBit_lor' (a b j:Nat):(Nat.lor a b).testBit j = (a.testBit j || b.testBit j):=Nat.testBit_or a b j
theorem subM_iff {a b:Nat} (h:subM a b = true) (j:Nat) (hj:a.testBit j = true):b.testBit j = true:=by
  have h:Nat.land a b = a:=Nat.eq_of_beq_eq_true h;have h2:(Nat.land a b).testBit j = (a.testBit j && b.testBit j):=Nat.testBit_and a b j;rw [h,hj] at h2
  simpa using h2.symm
theorem subM_of {a b:Nat} (h:∀ j,a.testBit j = true→b.testBit j = true):subM a b = true:=by
  have:Nat.land a b = a:=by
    apply Nat.eq_of_testBit_eq
    intro j;have h2:(Nat.land a b).testBit j = (a.testBit j && b.testBit j):=Nat.testBit_and a b j;rw [h2]
    cases ha:a.testBit j with
    | false=>rfl
    | true=>rw [h j ha];rfl
  unfold subM;rw [this];exact Nat.beq_refl a
theorem maskOfL_iff (j:Nat):∀ l:List Nat,(maskOfL l).testBit j = true ↔ j ∈ l
  | []=>by simp [maskOfL]
  | i :: l=>by
    rw [maskOfL,testBit_lor',Bool.or_eq_true,maskOfL_iff j l,Nat.testBit_two_pow,decide_eq_true_eq,List.mem_cons];exact ⟨fun h=>h.imp Eq.symm id,fun h=>h.imp Eq.symm id⟩
theorem testBit_add (can i j:Nat):(Nat.lor can (2 ^ i)).testBit j = true ↔ can.testBit j = true∨j = i:=by
  rw [testBit_lor',Bool.or_eq_true,Nat.testBit_two_pow,decide_eq_true_eq];exact ⟨fun h=>h.imp id Eq.symm,fun h=>h.imp id Eq.symm⟩

/-! ### the compiler's looks -/
section
variable {P:Program} {n:Nat} {rnd:Bool} {ops:Array Oper}
theorem rosFrom_mem {b:Array Nat} {r:RO}:∀ {l:List Oper} {j:Nat},r ∈ rosFrom P n rnd ops b j l→∃ m o,l[m]? = some o∧r = roOf P n rnd ops b (j + m) o
  | [],_,h=>by simp [rosFrom] at h
  | o :: l,j,h=>by
    rcases List.mem_cons.1 h with h | h
    · exact ⟨0,o,rfl,h⟩
    · obtain ⟨m,o',h1,h2⟩:=rosFrom_mem h;exact ⟨m + 1,o',by simpa using h1,by rw [h2];congr 1;omega⟩
theorem rosFrom_get {b:Array Nat} {o:Oper}:∀ {l:List Oper} {j m:Nat},l[m]? = some o→roOf P n rnd ops b (j + m) o ∈ rosFrom P n rnd ops b j l
  | [],_,_,h=>by simp at h
  | o' :: l,j,0,h=>by
    simp only [List.getElem?_cons_zero,sJ] at h;subst h;exact m0
  | o' :: l,j,m + 1,h=>by
    refine mS _ ?_;have:=rosFrom_get (b:=b) (j:=j + 1) (l:=l) (m:=m) (by simpa using h)
    rwa [show j + 1 + m = j + (m + 1) by omega] at this
theorem hasS_iff {d:Slot}:∀ {l:List Slot},hasS d l = true ↔ d ∈ l
  | []=>by simp [hasS]
  | u :: l=>by
    simp only [hasS]
    cases h:d.beq u with
    | true=>simp [Slot.beq_iff.1 h]
    | false =>
      have:d ≠ u:=fun e=>by rw [Slot.beq_iff.2 e] at h;simp at h
      simp [this,hasS_iff (l:=l)]
theorem aboutS_dst {d:Slot} {o:XOp} (h:o.dst = some d):aboutS d o = true:=by
  unfold aboutS;rw [h];simp [Slot.beq_iff.2 rfl]
theorem aboutS_name {d:Slot} {o:XOp} (h:d ∈ o.names):aboutS d o = true:=by
  unfold aboutS
  split
  · rfl
  · exact hasS_iff.2 h
theorem orBefs_iff {m j:Nat}:∀ {l:List RO},(orBefs m l).testBit j = true→∃ q ∈ l,m.testBit q.i = true∧q.bef.testBit j = true
  | [],h=>by simp [orBefs] at h
  | q :: l,h=>by
    simp only [orBefs] at h
    cases hq:Nat.testBit m q.i with
    | false =>
      rw [hq] at h;obtain ⟨q',h1,h2⟩:=orBefs_iff h;exact ⟨q',mS _ h1,h2⟩
    | true =>
      rw [hq] at h;dsimp only at h;rw [testBit_lor',Bool.or_eq_true] at h
      rcases h with h | h
      · exact ⟨q,m0,hq,h⟩
      · obtain ⟨q',h1,h2⟩:=orBefs_iff h;exact ⟨q',mS _ h1,h2⟩
theorem befsOk_mem {all:List RO} {r:RO}:∀ {l:List RO},befsOk all l = true→r ∈ l→r.deps < 2 ^ r.i∧subM r.bef (Nat.lor r.deps (orBefs r.deps all)) = true
  | [],_,h=>by simp at h
  | q :: l,h,hr=>by
    simp only [befsOk] at h
    cases h1:Nat.blt q.deps (2 ^ q.i) <;> cases h2:subM q.bef (Nat.lor q.deps (orBefs q.deps all)) <;> rw [h1,h2] at h <;> simp only [Bool.false_eq_true] at h
    rcases List.mem_cons.1 hr with rfl | hr
    · exact ⟨Nat.le_of_ble_eq_true h1,h2⟩
    · exact befsOk_mem h hr
theorem apart1_mem {d:Slot} {r q:RO}:∀ {l:List RO},apart1 d r l = true→q ∈ l→q.i ≠ r.i→aboutS d q.x = true→q.bef.testBit r.i = true∨(r.loud = true∧r.bef.testBit q.i = true)
  | [],_,h,_,_=>by simp at h
  | p :: l,h,hq,hne,hab=>by
    simp only [apart1] at h;have h':apart1 d r l = true:=by
      repeat' (split at h)
      all_goals first | exact h | simp at h
    rcases List.mem_cons.1 hq with rfl | hq
    · have h0:Nat.beq r.i q.i = false:=by
        cases hb:Nat.beq r.i q.i with
        | false=>rfl
        | true=>exact absurd (Nat.eq_of_beq_eq_true hb).symm hne
      rw [h0,hab] at h
      cases h1:Nat.testBit q.bef r.i with
      | true=>exact .inl rfl
      | false =>
        rw [h1] at h
        cases h2:r.loud <;> cases h3:Nat.testBit r.bef q.i <;> rw [h2,h3] at h <;> simp at h
        exact .inr ⟨rfl,rfl⟩
    · exact apart1_mem h' hq hne hab
theorem apartAll_mem {all:List RO} {r:RO} {d:Slot}:∀ {l:List RO},apartAll all l = true→r ∈ l→r.x.dst = some d→apart1 d r all = true∧selfOk d r = true
  | [],_,h,_=>by simp at h
  | p :: l,h,hr,hd=>by
    simp only [apartAll] at h
    rcases List.mem_cons.1 hr with rfl | hr
    · rw [hd] at h;dsimp only at h
      cases h1:apart1 d r all <;> cases h2:selfOk d r <;> rw [h1,h2] at h <;> simp only [Bool.false_eq_true] at h
      exact ⟨rfl,rfl⟩
    · refine apartAll_mem (l:=l) ?_ hr hd
      repeat' (split at h)
      all_goals first | exact h | simp at h

structure DrawL (P:Program) (n:Nat) (rnd:Bool) (ops:Array Oper) (l:List RO):Prop where
  mem:∀ r ∈ l,∃ o,ops[r.i]? = some o∧r.x = copOper P n rnd ops o∧(∀ j,r.deps.testBit j = true ↔ j ∈ depsOf o)∧(r.loud = false→kindOf r.x.op ≤ 2)
  all:∀ i,i < ops.size→∃ r ∈ l,r.i = i
  inj:∀ r ∈ l,∀ q ∈ l,r.i = q.i→r = q
  lt:∀ r ∈ l,∀ j,r.deps.testBit j = true→j < r.i
  bef:∀ r ∈ l,∀ j,r.bef.testBit j = true→r.deps.testBit j = true∨∃ q ∈ l,r.deps.testBit q.i = true∧q.bef.testBit j = true
  apart:∀ r ∈ l,∀ d,r.x.dst = some d→∀ q ∈ l,q.i ≠ r.i→aboutS d q.x = true→q.bef.testBit r.i = true∨(r.loud = true∧r.bef.testBit q.i = true)
  self:∀ r ∈ l,r.loud = false→∀ d,r.x.dst = some d→d ∉ r.x.names
theorem drawL (h1:apartAll (rosOf P n rnd ops) (rosOf P n rnd ops) = true) (h2:befsOk (rosOf P n rnd ops) (rosOf P n rnd ops) = true):DrawL P n rnd ops (rosOf P n rnd ops):=by
  have hm:∀ r ∈ rosOf P n rnd ops,∃ o,ops[r.i]? = some o∧r = roOf P n rnd ops (Region.before ops) r.i o:=by
    intro r hr;obtain ⟨m,o,ho,e⟩:=rosFrom_mem hr;have hi:r.i = m:=by rw [e];simp [roOf]
    refine ⟨o,by rw [hi];simpa using ho,by rw [hi];simpa using e⟩
  refine ⟨fun r hr=>?_,fun i hi=>?_,fun r hr q hq e=>?_,fun r hr j hj=>?_,fun r hr j hj=>?_,fun r hr d hd q hq hne hab=>apart1_mem (apartAll_mem h1 hr hd).1 hq hne hab,fun r hr hl d hd hn=>?_⟩
  · obtain ⟨o,ho,e⟩:=hm r hr;refine ⟨o,ho,by rw [e];rfl,fun j=>by rw [e];exact maskOfL_iff j _,fun hl=>?_⟩;rw [e] at hl ⊢;simp only [roOf] at hl ⊢
    cases hk:Nat.ble 3 (kindOf (copOper P n rnd ops o).op) with
    | true=>rw [hk] at hl;simp at hl
    | false =>
      refine Classical.byContradiction fun hgt=>?_
      rw [Nat.ble_eq_true_of_le (show 3 ≤ kindOf (copOper P n rnd ops o).op by omega)] at hk;simp at hk
  · have ho:ops.toList[i]? = some ops[i]:=by simp [hi]
    have:=rosFrom_get (P:=P) (n:=n) (rnd:=rnd) (ops:=ops) (b:=Region.before ops) (j:=0) ho;exact ⟨_,this,by simp [roOf]⟩
  · obtain ⟨o,ho,e1⟩:=hm r hr;obtain ⟨o',ho',e2⟩:=hm q hq;rw [e] at ho e1;rw [ho,sJ] at ho';subst ho';rw [e1,← e2]
  · refine Classical.byContradiction fun hge=>?_
    have:=Nat.testBit_lt_two_pow (x:=r.deps) (i:=j) (Nat.lt_of_lt_of_le (befsOk_mem h2 hr).1 (Nat.pow_le_pow_right (by omega) (by omega)));rw [this] at hj;simp at hj
  · have:=subM_iff (befsOk_mem h2 hr).2 j hj;rw [testBit_lor',Bool.or_eq_true] at this
    rcases this with h | h
    · exact .inl h
    · exact .inr (orBefs_iff h)
  · have:=(apartAll_mem h1 hr hd).2;rw [selfOk,hl,hasS_iff.2 hn] at this;simp at this
section
variable {l:List RO} (L:DrawL P n rnd ops l)
include L
theorem DrawL.bef_lt:∀ m,∀ r ∈ l,r.i = m→∀ j,r.bef.testBit j = true→j < r.i:=by
  intro m
  induction m using Nat.strongRecOn with
  | _ m ih =>
    intro r hr hm j hj
    rcases L.bef r hr j hj with h | ⟨q,hq,h1,h2⟩
    · exact L.lt r hr j h
    · have h3:=L.lt r hr q.i h1;have:=ih q.i (by omega) q hq rfl j h2;omega
theorem DrawL.closed {S:Nat→Prop} (hS:∀ r ∈ l,S r.i→∀ j,r.deps.testBit j = true→S j):∀ m,∀ r ∈ l,r.i = m→S r.i→∀ j,r.bef.testBit j = true→S j:=by
  intro m
  induction m using Nat.strongRecOn with
  | _ m ih =>
    intro r hr hm hs j hj
    rcases L.bef r hr j hj with h | ⟨q,hq,h1,h2⟩
    · exact hS r hr hs j h
    · exact ih q.i (by have:=L.lt r hr q.i h1;omega) q hq rfl (hS r hr hs q.i h1) j h2
theorem DrawL.closed' {S:Nat→Prop} (hS:∀ r ∈ l,S r.i→∀ j,r.deps.testBit j = true→S j) {r:RO} (hr:r ∈ l) (hd:∀ j,r.deps.testBit j = true→S j):∀ j,r.bef.testBit j = true→S j:=by
  intro j hj
  rcases L.bef r hr j hj with h | ⟨q,hq,h1,h2⟩
  · exact hd j h
  · exact L.closed hS q.i q hq rfl (hd _ h1) j h2
theorem DrawL.behind {q r:RO} (hq:q ∈ l) (hr:r ∈ l) (hl:q.loud = false) {d:Slot} (hd:q.x.dst = some d) (hne:r.i ≠ q.i) (hab:aboutS d r.x = true):r.bef.testBit q.i = true:=by
  rcases L.apart q hq d hd r hr hne hab with h | ⟨h,_⟩
  · exact h
  · rw [hl] at h;simp at h
theorem DrawL.once {q r:RO} (hq:q ∈ l) (hr:r ∈ l) (hl:q.loud = false) (hl':r.loud = false) {d:Slot} (hd:q.x.dst = some d) (hd':r.x.dst = some d):r = q:=by
  refine Classical.byContradiction fun hne=>?_
  have hni:r.i ≠ q.i:=fun e=>hne (L.inj r hr q hq e)
  have h1:=L.behind hq hr hl hd hni (aboutS_dst hd');have h2:=L.behind hr hq hl' hd' (Ne.symm hni) (aboutS_dst hd);have h3:=L.bef_lt _ r hr rfl _ h1;have h4:=L.bef_lt _ q hq rfl _ h2;omega
end
theorem pickQ_some {can:Nat} {r:RO}:∀ {l:List RO},pickQ can l = some r→r ∈ l∧r.loud = false∧can.testBit r.i = false∧subM r.deps can = true
  | [],h=>by simp [pickQ] at h
  | q :: l,h=>by
    simp only [pickQ] at h
    split at h
    · rename_i h1 h2 h3
      simp only [sJ] at h;subst h;exact ⟨m0,h1,h2,h3⟩
    · obtain ⟨a,b⟩:=pickQ_some h;exact ⟨mS _ a,b⟩
theorem pickL_some {can:Nat} {r:RO}:∀ {l:List RO},pickL can l = some r→r ∈ l∧r.loud = true∧can.testBit r.i = false∧subM r.deps can = true
  | [],h=>by simp [pickL] at h
  | q :: l,h=>by
    simp only [pickL] at h
    split at h
    · rename_i h1 h2 h3
      simp only [sJ] at h;subst h;exact ⟨m0,h1,h2,h3⟩
    · obtain ⟨a,b⟩:=pickL_some h;exact ⟨mS _ a,b⟩
theorem pickQ_none {can:Nat} {r:RO}:∀ {l:List RO},pickQ can l = none→r ∈ l→r.loud = false→subM r.deps can = true→can.testBit r.i = true
  | [],_,h,_,_=>by simp at h
  | q :: l,h,hr,h1,h2=>by
    simp only [pickQ] at h
    split at h
    · simp at h
    · rename_i hno
      rcases List.mem_cons.1 hr with rfl | hr
      · cases hc:Nat.testBit can r.i with
        | true=>rfl
        | false=>exact absurd h2 (hno h1 hc)
      · exact pickQ_none h hr h1 h2
theorem pendOf_mem {can past:Nat} {r:RO}:∀ {l:List RO},r ∈ l→r.loud = false→can.testBit r.i = true→past.testBit r.i = false→r ∈ pendOf can past l
  | [],h,_,_,_=>by simp at h
  | q :: l,h,h1,h2,h3=>by
    simp only [pendOf]
    rcases List.mem_cons.1 h with rfl | h
    · rw [h1,h2,h3];exact m0
    · have:=pendOf_mem h h1 h2 h3
      split
      · exact mS _ this
      · exact this
theorem xsOf_eq:∀ l:List RO,xsOf l = l.map RO.x
  | []=>rfl
  | r :: l=>by rw [xsOf,xsOf_eq l,List.map_cons]
theorem quietsOf_mono {l:List RO}:∀ {m can:Nat} {qs:List RO} {can':Nat},quietsOf l m can = (qs,can')→∀ j,can.testBit j = true→can'.testBit j = true
  | 0,can,qs,can',h,j,hj=>by simp only [quietsOf,Prod.mk.injEq] at h;rw [← h.2];exact hj
  | m + 1,can,qs,can',h,j,hj=>by
    simp only [quietsOf] at h
    split at h
    · simp only [Prod.mk.injEq] at h;rw [← h.2];exact quietsOf_mono (m:=m) (qs:=_) rfl j ((testBit_add _ _ _).2 (.inl hj))
    · simp only [Prod.mk.injEq] at h;rw [← h.2];exact hj
theorem quietsOf_new {l:List RO} (L:DrawL P n rnd ops l):∀ {m can:Nat} {qs:List RO} {can':Nat},quietsOf l m can = (qs,can')→∀ r ∈ l,can.testBit r.i = false→can'.testBit r.i = true→r.loud = false
  | 0,can,qs,can',h,r,hr,h1,h2=>by simp only [quietsOf,Prod.mk.injEq] at h;rw [← h.2,h1] at h2;simp at h2
  | m + 1,can,qs,can',h,r,hr,h1,h2=>by
    simp only [quietsOf] at h
    split at h
    · rename_i q hq
      simp only [Prod.mk.injEq] at h;obtain ⟨g1,g2,g3,g4⟩:=pickQ_some hq
      by_cases e:r.i = q.i
      · rw [L.inj r hr q g1 e];exact g2
      · rw [← h.2] at h2;refine quietsOf_new L (m:=m) (qs:=_) rfl r hr ?_ h2
        cases hb:(Nat.lor can (2 ^ q.i)).testBit r.i with
        | false=>rfl
        | true => rcases (testBit_add _ _ _).1 hb with h | h
                  · rw [h1] at h;simp at h
                  · exact absurd h e
    · simp only [Prod.mk.injEq] at h;rw [← h.2,h1] at h2;simp at h2
theorem mkPair_some {l qs:List RO} {can past louds:Nat} {r q:RO} {rest:Option XCode} {c:XCode} (h:mkPair l qs can past louds r q rest = some c):∃ n1 a1 x1 n2 a2 x2 c',storeOf r.x = some (n1,a1,x1)∧storeOf q.x = some (n2,a2,x2)∧subM louds r.bef = true∧subM louds q.bef = true ∧
    pickQ (Nat.lor can (2 ^ r.i)) l = none∧pickQ (Nat.lor can (2 ^ q.i)) l = none∧rest = some c' ∧
    c = .pair (xsOf qs) (xsOf (pendOf can past l)) n1 a1 x1 (xsOf (pendOf (Nat.lor can (2 ^ r.i)) (Nat.lor past r.bef) l)) n2 a2 x2 (xsOf (pendOf (Nat.lor can (2 ^ q.i)) (Nat.lor past q.bef) l)) c':=by
  unfold mkPair at h
  split at h
  · rename_i n1 a1 x1 n2 a2 x2 h1 h2 h3 h4
    split at h
    · rename_i c' h5 h6
      simp only [sJ] at h;exact ⟨n1,a1,x1,n2,a2,x2,c',h1,h2,h3,h4,h5,h6,rfl,h.symm⟩
    · simp at h
  · simp at h
theorem pairOf_some {can:Nat} {r q:RO} {l:List RO} (h:pairOf can r l = some q):q ∈ l∧q.loud = true∧can.testBit q.i = false∧q.i ≠ r.i:=by
  unfold pairOf at h
  cases hp:pickL (Nat.lor can (2 ^ r.i)) l with
  | none=>rw [hp] at h;simp at h
  | some q' =>
    rw [hp] at h;dsimp only at h
    split at h
    · simp only [sJ] at h;subst h;obtain ⟨h1,h2,h3,_⟩:=pickL_some hp;refine ⟨h1,h2,?_,fun e=>?_⟩
      · cases hb:can.testBit q'.i with
        | false=>rfl
        | true=>rw [(testBit_add _ _ _).2 (.inl hb)] at h3;simp at h3
      · rw [(testBit_add _ _ _).2 (.inr e)] at h3;simp at h3
    · simp at h
theorem louds_before {l:List RO} (L:DrawL P n rnd ops l):∀ {m can past louds:Nat} {c:XCode},mkPhases l (2 ^ ops.size - 1) m can past louds = some c→∀ r ∈ l,r.loud = true→can.testBit r.i = false→∀ j,louds.testBit j = true→r.bef.testBit j = true
  | 0,can,past,louds,c,h,_,_,_,_,_,_=>by simp [mkPhases] at h
  | m + 1, can, past,louds,c,h,r,hr,hl,hc,j,hj=>by
    simp only [mkPhases] at h
    cases hq:quietsOf l (m + 1) can with
    | mk qs can1 =>
      rw [hq] at h;dsimp only at h;have hc1:can1.testBit r.i = false:=by
        cases hb:can1.testBit r.i with
        | false=>rfl
        | true=>have:=quietsOf_new L hq r hr hc hb;rw [hl] at this;simp at this
      have hadd : ∀ {D i:Nat},D.testBit r.i = false→r.i ≠ i→(Nat.lor D (2 ^ i)).testBit r.i = false:=by
        intro D i h0 hne
        cases hb:(Nat.lor D (2 ^ i)).testBit r.i with
        | false=>rfl
        | true => rcases (testBit_add _ _ _).1 hb with h | h
                  · rw [h0] at h;simp at h
                  · exact absurd h hne
      cases hp:pickQ can1 l with
      | some _=>rw [hp] at h;simp at h
      | none =>
        rw [hp] at h;dsimp only at h
        cases hpl:pickL can1 l with
        | none =>
          rw [hpl] at h;dsimp only at h
          cases hb:Nat.beq can1 (2 ^ ops.size - 1) with
          | false=>rw [hb] at h;simp at h
          | true =>
            rw [Nat.eq_of_beq_eq_true hb,Nat.testBit_two_pow_sub_one] at hc1;obtain ⟨o,ho,_⟩:=L.mem r hr;have:=(Array.getElem?_eq_some_iff.1 ho).1;simp [this] at hc1
        | some rr =>
          rw [hpl] at h;dsimp only at h
          cases hpo:pairOf can1 rr l with
          | some r2 =>
            rw [hpo] at h;dsimp only at h;obtain ⟨_,_,_,_,_,_,c',_,_,hs1,hs2,_,_,hm,_⟩:=mkPair_some h
            by_cases e:r.i = rr.i
            · rw [L.inj r hr rr (pickL_some hpl).1 e];exact subM_iff hs1 j hj
            by_cases e2:r.i = r2.i
            · rw [L.inj r hr r2 (pairOf_some hpo).1 e2];exact subM_iff hs2 j hj
            exact louds_before L hm r hr hl (hadd (hadd hc1 e) e2) j ((testBit_add _ _ _).2 (.inl ((testBit_add _ _ _).2 (.inl hj))))
          | none =>
            rw [hpo] at h;dsimp only at h
            cases hs:subM louds rr.bef with
            | false=>rw [hs] at h;simp at h
            | true =>
              cases hm:mkPhases l (2 ^ ops.size - 1) m (Nat.lor can1 (2 ^ rr.i)) (Nat.lor past rr.bef) (Nat.lor louds (2 ^ rr.i)) with
              | none=>rw [hs,hm] at h;simp at h
              | some c' =>
                by_cases e:r.i = rr.i
                · rw [L.inj r hr rr (pickL_some hpl).1 e];exact subM_iff hs j hj
                · exact louds_before L hm r hr hl (hadd hc1 e) j ((testBit_add _ _ _).2 (.inl hj))
end
end Go.X

/- Regions whose order is open: X ahead of the model. -/
namespace Go.X
open Go

def Ahead (D:Nat) (S:Nat→Prop) (q:RO):Prop:=q.loud = false∧D.testBit q.i = true∧¬ S q.i
def RO.isNew (q:RO):Prop:=∃ i,q.x.op = .ins i∧i.isNew = true
structure RS (P:Program) (n B:Nat) (kd:CallKind) (κ₀:Kp) (h₀:Heap) (w₀:World) (cs₀:List Frame) (l:List RO) (D:Nat) (S:Nat→Prop) (tm:Tm) (ds:List Dfd) (pan:Pan) (h:Heap) (a:Act) (cs:List Frame) (w:World) (κ:Kp):Prop where
  ext:Ext P κ₀ h₀ w₀ κ h w
  size:n ≤ a.tmps.size
  val:∀ t v,(∀ q ∈ l,Ahead D S q→q.x.dst ≠ some (.slot t))→tm.get (.slot t) = some v→VR κ v (a.tmps.getD t undef)
  hd:DR B κ h w ds a.defers
  hc:CR κ kd pan cs₀ cs
  hB:B ≤ w.heap.size
  new:∀ q ∈ l,Ahead D S q→q.isNew→∀ d v p,q.x.dst = some d→tm.get d = some v→v.pos = some p→h₀.next.toNat ≤ p.toNat∧p.toNat < h.next.toNat∧κ.ρ p = none ∧
    ∀ q' ∈ l,Ahead D S q'→q'.i ≠ q.i→q'.isNew→∀ d' v',q'.x.dst = some d'→tm.get d' = some v'→v'.pos ≠ some p
open Classical in
noncomputable def aheadL (D:Nat) (S:Nat→Prop) (l:List RO):List Slot:=l.filterMap fun q=>if Ahead D S q then q.x.dst else none
theorem aheadL_iff {D:Nat} {S:Nat→Prop} {l:List RO} {d:Slot}:d ∈ aheadL D S l ↔ ∃ q ∈ l,Ahead D S q∧q.x.dst = some d:=by
  unfold aheadL;rw [List.mem_filterMap]
  constructor
  · rintro ⟨q,hq,h⟩
    split at h
    · rename_i ha;exact ⟨q,hq,ha,h⟩
    · simp at h
  · rintro ⟨q,hq,ha,h⟩;exact ⟨q,hq,by rw [if_pos ha];exact h⟩

def EO (q:XOp) (tm:Tm) (h:Heap) (tm':Tm) (h':Heap):Prop:=∃ v,tm' = putT q.dst v tm∧((h' = h∧(∀ i,q.op = .ins i→i.isNew = true→v.pos = none))∨(∃ o,h' = h.push o∧v.pos = some h.next))

section
variable {P:Program} {n B:Nat} {rnd:Bool} {kd:CallKind} {ops:Array Oper} {κ₀ κ κ':Kp} {h₀ h h':Heap} {w₀ w w':World} {cs₀ cs cs':List Frame} {l:List RO} {D:Nat} {S:Nat→Prop} {tm tm':Tm} {ds:List Dfd} {pan:Pan} {a a':Act}

theorem RS.mono_val (s:RS P n B kd κ₀ h₀ w₀ cs₀ l D S tm ds pan h a cs w κ) {L:List Slot} (hL:∀ d,d ∈ aheadL D S l→d ∈ L):TR κ n (dels tm L) a.tmps:=by
  refine ⟨s.size,fun t v hv=>?_⟩;rw [get_dels] at hv
  split at hv
  · simp at hv
  · rename_i hn
    exact s.val t v (fun q hq ha hd=>hn (hL _ (aheadL_iff.2 ⟨q,hq,ha,hd⟩))) hv
theorem RS.st (s:RS P n B kd κ₀ h₀ w₀ cs₀ l D S tm ds pan h a cs w κ) {L:List Slot} (hL:∀ d,d ∈ aheadL D S l→d ∈ L):St P n B kd κ (dels tm L) ds pan h cs₀ a cs w :=
  ⟨s.ext.hr,s.mono_val hL,s.hd,s.hc,s.hB⟩
theorem putT_ne {d:Option Slot} {p:Slot} (h:d ≠ some p) (v:AV) (tm:Tm):(putT d v tm).get p = tm.get p:=by
  cases d with
  | none=>rfl
  | some x=>exact TT.get_set_ne _ _ fun e=>h (by rw [e])

theorem RS.eager (L:DrawL P n rnd ops l) (s:RS P n B kd κ₀ h₀ w₀ cs₀ l D S tm ds pan h a cs w κ) (hS:∀ r ∈ l,S r.i→D.testBit r.i = true) {q:RO} (hq:q ∈ l) (hl:q.loud = false) (hD:D.testBit q.i = false) (e:EO q.x tm h tm' h') :
    RS P n B kd κ₀ h₀ w₀ cs₀ l (Nat.lor D (2 ^ q.i)) S tm' ds pan h' a cs w κ:=by
  obtain ⟨v,rfl,hcase⟩:=e;have hnS : ¬ S q.i:=fun h=>by rw [hS q hq h] at hD;simp at hD
  have haq:Ahead (Nat.lor D (2 ^ q.i)) S q:=⟨hl,(testBit_add _ _ _).2 (.inr rfl),hnS⟩;have hup:∀ r,Ahead D S r→Ahead (Nat.lor D (2 ^ q.i)) S r:=fun r ⟨h1,h2,h3⟩=>⟨h1,(testBit_add _ _ _).2 (.inl h2),h3⟩
  have hdn:∀ r ∈ l,Ahead (Nat.lor D (2 ^ q.i)) S r→r = q∨(r.i ≠ q.i∧Ahead D S r):=by
    intro r hr ⟨h1,h2,h3⟩
    by_cases he:r.i = q.i
    · exact .inl (L.inj r hr q hq he)
    · rcases (testBit_add _ _ _).1 h2 with h2 | h2
      · exact .inr ⟨he,h1,h2,h3⟩
      · exact absurd h2 he
  have hext:Ext P κ h w κ h' w:=by
    rcases hcase with ⟨rfl,_⟩ | ⟨o,rfl,_⟩
    · exact .refl s.ext.hr
    · exact Ext.pushG s.ext.hr o
  have hoff:∀ r ∈ l,r.loud = false→r.i ≠ q.i→∀ d,r.x.dst = some d→(putT q.x.dst v tm).get d = tm.get d:=by
    intro r hr hrl hne d hd;exact putT_ne (fun e=>hne (by rw [L.once hq hr hl hrl e hd])) v tm
  refine ⟨s.ext.trans hext,s.size,fun t u ht hu=>?_,s.hd.ext hext,s.hc,s.hB,?_⟩
  · rw [putT_ne (ht q hq haq)] at hu;exact s.val t u (fun r hr ha=>ht r hr (hup r ha)) hu
  · intro r hr har hrn d u p hd hu hp
    rcases hdn r hr har with rfl | ⟨hne,har⟩
    · have hu:u = v:=by rw [hd,putT,TT.get_set_same,sJ] at hu;exact hu.symm
      subst hu;obtain ⟨i,hi,hin⟩:=hrn
      rcases hcase with ⟨rfl,hno⟩ | ⟨o,rfl,hpos⟩
      · rw [hno i hi hin] at hp;simp at hp
      · rw [hpos,sJ] at hp;subst hp;refine ⟨s.ext.next,by rw [Heap.next_push];omega,s.ext.hr.next_none,fun q' hq' ha' hne' hn' d' v' hd' hv' hp'=>?_⟩
        rcases hdn q' hq' ha' with rfl | ⟨_,ha'⟩
        · exact hne' rfl
        · rw [hoff q' hq' ha'.1 hne' d' hd'] at hv';have:=(s.new q' hq' ha' hn' d' v' _ hd' hv' hp').2.1;omega
    · rw [hoff r hr har.1 hne d hd] at hu;obtain ⟨g1,g2,g3,g4⟩:=s.new r hr har hrn d u p hd hu hp;refine ⟨g1,Nat.lt_of_lt_of_le g2 hext.next,g3,fun q' hq' ha' hne' hn' d' v' hd' hv' hp'=>?_⟩
      rcases hdn q' hq' ha' with rfl | ⟨hne2,ha'⟩
      · have hv':v' = v:=by rw [hd',putT,TT.get_set_same,sJ] at hv';exact hv'.symm
        subst hv';obtain ⟨i,hi,hin⟩:=hn'
        rcases hcase with ⟨rfl,hno⟩ | ⟨o,rfl,hpos⟩
        · rw [hno i hi hin] at hp';simp at hp'
        · rw [hpos,sJ] at hp';subst hp';omega
      · rw [hoff q' hq' ha'.1 hne2 d' hd'] at hv';exact g4 q' hq' ha' hne' hn' d' v' hd' hv' hp'

theorem RS.turn (s:RS P n B kd κ₀ h₀ w₀ cs₀ l D S tm ds pan h a cs w κ) (L:DrawL P n rnd ops l) {q:RO} (hq:q ∈ l) (_hl:q.loud = false) {o:Oper} (ho:ops[q.i]? = some o) (hdst:q.x.dst = o.dst.map Slot.slot)
    (hext:Ext P κ₀ h₀ w₀ κ' h w') (hle:κ.le κ') (hd:DR B κ' h w' ds a.defers) (hB:B ≤ w'.heap.size) (hsz:∀ x,o.dst = some x→x < n)
    (hnone:∀ r ∈ l,Ahead D S r→r.i ≠ q.i→r.isNew→∀ d v p,r.x.dst = some d→tm.get d = some v→v.pos = some p→κ'.ρ p = none)
    {u:Value} (hu:∀ x v,o.dst = some x→tm.get (.slot x) = some v→VR κ' v u) :
    RS P n B kd κ₀ h₀ w₀ cs₀ l D (fun j=>S j∨j = q.i) tm ds pan h (a.put o.dst u) cs w' κ':=by
  have hdn:∀ r,Ahead D (fun j=>S j∨j = q.i) r→Ahead D S r∧r.i ≠ q.i:=fun r ⟨h1,h2,h3⟩=>⟨⟨h1,h2,fun h=>h3 (.inl h)⟩,fun h=>h3 (.inr h)⟩
  refine ⟨hext,?_,fun t v ht hv=>?_,by cases o.dst <;> exact hd,s.hc.mono hle,hB,?_⟩
  · have:=s.size
    cases o.dst <;> simpa [Act.put] using this
  · by_cases hx:o.dst = some t
    · have hlt:=hsz t hx;have hs:=s.size;have:(a.put o.dst u).tmps.getD t undef = u:=by simp [Act.put,hx,Nat.lt_of_lt_of_le hlt hs]
      rw [this];exact hu t v hx hv
    · rw [put_but ho (a:=a) rfl u o ho t hx];refine VR.mono hle _ _ (s.val t v (fun r hr ha hd=>?_) hv)
      by_cases he:r.i = q.i
      · rw [L.inj r hr q hq he,hdst] at hd
        cases hod:o.dst with
        | none=>rw [hod] at hd;simp at hd
        | some x =>
          rw [hod,Option.map_some,sJ] at hd;exact hx (by rw [hod,Slot.slot_inj hd])
      · exact ht r hr ⟨ha.1,ha.2.1,fun h=>by rcases h with h | h;exact ha.2.2 h;exact he h⟩ hd
  · intro r hr har hrn d v p hd hv hp;obtain ⟨har,hne⟩:=hdn r har;obtain ⟨g1,g2,g3,g4⟩:=s.new r hr har hrn d v p hd hv hp;exact ⟨g1,g2,hnone r hr har hne hrn d v p hd hv hp,fun q' hq' ha' hne' hn'=>g4 q' hq' (hdn q' ha').1 hne' hn'⟩

theorem kind_quiet {i:XI} (h:kindOf (.ins i) ≤ 2):i.looks = true∨i.isNew = true:=by
  cases i <;> first | exact .inl rfl | exact .inr rfl | (simp [kindOf] at h)
theorem looks_notNew {i:XI} (h:i.looks = true):i.isNew = false:=by cases i <;> first | rfl | simp [XI.looks] at h
theorem yes_some {b:Bool} {k r:R} (h:yes? b k .bad = r) (hr:r ≠ .bad):b = true∧k = r:=by
  cases b with
  | false=>exact absurd h.symm hr
  | true=>exact ⟨rfl,h⟩

theorem RS.quiet (L : DrawL P n rnd ops l) (_hkd:kd ≠ .early) {rd:Option Nat} {r:R} (hr:r ≠ .bad) (s:RS P n B kd κ₀ h₀ w₀ cs₀ l D S tm ds pan h a cs w κ) (hcl:∀ r ∈ l,S r.i→∀ j,r.deps.testBit j = true→S j)
    {q:RO} (hq:q ∈ l) (hah:Ahead D S q) (hdep:∀ j,q.deps.testBit j = true→S j) (hck:chkF q.x tm h r = r) :
    OpTo P rd kd ops q.i a cs w (fun a' cs' w'=>cs' = cs∧∃ κ',RS P n B kd κ₀ h₀ w₀ cs₀ l D (fun j=>S j∨j = q.i) tm ds pan h a' cs' w' κ') (fun _ _ _=>False):=by
  obtain ⟨o,ho,hx,_,hkind⟩:=L.mem q hq;have hkind:=hkind hah.1;have hbef:=L.closed' hcl hq hdep;have hag:∀ p ∈ q.x.names,tm.get p = (dels tm (aheadL D S l)).get p:=by
    intro p hp;rw [get_dels,if_neg];intro hm;obtain ⟨q',hq',ha',hd'⟩:=aheadL_iff.1 hm
    by_cases he:q.i = q'.i
    · rw [← L.inj q hq q' hq' he] at hd';exact L.self q hq hah.1 p hd' hp
    · exact ha'.2.2 (hbef _ (L.behind hq' hq ha'.1 hd' he (aboutS_name hp)))
  have ht:TR κ n (dels tm (aheadL D S l)) a.tmps:=s.mono_val fun _ h=>h
  generalize hE:dels tm (aheadL D S l) = tmE at hag ht
  have bad:chkF badOp tm h r = .bad:=rfl;rw [hx] at hck hkind hag
  cases hd0:dstBad n o.dst with
  | true=>unfold copOper at hck;rw [hd0] at hck;have:=bad.symm.trans hck;exact absurd this.symm hr
  | false =>
    have hdst:∀ x,o.dst = some x→x < n:=by
      intro x hx;rw [hx] at hd0;exact Nat.lt_of_not_le fun hle=>by rw [dstBad,Nat.ble_eq_true_of_le hle] at hd0;simp at hd0
    cases hg:guardOf ops o.guard with
    | none=>unfold copOper at hck;rw [hd0,hg] at hck;have:=bad.symm.trans hck;exact absurd this.symm hr
    | some g =>
      have hxe:copOper P n rnd ops o = { dst:=o.dst.map .slot,guard:=g,op:=copOp P rnd o }:=by unfold copOper;rw [hd0,hg]
      rw [hxe] at hck hkind hag;have hqd:q.x.dst = o.dst.map Slot.slot:=by rw [hx,hxe]
      have hck:wantF g tm (fun b=>Bool.rec (motive:=fun _=>R) (chkU (o.dst.map Slot.slot) tm r) (chkI (copOp P rnd o) (o.dst.map Slot.slot) tm h r) b) = r:=hck;rw [wantF_agree (tmP:=tmE) fun p b e=>hag p (by subst e;simp [XOp.names])] at hck;obtain ⟨b,hb,hwant⟩:=want_val hg hck hr;have hwant:=hwant κ n a ht;have hagi:∀ x ∈ (copOp P rnd o).ops,Agree tmE tm x:=agree_slots fun p hp=>(hag p (by cases g <;> simp [XOp.names,hp])).symm
      cases b with
      | false =>
        have hb:chkU (o.dst.map Slot.slot) tm r = r:=hb;refine opTo_skip ho hwant ⟨rfl,κ,s.turn L hq hah.1 ho hqd s.ext (.refl κ) s.hd s.hB hdst (fun r hr ha _ hn d v p h1 h2 h3=>(s.new r hr ha hn d v p h1 h2 h3).2.2.1) fun x v hox hv=>?_⟩;rw [hox] at hb;have hb:getF tm (.slot x) (fun v=>yes? (AV.beq unit v) r .bad) = r:=hb;rw [getF_eq,hv] at hb;rw [← AV.beq_eq (yes_some hb hr).1];exact VR_unit
      | true =>
        have hb:chkI (copOp P rnd o) (o.dst.map Slot.slot) tm h r = r:=hb
        cases hxi:copOp P rnd o with
        | ins i =>
          rw [hxi] at hb hkind hagi;have hnd:∀ c,o.op ≠ .defer c:=by
            rcases (copOp_from (P:=P) (rnd:=rnd) (o:=o)).symm with hno | hfrom
            · rw [hxi] at hno;simp only [XC.ins.injEq] at hno;subst hno;simp [kindOf] at hkind
            · rw [hxi] at hfrom;exact hfrom
          cases hox:o.dst with
          | none=>rw [hox] at hb;exact absurd hb.symm hr
          | some x =>
            rw [hox] at hb;have hb:semF i tm h (fun v h'=>getF tm (.slot x) fun v'=>Bool.rec (motive:=fun _=>R) (yes? (AV.beq v v') r .bad) (sameNew v h' v' h r) i.isNew) = r:=hb;rw [semF_eq] at hb
            cases hsem:i.sem tm h with
            | bad=>rw [hsem] at hb;exact absurd hb.symm hr
            | panic v h'=>rw [hsem] at hb;exact absurd hb.symm hr
            | ok v h' =>
              rw [hsem,viaOut_ok,getF_eq] at hb;have hsemE:i.sem tmE h = .ok v h':=by rw [sem_congr hagi];exact hsem
              cases hv':tm.get (.slot x) with
              | none=>rw [hv'] at hb;exact absurd hb.symm hr
              | some v' =>
                rw [hv'] at hb;have hu:∀ {κ':Kp} {u:Value},VR κ' v' u→∀ y z,o.dst = some y→tm.get (.slot y) = some z→VR κ' z u:=by
                  intro κ' u hvu y z hy hz;rw [hox,sJ] at hy;subst hy;rw [hv',sJ] at hz;subst hz;exact hvu
                rcases kind_quiet hkind with hlk | hnw
                · rw [looks_notNew hlk] at hb;have hvv:=AV.beq_eq (yes_some hb hr).1;subst hvv;have hh:=looks_still hlk tm h v h' hsem;subst hh;have hturn:∀ {κ':Kp} {w':World} {u:Value},Ext P κ h' w κ' h' w'→VR κ' v u→RS P n B kd κ₀ h₀ w₀ cs₀ l D (fun j=>S j∨j = q.i) tm ds pan h' (a.put o.dst u) cs w' κ':=by
                    intro κ' w' u hE' hvu;refine s.turn L hq hah.1 ho hqd (s.ext.trans hE') hE'.le (s.hd.ext hE') (Nat.le_trans s.hB hE'.size) hdst (fun r hr ha _ hn d v p h1 h2 h3=>?_) (hu hvu);obtain ⟨_,g2,g3,_⟩:=s.new r hr ha hn d v p h1 h2 h3;exact (hE'.gc p g2 g3).1
                  rcases copOp_ok s.ext.hr ht hxi hsemE with ⟨nx,w',κ',hrun,hnx,hE'⟩ | hask
                  · rcases hnx with ⟨u,rfl,hvu⟩ | ⟨rfl,rfl⟩
                    · exact opTo_value ho hwant hnd hrun ⟨rfl,κ',hturn hE' hvu⟩
                    · exact opTo_unit ho hwant hnd hrun ⟨rfl,κ',hturn hE' VR_unit⟩
                  · exact hask.elim
                · rw [hnw] at hb;have hb:sameNew v h' v' h r = r:=hb;obtain ⟨ob,mb,m,u,rfl,hpos,hnob,hrun,huv⟩:=new_raw s.ext.hr ht hxi hnw hsemE;unfold sameNew at hb
                  cases hbm:beqMod v v' <;> cases hp':v'.pos <;> rw [hbm,hpos,hp'] at hb <;> try exact absurd hb.symm hr
                  rename_i p'
                  dsimp only at hb;have hob:=beqObj_eq (yes_some hb hr).1;rw [Heap.get_push_same] at hob;subst hob;have hqn:q.isNew:=⟨i,by rw [hx,hxe];exact hxi,hnw⟩;have hqx:q.x.dst = some (.slot x):=by rw [hqd,hox];rfl
                  obtain ⟨g1,g2,g3,g4⟩:=s.new q hq hah hqn _ v' p' hqx hv' hp';have hor:=NewOb.or (P:=P) (w:=w) hnob (Kp.at_le (x:=⟨w.heap.size,0,m⟩) g3);obtain ⟨_,gW⟩:=Ext.allocG (P:=P) s.ext.hr g3 g2 mb m hor;have hE':=s.ext.thenG g3 g2 g1 mb m hor;have hvu:VR (κ.at p' ⟨w.heap.size,0,m⟩) v' u:=huv _ p' v' (Kp.at_same _ _ _) hbm hp';refine opTo_value ho hwant hnd hrun ⟨rfl,_,s.turn L hq hah.1 ho hqd hE' gW.le (s.hd.extW gW) (Nat.le_trans s.hB gW.size) hdst (fun r hr ha hne hn d z p h1 h2 h3=>?_) (hu hvu)⟩;obtain ⟨_,_,k3,k4⟩:=s.new r hr ha hn d z p h1 h2 h3;have:p ≠ p':=fun e=>by subst e;exact g4 r hr ha hne hn d z h1 h2 h3
                  rw [Kp.at_ne _ _ this];exact k3
        | _=>rw [hxi] at hb;exact absurd hb.symm hr
end
end Go.X

/- Regions whose order is open: phases,against all orders of the model's. -/
namespace Go.X
open Go
section
variable {P:Program} {E:XEnv} {call:CallK} {n B:Nat} {rnd:Bool} {kd:CallKind} {ops:Array Oper} {κ₀ κ κ':Kp} {h₀ h h':Heap} {w₀ w w':World} {cs₀ cs cs':List Frame} {l:List RO} {D:Nat} {S:Nat→Prop} {tm tm':Tm} {ds:List Dfd} {pan:Pan} {a a':Act}

/-! ### X's side -/
theorem wantF_val {g:Option (Slot × Bool)} {k:Bool→R} {r:R} (h:wantF g tm k = r) (hr:r ≠ .bad):∃ b,k b = r:=by
  cases g with
  | none=>exact ⟨true,h⟩
  | some pb =>
    obtain ⟨p,b⟩:=pb;have h:getF tm p (fun v=>wantV v b k) = r:=h;rw [getF_eq] at h
    cases hv:tm.get p with
    | none=>rw [hv] at h;exact absurd h.symm hr
    | some v =>
      rw [hv] at h;replace h:wantV v b k = r:=h
      cases v <;> first | exact absurd h.symm hr | skip
      case bool c =>
        have h1:wantV (.bool c) b k = k (bif b then c else !c):=by cases b <;> cases c <;> rfl
        exact ⟨_,h1.symm.trans h⟩
      case tuple vs =>
        cases vs with
        | cons u us=>exact absurd h.symm hr
        | nil=>exact ⟨false,h⟩
theorem copOper_or (o:Oper):copOper P n rnd ops o = badOp∨∃ g,guardOf ops o.guard = some g∧copOper P n rnd ops o = { dst:=o.dst.map .slot,guard:=g,op:=copOp P rnd o }:=by
  unfold copOper
  cases dstBad n o.dst <;> cases guardOf ops o.guard <;> first | exact .inl rfl | exact .inr ⟨_,rfl,rfl⟩
theorem quiet_val {x:XOp} (hk:kindOf x.op ≤ 2) {k:Tm→Heap→R} {r:R} (hrun:quietF x tm h k = r) (hr:r ≠ .bad):∃ tm' h',k tm' h' = r∧EO x tm h tm' h':=by
  obtain ⟨d,g,op⟩:=x;have hrun:wantF g tm (fun b=>Bool.rec (motive:=fun _=>R) (putF d unit tm fun tm=>k tm h) (quietI op d tm h k) b) = r:=hrun;obtain ⟨b,hb⟩:=wantF_val hrun hr
  cases b with
  | false =>
    have hb:putF d unit tm (fun tm=>k tm h) = r:=hb;rw [putF_eq] at hb;exact ⟨_,h,hb,unit,rfl,.inl ⟨rfl,fun _ _ _=>rfl⟩⟩
  | true =>
    have hb:quietI op d tm h k = r:=hb
    cases op with
    | ins i =>
      have hb:semF i tm h (fun v h=>putF d v tm fun tm=>k tm h) = r:=hb;rw [semF_eq] at hb
      cases hsem:i.sem tm h with
      | bad=>rw [hsem] at hb;exact absurd hb.symm hr
      | panic v h'=>rw [hsem] at hb;exact absurd hb.symm hr
      | ok v h' =>
        rw [hsem,viaOut_ok,putF_eq] at hb;refine ⟨_,h',hb,v,rfl,?_⟩
        rcases kind_quiet hk with hlk | hnw
        · refine .inl ⟨looks_still hlk tm h v h' hsem,fun j hj hn=>?_⟩;simp only [XC.ins.injEq] at hj;subst hj;rw [looks_notNew hlk] at hn;simp at hn
        · obtain ⟨o,_,h1,h2⟩:=isNew_push hnw hsem;exact .inr ⟨o,h1,h2⟩
    | _=>exact absurd hb.symm hr
theorem quiets_ok (L:DrawL P n rnd ops l):∀ {m can:Nat} {qs:List RO} {can1:Nat},quietsOf l m can = (qs,can1)→∀ {tm:Tm} {h:Heap} {k:Tm→Heap→R} {r:R},quietsF (xsOf qs) tm h k = r→r ≠ .bad→∃ tm1 h1,k tm1 h1 = r ∧
    ∀ (B:Nat) (kd:CallKind) (κ₀:Kp) (h₀:Heap) (w₀:World) (cs₀:List Frame) (S:Nat→Prop) (ds:List Dfd) (pan:Pan) (a:Act) (cs:List Frame) (w:World) (κ:Kp),(∀ r ∈ l,S r.i→can.testBit r.i = true) →
      RS P n B kd κ₀ h₀ w₀ cs₀ l can S tm ds pan h a cs w κ→RS P n B kd κ₀ h₀ w₀ cs₀ l can1 S tm1 ds pan h1 a cs w κ
  | 0,can,qs,can1,hq,tm,h,k,r,hrun,hr=>by
    simp only [quietsOf,Prod.mk.injEq] at hq;obtain ⟨rfl,rfl⟩:=hq;exact ⟨tm,h,hrun,fun _ _ _ _ _ _ _ _ _ _ _ _ _ _ s=>s⟩
  | m + 1,can,qs,can1,hq,tm,h,k,r,hrun,hr=>by
    simp only [quietsOf] at hq
    split at hq
    · rename_i q hpick
      obtain ⟨g1,g2,g3,g4⟩:=pickQ_some hpick
      cases hq2:quietsOf l m (Nat.lor can (2 ^ q.i)) with
      | mk qs2 can2 =>
        rw [hq2] at hq;simp only [Prod.mk.injEq] at hq;obtain ⟨rfl,rfl⟩:=hq;have hrun:quietF q.x tm h (fun tm h=>quietsF (xsOf qs2) tm h k) = r:=hrun;obtain ⟨o,_,_,_,hk⟩:=L.mem q g1;obtain ⟨tm',h',hrun,he⟩:=quiet_val (hk g2) hrun hr;obtain ⟨tm1,h1,hk1,hall⟩:=quiets_ok L hq2 hrun hr;exact ⟨tm1,h1,hk1,fun B kd κ₀ h₀ w₀ cs₀ S ds pan a cs w κ hS s=>hall B kd κ₀ h₀ w₀ cs₀ S ds pan a cs w κ (fun r hr hs=>(testBit_add _ _ _).2 (.inl (hS r hr hs))) (s.eager L hS g1 g2 g3 he)⟩
    · simp only [Prod.mk.injEq] at hq;obtain ⟨rfl,rfl⟩:=hq;exact ⟨tm,h,hrun,fun _ _ _ _ _ _ _ _ _ _ _ _ _ _ s=>s⟩
theorem chk_val {x:XOp} {k r:R} (hrun:chkF x tm h k = r) (hr:r ≠ .bad):k = r:=by
  obtain ⟨d,g,op⟩:=x;have hrun:wantF g tm (fun b=>Bool.rec (motive:=fun _=>R) (chkU d tm k) (chkI op d tm h k) b) = r:=hrun;obtain ⟨b,hb⟩:=wantF_val hrun hr
  cases b with
  | false =>
    cases d with
    | none=>exact hb
    | some d =>
      have hb:getF tm d (fun v=>yes? (AV.beq unit v) k .bad) = r:=hb;rw [getF_eq] at hb
      cases hv:tm.get d with
      | none=>rw [hv] at hb;exact absurd hb.symm hr
      | some v=>rw [hv] at hb;exact (yes_some hb hr).2
  | true =>
    cases op with
    | ins i =>
      cases d with
      | none=>exact absurd hb.symm hr
      | some d =>
        have hb:semF i tm h (fun v h'=>getF tm d fun v'=>Bool.rec (motive:=fun _=>R) (yes? (AV.beq v v') k .bad) (sameNew v h' v' h k) i.isNew) = r:=hb;rw [semF_eq] at hb
        cases hsem:i.sem tm h with
        | bad=>rw [hsem] at hb;exact absurd hb.symm hr
        | panic v h'=>rw [hsem] at hb;exact absurd hb.symm hr
        | ok v h' =>
          rw [hsem,viaOut_ok,getF_eq] at hb
          cases hv:tm.get d with
          | none=>rw [hv] at hb;exact absurd hb.symm hr
          | some v' =>
            rw [hv] at hb
            cases hn:i.isNew with
            | false=>rw [hn] at hb;exact (yes_some hb hr).2
            | true =>
              rw [hn] at hb;have hb:sameNew v h' v' h k = r:=hb;unfold sameNew at hb
              split at hb
              · exact (yes_some hb hr).2
              · exact absurd hb.symm hr
    | _=>exact absurd hb.symm hr
theorem chks_val:∀ {xs:List XOp} {k r:R},chksF xs tm h k = r→r ≠ .bad→k = r∧∀ x ∈ xs,chkF x tm h r = r
  | [],_,_,hrun,_=>⟨hrun,by simp⟩
  | x :: xs,k,r,hrun,hr=>by
    have hrun:chkF x tm h (chksF xs tm h k) = r:=hrun;have h1:=chk_val hrun hr;obtain ⟨h2,h3⟩:=chks_val h1 hr;refine ⟨h2,fun y hy=>?_⟩
    rcases List.mem_cons.1 hy with rfl | hy
    · rw [h1] at hrun;exact hrun
    · exact h3 y hy

/-! ### loud operations -/
theorem loud_ok (hE:EnvOK P E) (hcall:CallS P call) (L:DrawL P n rnd ops l) {rr:RO} (hrr:rr ∈ l) (hl:rr.loud = true) {can past:Nat} {k:KS} {kp:AV→List Dfd→Pan→Heap→R} {r:R}
    (hrun:xopF E rr.x call tm ds pan h k (fun v _=>kp v) = r) (hr:r ≠ .bad) :
    (∃ tm2 ds2 pan2 h2,k tm2 ds2 pan2 h2 = r∧∀ (kd:CallKind) (rd:Option Nat),kd ≠ .early→(rd ≠ none→rnd = true)→∀ B κ₀ h₀ w₀ cs₀ S a cs w κ,RS P n B kd κ₀ h₀ w₀ cs₀ l can S tm ds pan h a cs w κ→(∀ j,past.testBit j = true→S j)→(∀ j,rr.bef.testBit j = true→S j) →
      OpTo P rd kd ops rr.i a cs w (fun a' cs' w'=>∃ κ',RS P n B kd κ₀ h₀ w₀ cs₀ l (Nat.lor can (2 ^ rr.i)) (fun j=>S j∨j = rr.i) tm2 ds2 pan2 h2 a' cs' w' κ') (fun _ _ _=>False)) ∨
    (∃ v h2,kp v ds pan h2 = r∧∀ (kd:CallKind) (rd:Option Nat),kd ≠ .early→(rd ≠ none→rnd = true)→∀ B κ₀ h₀ w₀ cs₀ S a cs w κ,RS P n B kd κ₀ h₀ w₀ cs₀ l can S tm ds pan h a cs w κ→(∀ j,past.testBit j = true→S j)→(∀ j,rr.bef.testBit j = true→S j) →
      OpTo P rd kd ops rr.i a cs w (fun _ _ _=>False) (fun chain cs' w'=>∃ κ',Ext P κ₀ h₀ w₀ κ' h2 w'∧St P n B kd κ' .leaf ds pan h2 cs₀ a cs' w'∧ChainOK κ' v chain)):=by
  obtain ⟨o,ho,hx,_,_⟩:=L.mem rr hrr
  generalize hLp:aheadL can (fun j=>past.testBit j = true∨rr.bef.testBit j = true) l = Lp
  have hag:∀ p ∈ rr.x.names,tm.get p = (dels tm Lp).get p:=by
    intro p hp;rw [get_dels,if_neg];intro hm;rw [← hLp] at hm;obtain ⟨q',hq',ha',hd'⟩:=aheadL_iff.1 hm
    by_cases he:rr.i = q'.i
    · rw [← L.inj rr hrr q' hq' he] at ha';rw [ha'.1] at hl;simp at hl
    · exact ha'.2.2 (.inr (L.behind hq' hrr ha'.1 hd' he (aboutS_name hp)))
  have hL:∀ S:Nat→Prop,(∀ j,past.testBit j = true→S j)→(∀ j,rr.bef.testBit j = true→S j)→∀ d,d ∈ aheadL can S l→d ∈ Lp:=by
    intro S h1 h2 d hd;obtain ⟨q,hq,ha,hqd⟩:=aheadL_iff.1 hd;rw [← hLp];exact aheadL_iff.2 ⟨q,hq,⟨ha.1,ha.2.1,fun h=>ha.2.2 (h.elim (h1 _) (h2 _))⟩,hqd⟩
  let k':KS:=fun t ds pan h=>match rr.x.dst with
    | none=>k tm ds pan h
    | some p=>match t.get p with | some v=>k (tm.set p v) ds pan h | none=>.bad
  have hk':∀ v ds pan h,k' (putT rr.x.dst v (dels tm Lp)) ds pan h = k (putT rr.x.dst v tm) ds pan h:=by
    intro v ds pan h;simp only [k']
    cases hd:rr.x.dst with
    | none=>rfl
    | some p=>simp only [putT,TT.get_set_same]
  have hrunP:xopF E rr.x call (dels tm Lp) ds pan h k' (fun v _=>kp v) = r:=by
    rw [← hrun,xop_nat (tm:=tm) hag,xop_nat (tm:=tm) (tmP:=tm) fun _ _=>rfl]
    congr 1
    funext v ds pan h
    exact hk' v ds pan h
  have hd:rr.x.dst = o.dst.map Slot.slot:=by
    rcases copOper_or (P:=P) (n:=n) (rnd:=rnd) (ops:=ops) o with e | ⟨g,hg,e⟩
    · rw [hx,e] at hrun;have bad:∀ {k:KS} {kp:KP},xopF E badOp call tm ds pan h k kp = .bad:=rfl;exact absurd (bad.symm.trans hrun).symm hr
    · rw [hx,e]
  rw [hx] at hrunP
  rcases xop_ok hE hcall ho hrunP hr with ⟨tm',ds',pan',h',hk,⟨v,rfl⟩,hok⟩ | ⟨v,h',hk,hok⟩
  · rw [← hd,hk'] at hk;refine .inl ⟨_,ds',pan',h',hk,fun kd rd hkd hrd B κ₀ h₀ w₀ cs₀ S a cs w κ s hp hb=>?_⟩;refine OpTo.mono (hok kd rd hkd hrd B κ cs₀ a cs w (s.st (hL S hp hb))) (fun a' cs' w' ⟨κ',hE',s',hbut⟩=>⟨κ',?_⟩) (fun _ _ _ q=>q.elim);have hdn:∀ q ∈ l,Ahead (Nat.lor can (2 ^ rr.i)) (fun j=>S j∨j = rr.i) q→Ahead can S q:=by
      intro q hq ⟨h1,h2,h3⟩;refine ⟨h1,?_,fun h=>h3 (.inl h)⟩
      rcases (testBit_add _ _ _).1 h2 with h2 | h2
      · exact h2
      · exact absurd (.inr h2) h3
    have hup:∀ q ∈ l,Ahead can S q→Ahead (Nat.lor can (2 ^ rr.i)) (fun j=>S j∨j = rr.i) q:=by
      intro q hq ⟨h1,h2,h3⟩;refine ⟨h1,(testBit_add _ _ _).2 (.inl h2),fun h=>?_⟩
      rcases h with h | h
      · exact h3 h
      · rw [L.inj q hq rr hrr h] at h1;rw [h1] at hl;simp at hl
    have hoff:∀ q ∈ l,Ahead can S q→∀ d,q.x.dst = some d→(putT rr.x.dst v tm).get d = tm.get d:=by
      intro q hq ha d hqd;refine putT_ne (fun e=>?_) v tm;have hne:rr.i ≠ q.i:=fun e=>by rw [← L.inj rr hrr q hq e] at ha;rw [ha.1] at hl;simp at hl
      exact ha.2.2 (hb _ (L.behind hq hrr ha.1 hqd hne (aboutS_dst e)))
    refine ⟨s.ext.trans hE',s'.ht.size,fun t u ht hu=>?_,s'.hd,s'.hc,s'.hB,fun q hq ha hn d u p hqd hu hpp=>?_⟩
    · by_cases hx':o.dst = some t
      · have e1:rr.x.dst = some (.slot t):=by rw [hd,hx'];rfl
        rw [e1,putT,TT.get_set_same,sJ] at hu;subst hu;refine s'.ht.val t v ?_;rw [hx',Option.map_some,putT,TT.get_set_same]
      · have e1:rr.x.dst ≠ some (.slot t):=by
          rw [hd]
          cases hod:o.dst with
          | none=>simp
          | some y =>
            rw [Option.map_some,Ne,sJ];exact fun e=>hx' (by rw [hod,Slot.slot_inj e])
        rw [putT_ne e1] at hu;rw [hbut o ho t hx'];exact VR.mono hE'.le _ _ (s.val t u (fun q hq ha=>ht q hq (hup q hq ha)) hu)
    · have ha:=hdn q hq ha;rw [hoff q hq ha d hqd] at hu;obtain ⟨g1,g2,g3,g4⟩:=s.new q hq ha hn d u p hqd hu hpp;refine ⟨g1,Nat.lt_of_lt_of_le g2 hE'.next,(hE'.gc p g2 g3).1,fun q' hq' ha' hne' hn' d' v' hd' hv'=>?_⟩;have ha':=hdn q' hq' ha';rw [hoff q' hq' ha' d' hd'] at hv';exact g4 q' hq' ha' hne' hn' d' v' hd' hv'
  · refine .inr ⟨v,h',hk,fun kd rd hkd hrd B κ₀ h₀ w₀ cs₀ S a cs w κ s hp hb=>?_⟩;have st:=s.st (hL S hp hb);refine OpTo.mono (hok kd rd hkd hrd B κ cs₀ a cs w st) (fun _ _ _ q=>q.elim) (fun chain cs' w' ⟨hcs,κ',hE',hc⟩=>?_);subst hcs;have st':=st.ext hE';exact ⟨κ',s.ext.trans hE',⟨st'.hr,⟨st'.ht.size,fun t v hv=>by rw [TT.get_leaf] at hv;simp at hv⟩,st'.hd,st'.hc,st'.hB⟩,hc⟩

/-! ### the model's orders -/
def SL (listed:Array Bool) (j:Nat):Prop:=listed.getD j false = true
theorem SL_set {listed:Array Bool} {i:Nat} (hi:i < listed.size):SL (listed.setIfInBounds i true) = fun j=>SL listed j∨j = i:=by
  funext j
  unfold SL
  by_cases h:j = i
  · subst h;simp [hi]
  · simp [Array.getElem?_setIfInBounds_ne (fun e:i = j=>h e.symm),h]
def unl (m:Nat) (listed:Array Bool):Nat:=((List.range m).filter fun i=>!listed.getD i false).length
theorem filter_le {p q:Nat→Bool}:∀ {l:List Nat},(∀ x ∈ l,q x = true→p x = true)→(l.filter q).length ≤ (l.filter p).length
  | [],_=>by simp
  | x :: l,h=>by
    have ih:=filter_le (l:=l) fun y hy=>h y (mS _ hy)
    have:=h x m0
    cases hq:q x <;> cases hp:p x <;> simp [hq,hp] at this ⊢ <;> omega
theorem filter_lt {p q:Nat→Bool}:∀ {l:List Nat},(∀ x ∈ l,q x = true→p x = true)→∀ y ∈ l,p y = true→q y = false→(l.filter q).length < (l.filter p).length
  | x :: l,h,y,hy,hp,hq=>by
    have hh:=fun z hz=>h z (mS x hz)
    rcases List.mem_cons.1 hy with rfl | hy
    · have:=filter_le hh;simp [hp,hq];omega
    · have ih:=filter_lt hh y hy hp hq;have:=h x m0
      cases hq:q x <;> cases hp:p x <;> simp [hq,hp] at this ⊢ <;> omega
structure Sched (l:List RO) (ops:Array Oper) (can past:Nat) (listed:Array Bool) (fuel:Nat):Prop where
  size:listed.size = ops.size
  cnt:unl ops.size listed ≤ fuel
  cl:∀ r ∈ l,SL listed r.i→∀ j,r.deps.testBit j = true→SL listed j
  sub:∀ r ∈ l,SL listed r.i→can.testBit r.i = true
  lou:∀ r ∈ l,r.loud = true→can.testBit r.i = true→SL listed r.i
  pas:∀ j,past.testBit j = true→SL listed j
theorem Sched.all {can past:Nat} {listed:Array Bool} (s:Sched l ops can past listed 0):∀ i,i < ops.size→SL listed i:=by
  intro i hi;have h0:unl ops.size listed = 0:=Nat.le_zero.1 s.cnt;unfold unl at h0;rw [List.length_eq_zero_iff,List.filter_eq_nil_iff] at h0;have:=h0 i (List.mem_range.2 hi);unfold SL
  cases hb:listed.getD i false with
  | true=>rfl
  | false=>rw [hb] at this;simp at this
theorem Sched.next {can past:Nat} {listed:Array Bool} {fuel:Nat} (L:DrawL P n rnd ops l) (s:Sched l ops can past listed (fuel + 1)) {q:RO} (hq:q ∈ l) (hn : ¬ SL listed q.i) (hdep:∀ j,q.deps.testBit j = true→SL listed j) {can' past':Nat} (h1:∀ j,can.testBit j = true→can'.testBit j = true) (h2:can'.testBit q.i = true)
    (h3:∀ r ∈ l,r.loud = true→can'.testBit r.i = true→can.testBit r.i = true∨r.i = q.i) (h4:∀ j,past'.testBit j = true→SL listed j):Sched l ops can' past' (listed.setIfInBounds q.i true) fuel:=by
  obtain ⟨o,ho,_⟩:=L.mem q hq;have hlt:q.i < ops.size:=(Array.getElem?_eq_some_iff.1 ho).1;have hS:=SL_set (listed:=listed) (i:=q.i) (by rw [s.size];exact hlt);refine ⟨by simp [s.size],?_,?_,?_,?_,?_⟩
  · have:unl ops.size (listed.setIfInBounds q.i true) < unl ops.size listed:=by
      refine filter_lt (fun x _ hx=>?_) q.i (List.mem_range.2 hlt) ?_ ?_
      · cases hb:listed.getD x false with
        | false=>rfl
        | true =>
          have:SL (listed.setIfInBounds q.i true) x:=by rw [hS];exact .inl hb
          unfold SL at this;rw [this] at hx;simp at hx
      · cases hb:listed.getD q.i false with
        | false=>rfl
        | true=>exact absurd hb hn
      · have:SL (listed.setIfInBounds q.i true) q.i:=by rw [hS];exact .inr rfl
        unfold SL at this;rw [this];rfl
    have:=s.cnt;omega
  · intro r hr hs j hj;rw [hS] at hs ⊢
    rcases hs with hs | hs
    · exact .inl (s.cl r hr hs j hj)
    · rw [L.inj r hr q hq hs] at hj;exact .inl (hdep j hj)
  · intro r hr hs;rw [hS] at hs
    rcases hs with hs | hs
    · exact h1 _ (s.sub r hr hs)
    · rw [hs];exact h2
  · intro r hr hl hc;rw [hS]
    rcases h3 r hr hl hc with h | h
    · exact .inl (s.lou r hr hl h)
    · exact .inr h
  · intro j hj;rw [hS];exact .inl (h4 j hj)
theorem pickL_none {can:Nat} {r:RO}:∀ {l:List RO},pickL can l = none→r ∈ l→r.loud = true→subM r.deps can = true→can.testBit r.i = true
  | [],_,h,_,_=>by simp at h
  | q :: l,h,hr,h1,h2=>by
    simp only [pickL] at h
    split at h
    · simp at h
    · rename_i hno
      rcases List.mem_cons.1 hr with rfl | hr
      · cases hc:Nat.testBit can r.i with
        | true=>rfl
        | false=>exact absurd h2 (hno h1 hc)
      · exact pickL_none h hr h1 h2
theorem ready_iff {listed:Array Bool} (hsz:listed.size = ops.size) {i:Nat}:i ∈ Region.ready .any ops listed ↔ i < ops.size∧¬ SL listed i∧∀ o,ops[i]? = some o→∀ j ∈ depsOf o,SL listed j:=by
  unfold Region.ready;rw [List.mem_filter,List.mem_range]
  constructor
  · rintro ⟨h1,h2⟩;have ho:ops[i]? = some ops[i]:=Array.getElem?_eq_getElem h1;rw [ho] at h2;simp only [Option.map_some,Option.getD_some,Bool.and_eq_true,Bool.not_eq_true',Array.all_eq_true_iff_forall_mem,Bool.or_eq_true] at h2;refine ⟨h1,fun hs=>?_,fun o ho' j hj=>?_⟩
    · have:listed.getD i true = listed.getD i false:=by simp [hsz,h1]
      rw [this,show listed.getD i false = true from hs] at h2;simp at h2
    · rw [ho,sJ] at ho';subst ho';unfold depsOf at hj;rw [List.mem_map] at hj;obtain ⟨e,he,rfl⟩:=hj;rw [List.mem_filter] at he
      rcases h2.2 e (by simpa using he.1) with h | h
      · rw [he.2] at h;simp at h
      · exact h
  · rintro ⟨h1,h2,h3⟩;refine ⟨h1,?_⟩;have ho:ops[i]? = some ops[i]:=Array.getElem?_eq_getElem h1;rw [ho];simp only [Option.map_some,Option.getD_some,Bool.and_eq_true,Bool.not_eq_true',Array.all_eq_true_iff_forall_mem,Bool.or_eq_true];refine ⟨?_,fun e he=>?_⟩
    · have:listed.getD i true = listed.getD i false:=by simp [hsz,h1]
      rw [this]
      cases hb:listed.getD i false with
      | false=>rfl
      | true=>exact absurd hb h2
    · cases hb:Region.binds .any e with
      | false=>exact .inl rfl
      | true=>exact .inr (h3 _ ho e.on (by unfold depsOf;exact List.mem_map.2 ⟨e,List.mem_filter.2 ⟨by simpa using he,hb⟩,rfl⟩))
theorem none_ready (L:DrawL P n rnd ops l) {listed:Array Bool} (hsz:listed.size = ops.size) (h:Region.ready .any ops listed = []):∀ i,i < ops.size→SL listed i:=by
  intro i
  induction i using Nat.strongRecOn with
  | _ i ih =>
    intro hi;refine Classical.byContradiction fun hn=>?_
    have:i ∈ Region.ready .any ops listed:=(ready_iff hsz).2 ⟨hi,hn,fun o ho j hj=>?_⟩
    · rw [h] at this;simp at this
    · obtain ⟨r,hr,rfl⟩:=L.all i hi;obtain ⟨o',ho',_,hdeps,_⟩:=L.mem r hr;rw [ho,sJ] at ho';subst ho';have hj:=(hdeps j).2 hj;have:=L.lt r hr j hj;exact ih j this (by omega)
theorem phase_run (L:DrawL P n rnd ops l) {rd:Option Nat} (hkd:kd ≠ .early) {r:R} (hr:r ≠ .bad) {Q:PostS} {can past:Nat} (hpick:pickQ can l = none) (hck:∀ q ∈ pendOf can past l,chkF q.x tm h r = r)
    (hend:∀ listed fuel a cs w κ,Sched l ops can past listed fuel→(∀ i,i < ops.size→SL listed i)→RS P n B kd κ₀ h₀ w₀ cs₀ l can (SL listed) tm ds pan h a cs w κ→Q .normal a cs w)
    (hloud:∀ q ∈ l,q.loud = true→can.testBit q.i = false→subM q.deps can = true→∀ listed fuel t a cs w κ,¬ SL listed q.i→Sched l ops can past listed (fuel + 1)→(∀ j,q.deps.testBit j = true→SL listed j)→RS P n B kd κ₀ h₀ w₀ cs₀ l can (SL listed) tm ds pan h a cs w κ →
      OpTo P rd kd ops q.i a cs w (XOps P rd kd ops Q (Region.linearise.go .any ops fuel t (listed.setIfInBounds q.i true) [])) (fun chain cs' w'=>Q (.panic chain) a cs' w')) :
    ∀ fuel t listed a cs w κ,Sched l ops can past listed fuel→RS P n B kd κ₀ h₀ w₀ cs₀ l can (SL listed) tm ds pan h a cs w κ→XOps P rd kd ops Q (Region.linearise.go .any ops fuel t listed []) a cs w:=by
  intro fuel
  induction fuel with
  | zero=>intro t listed a cs w κ sc s;exact hend listed 0 a cs w κ sc sc.all s
  | succ fuel ih =>
    intro t listed a cs w κ sc s;simp only [Region.linearise.go]
    change XOps P rd kd ops Q (match (Region.ready .any ops listed)[t % (Region.ready .any ops listed).length]? with
      | some i=>Region.linearise.go .any ops fuel (t / (Region.ready .any ops listed).length) (listed.setIfInBounds i true) [i]
      | none=>[].reverse) a cs w
    cases hi:(Region.ready .any ops listed)[t % (Region.ready .any ops listed).length]? with
    | none =>
      have hnil:Region.ready .any ops listed = []:=by
        cases hr:Region.ready .any ops listed with
        | nil=>rfl
        | cons x xs =>
          rw [hr] at hi;have hlt:t % (x :: xs).length < (x :: xs).length:=Nat.mod_lt _ (by simp);rw [List.getElem?_eq_getElem hlt] at hi;simp at hi
      exact hend listed _ a cs w κ sc (none_ready L sc.size hnil) s
    | some i =>
      dsimp only;rw [linearise_go_acc,List.reverse_singleton,List.singleton_append];obtain ⟨h1,h2,h3⟩:=(ready_iff sc.size).1 (List.mem_of_getElem? hi);obtain ⟨q,hq,rfl⟩:=L.all i h1;obtain ⟨o,ho,_,hdeps,_⟩:=L.mem q hq;have hdep:∀ j,q.deps.testBit j = true→SL listed j:=fun j hj=>h3 o ho j ((hdeps j).1 hj)
      have hsub:subM q.deps can = true:=subM_of fun j hj=>by
        have hjl:=L.lt q hq j hj;obtain ⟨q',hq',rfl⟩:=L.all j (by omega);exact sc.sub q' hq' (hdep _ hj)
      cases hl:q.loud with
      | true =>
        have hc:can.testBit q.i = false:=by
          cases hb:can.testBit q.i with
          | false=>rfl
          | true=>exact absurd (sc.lou q hq hl hb) h2
        exact hloud q hq hl hc hsub listed fuel _ a cs w κ h2 sc hdep s
      | false =>
        have hc:=pickQ_none hpick hq hl hsub;have hp:past.testBit q.i = false:=by
          cases hb:past.testBit q.i with
          | false=>rfl
          | true=>exact absurd (sc.pas _ hb) h2
        have hah:Ahead can (SL listed) q:=⟨hl,hc,h2⟩;refine OpTo.mono (s.quiet L hkd (rd:=rd) hr sc.cl hq hah hdep (hck q (pendOf_mem hq hl hc hp))) (fun a' cs' w' ⟨hcs,κ',s'⟩=>?_) (fun _ _ _ q=>q.elim);rw [← SL_set (by rw [sc.size];exact h1)] at s';exact ih _ _ a' cs' w' κ' (sc.next L hq h2 hdep (fun _ h=>h) hc (fun r _ _ h=>.inl h) sc.pas) s'

/-! ### two stores in either order -/
theorem withO_run {x:XO} {v:AV} {k:AV→Out AV} (h:x.val tm = some v):x.withO tm k = k v:=by
  cases x with
  | c u=>simp only [XO.val,sJ] at h;subst h;rfl
  | t p=>simp only [XO.val] at h;simp only [XO.withO,h]
theorem store_at {m:Nat} {ao xo:XO} {v va:AV} {p:Pos} (hs:(XI.store m ao xo).sem tm h = .ok v h') (ha:ao.val tm = some va) (hp:va.pos = some p):∃ ob,h' = h.set p ob∧∀ h2:Heap,h2.get p = h.get p→(XI.store m ao xo).sem tm h2 = .ok v (h2.set p ob):=by
  obtain ⟨y,h1,hs2⟩:=withO_ok hs;rw [ha,sJ] at h1;subst h1;obtain ⟨u,h3,h4⟩:=withO_ok hs2
  cases va <;> first | (simp at h4;done) | skip
  case ptr q o =>
    simp only [AV.pos,sJ] at hp;subst hp
    cases hc:u.cellsO with
    | none=>rw [hc] at h4;simp at h4
    | some cs =>
      rw [hc] at h4;dsimp only at h4
      cases hl:lengthIs cs m with
      | false=>rw [hl] at h4;simp at h4
      | true =>
        rw [hl] at h4;dsimp only at h4;unfold writeAt at h4
        cases hg:h.get q with
        | row ty rs sp =>
          rw [hg] at h4;dsimp only at h4;rw [spliceK_eq] at h4
          split at h4
          · rename_i hsp
            simp only [Heap.setK_eq,Out.ok.injEq] at h4;obtain ⟨rfl,rfl⟩:=h4;refine ⟨_,rfl,fun h2 hg2=>?_⟩;show ao.withO tm (fun v=>xo.withO tm fun w=>_) = _;rw [withO_run ha,withO_run h3];simp only [hc,hl,writeAt,hg2,spliceK_eq,if_pos hsp,Heap.setK_eq]
          · simp at h4
        | _=>rw [hg] at h4;simp at h4
theorem pair_val {n1 n2:Nat} {a1 x1 a2 x2:XO} {k:Heap→Heap→Heap→R} {r:R} (hrun:pairF n1 a1 x1 n2 a2 x2 tm h k = r) (hr:r ≠ .bad):∃ hA hB hAB hBA v1 v2 v3 v4,k hA hB hAB = r∧(XI.store n1 a1 x1).sem tm h = .ok v1 hA∧(XI.store n2 a2 x2).sem tm hA = .ok v2 hAB ∧
    (XI.store n2 a2 x2).sem tm h = .ok v3 hB∧(XI.store n1 a1 x1).sem tm hB = .ok v4 hBA∧hBA.next = hAB.next∧∀ p,hBA.get p = hAB.get p:=by
  unfold pairF at hrun;rw [semF_eq] at hrun
  cases s1:(XI.store n1 a1 x1).sem tm h with
  | bad=>rw [s1] at hrun;exact absurd hrun.symm hr
  | panic v h'=>rw [s1] at hrun;exact absurd hrun.symm hr
  | ok v1 hA =>
    rw [s1,viaOut_ok,semF_eq] at hrun
    cases s2:(XI.store n2 a2 x2).sem tm hA with
    | bad=>rw [s2] at hrun;exact absurd hrun.symm hr
    | panic v h'=>rw [s2] at hrun;exact absurd hrun.symm hr
    | ok v2 hAB =>
      rw [s2,viaOut_ok,semF_eq] at hrun
      cases s3:(XI.store n2 a2 x2).sem tm h with
      | bad=>rw [s3] at hrun;exact absurd hrun.symm hr
      | panic v h'=>rw [s3] at hrun;exact absurd hrun.symm hr
      | ok v3 hB =>
        rw [s3,viaOut_ok] at hrun;obtain ⟨u1,e1,hrun⟩:=withF_val hrun hr;obtain ⟨u2,e2,hrun⟩:=withF_val hrun hr;unfold apartF at hrun
        cases p1:u1.pos with
        | none=>rw [p1] at hrun;exact absurd hrun.symm hr
        | some p =>
          cases p2:u2.pos with
          | none=>rw [p1,p2] at hrun;exact absurd hrun.symm hr
          | some q =>
            rw [p1,p2] at hrun;dsimp only at hrun
            cases hpq:p.beq q with
            | true=>rw [hpq] at hrun;exact absurd hrun.symm hr
            | false =>
              rw [hpq] at hrun;have hne:p ≠ q:=fun e=>by rw [Pos.beq_iff.2 e] at hpq;simp at hpq
              obtain ⟨o1,rfl,g1⟩:=store_at s1 e1 p1;obtain ⟨o2,rfl,g2⟩:=store_at s3 e2 p2;have:=g2 (h.set p o1) (Heap.get_set_ne _ _ hne);rw [s2,Out.ok.injEq] at this;obtain ⟨rfl,rfl⟩:=this;refine ⟨_,_,_,_,v1,v2,v2,v1,hrun,rfl,s2,rfl,g1 (h.set q o2) (Heap.get_set_ne _ _ (Ne.symm hne)),rfl,fun z=>?_⟩
              by_cases hz:z = p
              · subst hz;rw [Heap.get_set_same,Heap.get_set_ne _ _ (Ne.symm hne),Heap.get_set_same]
              · rw [Heap.get_set_ne _ _ (Ne.symm hz)]
                by_cases hz2:z = q
                · subst hz2;rw [Heap.get_set_same,Heap.get_set_same]
                · rw [Heap.get_set_ne _ _ (Ne.symm hz2),Heap.get_set_ne _ _ (Ne.symm hz2),Heap.get_set_ne _ _ (Ne.symm hz)]
theorem RS.heap {h':Heap} (s:RS P n B kd κ₀ h₀ w₀ cs₀ l D S tm ds pan h a cs w κ) (hn:h'.next = h.next) (hg:∀ p,h'.get p = h.get p):RS P n B kd κ₀ h₀ w₀ cs₀ l D S tm ds pan h' a cs w κ:=by
  have hl:∀ p x,Live κ h' p x ↔ Live κ h p x:=fun p x=>by unfold Live;rw [hg p]
  have hdr:∀ {ds:List Dfd} {l:List Deferred},DR B κ h w ds l→DR B κ h' w ds l:=by
    intro ds l hd
    induction hd with
    | nil=>exact .nil
    | mark hl' hm hne ih=>exact .mark ih ⟨hm.old,hm.obj,hm.fix,fun p x h1=>hm.off p x ((hl _ _).1 h1)⟩ hne
    | cons hl' ha hc ih=>exact .cons ih ha hc
  obtain ⟨e,sz,val,hd,hc,hB,nw⟩:=s;refine ⟨⟨e.le,e.M,⟨fun p x hp=>by rw [hg p];exact e.hr.obj p x hp,fun p q x y h1 h2=>e.hr.apart p q x y ((hl _ _).1 h1) ((hl _ _).1 h2),e.hr.frozen,fun p x h1=>e.hr.off p x ((hl _ _).1 h1),fun p x h1=>by rw [hn];exact e.hr.top p x h1,fun p hp=>by rw [hg p];exact e.hr.clean p (by rw [← hn];exact hp)⟩,
    by rw [hn];exact e.next,e.size,e.fc,fun p x h1=>e.lr p x ((hl _ _).1 h1),fun p h1 h2=>⟨(e.gc p h1 h2).1,by rw [hg p];exact (e.gc p h1 h2).2⟩,e.os,e.output,e.tape⟩,sz,val,hdr hd,hc,hB,fun q hq ha hqn d v p h1 h2 h3=>by rw [hn];exact nw q hq ha hqn d v p h1 h2 h3⟩
theorem storeOf_some {x:XOp} {m:Nat} {ao xo:XO} (h:storeOf x = some (m,ao,xo)):x = ⟨none,none,.ins (.store m ao xo)⟩:=by
  obtain ⟨d,g,op⟩:=x;unfold storeOf at h
  split at h
  · rename_i h1 h2 h3
    simp only [sJ,Prod.mk.injEq] at h h1 h2 h3;obtain ⟨rfl,rfl,rfl⟩:=h;subst h1 h2 h3;rfl
  · simp at h
theorem RS.store (L:DrawL P n rnd ops l) (_hkd:kd ≠ .early) {rd:Option Nat} (s:RS P n B kd κ₀ h₀ w₀ cs₀ l D S tm ds pan h a cs w κ) {rr:RO} (hrr:rr ∈ l) (hl:rr.loud = true) {m:Nat} {ao xo:XO} (hst:storeOf rr.x = some (m,ao,xo)) {v:AV} {hA:Heap} (hsem:(XI.store m ao xo).sem tm h = .ok v hA)
    (hbef:∀ j,rr.bef.testBit j = true→S j) {D':Nat} (hD:∀ q ∈ l,q.loud = false→D'.testBit q.i = true→D.testBit q.i = true) (hD':∀ q ∈ l,q.loud = false→D.testBit q.i = true→D'.testBit q.i = true) :
    OpTo P rd kd ops rr.i a cs w (fun a' cs' w'=>∃ κ',RS P n B kd κ₀ h₀ w₀ cs₀ l D' (fun j=>S j∨j = rr.i) tm ds pan hA a' cs' w' κ') (fun _ _ _=>False):=by
  obtain ⟨o,ho,hx,_,_⟩:=L.mem rr hrr;have hxs:=storeOf_some hst
  rcases copOper_or (P:=P) (n:=n) (rnd:=rnd) (ops:=ops) o with e | ⟨g,hg,e⟩
  · rw [hx,e] at hxs;simp [badOp] at hxs
  rw [hx,e,XOp.mk.injEq] at hxs;obtain ⟨hd,rfl,hop⟩:=hxs;have hod:o.dst = none:=by simpa using hd
  have hag:∀ y ∈ (XI.store m ao xo).ops,Agree (dels tm (aheadL D S l)) tm y:=by
    refine agree_slots fun p hp=>?_
    rw [get_dels,if_neg];intro hm;obtain ⟨q',hq',ha',hd'⟩:=aheadL_iff.1 hm;have hne:rr.i ≠ q'.i:=fun e=>by rw [← L.inj rr hrr q' hq' e] at ha';rw [ha'.1] at hl;simp at hl
    refine ha'.2.2 (hbef _ (L.behind hq' hrr ha'.1 hd' hne (aboutS_name ?_)));rw [hx,e,hop];exact hp
  have hsemE:(XI.store m ao xo).sem (dels tm (aheadL D S l)) h = .ok v hA:=by rw [sem_congr hag];exact hsem
  have ht:TR κ n (dels tm (aheadL D S l)) a.tmps:=s.mono_val fun _ h=>h
  have hwant:Region.wanted o (yielded ops a.tmps) = true:=by
    obtain ⟨b,hb,hw⟩:=want_val (tm:=tm) (k:=fun b=>match b with | true=>.ok unit h | false=>.bad) (r:=.ok unit h) hg rfl (by simp)
    cases b with
    | false=>simp at hb
    | true =>
      obtain ⟨b',hb',hw'⟩:=want_val (tm:=dels tm (aheadL D S l)) (k:=fun b=>match b with | true=>.ok unit h | false=>.bad) (r:=.ok unit h) hg rfl (by simp)
      cases b' with
      | false=>simp at hb'
      | true=>exact hw' κ n a ht
  have hnd:∀ c,o.op ≠ .defer c:=by
    rcases (copOp_from (P:=P) (rnd:=rnd) (o:=o)).symm with hno | hfrom
    · rw [hop] at hno;simp at hno
    · rw [hop] at hfrom;exact hfrom
  have key:∀ {κ':Kp} {w':World} {u:Value},Ext P κ h w κ' hA w'→RS P n B kd κ₀ h₀ w₀ cs₀ l D' (fun j=>S j∨j = rr.i) tm ds pan hA (a.put o.dst u) cs w' κ':=by
    intro κ' w' u hE';have hput:a.put o.dst u = a:=by rw [hod];rfl
    rw [hput];have hdn:∀ q ∈ l,Ahead D' (fun j=>S j∨j = rr.i) q→Ahead D S q:=fun q hq ⟨h1,h2,h3⟩=>⟨h1,hD q hq h1 h2,fun h=>h3 (.inl h)⟩
    have hup:∀ q ∈ l,Ahead D S q→Ahead D' (fun j=>S j∨j = rr.i) q:=by
      intro q hq ⟨h1,h2,h3⟩;refine ⟨h1,hD' q hq h1 h2,fun h=>?_⟩
      rcases h with h | h
      · exact h3 h
      · rw [L.inj q hq rr hrr h] at h1;rw [h1] at hl;simp at hl
    refine ⟨s.ext.trans hE',s.size,fun t u ht hu=>VR.mono hE'.le _ _ (s.val t u (fun q hq ha=>ht q hq (hup q hq ha)) hu),s.hd.ext hE',s.hc.mono hE'.le,Nat.le_trans s.hB hE'.size,fun q hq ha hqn d u p hqd hu hpp=>?_⟩;obtain ⟨g1,g2,g3,g4⟩:=s.new q hq (hdn q hq ha) hqn d u p hqd hu hpp;exact ⟨g1,Nat.lt_of_lt_of_le g2 hE'.next,(hE'.gc p g2 g3).1,fun q' hq' ha' hne' hn'=>g4 q' hq' (hdn q' hq' ha') hne' hn'⟩
  rcases copOp_ok s.ext.hr ht hop hsemE with ⟨nx,w',κ',hrun,hnx,hE'⟩ | hask
  · rcases hnx with ⟨u,rfl,hvu⟩ | ⟨rfl,rfl⟩
    · exact opTo_value ho hwant hnd hrun ⟨κ',key hE'⟩
    · exact opTo_unit ho hwant hnd hrun ⟨κ',key hE'⟩
  · exact hask.elim
def PhasesOK (P:Program) (n:Nat) (rnd:Bool) (ops:Array Oper) (l:List RO) (can past:Nat) (tm:Tm) (ds:List Dfd) (pan:Pan) (h:Heap) (res:CRes) (tm':Tm) (ds':List Dfd) (pan':Pan) (h':Heap):Prop :=
  ∀ (kd:CallKind) (rd:Option Nat),kd ≠ .early→(rd ≠ none→rnd = true)→∀ B κ₀ h₀ w₀ cs₀ fuel t listed a cs w κ,Sched l ops can past listed fuel→RS P n B kd κ₀ h₀ w₀ cs₀ l can (SL listed) tm ds pan h a cs w κ →
    XOps P rd kd ops (CQ P n B kd κ₀ h₀ w₀ cs₀ res tm' ds' pan' h') (Region.linearise.go .any ops fuel t listed []) a cs w
theorem pair_ok (L:DrawL P n rnd ops l) {m can can1 past louds:Nat} {qs:List RO} {rest:Option XCode} {c:XCode} {rr r2:RO} (hq:quietsOf l m can = (qs,can1)) (hp:pickQ can1 l = none) (hrr:rr ∈ l) (hrl:rr.loud = true) (hrc:can1.testBit rr.i = false) (hpo:pairOf can1 rr l = some r2)
    (hm:mkPair l qs can1 past louds rr r2 rest = some c) (hsc:∀ {listed fuel},Sched l ops can past listed fuel→Sched l ops can1 past listed fuel)
    (hlb:∀ {c'},rest = some c'→∀ q ∈ l,q.loud = true→(Nat.lor (Nat.lor can1 (2 ^ rr.i)) (2 ^ r2.i)).testBit q.i = false→∀ j,(Nat.lor (Nat.lor louds (2 ^ rr.i)) (2 ^ r2.i)).testBit j = true→q.bef.testBit j = true)
    {lp:Nat} {rl:Option Pos} {k:KE} {kp:KP} {r:R}
    (ih:∀ {c'},rest = some c'→∀ {tm:Tm} {h:Heap},codeF E c' call lp rl tm ds pan h k kp = r→∃ res tm' ds' pan' h',res.k k kp tm' ds' pan' h' = r∧PhasesOK P n rnd ops l (Nat.lor (Nat.lor can1 (2 ^ rr.i)) (2 ^ r2.i)) (Nat.lor (Nat.lor past rr.bef) r2.bef) tm ds pan h res tm' ds' pan' h')
    (hrun:codeF E c call lp rl tm ds pan h k kp = r) (hr:r ≠ .bad):∃ res tm' ds' pan' h',res.k k kp tm' ds' pan' h' = r∧PhasesOK P n rnd ops l can past tm ds pan h res tm' ds' pan' h':=by
  obtain ⟨n1,a1,x1,n2,a2,x2,c',hst1,hst2,_,_,hp1,hp2,hrest,rfl⟩:=mkPair_some hm;obtain ⟨h2r,h2l,h2c,hne⟩:=pairOf_some hpo;have hpend:∀ {can past:Nat} {tm1:Tm} {h1:Heap},(∀ x ∈ xsOf (pendOf can past l),chkF x tm1 h1 r = r)→∀ q ∈ pendOf can past l,chkF q.x tm1 h1 r = r:=fun hall q hq=>hall q.x (by rw [xsOf_eq];exact List.mem_map_of_mem hq)
  have hrun:quietsF (xsOf qs) tm h (fun tm h=>chksF (xsOf (pendOf can1 past l)) tm h (pairF n1 a1 x1 n2 a2 x2 tm h fun hA hB hAB=>chksF (xsOf (pendOf (Nat.lor can1 (2 ^ rr.i)) (Nat.lor past rr.bef) l)) tm hA (chksF (xsOf (pendOf (Nat.lor can1 (2 ^ r2.i)) (Nat.lor past r2.bef) l)) tm hB (codeF E c' call lp rl tm ds pan hAB k kp)))) = r:=hrun;obtain ⟨tm1,h1,hrun,hqs⟩:=quiets_ok L hq hrun hr;obtain ⟨hrun,hck⟩:=chks_val hrun hr;obtain ⟨hA,hB,hAB,hBA,v1,v2,v3,v4,hrun,s1,s2,s3,s4,hnx,hget⟩:=pair_val hrun hr;obtain ⟨hrun,hck1⟩:=chks_val hrun hr;obtain ⟨hrun,hck2⟩:=chks_val hrun hr;obtain ⟨res,tm',ds',pan',h',e1,e2⟩:=ih hrest hrun;refine ⟨res,tm',ds',pan',h',e1,fun kd rd hkd hrd B κ₀ h₀ w₀ cs₀ fuel t listed a cs w κ sc s=>?_⟩
  -- quiet ones,with one loud one more
  have hqd:∀ {D:Nat} {z:RO},z ∈ l→z.loud = true→∀ q ∈ l,q.loud = false→(Nat.lor D (2 ^ z.i)).testBit q.i = true→D.testBit q.i = true:=by
    intro D z hz hzl q hq hql hb
    rcases (testBit_add _ _ _).1 hb with h | h
    · exact h
    · rw [L.inj q hq z hz h] at hql;rw [hql] at hzl;simp at hzl
  have hqu:∀ {D i:Nat} (q:RO),D.testBit q.i = true→(Nat.lor D (2 ^ i)).testBit q.i = true:=fun q h=>(testBit_add _ _ _).2 (.inl h)
  have hfalse : ∀ {D:Nat} {q z:RO},D.testBit q.i = false→q.i ≠ z.i→(Nat.lor D (2 ^ z.i)).testBit q.i = false:=by
    intro D q z h0 hne
    cases hb:(Nat.lor D (2 ^ z.i)).testBit q.i with
    | false=>rfl
    | true => rcases (testBit_add _ _ _).1 hb with h | h
              · rw [h0] at h;simp at h
              · exact absurd h hne
  have hlt:∀ q ∈ l,q.i < ops.size:=fun q hq=>by obtain ⟨o,ho,_⟩:=L.mem q hq;exact (Array.getElem?_eq_some_iff.1 ho).1
  -- any other loud one comes behind both
  have hoth:∀ q ∈ l,q.loud = true→can1.testBit q.i = false→q ≠ rr→q ≠ r2→q.bef.testBit rr.i = true∧q.bef.testBit r2.i = true:=by
    intro q hq hl hc h3 h4;have:=hlb hrest q hq hl (hfalse (hfalse hc fun e=>h3 (L.inj q hq rr hrr e)) fun e=>h4 (L.inj q hq r2 h2r e));exact ⟨this _ ((testBit_add _ _ _).2 (.inl ((testBit_add _ _ _).2 (.inr rfl)))),this _ ((testBit_add _ _ _).2 (.inr rfl))⟩
  -- the second of the two
  have second:∀ {z y:RO} {hz hzy:Heap} {my:Nat} {ay xy:XO} {vy:AV},z ∈ l→z.loud = true→y ∈ l→y.loud = true→y.i ≠ z.i→can1.testBit y.i = false→storeOf y.x = some (my,ay,xy)→(XI.store my ay xy).sem tm1 hz = .ok vy hzy→hzy.next = hAB.next→(∀ p,hzy.get p = hAB.get p) →
      pickQ (Nat.lor can1 (2 ^ z.i)) l = none→(∀ q ∈ pendOf (Nat.lor can1 (2 ^ z.i)) (Nat.lor past z.bef) l,chkF q.x tm1 hz r = r)→((z = rr∧y = r2)∨(z = r2∧y = rr)) →
      ∀ fuel t listed a cs w κ,Sched l ops (Nat.lor can1 (2 ^ z.i)) (Nat.lor past z.bef) listed fuel→RS P n B kd κ₀ h₀ w₀ cs₀ l (Nat.lor can1 (2 ^ z.i)) (SL listed) tm1 ds pan hz a cs w κ→XOps P rd kd ops (CQ P n B kd κ₀ h₀ w₀ cs₀ res tm' ds' pan' h') (Region.linearise.go .any ops fuel t listed []) a cs w:=by
    intro z y hz hzy my ay xy vy hzl hzd hyl hyd hyz hyc hst hsem hnx hget hpz hckz hzy2;refine phase_run L hkd hr hpz hckz (fun listed fuel a cs w κ sc hall s=>?_) (fun q hq hl hc hsub listed fuel t a cs w κ hn sc hdep s=>?_)
    · have:=sc.sub y hyl (hall y.i (hlt y hyl));rw [hfalse hyc hyz] at this;simp at this
    · have hbef:=L.closed' sc.cl hq hdep;have hq1:can1.testBit q.i = false:=by
        cases hb:can1.testBit q.i with
        | false=>rfl
        | true=>rw [(testBit_add _ _ _).2 (.inl hb)] at hc;simp at hc
      have hqy:q = y:=by
        refine Classical.byContradiction fun hny=>?_
        have hnz:q ≠ z:=fun e=>by rw [e,(testBit_add _ _ _).2 (.inr rfl)] at hc;simp at hc
        have hby:q.bef.testBit y.i = true:=by
          rcases hzy2 with ⟨rfl,rfl⟩ | ⟨rfl,rfl⟩
          · exact (hoth q hq hl hq1 hnz hny).2
          · exact (hoth q hq hl hq1 hny hnz).1
        have:=sc.sub y hyl (hbef _ hby);rw [hfalse hyc hyz] at this;simp at this
      subst hqy;refine OpTo.mono (s.store (rd:=rd) L hkd hq hl hst hsem hbef (D':=Nat.lor (Nat.lor can1 (2 ^ rr.i)) (2 ^ r2.i)) (fun p hp hpl hb=>hqu p (hqd hrr hrl p hp hpl (hqd h2r h2l p hp hpl hb))) (fun p hp hpl hb=>hqu p (hqu p (hqd hzl hzd p hp hpl hb)))) (fun a' cs' w' ⟨κ',s'⟩=>?_) (fun _ _ _ q=>q.elim);rw [← SL_set (by rw [sc.size];exact hlt q hq)] at s';refine e2 kd rd hkd hrd B κ₀ h₀ w₀ cs₀ fuel t _ a' cs' w' κ' (sc.next L hq hn hdep (fun j hj=>?_) ?_ (fun p _ _ hb=>?_) (fun j hj=>?_)) (s'.heap hnx.symm fun p=>(hget p).symm)
      · rcases (testBit_add _ _ _).1 hj with hj | hj
        · exact (testBit_add _ _ _).2 (.inl ((testBit_add _ _ _).2 (.inl hj)))
        · rcases hzy2 with ⟨rfl,rfl⟩ | ⟨rfl,rfl⟩
          · exact (testBit_add _ _ _).2 (.inl ((testBit_add _ _ _).2 (.inr hj)))
          · exact (testBit_add _ _ _).2 (.inr hj)
      · rcases hzy2 with ⟨rfl,rfl⟩ | ⟨rfl,rfl⟩
        · exact (testBit_add _ _ _).2 (.inr rfl)
        · exact (testBit_add _ _ _).2 (.inl ((testBit_add _ _ _).2 (.inr rfl)))
      · rcases (testBit_add _ _ _).1 hb with g | g
        · rcases (testBit_add _ _ _).1 g with g' | g'
          · exact .inl ((testBit_add _ _ _).2 (.inl g'))
          · rcases hzy2 with ⟨e1,e2⟩ | ⟨e1,e2⟩
            · rw [e1];exact .inl ((testBit_add _ _ _).2 (.inr g'))
            · rw [e2];exact .inr g'
        · rcases hzy2 with ⟨e1,e2⟩ | ⟨e1,e2⟩
          · rw [e2];exact .inr g
          · rw [e1];exact .inl ((testBit_add _ _ _).2 (.inr g))
      · have hpz:∀ j,past.testBit j = true∨z.bef.testBit j = true→SL listed j:=fun j hj=>sc.pas j (by rw [testBit_lor',Bool.or_eq_true];exact hj)
        rw [testBit_lor',Bool.or_eq_true,testBit_lor',Bool.or_eq_true] at hj
        rcases hzy2 with ⟨rfl,rfl⟩ | ⟨rfl,rfl⟩
        · rcases hj with (hj | hj) | hj
          · exact hpz j (.inl hj)
          · exact hpz j (.inr hj)
          · exact hbef j hj
        · rcases hj with (hj | hj) | hj
          · exact hpz j (.inl hj)
          · exact hbef j hj
          · exact hpz j (.inr hj)
  -- the first of the two
  refine phase_run L hkd hr hp (hpend hck) (fun listed fuel a cs w κ sc hall s=>?_) (fun q hq hl hc hsub listed fuel t a cs w κ hn sc hdep s=>?_) fuel t listed a cs w κ (hsc sc) (hqs B kd κ₀ h₀ w₀ cs₀ _ ds pan a cs w κ sc.sub s)
  · have:=sc.sub rr hrr (hall rr.i (hlt rr hrr));rw [hrc] at this;simp at this
  · have hbef:=L.closed' sc.cl hq hdep;have first:∀ {z:RO} {mz:Nat} {az xz:XO} {vz:AV} {hz:Heap},q = z→z ∈ l→z.loud = true→storeOf z.x = some (mz,az,xz)→(XI.store mz az xz).sem tm1 h1 = .ok vz hz →
        (∀ fuel t listed a cs w κ,Sched l ops (Nat.lor can1 (2 ^ z.i)) (Nat.lor past z.bef) listed fuel→RS P n B kd κ₀ h₀ w₀ cs₀ l (Nat.lor can1 (2 ^ z.i)) (SL listed) tm1 ds pan hz a cs w κ→XOps P rd kd ops (CQ P n B kd κ₀ h₀ w₀ cs₀ res tm' ds' pan' h') (Region.linearise.go .any ops fuel t listed []) a cs w) →
        OpTo P rd kd ops q.i a cs w (XOps P rd kd ops (CQ P n B kd κ₀ h₀ w₀ cs₀ res tm' ds' pan' h') (Region.linearise.go .any ops fuel t (listed.setIfInBounds q.i true) [])) (fun chain cs' w'=>CQ P n B kd κ₀ h₀ w₀ cs₀ res tm' ds' pan' h' (.panic chain) a cs' w'):=by
      intro z mz az xz vz hz hqz hzl hzd hst hsem hnext;subst hqz;refine OpTo.mono (s.store (rd:=rd) L hkd hq hl hst hsem hbef (D':=Nat.lor can1 (2 ^ q.i)) (fun p hp hpl hb=>hqd hq hl p hp hpl hb) (fun p hp hpl hb=>hqu p hb)) (fun a' cs' w' ⟨κ',s'⟩=>?_) (fun _ _ _ q=>q.elim);rw [← SL_set (by rw [sc.size];exact hlt q hq)] at s';refine hnext fuel t _ a' cs' w' κ' (sc.next L hq hn hdep (fun j hj=>(testBit_add _ _ _).2 (.inl hj)) ((testBit_add _ _ _).2 (.inr rfl)) (fun p _ _ hb=>(testBit_add _ _ _).1 hb) (fun j hj=>?_)) s';rw [testBit_lor',Bool.or_eq_true] at hj;exact hj.elim (sc.pas j) (hbef j)
    by_cases h3:q = rr
    · exact first h3 hrr hrl hst1 s1 (second hrr hrl h2r h2l hne h2c hst2 s2 rfl (fun _=>rfl) hp1 (hpend hck1) (.inl ⟨rfl,rfl⟩))
    · by_cases h4:q = r2
      · exact first h4 h2r h2l hst2 s3 (second h2r h2l hrr hrl (Ne.symm hne) hrc hst1 s4 hnx hget hp2 (hpend hck2) (.inr ⟨rfl,rfl⟩))
      · have:=sc.sub rr hrr (hbef _ (hoth q hq hl hc h3 h4).1);rw [hrc] at this;simp at this

theorem phases_ok (hE:EnvOK P E) (hcall:CallS P call) (L:DrawL P n rnd ops l):∀ {m can past louds:Nat} {c:XCode},mkPhases l (2 ^ ops.size - 1) m can past louds = some c→∀ {lp:Nat} {rl:Option Pos} {tm:Tm} {ds:List Dfd} {pan:Pan} {h:Heap} {k:KE} {kp:KP} {r:R},codeF E c call lp rl tm ds pan h k kp = r→r ≠ .bad →
    ∃ res tm' ds' pan' h',res.k k kp tm' ds' pan' h' = r∧∀ (kd:CallKind) (rd:Option Nat),kd ≠ .early→(rd ≠ none→rnd = true)→∀ B κ₀ h₀ w₀ cs₀ fuel t listed a cs w κ,Sched l ops can past listed fuel→RS P n B kd κ₀ h₀ w₀ cs₀ l can (SL listed) tm ds pan h a cs w κ →
      XOps P rd kd ops (CQ P n B kd κ₀ h₀ w₀ cs₀ res tm' ds' pan' h') (Region.linearise.go .any ops fuel t listed []) a cs w
  | 0,can,past,louds,c,hm,_,_,_,_,_,_,_,_,_,_,_=>by simp [mkPhases] at hm
  | m + 1, can, past,louds,c,hm,lp,rl,tm,ds,pan,h,k,kp,r,hrun,hr=>by
    simp only [mkPhases] at hm
    cases hq:quietsOf l (m + 1) can with
    | mk qs can1 =>
      rw [hq] at hm;dsimp only at hm;have hsc:∀ {listed fuel},Sched l ops can past listed fuel→Sched l ops can1 past listed fuel:=by
        intro listed fuel sc;refine ⟨sc.size,sc.cnt,sc.cl,fun r hr hs=>quietsOf_mono hq _ (sc.sub r hr hs),fun r hr hl hc=>?_,sc.pas⟩
        cases hb:can.testBit r.i with
        | true=>exact sc.lou r hr hl hb
        | false=>have:=quietsOf_new L hq r hr hb hc;rw [hl] at this;simp at this
      have hpend:∀ {tm1 h1},(∀ x ∈ xsOf (pendOf can1 past l),chkF x tm1 h1 r = r)→∀ q ∈ pendOf can1 past l,chkF q.x tm1 h1 r = r:=fun hall q hq=>hall q.x (by rw [xsOf_eq];exact List.mem_map_of_mem hq)
      cases hp:pickQ can1 l with
      | some _=>rw [hp] at hm;simp at hm
      | none =>
        rw [hp] at hm;dsimp only at hm
        cases hpl:pickL can1 l with
        | none =>
          rw [hpl] at hm;dsimp only at hm
          cases hb:Nat.beq can1 (2 ^ ops.size - 1) with
          | false=>rw [hb] at hm;simp at hm
          | true =>
            rw [hb] at hm;simp only [sJ] at hm;subst hm;have hrun:quietsF (xsOf qs) tm h (fun tm h=>chksF (xsOf (pendOf can1 past l)) tm h (k .normal tm ds pan h)) = r:=hrun;obtain ⟨tm1,h1,hrun,hqs⟩:=quiets_ok L hq hrun hr;obtain ⟨hrun,hck⟩:=chks_val hrun hr;refine ⟨.exit .normal,tm1,ds,pan,h1,hrun,fun kd rd hkd hrd B κ₀ h₀ w₀ cs₀ fuel t listed a cs w κ sc s=>?_⟩;refine phase_run L hkd hr hp (hpend hck) (fun listed fuel a cs w κ sc hall s=>?_) (fun q hq hl hc hsub=>?_) fuel t listed a cs w κ (hsc sc) (hqs B kd κ₀ h₀ w₀ cs₀ _ ds pan a cs w κ sc.sub s)
            · refine .inr ⟨κ,s.ext,⟨s.ext.hr,⟨s.size,fun t v hv=>s.val t v (fun q hq ha=>?_) hv⟩,s.hd,s.hc,s.hB⟩,rfl⟩;obtain ⟨o,ho,_⟩:=L.mem q hq;exact absurd (hall q.i (Array.getElem?_eq_some_iff.1 ho).1) ha.2.2
            · rw [pickL_none hpl hq hl hsub] at hc;simp at hc
        | some rr =>
          rw [hpl] at hm;dsimp only at hm;obtain ⟨hrr,hrl,hrc,_⟩:=pickL_some hpl
          cases hpo:pairOf can1 rr l with
          | some r2 =>
           rw [hpo] at hm;dsimp only at hm;exact pair_ok L hq hp hrr hrl hrc hpo hm hsc (fun hm'=>louds_before L hm') (fun hm' _ _ hrun'=>phases_ok hE hcall L hm' hrun' hr) hrun hr
          | none =>
          rw [hpo] at hm;dsimp only at hm
          cases hs:subM louds rr.bef with
          | false=>rw [hs] at hm;simp at hm
          | true =>
            cases hm2:mkPhases l (2 ^ ops.size - 1) m (Nat.lor can1 (2 ^ rr.i)) (Nat.lor past rr.bef) (Nat.lor louds (2 ^ rr.i)) with
            | none=>rw [hs,hm2] at hm;simp at hm
            | some c' =>
              rw [hs,hm2] at hm;simp only [sJ] at hm;subst hm;have hrun:quietsF (xsOf qs) tm h (fun tm h=>chksF (xsOf (pendOf can1 past l)) tm h (xopF E rr.x call tm ds pan h (fun tm ds pan h=>codeF E c' call lp rl tm ds pan h k kp) (fun v _=>kp v .leaf))) = r:=hrun;obtain ⟨tm1,h1,hrun,hqs⟩:=quiets_ok L hq hrun hr;obtain ⟨hrun,hck⟩:=chks_val hrun hr
              -- the loud operation that comes is this one
              have hone : ∀ q ∈ l,q.loud = true→can1.testBit q.i = false→∀ {listed:Array Bool} {fuel:Nat},Sched l ops can1 past listed fuel→(∀ j,q.deps.testBit j = true→SL listed j)→q = rr:=by
                intro q hq hl hc listed fuel sc hdep;refine Classical.byContradiction fun hne=>?_
                have hni:q.i ≠ rr.i:=fun e=>hne (L.inj q hq rr hrr e)
                have hb:=louds_before L hm2 q hq hl (by
                  cases hb:(Nat.lor can1 (2 ^ rr.i)).testBit q.i with
                  | false=>rfl
                  | true => rcases (testBit_add _ _ _).1 hb with h | h
                            · rw [hc] at h;simp at h
                            · exact absurd h hni) rr.i ((testBit_add _ _ _).2 (.inr rfl))
                have:=sc.sub rr hrr (L.closed' sc.cl hq hdep _ hb);rw [hrc] at this;simp at this
              have hnoend:∀ {listed:Array Bool} {fuel:Nat},Sched l ops can1 past listed fuel→¬ ∀ i,i < ops.size→SL listed i:=by
                intro listed fuel sc hall;obtain ⟨o,ho,_⟩:=L.mem rr hrr;have:=sc.sub rr hrr (hall rr.i (Array.getElem?_eq_some_iff.1 ho).1);rw [hrc] at this;simp at this
              rcases loud_ok hE hcall L hrr hrl (can:=can1) (past:=past) (kp:=fun v=>kp v .leaf) hrun hr with ⟨tm2,ds2,pan2,h2,hrun,hall⟩ | ⟨v,h2,hrun,hall⟩
              · obtain ⟨res,tm',ds',pan',h',e1,e2⟩:=phases_ok hE hcall L hm2 hrun hr;refine ⟨res,tm',ds',pan',h',e1,fun kd rd hkd hrd B κ₀ h₀ w₀ cs₀ fuel t listed a cs w κ sc s=>?_⟩;refine phase_run L hkd hr hp (hpend hck) (fun listed fuel a cs w κ sc hall s=>absurd hall (hnoend sc)) (fun q hq hl hc hsub listed fuel t a cs w κ hn sc hdep s=>?_) fuel t listed a cs w κ (hsc sc) (hqs B kd κ₀ h₀ w₀ cs₀ _ ds pan a cs w κ sc.sub s);have:=hone q hq hl hc sc hdep;subst this;have hbef:=L.closed' sc.cl hq hdep;refine OpTo.mono (hall kd rd hkd hrd B κ₀ h₀ w₀ cs₀ _ a cs w κ s sc.pas hbef) (fun a' cs' w' ⟨κ',s'⟩=>?_) (fun _ _ _ q=>q.elim);obtain ⟨o,ho,_⟩:=L.mem q hq;rw [← SL_set (by rw [sc.size];exact (Array.getElem?_eq_some_iff.1 ho).1)] at s';refine e2 kd rd hkd hrd B κ₀ h₀ w₀ cs₀ fuel t _ a' cs' w' κ' (sc.next L hq hn hdep (fun j hj=>(testBit_add _ _ _).2 (.inl hj)) ((testBit_add _ _ _).2 (.inr rfl)) (fun r _ _ hc=>(testBit_add _ _ _).1 hc) (fun j hj=>?_)) s';rw [testBit_lor',Bool.or_eq_true] at hj;exact hj.elim (sc.pas j) (hbef j)
              · refine ⟨.pan v,.leaf,ds,pan,h2,hrun,fun kd rd hkd hrd B κ₀ h₀ w₀ cs₀ fuel t listed a cs w κ sc s=>?_⟩;refine phase_run L hkd hr hp (hpend hck) (fun listed fuel a cs w κ sc hall s=>absurd hall (hnoend sc)) (fun q hq hl hc hsub listed fuel t a cs w κ hn sc hdep s=>?_) fuel t listed a cs w κ (hsc sc) (hqs B kd κ₀ h₀ w₀ cs₀ _ ds pan a cs w κ sc.sub s);have:=hone q hq hl hc sc hdep;subst this;refine OpTo.mono (hall kd rd hkd hrd B κ₀ h₀ w₀ cs₀ _ a cs w κ s sc.pas (L.closed' sc.cl hq hdep)) (fun _ _ _ q=>q.elim) (fun chain cs' w' ⟨κ',hE',st,hc⟩=>?_);exact .inr ⟨κ',hE',st,chain,rfl,hc⟩

theorem draw_ok (hmix:P.follows .mixedOrders = true) (hE:EnvOK P E) (hcall:CallS P call):DrawS P E call n:=by
  intro rnd ops lp rl tm ds pan h k kp r hrun hr;unfold copDraw at hrun;have bad:codeF E (.reg [badOp]) call lp rl tm ds pan h k kp = .bad:=rfl
  cases h1:apartAll (rosOf P n rnd ops) (rosOf P n rnd ops) with
  | false=>rw [h1] at hrun;exact absurd (bad.symm.trans hrun).symm hr
  | true =>
    cases h2:befsOk (rosOf P n rnd ops) (rosOf P n rnd ops) with
    | false=>rw [h1,h2] at hrun;exact absurd (bad.symm.trans hrun).symm hr
    | true =>
      cases h3:mkPhases (rosOf P n rnd ops) (2 ^ ops.size - 1) (ops.size + 1) 0 0 0 with
      | none=>rw [h1,h2,h3] at hrun;exact absurd (bad.symm.trans hrun).symm hr
      | some c =>
        rw [h1,h2,h3] at hrun;have L:=drawL (P:=P) (n:=n) (rnd:=rnd) (ops:=ops) h1 h2;obtain ⟨res,tm',ds',pan',h',e1,e2⟩:=phases_ok hE hcall L h3 hrun hr;refine ⟨res,tm',ds',pan',h',e1,fun t kd rd hkd hrd B κ cs₀ a cs w s=>?_⟩;have hs:Region.schedule (P.follows .mixedOrders) ops t = Region.linearise.go .any ops ops.size t (Array.replicate ops.size false) []:=by
          simp only [Region.schedule,hmix,Bool.true_or,if_true];rfl
        rw [hs];have hno:∀ j,¬ SL (Array.replicate ops.size false) j:=by
          intro j hj;unfold SL at hj;simp [Array.getElem?_replicate] at hj
          split at hj <;> simp at hj
        have hz:∀ j,Nat.testBit 0 j = false:=Nat.zero_testBit;refine e2 kd rd hkd hrd B κ h w cs₀ ops.size t _ a cs w κ ⟨by simp,?_,fun r _ hr=>absurd hr (hno _),fun r _ hr=>absurd hr (hno _),fun r _ _ hc=>by rw [hz] at hc;simp at hc,fun j hj=>by rw [hz] at hj;simp at hj⟩
          ⟨.refl s.hr,s.ht.size,fun t v _ hv=>s.ht.val t v hv,s.hd,s.hc,s.hB,fun q _ ha=>by have:=ha.2.1;rw [hz] at this;simp at this⟩
        unfold unl;exact Nat.le_trans (List.length_filter_le _ _) (by simp)
end
end Go.X
