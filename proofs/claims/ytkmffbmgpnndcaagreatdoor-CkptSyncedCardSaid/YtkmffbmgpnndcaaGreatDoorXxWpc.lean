/- What is wanted of code of X before it runs, so that it comes to what is wanted behind it: for proofs over data that no run can go through. No panics, no deferred calls. -/
import Derived.Test.YtkmffbmgpnndcaaGreatDoorXxTab
namespace Go.X
open Go
section
variable (E:XEnv)
def CT (c:XCode) (Q:XExit→Tm→Heap→Prop) (tm:Tm) (h:Heap):Prop :=
  ∃ e tm' h',Q e tm' h'∧∃ N,∀ n,N ≤ n→∀ ds pan k kp,codeF E c (callNF E n) n none tm ds pan h k kp = k e tm' ds pan h'
def LoopT (c:XCode) (Q:XExit→Tm→Heap→Prop) (tm:Tm) (h:Heap):Prop :=
  ∃ e tm' h',Q e tm' h'∧∃ N M,∀ n,N ≤ n→∀ j,M ≤ j→∀ ds pan k kp,iterF (codeF E c (callNF E n) n none) j tm ds pan h k kp = k e tm' ds pan h'
def OT (l:List XOp) (Q:Tm→Heap→Prop) (tm:Tm) (h:Heap):Prop :=
  ∃ tm' h',Q tm' h'∧∃ N,∀ n,N ≤ n→∀ ds pan k kp,opsF E l (callNF E n) tm ds pan h k kp = k tm' ds pan h'
def CallT (fv:AV) (vs:List AV) (h:Heap) (Q:AV→Heap→Prop):Prop :=
  ∃ v h',Q v h'∧∃ N,∀ n,N ≤ n→∀ k kp,callNF E n fv vs .off h k kp = k v .off h'

def wpX (c:XC) (d:Option Slot) (Q:Tm→Heap→Prop) (tm:Tm) (h:Heap):Prop:=match c with
  | .ins i=>∃ v h',i.sem tm h = .ok v h'∧Q (putT d v tm) h'
  | .call f xs=>∃ vs,xs.mapM (XO.val · tm) = some vs∧CallT E (.func f [] []) vs h fun v h'=>Q (putT d v tm) h'
  | .callv f xs=>∃ fv vs,f.val tm = some fv∧xs.mapM (XO.val · tm) = some vs∧CallT E fv vs h fun v h'=>Q (putT d v tm) h'
  | _=>False
def wpOp (o:XOp) (Q:Tm→Heap→Prop) (tm:Tm) (h:Heap):Prop:=match o.guard with
  | none=>wpX E o.op o.dst Q tm h
  | some (p,b)=>∃ v,tm.get p = some v∧(match v with
    | .bool c=>(c = b→wpX E o.op o.dst Q tm h)∧(c = !b→Q (putT o.dst unit tm) h)
    | .tuple []=>Q (putT o.dst unit tm) h
    | _=>False)
def wpOps:List XOp→(Tm→Heap→Prop)→Tm→Heap→Prop
  | [],Q=>Q
  | o :: l,Q=>wpOp E o (wpOps l Q)
def wpC:XCode→(XExit→Tm→Heap→Prop)→Tm→Heap→Prop
  | .skip,Q=>Q .normal
  | .reg ops,Q=>wpOps E ops (Q .normal)
  | .seq a b,Q=>wpC a fun e=>match e with | .normal=>wpC b Q | .exit i=>Q (.exit i) | .ret=>Q .ret
  | .cond c a b,Q=>fun tm h=>∃ v,c.val tm = some (.bool v)∧(v = true→wpC a Q tm h)∧(v = false→wpC b Q tm h)
  | .block id a,Q=>wpC a fun e=>match e with | .normal=>Q .normal | .exit i=>fun tm h=>if i = id then Q .normal tm h else Q (.exit i) tm h | .ret=>Q .ret
  | .loop b,Q=>LoopT E b Q
  | .exit id,Q=>Q (.exit id)
  | .ret,Q=>Q .ret
  | c,Q=>CT E c Q
end
section
variable {E:XEnv}
theorem CT.mono {c:XCode} {Q Q':XExit→Tm→Heap→Prop} {tm:Tm} {h:Heap} (hq:∀ e tm h,Q e tm h→Q' e tm h):CT E c Q tm h→CT E c Q' tm h:=fun ⟨e,t,h',q,r⟩=>⟨e,t,h',hq _ _ _ q,r⟩
theorem CallT.mono {fv:AV} {vs:List AV} {h:Heap} {Q Q':AV→Heap→Prop} (hq:∀ v h,Q v h→Q' v h):CallT E fv vs h Q→CallT E fv vs h Q':=fun ⟨v,h',q,r⟩=>⟨v,h',hq _ _ q,r⟩
theorem LoopT.mono {c:XCode} {Q Q':XExit→Tm→Heap→Prop} {tm:Tm} {h:Heap} (hq:∀ e tm h,Q e tm h→Q' e tm h):LoopT E c Q tm h→LoopT E c Q' tm h:=fun ⟨e,t,h',q,r⟩=>⟨e,t,h',hq _ _ _ q,r⟩
theorem withF_of {x:XO} {tm:Tm} {v:AV} (hv:x.val tm = some v) (k:AV→R):withF x tm k = k v:=by
  cases x with
  | c u=>simp only [XO.val,sJ] at hv;subst hv;rfl
  | t p =>
    simp only [XO.val] at hv;have:withF (.t p) tm k = getF tm p k:=rfl;rw [this,getF_eq,hv,optR_some]
theorem withLF_of {tm:Tm}:∀ {xs:List XO} {vs:List AV},xs.mapM (XO.val · tm) = some vs→∀ k:List AV→R,withLF xs tm k = k vs
  | [],vs,h,k=>by simp only [List.mapM_nil,Option.pure_def,sJ] at h;subst h;rfl
  | x :: xs,vs,h,k=>by
    simp only [List.mapM_cons,Option.bind_eq_bind,bJ,Option.pure_def,sJ] at h;obtain ⟨v,h1,l,h2,rfl⟩:=h;have:withLF (x :: xs) tm k = withF x tm fun v=>withLF xs tm fun vs=>k (v :: vs):=rfl
    rw [this,withF_of h1,withLF_of h2]
theorem callF_of {fv:AV} {vs:List AV} {h h':Heap} {v:AV} {n:Nat} (hc:∀ k kp,callNF E n fv vs .off h k kp = k v .off h') (d:Option Slot) (tm:Tm) (ds:List Dfd) (pan:Pan) (k:KS) (kp:KP) :
    callF fv vs (callNF E n) d tm ds pan h k kp = k (putT d v tm) ds pan h':=by
  unfold callF;rw [hc,putF_eq]
theorem op_of {o:XOp} {Q:Tm→Heap→Prop} {tm:Tm} {h:Heap} (hw:wpOp E o Q tm h):∃ tm' h',Q tm' h'∧∃ N,∀ n,N ≤ n→∀ ds pan k kp,xopF E o (callNF E n) tm ds pan h k kp = k tm' ds pan h':=by
  obtain ⟨d,g,op⟩:=o;have want:wpX E op d Q tm h→∃ tm' h',Q tm' h'∧∃ N,∀ n,N ≤ n→∀ ds pan k kp,opF E op (callNF E n) d tm ds pan h k kp = k tm' ds pan h':=by
    intro hx
    cases op with
    | ins i =>
      obtain ⟨v,h',h1,h2⟩:=hx;refine ⟨_,h',h2,0,fun n _ ds pan k kp=>?_⟩;have:opF E (.ins i) (callNF E n) d tm ds pan h k kp = semF i tm h fun v h=>putF d v tm fun tm=>k tm ds pan h:=rfl
      rw [this,semF_eq,h1,viaOut_ok,putF_eq]
    | call f xs =>
      obtain ⟨vs,h1,v,h',h2,N,h3⟩:=hx;refine ⟨_,h',h2,N,fun n hn ds pan k kp=>?_⟩;have:opF E (.call f xs) (callNF E n) d tm ds pan h k kp = withLF xs tm fun vs=>callF (.func f [] []) vs (callNF E n) d tm ds pan h k kp:=rfl
      rw [this,withLF_of h1,callF_of (h3 n hn)]
    | callv f xs =>
      obtain ⟨fv,vs,h0,h1,v,h',h2,N,h3⟩:=hx;refine ⟨_,h',h2,N,fun n hn ds pan k kp=>?_⟩;have:opF E (.callv f xs) (callNF E n) d tm ds pan h k kp = withF f tm fun fv=>withLF xs tm fun vs=>callF fv vs (callNF E n) d tm ds pan h k kp:=rfl
      rw [this,withF_of h0,withLF_of h1,callF_of (h3 n hn)]
    | invoke r nm xs=>exact hx.elim
    | defer f xs=>exact hx.elim
    | recover=>exact hx.elim
    | panic a=>exact hx.elim
  have skip:Q (putT d unit tm) h→∃ tm' h',Q tm' h'∧∃ N,∀ n,N ≤ n→∀ ds pan (k:KS) (_:KP),putF d unit tm (fun tm=>k tm ds pan h) = k tm' ds pan h':=fun hq=>⟨_,h,hq,0,fun n _ ds pan k kp=>putF_eq _ _ _ _⟩
  cases g with
  | none =>
    obtain ⟨t',h',q,N,r⟩:=want hw;exact ⟨t',h',q,N,fun n hn ds pan k kp=>r n hn ds pan k kp⟩
  | some pb =>
    obtain ⟨p,b⟩:=pb;obtain ⟨v,hv,hw⟩:=hw;have e:∀ n ds pan k kp,xopF E ⟨d,some (p,b),op⟩ (callNF E n) tm ds pan h k kp = wantV v b fun b=>Bool.rec (motive:=fun _=>R) (putF d unit tm fun tm=>k tm ds pan h) (opF E op (callNF E n) d tm ds pan h k kp) b:=by
      intro n ds pan k kp;have:xopF E ⟨d,some (p,b),op⟩ (callNF E n) tm ds pan h k kp = getF tm p fun v=>wantV v b fun b=>Bool.rec (motive:=fun _=>R) (putF d unit tm fun tm=>k tm ds pan h) (opF E op (callNF E n) d tm ds pan h k kp) b:=rfl
      rw [this,getF_eq,hv,optR_some]
    cases v <;> simp only at hw <;> first | exact hw.elim | skip
    case bool c =>
      have h1:∀ kk:Bool→R,wantV (.bool c) b kk = kk (bif b then c else !c):=fun kk=>by cases b <;> cases c <;> rfl
      by_cases hcb:c = b
      · obtain ⟨t',h',q,N,r⟩:=want (hw.1 hcb);refine ⟨t',h',q,N,fun n hn ds pan k kp=>?_⟩;rw [e,h1,← r n hn ds pan k kp];subst hcb;cases c <;> rfl
      · have hcb':c = !b:=by cases b <;> cases c <;> simp_all
        obtain ⟨t',h',q,N,r⟩:=skip (hw.2 hcb');refine ⟨t',h',q,N,fun n hn ds pan k kp=>?_⟩;rw [e,h1,← r n hn ds pan k kp];subst hcb';cases b <;> rfl
    case tuple l =>
      cases l with
      | cons _ _=>exact hw.elim
      | nil =>
        obtain ⟨t',h',q,N,r⟩:=skip hw;refine ⟨t',h',q,N,fun n hn ds pan k kp=>?_⟩;rw [e,← r n hn ds pan k kp];rfl
theorem ops_of:∀ {l:List XOp} {Q:Tm→Heap→Prop} {tm:Tm} {h:Heap},wpOps E l Q tm h→OT E l Q tm h
  | [],Q,tm,h,hw=>⟨tm,h,hw,0,fun _ _ _ _ _ _=>rfl⟩
  | o :: l,Q,tm,h,hw=>by
    obtain ⟨t1,h1,q1,N1,r1⟩:=op_of hw;obtain ⟨t2,h2,q2,N2,r2⟩:=ops_of q1;refine ⟨t2,h2,q2,max N1 N2,fun n hn ds pan k kp=>?_⟩;have:opsF E (o :: l) (callNF E n) tm ds pan h k kp = xopF E o (callNF E n) tm ds pan h (fun tm ds pan h=>opsF E l (callNF E n) tm ds pan h k kp) kp:=rfl;rw [this,r1 n (by omega),r2 n (by omega)]
theorem CT_reg {l:List XOp} {Q:XExit→Tm→Heap→Prop} {tm:Tm} {h:Heap} (hw:OT E l (Q .normal) tm h):CT E (.reg l) Q tm h :=
  let ⟨t,h',q,N,r⟩:=hw;⟨.normal,t,h',q,N,fun n hn ds pan k kp=>r n hn ds pan (k .normal) kp⟩
theorem CT_seq {a b:XCode} {Q:XExit→Tm→Heap→Prop} {tm:Tm} {h:Heap} (hw:CT E a (fun e=>match e with | .normal=>CT E b Q | .exit i=>Q (.exit i) | .ret=>Q .ret) tm h):CT E (.seq a b) Q tm h:=by
  obtain ⟨e,t,h',q,N,r⟩:=hw;have e1:∀ n ds pan k kp,codeF E (.seq a b) (callNF E n) n none tm ds pan h k kp = codeF E a (callNF E n) n none tm ds pan h (seqE (fun tm ds pan h=>codeF E b (callNF E n) n none tm ds pan h k kp) k) kp:=fun _ _ _ _ _=>rfl
  cases e with
  | normal =>
    obtain ⟨e2,t2,h2,q2,N2,r2⟩:=q;refine ⟨e2,t2,h2,q2,max N N2,fun n hn ds pan k kp=>?_⟩;rw [e1,r n (by omega)];exact r2 n (by omega) ds pan k kp
  | exit i=>exact ⟨_,t,h',q,N,fun n hn ds pan k kp=>by rw [e1,r n hn];rfl⟩
  | ret=>exact ⟨_,t,h',q,N,fun n hn ds pan k kp=>by rw [e1,r n hn];rfl⟩
theorem CT_cond {c:XO} {a b:XCode} {Q:XExit→Tm→Heap→Prop} {tm:Tm} {h:Heap} {v:Bool} (hc:c.val tm = some (.bool v)) (ha:v = true→CT E a Q tm h) (hb:v = false→CT E b Q tm h):CT E (.cond c a b) Q tm h:=by
  have e1:∀ n ds pan k kp,codeF E (.cond c a b) (callNF E n) n none tm ds pan h k kp = withF c tm fun v=>kBool v fun b'=>Bool.rec (motive:=fun _=>R) (codeF E b (callNF E n) n none tm ds pan h k kp) (codeF E a (callNF E n) n none tm ds pan h k kp) b':=fun _ _ _ _ _=>rfl
  cases v with
  | true =>
    obtain ⟨e,t,h',q,N,r⟩:=ha rfl;exact ⟨e,t,h',q,N,fun n hn ds pan k kp=>by rw [e1,withF_of hc];exact r n hn ds pan k kp⟩
  | false =>
    obtain ⟨e,t,h',q,N,r⟩:=hb rfl;exact ⟨e,t,h',q,N,fun n hn ds pan k kp=>by rw [e1,withF_of hc];exact r n hn ds pan k kp⟩
theorem CT_block {id:Nat} {a:XCode} {Q:XExit→Tm→Heap→Prop} {tm:Tm} {h:Heap} (hw:CT E a (fun e=>match e with | .normal=>Q .normal | .exit i=>fun tm h=>if i = id then Q .normal tm h else Q (.exit i) tm h | .ret=>Q .ret) tm h):CT E (.block id a) Q tm h:=by
  obtain ⟨e,t,h',q,N,r⟩:=hw;have e1:∀ n ds pan k kp,codeF E (.block id a) (callNF E n) n none tm ds pan h k kp = codeF E a (callNF E n) n none tm ds pan h (blockE id k) kp:=fun _ _ _ _ _=>rfl
  cases e with
  | normal=>exact ⟨.normal,t,h',q,N,fun n hn ds pan k kp=>by rw [e1,r n hn];rfl⟩
  | ret=>exact ⟨.ret,t,h',q,N,fun n hn ds pan k kp=>by rw [e1,r n hn];rfl⟩
  | exit i =>
    have q:if i = id then Q .normal t h' else Q (.exit i) t h':=q
    have e2:∀ (k:KE) ds pan,blockE id k (.exit i) t ds pan h' = Bool.rec (motive:=fun _=>KS) (k (.exit i)) (k .normal) (Nat.beq i id) t ds pan h':=fun _ _ _=>rfl
    by_cases hi:i = id
    · rw [if_pos hi] at q;refine ⟨.normal,t,h',q,N,fun n hn ds pan k kp=>?_⟩;rw [e1,r n hn,e2,show Nat.beq i id = true by rw [hi];exact Nat.beq_refl _]
    · rw [if_neg hi] at q;refine ⟨.exit i,t,h',q,N,fun n hn ds pan k kp=>?_⟩;rw [e1,r n hn,e2,show Nat.beq i id = false by cases hb:Nat.beq i id with | false=>rfl | true=>exact absurd (Nat.eq_of_beq_eq_true hb) hi]
theorem LoopT.round {b:XCode} {Q:XExit→Tm→Heap→Prop} {tm:Tm} {h:Heap} (hw:CT E b (fun e=>match e with | .normal=>LoopT E b Q | .exit i=>Q (.exit i) | .ret=>Q .ret) tm h):LoopT E b Q tm h:=by
  obtain ⟨e,t,h',q,N,r⟩:=hw;have e1:∀ n j ds pan k kp,iterF (codeF E b (callNF E n) n none) (j + 1) tm ds pan h k kp = codeF E b (callNF E n) n none tm ds pan h (seqE (fun tm ds pan h=>iterF (codeF E b (callNF E n) n none) j tm ds pan h k kp) k) kp:=fun _ _ _ _ _ _=>rfl
  cases e with
  | normal =>
    obtain ⟨e2,t2,h2,q2,N2,M2,r2⟩:=q;refine ⟨e2,t2,h2,q2,max N N2,M2 + 1,fun n hn j hj ds pan k kp=>?_⟩;obtain ⟨i,rfl⟩:∃ i,j = i + 1:=⟨j - 1,by omega⟩;rw [e1,r n (by omega)];exact r2 n (by omega) i (by omega) ds pan k kp
  | exit i =>
    refine ⟨_,t,h',q,N,1,fun n hn j hj ds pan k kp=>?_⟩;obtain ⟨i,rfl⟩:∃ i,j = i + 1:=⟨j - 1,by omega⟩;rw [e1,r n hn];rfl
  | ret =>
    refine ⟨_,t,h',q,N,1,fun n hn j hj ds pan k kp=>?_⟩;obtain ⟨i,rfl⟩:∃ i,j = i + 1:=⟨j - 1,by omega⟩;rw [e1,r n hn];rfl
theorem CT_loop {b:XCode} {Q:XExit→Tm→Heap→Prop} {tm:Tm} {h:Heap} (hw:LoopT E b Q tm h):CT E (.loop b) Q tm h :=
  let ⟨e,t,h',q,N,M,r⟩:=hw;⟨e,t,h',q,max N M,fun n hn ds pan k kp=>r n (by omega) n (by omega) ds pan k kp⟩
theorem wp_of:∀ {c:XCode} {Q:XExit→Tm→Heap→Prop} {tm:Tm} {h:Heap},wpC E c Q tm h→CT E c Q tm h
  | .skip,Q,tm,h,hw=>⟨.normal,tm,h,hw,0,fun _ _ _ _ _ _=>rfl⟩
  | .reg l,Q,tm,h,hw=>CT_reg (ops_of hw)
  | .seq a b,Q,tm,h,hw=>CT_seq (CT.mono (fun e tm h q=>by cases e with | normal=>exact wp_of q | exit i=>exact q | ret=>exact q) (wp_of (c:=a) hw))
  | .cond c a b,Q,tm,h,⟨v,hc,ha,hb⟩=>CT_cond hc (fun e=>wp_of (ha e)) (fun e=>wp_of (hb e))
  | .block id a,Q,tm,h,hw=>CT_block (wp_of (c:=a) hw)
  | .loop b,Q,tm,h,hw=>CT_loop hw
  | .exit id,Q,tm,h,hw=>⟨.exit id,tm,h,hw,0,fun _ _ _ _ _ _=>rfl⟩
  | .ret,Q,tm,h,hw=>⟨.ret,tm,h,hw,0,fun _ _ _ _ _ _=>rfl⟩
  | .last _ _,_,_,_,hw=>hw
  | .phase _ _ _ _,_,_,_,hw=>hw
  | .pair ..,_,_,_,hw=>hw
  | .rfunc ..,_,_,_,hw=>hw
theorem LoopT.wp {b:XCode} {Q:XExit→Tm→Heap→Prop} {tm:Tm} {h:Heap} (hw:wpC E b (fun e=>match e with | .normal=>LoopT E b Q | .exit i=>Q (.exit i) | .ret=>Q .ret) tm h):LoopT E b Q tm h:=.round (wp_of hw)

/-! ### functions -/
def resV:List XRes→Tm→Heap→Option (List AV)
  | [],_,_=>some []
  | .tmp p :: l,tm,h=>match tm.get p,resV l tm h with | some v,some vs=>some (v :: vs) | _,_=>none
  | .cell p n :: l,tm,h=>match tm.get p with
    | some y=>(match loadAV n y h,resV l tm h with | .ok v _,some vs=>some (v :: vs) | _,_=>none)
    | none=>none
def oneV:List AV→AV
  | [v]=>v
  | l=>.tuple l
theorem resF_of {tm:Tm} {h:Heap}:∀ {l:List XRes} {vs:List AV},resV l tm h = some vs→∀ k:List AV→R,resF l tm h k = k vs
  | [],vs,hv,k=>by simp only [resV,sJ] at hv;subst hv;rfl
  | .tmp p :: l,vs,hv,k=>by
    simp only [resV] at hv
    cases h1:tm.get p <;> cases h2:resV l tm h <;> rw [h1,h2] at hv <;> simp only [sJ,reduceCtorEq] at hv
    subst hv;have:resF (.tmp p :: l) tm h k = getF tm p fun v=>resF l tm h fun vs=>k (v :: vs):=rfl
    rw [this,getF_eq,h1,optR_some];exact resF_of h2 _
  | .cell p n :: l,vs,hv,k=>by
    simp only [resV] at hv
    cases h1:tm.get p with
    | none=>rw [h1] at hv;simp at hv
    | some y =>
      rw [h1] at hv;dsimp only at hv
      cases h2:loadAV n y h <;> cases h3:resV l tm h <;> rw [h2,h3] at hv <;> simp only [sJ,reduceCtorEq] at hv
      subst hv;have:resF (.cell p n :: l) tm h k = getF tm p fun y=>loadVF y n h fun v _=>resF l tm h fun vs=>k (v :: vs):=rfl
      rw [this,getF_eq,h1,optR_some,loadVF_av,h2,viaOut_ok];exact resF_of h3 _
theorem oneF_of (l:List AV) (k:AV→R):oneF l k = k (oneV l):=by
  cases l with
  | nil=>rfl
  | cons v l=>cases l <;> rfl
def BodyT (E:XEnv) (b:XCode) (res:List XRes) (args:List AV) (h:Heap) (Q:AV→Heap→Prop):Prop :=
  wpC E b (fun e tm h=>(match e with | .exit _=>False | _=>True)∧∃ vs,resV res tm h = some vs∧Q (oneV vs) h) (initT args 0 .leaf) h
theorem CallT.body {f:FuncId} {first cap args:List AV} {b:XCode} {res:List XRes} {h:Heap} {Q:AV→Heap→Prop} (hf:E.fn f = some (.code b res)) (hw:BodyT E b res (first++args++cap) h Q):CallT E (.func f first cap) args h Q:=by
  obtain ⟨e,t,h',⟨he,vs,hres,hq⟩,N,r⟩:=wp_of hw;refine ⟨_,h',hq,N + 1,fun n hn k kp=>?_⟩;obtain ⟨m,rfl⟩:∃ m,n = m + 1:=⟨n - 1,by omega⟩;have e1:callNF E (m + 1) (.func f first cap) args .off h k kp = Option.rec (motive:=fun _=>R) .bad (fun x=>appF first args fun a=>appF a cap fun a=>enterF E x (callNF E m) m a .off h k kp) (E.fn f):=rfl;rw [e1,hf];have e2:(Option.rec (motive:=fun _=>R) R.bad (fun x=>appF first args fun a=>appF a cap fun a=>enterF E x (callNF E m) m a .off h k kp) (some (.code b res)):R) = appF first args fun a=>appF a cap fun a=>enterF E (.code b res) (callNF E m) m a .off h k kp:=rfl
  rw [e2,appF_eq,appF_eq];have e3:enterF E (.code b res) (callNF E m) m (first++args++cap) .off h k kp = initF (first++args++cap) 0 .leaf (fun tm=>codeF E b (callNF E m) m none tm [] .off h (enterE res (callNF E m) k kp) fun v tm ds pan h=>leaveF ds res tm (callNF E m) (.on v) pan h k kp):=rfl;rw [e3,initF_eq,r m (by omega)];have e4:∀ e,(match e with | .exit _=>False | _=>True)→enterE res (callNF E m) k kp e t [] .off h' = resF res t h' fun vs=>oneF vs fun v=>k v .off h':=by
    intro e he
    cases e with
    | exit i=>exact he.elim
    | normal=>rfl
    | ret=>rfl
  rw [e4 e he,resF_of hres,oneF_of]
theorem CallT.row {f:FuncId} {args:List AV} {t:Tab} {b:XCode} {res:List XRes} {h h':Heap} {v:AV} {Q:AV→Heap→Prop} (hf:E.fn f = some (.orc t b res)) (ht:∀ (k:AV→Heap→R) (n:R),tabF t (keyOf args) args h k n = k v h') (hq:Q v h'):CallT E (.func f [] []) args h Q:=by
  refine ⟨v,h',hq,1,fun n hn k kp=>?_⟩;obtain ⟨m,rfl⟩:∃ m,n = m + 1:=⟨n - 1,by omega⟩;have e1:callNF E (m + 1) (.func f [] []) args .off h k kp = Option.rec (motive:=fun _=>R) .bad (fun x=>appF [] args fun a=>appF a [] fun a=>enterF E x (callNF E m) m a .off h k kp) (E.fn f):=rfl;rw [e1,hf];have e2:(Option.rec (motive:=fun _=>R) R.bad (fun x=>appF [] args fun a=>appF a [] fun a=>enterF E x (callNF E m) m a .off h k kp) (some (.orc t b res)):R) = appF [] args fun a=>appF a [] fun a=>enterF E (.orc t b res) (callNF E m) m a .off h k kp:=rfl
  rw [e2,appF_eq,appF_eq];have e3:∀ a,enterF E (.orc t b res) (callNF E m) m a .off h k kp = tabF t (keyOf a) a h (fun v h=>k v .off h) (bodyF E b res (callNF E m) m a .off h k kp):=fun _=>rfl
  rw [e3];simp only [List.nil_append,List.append_nil];exact ht _ _
/-! ### steps -/
theorem oZ {Q:Tm→Heap→Prop} {tm:Tm} {h:Heap} (hq:Q tm h):wpOps E [] Q tm h:=hq
theorem oI {d:Option Slot} {i:XI} {l:List XOp} {Q:Tm→Heap→Prop} {tm:Tm} {h h':Heap} {v:AV} (hs:i.sem tm h = .ok v h') (hq:wpOps E l Q (putT d v tm) h'):wpOps E (⟨d,none,.ins i⟩ :: l) Q tm h:=⟨v,h',hs,hq⟩
theorem oN {d:Option Slot} {p:Slot} {b:Bool} {c:XC} {l:List XOp} {Q:Tm→Heap→Prop} {tm:Tm} {h:Heap} (hg:tm.get p = some (.bool b)) (hq:wpOps E (⟨d,none,c⟩ :: l) Q tm h):wpOps E (⟨d,some (p,b),c⟩ :: l) Q tm h :=
  ⟨.bool b,hg,fun _=>hq,fun e=>by cases b <;> simp at e⟩
theorem oF {d:Option Slot} {p:Slot} {b:Bool} {c:XC} {l:List XOp} {Q:Tm→Heap→Prop} {tm:Tm} {h:Heap} (hg:tm.get p = some (.bool (!b))) (hq:wpOps E l Q (putT d unit tm) h):wpOps E (⟨d,some (p,b),c⟩ :: l) Q tm h :=
  ⟨.bool (!b),hg,fun e=>by cases b <;> simp at e,fun _=>hq⟩
theorem oU {d:Option Slot} {p:Slot} {b:Bool} {c:XC} {l:List XOp} {Q:Tm→Heap→Prop} {tm:Tm} {h:Heap} (hg:tm.get p = some unit) (hq:wpOps E l Q (putT d unit tm) h):wpOps E (⟨d,some (p,b),c⟩ :: l) Q tm h :=
  ⟨unit,hg,hq⟩
end
end Go.X
