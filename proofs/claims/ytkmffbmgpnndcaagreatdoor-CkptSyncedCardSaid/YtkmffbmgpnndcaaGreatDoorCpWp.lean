/- Rules for proofs by hand over X's code: what is known of memory as a list of blocks, each rule one operation. No program in sight. -/
import Derived.Test.YtkmffbmgpnndcaaGreatDoorXxWpc
namespace Go.X
open Go

/-! ### what is known of memory -/
def Has (h:Heap) (L:List (Pos × AObj)):Prop:=(∀ x ∈ L,h.get x.1 = x.2∧x.1.toNat < h.next.toNat)∧L.Pairwise fun x y=>x.1 ≠ y.1
section
variable {h:Heap} {L L':List (Pos × AObj)}
theorem Has.nil:Has h []:=⟨fun _ m=>absurd m List.not_mem_nil,List.Pairwise.nil⟩
theorem Has.sub (H:Has h L) (s:L'.Sublist L):Has h L':=⟨fun x m=>H.1 x (s.subset m),H.2.sublist s⟩
theorem Has.perm (H:Has h L) (s:L.Perm L'):Has h L':=⟨fun x m=>H.1 x (s.mem_iff.2 m),(s.pairwise_iff fun e=>Ne.symm e).1 H.2⟩
theorem Has.tail {x:Pos × AObj} (H:Has h (x :: L)):Has h L:=H.sub (List.sublist_cons_self _ _)
theorem Has.tail2 {x y:Pos × AObj} (H:Has h (x :: y :: L)):Has h (x :: L):=H.sub ((List.sublist_cons_self _ _).cons_cons _)
theorem Has.swap {x y:Pos × AObj} (H:Has h (x :: y :: L)):Has h (y :: x :: L):=H.perm (.swap _ _ _)
theorem Has.mem {x:Pos × AObj} (H:Has h L) (m:x ∈ L):h.get x.1 = x.2:=(H.1 x m).1
theorem Has.at (H:Has h L) (k:Nat) {p:Pos} {o:AObj} (e:L[k]? = some (p,o)):h.get p = o:=H.mem (x:=(p,o)) (List.mem_of_getElem? e)
theorem Has.push (H:Has h L) (o:AObj):Has (h.push o) ((h.next,o) :: L):=by
  refine ⟨fun x m=>?_,List.pairwise_cons.2 ⟨fun x m e=>?_,H.2⟩⟩
  · rcases List.mem_cons.1 m with rfl | m
    · exact ⟨h.get_push_same o,by simp only [Heap.push,Pos.toNat_succ];omega⟩
    · obtain ⟨h1,h2⟩:=H.1 x m;refine ⟨?_,by simp only [Heap.push,Pos.toNat_succ];omega⟩;rw [Heap.get_push_ne _ _ (fun e=>by rw [e] at h2;omega),h1]
  · have e:h.next = x.1:=e;have:=(H.1 x m).2;rw [← e] at this;omega
theorem Has.set {k:Nat} {p:Pos} {o:AObj} (H:Has h L) (e:L[k]? = some (p,o)) (o':AObj):Has (h.set p o') (L.set k (p,o')):=by
  obtain ⟨hk,ek⟩:=List.getElem?_eq_some_iff.1 e;have key:∀ i (hi:i < L.length),i ≠ k→L[i].1 ≠ p:=by
    intro i hi hne;have hp:=List.pairwise_iff_getElem.1 H.2
    rcases Nat.lt_or_gt_of_ne hne with hlt | hlt
    · have:=hp i k hi hk hlt;rw [ek] at this;exact this
    · have:=hp k i hk hi hlt;rw [ek] at this;exact fun e=>this e.symm
  refine ⟨fun x m=>?_,?_⟩
  · obtain ⟨i,hi,rfl⟩:=List.mem_iff_getElem.1 m;rw [List.length_set] at hi;rw [List.getElem_set]
    by_cases hik:k = i
    · rw [if_pos hik];exact ⟨h.get_set_same p o',(H.1 (p,o) (ek ▸ List.getElem_mem hk)).2⟩
    · rw [if_neg hik];obtain ⟨h1,h2⟩:=H.1 _ (List.getElem_mem hi);exact ⟨by rw [Heap.get_set_ne _ _ (fun e=>key i hi (fun e'=>hik e'.symm) e.symm),h1],h2⟩
  · refine List.pairwise_iff_getElem.2 fun i j hi hj hij=>?_
    rw [List.length_set] at hi hj;have hp:=List.pairwise_iff_getElem.1 H.2 i j hi hj hij;rw [List.getElem_set,List.getElem_set]
    by_cases h1:k = i
    · rw [if_pos h1]
      by_cases h2:k = j
      · omega
      · rw [if_neg h2];exact fun e=>key j hj (fun e'=>h2 e'.symm) e.symm
    · rw [if_neg h1]
      by_cases h2:k = j
      · rw [if_pos h2];exact key i hi fun e'=>h1 e'.symm
      · rw [if_neg h2];exact hp
theorem Has.front {x:Pos × AObj} (H:Has h L) (k:Nat) (e:L[k]? = some x):Has h (x :: L.eraseIdx k):=by
  obtain ⟨hk,ek⟩:=List.getElem?_eq_some_iff.1 e;refine H.perm ?_;have h1:L = L.take k++L[k] :: L.drop (k + 1):=by simp
  have h2:L.eraseIdx k = L.take k++L.drop (k + 1):=List.eraseIdx_eq_take_drop_succ ..;rw [h2,← ek]
  conv=>lhs;rw [h1]
  exact List.perm_middle
end

/-! ### arguments -/
def valsOf:List XO→Tm→Option (List AV)
  | [],_=>some []
  | x :: xs,tm=>match x.val tm with
    | some v=>(match valsOf xs tm with | some vs=>some (v :: vs) | none=>none)
    | none=>none
theorem vals_mapM:∀ {xs:List XO} {tm:Tm} {vs:List AV},valsOf xs tm = some vs→xs.mapM (XO.val · tm) = some vs
  | [],tm,vs,h=>by simp only [valsOf,sJ] at h;subst h;rfl
  | x :: xs,tm,vs,h=>by
    simp only [valsOf] at h
    cases hx:x.val tm with
    | none=>rw [hx] at h;simp at h
    | some v =>
      rw [hx] at h
      cases hl:valsOf xs tm with
      | none=>rw [hl] at h;simp at h
      | some l =>
        rw [hl] at h;simp only [sJ] at h;subst h;simp only [List.mapM_cons,hx,vals_mapM hl,Option.bind_eq_bind,Option.bind_some,Option.pure_def]
/-! ### steps -/
section
variable {E:XEnv} {d:Option Slot} {l:List XOp} {Q:Tm→Heap→Prop} {tm:Tm} {h h':Heap} {L:List (Pos × AObj)}
theorem wp_bool {i:XI} {c:Bool} (hs:i.sem tm h = .ok (.bool c) h') (ht:c = true→wpOps E l Q (putT d (.bool true) tm) h') (hf:c = false→wpOps E l Q (putT d (.bool false) tm) h'):wpOps E (⟨d,none,.ins i⟩ :: l) Q tm h:=by
  refine ⟨_,h',hs,?_⟩
  cases c with
  | true=>exact ht rfl
  | false=>exact hf rfl
theorem wp_call {f:FuncId} {xs:List XO} {vs:List AV} {R:AV→Heap→Prop} (hv:valsOf xs tm = some vs) (hc:CallT E (.func f [] []) vs h R) (hq:∀ v h',R v h'→wpOps E l Q (putT d v tm) h'):wpOps E (⟨d,none,.call f xs⟩ :: l) Q tm h :=
  ⟨vs,vals_mapM hv,CallT.mono hq hc⟩
theorem wp_callv {f:XO} {fv:AV} {xs:List XO} {vs:List AV} {R:AV→Heap→Prop} (hf:f.val tm = some fv) (hv:valsOf xs tm = some vs) (hc:CallT E fv vs h R) (hq:∀ v h',R v h'→wpOps E l Q (putT d v tm) h'):wpOps E (⟨d,none,.callv f xs⟩ :: l) Q tm h :=
  ⟨fv,vs,hf,vals_mapM hv,CallT.mono hq hc⟩
theorem wp_box {ty:TypeId} {x:XO} {v:AV} {cs:List AV} (hv:x.val tm = some v) (hc:v.cellsO = some cs) (H:Has h L) (hq:∀ q h',Has h' ((q,.row ty cs false) :: L)→wpOps E l Q (putT d (.ptr q 0) tm) h'):wpOps E (⟨d,none,.ins (.box ty x)⟩ :: l) Q tm h:=by
  refine ⟨.ptr h.next 0,h.push (.row ty cs false),?_,hq _ _ (H.push _)⟩;simp only [XI.sem,boxS,withO_run hv,hc,Heap.pushK]
theorem wp_alloc {ty:TypeId} {cs:List AV} (H:Has h L) (hq:∀ q h',Has h' ((q,.row ty cs false) :: L)→wpOps E l Q (putT d (.ptr q 0) tm) h'):wpOps E (⟨d,none,.ins (.alloc ty cs)⟩ :: l) Q tm h :=
  ⟨.ptr h.next 0,h.push (.row ty cs false),rfl,hq _ _ (H.push _)⟩
theorem wp_bslice {ty:TypeId} {esz len:Nat} {zeros cs:List AV} {parts:List (Nat × Nat × XO)} (hf:∀ k:List AV→Out AV,fillK .bad parts tm zeros k = k cs) (H:Has h L) (hq:∀ q h',Has h' ((q,.row ty cs false) :: L)→wpOps E l Q (putT d (.slice q 0 len (.ex len)) tm) h') :
    wpOps E (⟨d,none,.ins (.bslice ty esz len zeros parts)⟩ :: l) Q tm h:=by
  refine ⟨.slice h.next 0 len (.ex len),h.push (.row ty cs false),?_,hq _ _ (H.push _)⟩;simp only [XI.sem,bsliceS,hf,Heap.pushK]
theorem wp_load {n:Option Nat} {x:XO} {p:Pos} {o:Nat} {ty:TypeId} {cs:List AV} {sp:Bool} {v:AV} (hv:x.val tm = some (.ptr p o)) (hg:h.get p = .row ty cs sp) (hn:∀ h,partOf cs o n h = .ok v h) (hq:wpOps E l Q (putT d v tm) h):wpOps E (⟨d,none,.ins (.load n x)⟩ :: l) Q tm h:=by
  refine ⟨v,h,?_,hq⟩;simp only [XI.sem,loadS,withO_run hv,hg,hn]
theorem wp_store {n:Nat} {a x:XO} {p:Pos} {o k:Nat} {ty:TypeId} {cs xs cs':List AV} {sp:Bool} {w:AV} (hv:a.val tm = some (.ptr p o)) (hx:x.val tm = some w) (hc:w.cellsO = some xs) (hl:lengthIs xs n = true) (H:Has h L) (hk:L[k]? = some (p,.row ty cs sp))
    (hs:∀ kk:List AV→Out AV,spliceK .bad o xs cs kk = kk cs') (hq:∀ h',Has h' (L.set k (p,.row ty cs' sp))→wpOps E l Q (putT d unit tm) h'):wpOps E (⟨d,none,.ins (.store n a x)⟩ :: l) Q tm h:=by
  refine ⟨unit,h.set p (.row ty cs' sp),?_,hq _ (H.set hk _)⟩;simp only [XI.sem,storeS,withO_run hv,withO_run hx,hc,hl,writeAt,H.at k hk,hs,Heap.setK]
/-! ### code -/
variable {QE:XExit→Tm→Heap→Prop}
theorem cS {a b:XCode} (hw:wpC E a (fun e=>match e with | .normal=>wpC E b QE | .exit i=>QE (.exit i) | .ret=>QE .ret) tm h):wpC E (.seq a b) QE tm h:=hw
theorem cR {ops:List XOp} (hw:wpOps E ops (QE .normal) tm h):wpC E (.reg ops) QE tm h:=hw
theorem cK (hw:QE .normal tm h):wpC E .skip QE tm h:=hw
theorem cT (hw:QE .ret tm h):wpC E .ret QE tm h:=hw
theorem cX {i:Nat} (hw:QE (.exit i) tm h):wpC E (.exit i) QE tm h:=hw
theorem cB {id:Nat} {a:XCode} (hw:wpC E a (fun e=>match e with | .normal=>QE .normal | .exit i=>fun tm h=>if i = id then QE .normal tm h else QE (.exit i) tm h | .ret=>QE .ret) tm h):wpC E (.block id a) QE tm h:=hw
theorem wpC_loop {b:XCode} (hw:LoopT E b QE tm h):wpC E (.loop b) QE tm h:=hw

/-! ### regions whose order is open -/
def XOp.isIns (o:XOp):Bool:=match o.op with | .ins _=>true | _=>false
theorem quiets_of:∀ {qs:List XOp} {Q:Tm→Heap→Prop} {tm:Tm} {h:Heap},qs.all XOp.isIns = true→wpOps E qs Q tm h→∃ tm' h',Q tm' h'∧∀ k:Tm→Heap→R,quietsF qs tm h k = k tm' h'
  | [],Q,tm,h,_,hw=>⟨tm,h,hw,fun _=>rfl⟩
  | ⟨d, g,op⟩ :: qs,Q,tm,h,hi,hw=>by
    simp only [List.all_cons,Bool.and_eq_true] at hi;have one:∃ tm1 h1,wpOps E qs Q tm1 h1∧∀ k:Tm→Heap→R,quietF ⟨d,g,op⟩ tm h k = k tm1 h1:=by
      cases op with
      | ins i =>
        have on:wpX E (.ins i) d (wpOps E qs Q) tm h→∃ tm1 h1,wpOps E qs Q tm1 h1∧∀ k:Tm→Heap→R,quietI (.ins i) d tm h k = k tm1 h1:=by
          rintro ⟨v,h1,hs,hq⟩;refine ⟨_,h1,hq,fun k=>?_⟩;have:quietI (.ins i) d tm h k = semF i tm h fun v h=>putF d v tm fun tm=>k tm h:=rfl
          rw [this,semF_eq,hs,viaOut_ok,putF_eq]
        cases g with
        | none=>exact on hw
        | some pb =>
          obtain ⟨p,b⟩:=pb;obtain ⟨v,hv,hw⟩:=hw;have e:∀ k:Tm→Heap→R,quietF ⟨d,some (p,b),.ins i⟩ tm h k = wantV v b fun b=>Bool.rec (motive:=fun _=>R) (putF d unit tm fun tm=>k tm h) (quietI (.ins i) d tm h k) b:=by
            intro k;have:quietF ⟨d,some (p,b),.ins i⟩ tm h k = getF tm p fun v=>wantV v b fun b=>Bool.rec (motive:=fun _=>R) (putF d unit tm fun tm=>k tm h) (quietI (.ins i) d tm h k) b:=rfl
            rw [this,getF_eq,hv,optR_some]
          cases v <;> simp only at hw <;> first | exact hw.elim | skip
          case bool c =>
            have h1:∀ kk:Bool→R,wantV (.bool c) b kk = kk (bif b then c else !c):=fun kk=>by cases b <;> cases c <;> rfl
            by_cases hcb:c = b
            · obtain ⟨t1,h2,q,r⟩:=on (hw.1 hcb);refine ⟨t1,h2,q,fun k=>?_⟩;rw [e,h1,← r k];subst hcb;cases c <;> rfl
            · have hcb':c = !b:=by cases b <;> cases c <;> simp_all
              refine ⟨_,h,hw.2 hcb',fun k=>?_⟩;rw [e,h1];subst hcb';cases b <;> exact putF_eq _ _ _ _
          case tuple l =>
            cases l with
            | cons _ _=>exact hw.elim
            | nil =>
              refine ⟨_,h,hw,fun k=>?_⟩;rw [e];rw [← putF_eq d unit tm fun tm=>k tm h];rfl
      | call f xs=>simp [XOp.isIns] at hi
      | callv f xs=>simp [XOp.isIns] at hi
      | invoke r nm xs=>simp [XOp.isIns] at hi
      | defer f xs=>simp [XOp.isIns] at hi
      | recover=>simp [XOp.isIns] at hi
      | panic a=>simp [XOp.isIns] at hi
    obtain ⟨t1,h1,q1,r1⟩:=one;obtain ⟨t2,h2,q2,r2⟩:=quiets_of hi.2 q1;refine ⟨t2,h2,q2,fun k=>?_⟩;have:quietsF (⟨d,g,op⟩ :: qs) tm h k = quietF ⟨d,g,op⟩ tm h fun tm h=>quietsF qs tm h k:=rfl
    rw [this,r1,r2]
def wpK:List XOp→Tm→Heap→Prop
  | [],_,_=>True
  | o :: l,tm,h=>(∀ k:R,chkF o tm h k = k)∧wpK l tm h
theorem chks_of:∀ {cs:List XOp} {tm:Tm} {h:Heap},wpK cs tm h→∀ k:R,chksF cs tm h k = k
  | [],_,_,_,_=>rfl
  | o :: l,tm,h,hw,k=>by
    have:chksF (o :: l) tm h k = chkF o tm h (chksF l tm h k):=rfl;rw [this,hw.1,chks_of hw.2]
end
mutual
theorem AV.beq_refl:∀ a:AV,AV.beq a a = true
  | .any=>rfl
  | .bool b=>by cases b <;> rfl
  | .int k n=>by
    have h1:sameK k k = true:=by cases k <;> rfl
    have h2:eqI n n = true:=by cases n <;> exact Nat.beq_refl _
    simp only [AV.beq,h1,h2]
  | .str l=>by
    have:∀ l:List Nat,beqN l l = true:=fun l=>by induction l with | nil=>rfl | cons a l ih=>simp [beqN,ih]
    exact this l
  | .nilptr=>rfl
  | .ptr p o=>by simp [AV.beq,beqPosO,Pos.beq_iff.2 rfl]
  | .gptr g o=>by simp [AV.beq]
  | .iptr cs=>by simp only [AV.beq];exact AV.beqs_refl cs
  | .nilslice=>rfl
  | .slice p o len cap=>by cases cap <;> simp [AV.beq,beqPosO,Pos.beq_iff.2 rfl,beqCap]
  | .imm cs len full=>by cases full <;> simp [AV.beq,beqB,AV.beqs_refl cs]
  | .nilmap=>rfl
  | .map p=>by simp [AV.beq,Pos.beq_iff.2 rfl]
  | .nilfunc=>rfl
  | .func f a c=>by simp [AV.beq,AV.beqs_refl a,AV.beqs_refl c]
  | .yield l=>by simp [AV.beq,Pos.beq_iff.2 rfl]
  | .niliface=>rfl
  | .iface t a=>by simp [AV.beq,AV.beq_refl a]
  | .agg cs=>by simp only [AV.beq];exact AV.beqs_refl cs
  | .tuple cs=>by simp only [AV.beq];exact AV.beqs_refl cs
theorem AV.beqs_refl:∀ l:List AV,AV.beqs l l = true
  | []=>rfl
  | a :: l=>by simp only [AV.beqs,AV.beq_refl a,AV.beqs_refl l]
end
section
variable {E:XEnv} {d:Slot} {l:List XOp} {Q:Tm→Heap→Prop} {tm:Tm} {h h':Heap} {L:List (Pos × AObj)}
theorem kZ:wpK [] tm h:=trivial
theorem chkI_of {i:XI} {v:AV} (hs:i.sem tm h = .ok v h') (hg:tm.get d = some v) (hn:i.isNew = false) (k:R):chkI (.ins i) (some d) tm h k = k:=by
  have:chkI (.ins i) (some d) tm h k = semF i tm h fun v h'=>getF tm d fun v'=>Bool.rec (motive:=fun _=>R) (yes? (AV.beq v v') k .bad) (sameNew v h' v' h k) i.isNew:=rfl
  rw [this,semF_eq,hs,viaOut_ok,getF_eq,hg,optR_some,hn];show yes? (AV.beq v v) k .bad = k;rw [AV.beq_refl];rfl
theorem kI {i:XI} {v:AV} (hs:i.sem tm h = .ok v h') (hg:tm.get d = some v) (hn:i.isNew = false) (hq:wpK l tm h):wpK (⟨some d,none,.ins i⟩ :: l) tm h :=
  ⟨fun k=>by
    have:chkF ⟨some d,none,.ins i⟩ tm h k = chkI (.ins i) (some d) tm h k:=rfl;rw [this,chkI_of hs hg hn],hq⟩
theorem chk_guard {g:Slot} {b:Bool} {c:XC} {d:Option Slot} {v:AV} (hg:tm.get g = some v) (k:R):chkF ⟨d,some (g,b),c⟩ tm h k = wantV v b fun b=>Bool.rec (motive:=fun _=>R) (chkU d tm k) (chkI c d tm h k) b:=by
  have:chkF ⟨d,some (g,b),c⟩ tm h k = getF tm g fun v=>wantV v b fun b=>Bool.rec (motive:=fun _=>R) (chkU d tm k) (chkI c d tm h k) b:=rfl
  rw [this,getF_eq,hg,optR_some]
theorem kN {g:Slot} {b:Bool} {c:XC} {d:Option Slot} (hg:tm.get g = some (.bool b)) (hq:wpK (⟨d,none,c⟩ :: l) tm h):wpK (⟨d,some (g,b),c⟩ :: l) tm h :=
  ⟨fun k=>by
    have e:=hq.1 k;rw [chk_guard hg]
    cases b <;> exact e,hq.2⟩
theorem kF {g:Slot} {b:Bool} {c:XC} (hg:tm.get g = some (.bool (!b))) (hd:tm.get d = some unit) (hq:wpK l tm h):wpK (⟨some d,some (g,b),c⟩ :: l) tm h :=
  ⟨fun k=>by
    rw [chk_guard hg];have:chkU (some d) tm k = k:=by
      have:chkU (some d) tm k = getF tm d fun v=>yes? (AV.beq unit v) k .bad:=rfl
      rw [this,getF_eq,hd,optR_some];rfl
    cases b <;> exact this,hq⟩
theorem wpK_load {n:Option Nat} {x:XO} {p:Pos} {o:Nat} {ty:TypeId} {cs:List AV} {sp:Bool} {v:AV} (hv:x.val tm = some (.ptr p o)) (hgp:h.get p = .row ty cs sp) (hn:∀ h,partOf cs o n h = .ok v h) (hg:tm.get d = some v) (hq:wpK l tm h):wpK (⟨some d,none,.ins (.load n x)⟩ :: l) tm h :=
  kI (h':=h) (v:=v) (by simp only [XI.sem,loadS,withO_run hv,hgp,hn]) hg rfl hq
theorem cL {qs cs:List XOp} {QE:XExit→Tm→Heap→Prop} (hi:qs.all XOp.isIns = true) (hw:wpOps E qs (fun tm h=>wpK cs tm h∧QE .normal tm h) tm h):wpC E (.last qs cs) QE tm h:=by
  obtain ⟨t1,h1,⟨hk,hq⟩,r⟩:=quiets_of hi hw;refine ⟨.normal,t1,h1,hq,0,fun n _ ds pan k kp=>?_⟩;have:codeF E (.last qs cs) (callNF E n) n none tm ds pan h k kp = quietsF qs tm h fun tm h=>chksF cs tm h (k .normal tm ds pan h):=rfl
  rw [this,r,chks_of hk]
theorem wpC_phase {qs cs:List XOp} {o:XOp} {rest:XCode} {QE:XExit→Tm→Heap→Prop} (hi:qs.all XOp.isIns = true) (hw:wpOps E qs (fun tm h=>wpK cs tm h∧wpOps E [o] (fun tm h=>wpC E rest QE tm h) tm h) tm h):wpC E (.phase qs cs o rest) QE tm h:=by
  obtain ⟨t1,h1,⟨hk,hq⟩,r⟩:=quiets_of hi hw;obtain ⟨t2,h2,q2,N2,r2⟩:=op_of hq;obtain ⟨e,t3,h3,q3,N3,r3⟩:=wp_of (c:=rest) q2;refine ⟨e,t3,h3,q3,max N2 N3,fun n hn ds pan k kp=>?_⟩;have:codeF E (.phase qs cs o rest) (callNF E n) n none tm ds pan h k kp = quietsF qs tm h fun tm h=>chksF cs tm h (xopF E o (callNF E n) tm ds pan h (fun tm ds pan h=>codeF E rest (callNF E n) n none tm ds pan h k kp) (fun v _=>kp v .leaf)):=rfl
  rw [this,r,chks_of hk,r2 n (by omega),r3 n (by omega)]
end
end Go.X

/- The trees that the law's argument is: values,expressions,formulas;how they lie in memory that nobody writes;reading them. No program in sight. -/
namespace Go.X
open Go

/-! ### temporaries by sets -/
theorem N16.set_self {α:Type} (n:N16 α) (d:D16):n.set d (n.get d) = n:=by cases d <;> rfl
theorem PT.set_self {α:Type}:∀ {t:PT α} {p:BP} {v:α},t.get p = some v→t.set p v = t
  | .leaf,p,v,h=>by rw [PT.get_leaf] at h;simp at h
  | .node l x r,.u,v,h=>by simp only [PT.get] at h;simp only [PT.set,h]
  | .node l x r,.o p,v,h=>by simp only [PT.get] at h;simp only [PT.set,PT.set_self h]
  | .node l x r,.i p,v,h=>by simp only [PT.get] at h;simp only [PT.set,PT.set_self h]
theorem TT.set_self {α:Type} {t:TT α} {p:Slot} {v:α} (h:t.get p = some v):t.set p v = t:=by
  cases p with
  | lo a b =>
    simp only [TT.get] at h;simp only [TT.set,← h,N16.set_self]
  | hi p =>
    simp only [TT.get] at h;simp only [TT.set,PT.set_self h]
theorem sets1 {t:Tm} {p1:Slot} {v1:AV} (h1:t.get p1 = some v1):∃ s:Tm,t = s.set p1 v1:=⟨t,(TT.set_self h1).symm⟩
theorem sets2 {t:Tm} {p1 p2:Slot} {v1 v2:AV} (h1:t.get p1 = some v1) (h2:t.get p2 = some v2):∃ s:Tm,t = (s.set p1 v1).set p2 v2:=⟨t,by rw [TT.set_self h1,TT.set_self h2]⟩
theorem sets3 {t:Tm} {p1 p2 p3:Slot} {v1 v2 v3:AV} (h1:t.get p1 = some v1) (h2:t.get p2 = some v2) (h3:t.get p3 = some v3):∃ s:Tm,t = ((s.set p1 v1).set p2 v2).set p3 v3:=⟨t,by rw [TT.set_self h1,TT.set_self h2,TT.set_self h3]⟩
theorem sets4 {t:Tm} {p1 p2 p3 p4:Slot} {v1 v2 v3 v4:AV} (h1:t.get p1 = some v1) (h2:t.get p2 = some v2) (h3:t.get p3 = some v3) (h4:t.get p4 = some v4):∃ s:Tm,t = (((s.set p1 v1).set p2 v2).set p3 v3).set p4 v4:=⟨t,by rw [TT.set_self h1,TT.set_self h2,TT.set_self h3,TT.set_self h4]⟩
theorem sets5 {t:Tm} {p1 p2 p3 p4 p5:Slot} {v1 v2 v3 v4 v5:AV} (h1:t.get p1 = some v1) (h2:t.get p2 = some v2) (h3:t.get p3 = some v3) (h4:t.get p4 = some v4) (h5:t.get p5 = some v5):∃ s:Tm,t = ((((s.set p1 v1).set p2 v2).set p3 v3).set p4 v4).set p5 v5:=⟨t,by rw [TT.set_self h1,TT.set_self h2,TT.set_self h3,TT.set_self h4,TT.set_self h5]⟩
theorem sets6 {t:Tm} {p1 p2 p3 p4 p5 p6:Slot} {v1 v2 v3 v4 v5 v6:AV} (h1:t.get p1 = some v1) (h2:t.get p2 = some v2) (h3:t.get p3 = some v3) (h4:t.get p4 = some v4) (h5:t.get p5 = some v5) (h6:t.get p6 = some v6):∃ s:Tm,t = (((((s.set p1 v1).set p2 v2).set p3 v3).set p4 v4).set p5 v5).set p6 v6:=⟨t,by rw [TT.set_self h1,TT.set_self h2,TT.set_self h3,TT.set_self h4,TT.set_self h5,TT.set_self h6]⟩

/-! ### numbers -/
theorem w64 {n : Int} (h1 : -9223372036854775808 ≤ n) (h2:n < 9223372036854775808):wrapF .i64 n = n:=by
  cases n with
  | ofNat m =>
    have:Nat.blt m 9223372036854775808 = true:=by rw [Nat.blt_eq];have:Int.ofNat m = (m:Int):=rfl;omega
    simp only [wrapF,wrap64F,this]
  | negSucc m =>
    have : Nat.blt m 9223372036854775808 = true := by rw [Nat.blt_eq];have:Int.negSucc m = -(m:Int) - 1:=by omega
                                                      omega
    simp only [wrapF,wrap64F,this]
theorem w64_succ {j:Nat} (h:j < 9223372036854775807):wrapF .i64 (Int.ofNat j + 1) = Int.ofNat (j + 1):=w64 (by have:Int.ofNat j = (j:Int):=rfl;omega) (by have:Int.ofNat j = (j:Int):=rfl;omega)
theorem blt_of {a b:Nat} (h:a < b):Nat.blt a b = true:=by rw [Nat.blt_eq];exact h
theorem ltI_nat (a b:Nat):ltI (.ofNat a) (.ofNat b) = decide (a < b):=by
  have:ltI (.ofNat a) (.ofNat b) = Nat.blt a b:=rfl;rw [this]
  by_cases h:a < b
  · rw [decide_eq_true h];exact blt_of h
  · rw [decide_eq_false h];cases hb:Nat.blt a b with | false=>rfl | true=>exact absurd (blt_lt hb) h
theorem ltI_of {a b:Nat} (h:a < b):ltI (.ofNat a) (.ofNat b) = true:=by rw [ltI_nat,decide_eq_true h]
theorem ltI_not {a b:Nat} (h : ¬ a < b):ltI (.ofNat a) (.ofNat b) = false:=by rw [ltI_nat,decide_eq_false h]
theorem eqI_refl (n:Int):eqI n n = true:=by cases n <;> exact Nat.beq_refl _
theorem neI_refl (n:Int):(match eqI n n with | true=>false | false=>true) = false:=by rw [eqI_refl]
theorem beqN_refl:∀ l:List Nat,beqN l l = true
  | []=>rfl
  | a :: l=>by simp [beqN,beqN_refl l]
theorem ltI_iff (a b:Int):ltI a b = true ↔ a < b:=by
  cases a with
  | ofNat x=>cases b with
    | ofNat y=>rw [ltI_nat,decide_eq_true_eq];exact Int.ofNat_lt.symm
    | negSucc y=>exact ⟨fun h=>absurd h (by show ¬ (false = true);simp),fun h=>by have:Int.ofNat x = (x:Int):=rfl;omega⟩
  | negSucc x=>cases b with
    | ofNat y=>exact ⟨fun _=>by have:Int.ofNat y = (y:Int):=rfl;omega,fun _=>rfl⟩
    | negSucc y =>
      show Nat.blt y x = true ↔ _;rw [Nat.blt_eq];omega
theorem ltI_lt {a b:Int} (h:ltI a b = true):a < b:=(ltI_iff a b).1 h
theorem ltI_ge {a b:Int} (h:ltI a b = false):b ≤ a:=by
  rcases Int.lt_or_le a b with h1 | h1
  · rw [(ltI_iff a b).2 h1] at h;simp at h
  · exact h1

/-! ### slices in memory that nobody writes -/
def slAV (nl fu:Bool) (n:Nat) (cs:List AV):AV:=match n,nl with
  | 0,true=>.nilslice
  | n,_=>.imm cs n fu
theorem slAV_cases (nl fu:Bool) (n:Nat) (cs:List AV):(n = 0∧slAV nl fu n cs = .nilslice)∨slAV nl fu n cs = .imm cs n fu:=by
  cases n with
  | zero=>cases nl with
    | true=>exact .inl ⟨rfl,rfl⟩
    | false=>exact .inr rfl
  | succ n=>cases nl <;> exact .inr rfl
section
variable {tm:Tm} {h:Heap} {nl fu:Bool} {n:Nat} {cs:List AV}
theorem sl_one:(slAV nl fu n cs).one = true:=by rcases slAV_cases nl fu n cs with ⟨_,e⟩ | e <;> rw [e] <;> rfl
theorem sem_load {m:Option Nat} {x:XO} {p:Pos} {o:Nat} {ty:TypeId} {cs:List AV} {sp:Bool} {v:AV} (hv:x.val tm = some (.ptr p o)) (hg:h.get p = .row ty cs sp) (hn:∀ h,partOf cs o m h = .ok v h):(XI.load m x).sem tm h = .ok v h:=by
  simp only [XI.sem,loadS,withO_run hv,hg,hn]
end
/-! ### trees -/
inductive DV where
  | mk (k n:Int) (neg dn df:Bool) (d:List Int) (s:List Nat) (ln lf:Bool) (l:List DV) (mn mf:Bool) (m:List DV)
def intC (x:Int):List AV:=[.int .i64 x]
def strC (x:List Nat):List AV:=[.str x]
mutual
def DV.cells:DV→List AV
  | .mk k n neg dn df d s ln lf l mn mf m=>[.int .i64 k,.int .i64 n,.bool neg,slAV dn df d.length (d.flatMap intC),.str s,slAV ln lf l.length (DV.cellsL l),slAV mn mf m.length (DV.cellsL m)]
def DV.cellsL:List DV→List AV
  | []=>[]
  | t :: l=>t.cells++DV.cellsL l
end
theorem DV.len (t:DV):t.cells.length = 7:=by cases t;rfl
inductive DE where
  | mk (k n:Int) (sn sf:Bool) (s:List (List Nat)) (v:DV) (ln lf:Bool) (l:List DE)
mutual
def DE.cells:DE→List AV
  | .mk k n sn sf s v ln lf l=>[.int .i64 k,.int .i64 n,slAV sn sf s.length (s.flatMap strC)]++v.cells++[slAV ln lf l.length (DE.cellsL l)]
def DE.cellsL:List DE→List AV
  | []=>[]
  | t :: l=>t.cells++DE.cellsL l
end
theorem DE.len (t:DE):t.cells.length = 11:=by cases t;simp [DE.cells,DV.len]
inductive DT where
  | mk (k:Int) (e sub:DE) (ln lf:Bool) (l:List DT)
mutual
def DT.cells:DT→List AV
  | .mk k e sub ln lf l=>[.int .i64 k]++e.cells++sub.cells++[slAV ln lf l.length (DT.cellsL l)]
def DT.cellsL:List DT→List AV
  | []=>[]
  | t :: l=>t.cells++DT.cellsL l
end
theorem DT.len (t:DT):t.cells.length = 24:=by cases t;simp [DT.cells,DE.len]
section
variable {tm:Tm} {h:Heap} {nl fu:Bool}
theorem len_of {l:List AV} {n:Nat} (h:l.length = n):lengthIs l n = true:=by
  subst h
  induction l with
  | nil=>rfl
  | cons a l ih=>exact ih
theorem spliceK_len {α β:Type} {no:β}:∀ {xs cs:List α},xs.length = cs.length→∀ kk:List α→β,spliceK no 0 xs cs kk = kk xs:=by
  have:∀ (xs cs:List α),xs.length = cs.length→∀ kk:List α→β,overK no xs cs kk = kk xs:=by
    intro xs
    induction xs with
    | nil=>intro cs h kk;cases cs with | nil=>rfl | cons _ _=>simp at h
    | cons x xs ih=>intro cs h kk;cases cs with | nil=>simp at h | cons c cs=>exact ih cs (by simpa using h) fun r=>kk (x :: r)
  exact fun {xs cs}=>this xs cs
end
section
variable {E:XEnv} {tm:Tm} {h h':Heap}
theorem sem_int {i:XI} {k:IntKind} {n m:Int} (hs:i.sem tm h = .ok (.int k n) h') (e:n = m):i.sem tm h = .ok (.int k m) h':=e ▸ hs
theorem sem_is {i:XI} {c b:Bool} (hs:i.sem tm h = .ok (.bool c) h') (e:c = b):i.sem tm h = .ok (.bool b) h':=e ▸ hs
theorem cC {c:XO} {a b:XCode} {Q:XExit→Tm→Heap→Prop} (hc:c.val tm = some (.bool true)) (ha:wpC E a Q tm h):wpC E (.cond c a b) Q tm h:=⟨true,hc,fun _=>ha,fun e=>absurd e (by simp)⟩
theorem cF {c:XO} {a b:XCode} {Q:XExit→Tm→Heap→Prop} (hc:c.val tm = some (.bool false)) (hb:wpC E b Q tm h):wpC E (.cond c a b) Q tm h:=⟨false,hc,fun e=>absurd e (by simp),fun _=>hb⟩
end
/-! ### bounds -/
def maxN:Nat:=9223372036854775807
mutual
def DV.ok:DV→Prop
  | .mk _ _ _ _ _ d _ _ _ l _ _ m=>d.length ≤ maxN∧l.length ≤ maxN∧m.length ≤ maxN∧DV.okL l∧DV.okL m
def DV.okL:List DV→Prop
  | []=>True
  | t :: l=>t.ok∧DV.okL l
end
mutual
def DE.ok:DE→Prop
  | .mk _ _ _ _ s v _ _ l=>s.length ≤ maxN∧v.ok∧l.length ≤ maxN∧DE.okL l
def DE.okL:List DE→Prop
  | []=>True
  | t :: l=>t.ok∧DE.okL l
end
mutual
def DT.ok:DT→Prop
  | .mk _ e sub _ _ l=>e.ok∧sub.ok∧l.length ≤ maxN∧DT.okL l
def DT.okL:List DT→Prop
  | []=>True
  | t :: l=>t.ok∧DT.okL l
end
/-! ### how many formulas -/
mutual
def DT.size:DT→Nat
  | .mk _ _ _ _ _ l=>1 + DT.sizeL l
def DT.sizeL:List DT→Nat
  | []=>0
  | t :: l=>t.size + DT.sizeL l
end
mutual
def DT.parts:DT→List DT
  | .mk k e s ln lf l=>if k = 5 then DT.partsL l else [.mk k e s ln lf l]
def DT.partsL:List DT→List DT
  | []=>[]
  | t :: l=>t.parts++DT.partsL l
end
theorem ofNat_cast (n:Nat):Int.ofNat n = (n:Int):=rfl
theorem of_ltN {a b:Nat} (h:ltI (.ofNat a) (.ofNat b) = true):a < b:=by rw [ltI_nat] at h;exact of_decide_eq_true h
theorem of_geN {a b:Nat} (h:ltI (.ofNat a) (.ofNat b) = false):b ≤ a:=by rw [ltI_nat] at h;have:=of_decide_eq_false h;omega
end Go.X

/- Comparing trees: what comes of it. No program in sight. -/
namespace Go.X
open Go
/-! ### three ways -/
def cmpI (a b:Int):Int:=if a < b then -1 else if b < a then 1 else 0
def orI (c d:Int):Int:=if c = 0 then d else c
def cmpS (a b:List Nat):Int:=if ltN a b = true then -1 else if beqN a b = true then 0 else 1
def cmpN (a b:Nat):Int:=cmpI (.ofNat a) (.ofNat b)
def lexI:List Int→List Int→Int
  | x :: a,y :: b=>orI (cmpI x y) (lexI a b)
  | _,_=>0
def sizesV (a b:List Int):Int:=orI (cmpN a.length b.length) (lexI a.reverse b.reverse)
def cmpZ (n:Bool) (d:List Int) (n':Bool) (d':List Int):Int :=
  match n,n' with
  | true,false=>-1
  | false,true=>1
  | true,true=>- sizesV d d'
  | false,false=>sizesV d d'
/-! ### trees -/
mutual
def DV.cmp:DV→DV→Int
  | .mk k n neg _ _ d s _ _ l _ _ m,.mk k' n' neg' _ _ d' s' _ _ l' _ _ m'=>orI (cmpI k k') (orI (cmpI n n') (orI (cmpZ neg d neg' d') (orI (cmpS s s') (orI (orI (cmpN l.length l'.length) (DV.cmpX l l')) (orI (cmpN m.length m'.length) (DV.cmpX m m'))))))
def DV.cmpX:List DV→List DV→Int
  | x :: a,y :: b=>orI (x.cmp y) (DV.cmpX a b)
  | _,_=>0
end
def cmpL (a b:List DV):Int:=orI (cmpN a.length b.length) (DV.cmpX a b)
theorem DV.cmp_eq {k n:Int} {neg dn df:Bool} {d:List Int} {s:List Nat} {ln lf:Bool} {l:List DV} {mn mf:Bool} {m:List DV} {k' n':Int} {neg' dn' df':Bool} {d':List Int} {s':List Nat} {ln' lf':Bool} {l':List DV} {mn' mf':Bool} {m':List DV} :
    (DV.mk k n neg dn df d s ln lf l mn mf m).cmp (.mk k' n' neg' dn' df' d' s' ln' lf' l' mn' mf' m') = orI (cmpI k k') (orI (cmpI n n') (orI (cmpZ neg d neg' d') (orI (cmpS s s') (orI (cmpL l l') (cmpL m m'))))):=rfl
end Go.X
