/- The files of a map, by name: what the contract gives, seen as a slice of files. -/
import Derived.Test.YtkmffbmgpnndcaaGreatDoorDv1
import Derived.Test.YtkmffbmgpnndcaaGreatDoorDkData
namespace Go.X
open Go
section
variable {E:XEnv} {h:Heap} {L M:List (Pos × AObj)} {v w:AV} {l m:List Nat}
inductive CnR:List FD→List FEnt→Prop
  | nil:CnR [] []
  | no {n:List Nat} {D:List FD} {F:List FEnt} (t:CnR D F):CnR ((n,[]) :: D) ((n,none) :: F)
  | some {n b:List Nat} {D:List FD} {F:List FEnt} (t:CnR D F):CnR ((n,b) :: D) ((n,some b) :: F)
theorem CnR.names {D:List FD} {F:List FEnt} (t:CnR D F):F.map Prod.fst = D.map Prod.fst:=by
  induction t with
  | nil=>rfl
  | no _ ih=>simp [ih]
  | some _ ih=>simp [ih]
theorem CnR.length {D:List FD} {F:List FEnt} (t:CnR D F):F.length = D.length:=by
  have:=congrArg List.length t.names;simpa using this
theorem CnR.lens {D:List FD} {F:List FEnt} (t:CnR D F) (h:∀ f ∈ D,f.2.length ≤ 1000000):lenOK F = true:=by
  induction t with
  | nil=>rfl
  | no _ ih=>simp only [lenOK];exact ih fun f hf=>h f (mS _ hf)
  | @some n b D F _ ih =>
    have h1:Nat.ble b.length 1000000 = true:=Nat.ble_eq_true_of_le (h _ m0);simp only [lenOK,h1];exact ih fun f hf=>h f (mS _ hf)
theorem CnR.ins_no {D:List FD} {F:List FEnt} (t:CnR D F) (n:List Nat):CnR (insF (n,[]) D) (insF (n,none) F):=by
  induction t with
  | nil=>exact .no .nil
  | @no m _ _ t ih =>
    simp only [insF]
    cases ltN n m with
    | true=>exact .no (.no t)
    | false=>exact .no ih
  | @some m _ _ _ t ih =>
    simp only [insF]
    cases ltN n m with
    | true=>exact .no (.some t)
    | false=>exact .some ih
theorem CnR.ins_some {D:List FD} {F:List FEnt} (t:CnR D F) (n b:List Nat):CnR (insF (n,b) D) (insF (n,Option.some b) F):=by
  induction t with
  | nil=>exact .some .nil
  | @no m _ _ t ih =>
    simp only [insF]
    cases ltN n m with
    | true=>exact .some (.no t)
    | false=>exact .no ih
  | @some m _ _ _ t ih =>
    simp only [insF]
    cases ltN n m with
    | true=>exact .some (.some t)
    | false=>exact .some ih
theorem CnR.sort {D:List FD} {F:List FEnt} (t:CnR D F):CnR (sortF D) (sortF F):=by
  induction t with
  | nil=>exact .nil
  | no _ ih=>exact ih.ins_no _
  | some _ ih=>exact ih.ins_some _ _
theorem content_BV (H:Has h M) (hs:BV M v l):(v = .nilslice∧l = []∧contentOf h v = some none)∨contentOf h v = some (some l):=by
  have hsrc:=srcOf_BV H hs;have hb:=bytesX_av l
  rcases hs with ⟨rfl,rfl⟩ | ⟨cs,fu,rfl,_⟩ | ⟨p,o,cap,ty,cs,sp,rfl,_⟩
  · exact .inl ⟨rfl,rfl,rfl⟩
  · exact .inr (by simp only [contentOf,hsrc,hb])
  · exact .inr (by simp only [contentOf,hsrc,hb])
theorem des_ents (H:Has h M) {es:List (AV × AV × Nat)} {D:List FD} (t:EntsR M es D):∃ F,des h es = some F∧CnR D F:=by
  induction t with
  | nil=>exact ⟨[],rfl,.nil⟩
  | @cons n b v c es D hv t ih =>
    obtain ⟨F,h1,h2⟩:=ih
    rcases content_BV H hv with ⟨rfl,rfl,hc⟩ | hc
    · exact ⟨_,by simp only [des,deOf,hc,h1],.no h2⟩
    · exact ⟨_,by simp only [des,deOf,hc,h1],.some h2⟩
theorem cvOf_BV {p:Pos} {ty:TypeId}:BV ((p,rowOf ty l) :: L) (cvOf p l) l:=by
  cases l with
  | nil=>exact .inr (.inr ⟨p,0,.ex 0,ty,[],false,rfl,m0,Nat.le_refl _,rfl,Nat.le_refl _⟩)
  | cons b l=>exact .inr (.inr ⟨p,0,.up 1,ty,avBytes (b :: l),true,rfl,m0,by rw [avB_len];omega,by rw [List.drop_zero,List.take_of_length_le (by rw [avB_len];omega)],rfl⟩)
theorem Has.mv' {A B:List (Pos × AObj)} {x:Pos × AObj} (H:Has h (A++x :: B)):Has h (x :: A++B):=H.perm List.perm_middle
theorem clones_PsB {ty:TypeId} {D:List FD} {F:List FEnt} (t:CnR D F):∀ {h:Heap} {K:List (Pos × AObj)},Has h K→∃ ps h' N,clonesV ty F h = (ps,h')∧Has h' (N++K)∧PsB N ps D:=by
  induction t with
  | nil=>exact fun H=>⟨[],_,[],rfl,H,.nil⟩
  | no _ ih =>
    intro h K H;obtain ⟨ps,h',N,h1,h3,h4⟩:=ih H;exact ⟨_,h',N,by simp only [clonesV,h1],h3,.cons .nil h4⟩
  | @some n b D F _ ih =>
    intro h K H;obtain ⟨ps,h',N,h1,h3,h4⟩:=ih (H.push (rowOf ty b));refine ⟨(n,cvOf h.next b) :: ps,h',(h.next,rowOf ty b) :: N,by simp only [clonesV,h1],Has.mv' h3,   .cons (BV.mono (L:=[(h.next,rowOf ty b)]) cvOf_BV fun x m=>?_) (h4.mono fun x m=>mS _ m)⟩;rw [List.mem_singleton.1 m];exact m0
theorem CallT.con' {f:FuncId} {F:List AV→Heap→Option (AV × Heap)} {args:List AV} {v:AV} {h':Heap} (hx:E.fn f = some (.con F)) (hv:F args h = some (v,h')):CallT E (.func f [] []) args h fun r h2=>r = v∧h2 = h':=by
  refine ⟨v,h',⟨rfl,rfl⟩,1,fun n hn k kp=>?_⟩;obtain ⟨m,rfl⟩:∃ m,n = m + 1:=⟨n - 1,by omega⟩;have e:callNF E (m + 1) (.func f [] []) args .off h k kp = Option.rec (motive:=fun _=>R) .bad (fun x=>appF [] args fun a=>appF a [] fun a=>enterF E x (callNF E m) m a .off h k kp) (E.fn f):=rfl;rw [e,hx];show appF [] args (fun a=>appF a [] fun a=>enterF E (.con F) (callNF E m) m a .off h k kp) = _;rw [appF_eq,appF_eq];show conF F ([]++args++[]) h (fun v h=>k v .off h) = _;simp only [List.nil_append,List.append_nil,conF,hv]
def Fresh (h:Heap) (L:List (Pos × AObj)) (P:List (Pos × AObj)→Prop):Prop:=∃ N,Has h (N++L)∧P N
theorem disk_ok (CD:E.fn n_disk = some (.con (diskV tyF tyB))) {qm:Pos} {es:List (AV × AV × Nat)} {cl:Nat} {D:List FD} (H:Has h ((qm,.map es cl) :: M)) (hM:MapR M es cl D) (hok:OkF D):CallT E (.func n_disk [] []) [.map qm] h fun r h'=>∃ fv,r = .agg [fv]∧Fresh h' ((qm,.map es cl) :: M) fun N=>FsV N fv (sortF D):=by
  obtain ⟨F,hdes,hcr⟩:=des_ents H.tail hM.ents;have hg:h.get qm = .map es cl:=H.at 0 rfl;have hal:aloneF F = true:=by
    rw [aloneF_iff];have h2:=List.pairwise_map.2 hok.dist;rw [← hcr.names] at h2;exact List.pairwise_map.1 h2
  have hbo:bornOK cl es = true:=bornOK_iff.2 ⟨hM.lt,hM.apart⟩;have hle:Nat.ble F.length 10000 = true:=Nat.ble_eq_true_of_le (by rw [hcr.length];have:=hok.len;omega);have hlk:lenOK F = true:=hcr.lens fun f hf=>by have:=(hok.ok f hf).2;omega
  obtain ⟨ps,h1,N,hc,H1,hps⟩:=clones_PsB (ty:=tyB) hcr.sort H;have hlen:=hps.length;have hfiles:∃ fv h2,filesV tyF tyB (sortF F) h = (.agg [fv],h2)∧Fresh h2 ((qm,.map es cl) :: M) fun N=>FsV N fv (sortF D):=by
    unfold filesV;rw [hc]
    cases ps with
    | nil =>
      have h0:sortF D = []:=List.eq_nil_of_length_eq_zero hlen.symm;exact ⟨.nilslice,h1,rfl,N,H1,[],by rw [h0];exact .nil,by rw [h0];exact ⟨rfl,.inl ⟨rfl,rfl⟩⟩⟩
    | cons p ps =>
      refine ⟨_,_,rfl,_ :: N,H1.push (.row tyF (flatP (p :: ps)) true),p :: ps,hps.mono fun x m=>mS _ m,?_⟩;refine ⟨by rw [flatP_length,← hlen];omega,.inr (.inr ⟨h1.next,.up 2,tyF,true,by rw [← hlen],m0⟩)⟩
  obtain ⟨fv,h2,hv,hown⟩:=hfiles;have hcall:diskV tyF tyB [.map qm] h = some (.agg [fv],h2):=by
    simp only [diskV,hg,hdes,hal,hbo,hle,hlk,hv]
  refine CallT.mono ?_ (CallT.con' CD hcall);rintro _ _ ⟨rfl,rfl⟩;exact ⟨fv,rfl,hown⟩
theorem Has.own {N:List (Pos × AObj)} {x:Pos × AObj} (H:Has h (N++M)) (hx:x ∈ M):∃ K,Has h (x :: K)∧(∀ y ∈ N,y ∈ K)∧∀ y ∈ M,y.1 ≠ x.1→y ∈ K:=by
  obtain ⟨A,B,rfl⟩:=List.append_of_mem hx;refine ⟨N++(A++B),?_,fun y m=>List.mem_append_left _ m,fun y m hne=>?_⟩
  · refine H.perm ?_;rw [← List.append_assoc];exact List.perm_middle.trans (by rw [List.append_assoc])
  · rcases List.mem_append.1 m with m | m
    · exact List.mem_append_right _ (List.mem_append_left _ m)
    · rcases List.mem_cons.1 m with rfl | m
      · exact absurd rfl hne
      · exact List.mem_append_right _ (List.mem_append_right _ m)
end
end Go.X

/- Volumes: what is read now. -/
namespace Go.X
open Go
inductive OpB (M:List (Pos × AObj)):List AV→List OpV→Prop
  | nil:OpB M [] []
  | cons {op:OpV} {w:AV} {cs:List AV} {ops:List OpV} (hb:BV M w op.b) (t:OpB M cs ops):OpB M (.int .i64 op.kind :: .str op.name :: .str op.to :: w :: cs) (op :: ops)
section
variable {M M':List (Pos × AObj)} {cs:List AV} {ops:List OpV} {v:AV}
theorem OpB.mono (hm:∀ x ∈ M,x ∈ M') (t:OpB M cs ops):OpB M' cs ops:=by
  induction t with
  | nil=>exact .nil
  | cons hb _ ih=>exact .cons (hb.mono hm) ih
theorem OpB.length (t:OpB M cs ops):cs.length = ops.length * 4:=by
  induction t with
  | nil=>rfl
  | cons _ _ ih=>simp only [List.length_cons,ih];omega
theorem OpB.at (t:OpB M cs ops):∀ {j:Nat} (hj:j < ops.length),∃ w r,BV M w ops[j].b∧cs.drop (j * 4) = .int .i64 ops[j].kind :: .str ops[j].name :: .str ops[j].to :: w :: r:=by
  induction t with
  | nil=>intro j hj;simp at hj
  | @cons op w cs ops hb _ ih =>
    intro j hj
    cases j with
    | zero=>exact ⟨w,cs,hb,rfl⟩
    | succ j =>
      obtain ⟨w',r,h1,h2⟩:=ih (j:=j) (by simpa using hj);refine ⟨w',r,h1,?_⟩;rw [show (j + 1) * 4 = j * 4 + 4 by omega];exact h2
def OpsV (M:List (Pos × AObj)) (v:AV) (ops:List OpV):Prop:=∃ cs,OpB M cs ops∧RowV M 4 v cs ops.length
theorem OpsV.mono (hf:OpsV M v ops) (hm:∀ x ∈ M,x ∈ M'):OpsV M' v ops:=let ⟨cs,h1,h2⟩:=hf;⟨cs,h1.mono hm,h2.mono hm⟩
theorem OpsV.ne_any (hf:OpsV M v ops):v ≠ .any:=let ⟨_,_,h2⟩:=hf;h2.ne_any
theorem OpsV.cells1 (hf:OpsV M v ops):v.cellsO = some [v]:=let ⟨_,_,h2⟩:=hf;h2.cellsO
theorem OpsV.part {h:Heap} {cs:List AV} {o:Nat} (hf:OpsV M v ops) (hn:nth cs o = some v):partOf cs o none h = .ok v h:=by
  have:=hf.ne_any;unfold partOf;rw [hn]
  cases v <;> first | rfl | exact absurd rfl this
theorem OpsV.at {j:Nat} (hf:OpsV M v ops) (hj:j < ops.length):∃ w r,BV M w ops[j].b∧PtrV M (adr v j 4) (.int .i64 ops[j].kind :: .str ops[j].name :: .str ops[j].to :: w :: r):=by
  obtain ⟨cs,h1,h2⟩:=hf;obtain ⟨w,r,h3,h4⟩:=h1.at hj;exact ⟨w,r,h3,h4 ▸ adr_ptr h2 hj⟩
end
section
variable {E:XEnv} {d:Option Slot} {opl:List XOp} {Q:Tm→Heap→Prop} {tm:Tm} {x y:XO} {h:Heap} {L M:List (Pos × AObj)} {v w fv ov:AV} {l m:List Nat} {fs:List FD} {ops:List OpV}
theorem iaddrO_sem {j:Nat} {k:IntKind} (hf:OpsV M v ops) (hj:j < ops.length) (hv:x.val tm = some v) (hi:y.val tm = some (.int k (.ofNat j))):(XI.iaddrS 4 x y).sem tm h = .ok (adr v j 4) h:=let ⟨_,_,h2⟩:=hf;iaddr_sem h2 (by decide) hj hv hi
theorem lenO_sem (hf:OpsV M v ops) (hv:x.val tm = some v):(XI.len false x).sem tm h = .ok (.int .i64 (.ofNat ops.length)) h:=let ⟨_,_,h2⟩:=hf;len_RowV h2 hv
def okOp (op:OpV):Prop:=op.b.length ≤ 10000000∧op.name.length ≤ maxN∧op.to.length ≤ maxN
instance (fs:List FD):Decidable (okS fs):=inferInstanceAs (Decidable (_∧∀ i,i < fs.length→okAtD fs i))
def nowS (fs:List FD) (ops:List OpV):Option (List FD):=if okS fs∧ops.length ≤ 200 then applyL fs ops else none
theorem nowS_ok {D:List FD} (h:nowS fs ops = some D):OkF D:=by
  unfold nowS at h
  split at h
  · rename_i hk;exact applyL_ok (okS_okF hk.1) h
  · simp at h
def NowR (L:List (Pos × AObj)) (fs:List FD) (ops:List OpV) (r:AV) (h':Heap):Prop:=match nowS fs ops with
  | some D=>∃ q,r = .tuple [.map q,.bool true]∧MapAt h' L q D
  | none=>r = .tuple [.nilmap,.bool false]∧Own h' L fun _=>True
theorem applyL_step {D D':List FD} {j:Nat} (hj:j < ops.length) (hD:applyL fs (ops.take j) = some D) (hd:applyD D ops[j] = some D'):applyL fs (ops.take (j + 1)) = some D':=by
  rw [List.take_add_one,List.getElem?_eq_getElem hj,Option.toList_some,applyL_app,hD];simp only [applyL,hd]
theorem applyL_bad {D:List FD} {j:Nat} (hj:j < ops.length) (hD:applyL fs (ops.take j) = some D) (hd:applyD D ops[j] = none):applyL fs ops = none:=by
  have e:ops = ops.take j++ops[j] :: ops.drop (j + 1):=by rw [← List.drop_eq_getElem_cons hj,List.take_append_drop]
  rw [e,applyL_app,hD];simp only [applyL,hd]
theorem now_loop (C:Code E) {qm:Pos} (hos:OpsV L ov ops) (hmx:ops.length ≤ 9223372036854775807) (hop:∀ op ∈ ops,okOp op) (hfo:OkF fs) {Q:XExit→Tm→Heap→Prop} (hend:∀ tm h D,applyL fs ops = some D→MapAt h L qm D→tm.get (.lo .d0 .d4) = some (.map qm)→Q (.exit 0) tm h)
    (hret:∀ tm h,applyL fs ops = none→Own h L (fun _=>True)→tm.get (.lo .d0 .d2) = some .nilmap→tm.get (.lo .d0 .d3) = some (.bool false)→Q .ret tm h) :
    ∀ (k j:Nat),ops.length - j = k→j ≤ ops.length→∀ (tm:Tm) (h:Heap) (D:List FD),MapAt h L qm D→applyL fs (ops.take j) = some D→tm.get (.lo .d0 .d4) = some (.map qm)→tm.get (.lo .d1 .d5) = some ov→tm.get (.lo .d1 .d6) = some (.int .i64 (.ofNat ops.length))→tm.get (.lo .d1 .d7) = some (.int .i64 (.ofNat j))→LoopT E c_now_b0 Q tm h:=by
  intro k
  induction k using Nat.strongRecOn with
  | ind k ih =>
    intro j hk hjl tm h D hD hA e4 e21 e22 e23;obtain ⟨tm,rfl⟩:=sets4 e4 e21 e22 e23;obtain ⟨M,es,cl,hL,H,hM⟩:=hD;have hok:=applyL_ok hfo hA;refine LoopT.wp ?_;unfold c_now_b0;refine cS (cR ?_);refine wp_bool rfl (fun hb1=>?_) (fun hb1=>?_)
    · have hj:=of_ltN hb1;obtain ⟨w,r,hw,hp⟩:=hos.at hj;obtain ⟨hb1,hb2,hb3⟩:=hop _ (List.getElem_mem hj);refine oZ (cS (cC rfl (cK (cS (cB ?_)))));refine cS (cR ?_);refine oI (iaddrO_sem hos hj rfl rfl) ?_;refine oI (loadN_sem (k:=4) H.tail (hp.mono hL) (by simp) rfl) ?_;refine wp_alloc H fun q6 h H=>?_
      refine wp_store (k:=0) rfl rfl rfl (by first | rfl | exact len_of (DT.len _) | exact len_of (DE.len _) | exact len_of (DV.len _)) H rfl (fun k=>by first | exact spliceK_len (by first | exact DT.len _ | exact DE.len _ | exact DV.len _) k | rfl) fun h H=>?_
      refine oZ ?_;refine cS (cR ?_);refine oI rfl ?_;refine oI (sem_load rfl (H.at 0 rfl) (fun _=>by first | rfl | exact hfs.part rfl | exact hos.part rfl | exact BV.part hw rfl)) ?_;have H:=Has.front H 1 rfl;refine wp_call rfl (apply_ok C (op:=ops[j]) ⟨_,es,cl,fun x m=>mS _ (hL x m),H,hM.mono fun x m=>mS _ m⟩ hok hw hb1 hb2 hb3) ?_;rintro _ h ⟨D2,rfl,hD2,hyes,_⟩
      by_cases hv:okV ops[j] D
      · rw [decide_eq_true hv];obtain rfl:=hyes hv;have hst:applyD D ops[j] = some (verbD ops[j] D).1:=if_pos hv;refine oI rfl (oZ (cF rfl (cK (cR ?_))));refine oI (sem_int rfl (w64_succ (by omega))) ?_;refine oI rfl (oZ ?_);exact ih (ops.length - (j + 1)) (by omega) (j + 1) rfl hj _ _ _ hD2 (applyL_step hj hA hst) rfl rfl rfl rfl
      · rw [decide_eq_false hv];have hst:applyD D ops[j] = none:=if_neg hv;obtain ⟨M2,es2,cl2,hL2,H2,_⟩:=hD2;refine oI rfl (oZ (cC rfl ?_));refine cS (cR ?_);refine oI rfl (oI rfl (oZ (cT ?_)));exact hret _ _ (applyL_bad hj hA hst) ⟨_,fun x m=>mS _ (hL2 x m),H2,trivial⟩ rfl rfl
    · have hj:=of_geN hb1;refine oZ (cS (cF rfl (cX ?_)));obtain rfl:j = ops.length:=by omega
      rw [List.take_length] at hA;exact hend _ _ _ hA ⟨M,es,cl,hL,H,hM⟩ rfl
theorem now_ok (C:Code E) (H:Has h L) (hfs:FsV L fv fs) (hos:OpsV L ov ops) (hnl:∀ f ∈ fs,f.1.length ≤ maxN) (hbl:∀ f ∈ fs,f.2.length ≤ maxN) (hml:fs.length ≤ maxN) (hmo:ops.length ≤ maxN) (hop:∀ op ∈ ops,okOp op):CallT E (.func n_now [] []) [.agg [fv,ov]] h (NowR L fs ops):=by
  have hmx:ops.length ≤ 9223372036854775807:=hmo;refine CallT.body C.now ?_;unfold BodyT c_now;refine cS (cR ?_);refine wp_box rfl rfl H fun q1 h H=>?_
  refine oI rfl (oI rfl (oZ (cS ?_)));refine cS (cR ?_);refine oI rfl ?_;refine oI (sem_load rfl (H.at 0 rfl) (fun _=>by first | rfl | exact hfs.part rfl | exact hos.part rfl | exact BV.part hw rfl)) ?_;refine wp_call rfl (valid_ok C H (hfs.mono fun x m=>mS _ m) hnl hbl hml) ?_;rintro _ h ⟨b,rfl,hb,H⟩
  cases b
  · have hno : ¬ okS fs:=fun hk=>by have:=hb.2 hk;simp at this
    refine oI rfl (oI rfl (oF rfl (oF rfl (oF rfl (oF rfl (oI rfl (oZ (cC rfl ?_))))))));refine cS (cR ?_);refine oI rfl (oI rfl (oZ (cT ?_)));refine ⟨trivial,_,rfl,?_⟩;have hn:nowS fs ops = none:=if_neg fun hk=>hno hk.1
    show NowR L fs ops _ _;unfold NowR;rw [hn];exact ⟨rfl,_,fun x m=>mS _ m,H,trivial⟩
  · have hks:okS fs:=hb.1 rfl;refine oI rfl (oI rfl (oN rfl (oI rfl (oN rfl ?_))));refine oI (sem_load rfl (H.at 0 rfl) (fun _=>by first | rfl | exact hfs.part rfl | exact hos.part rfl | exact BV.part hw rfl)) ?_;refine oN rfl (oI (lenO_sem hos rfl) (oN rfl ?_));refine wp_bool rfl (fun hb2=>?_) (fun hb2=>?_)
    · have h200:=ltI_lt hb2
      try simp only [ofNat_cast] at h200
      refine oI rfl (oZ (cC rfl ?_));refine cS (cR ?_);refine oI rfl (oI rfl (oZ (cT ?_)));refine ⟨trivial,_,rfl,?_⟩;have hn:nowS fs ops = none:=if_neg fun hk=>by have:=hk.2;omega
      show NowR L fs ops _ _;unfold NowR;rw [hn];exact ⟨rfl,_,fun x m=>mS _ m,H,trivial⟩
    · have h200:=ltI_ge hb2
      try simp only [ofNat_cast] at h200
      refine oI rfl (oZ (cF rfl (cK ?_)));refine cS (cR ?_);refine oI rfl ?_;refine oI (sem_load rfl (H.at 0 rfl) (fun _=>by first | rfl | exact hfs.part rfl | exact hos.part rfl | exact BV.part hw rfl)) ?_;refine wp_call rfl (opened_ok C H hks (hfs.mono fun x m=>mS _ m)) ?_;rintro _ h ⟨qm,es,cl,rfl,H,hM⟩;refine oI rfl (oZ (cS ?_));refine cS (cR ?_);refine oI rfl ?_;refine oI (sem_load rfl (H.at 1 rfl) (fun _=>by first | rfl | exact hfs.part rfl | exact hos.part rfl | exact BV.part hw rfl)) ?_;refine oI (lenO_sem hos rfl) (oI rfl (oZ (cB ?_)));refine wpC_loop (now_loop C (L:=L) (fs:=fs) hos hmx hop (okS_okF hks) (fun tm h D hA hD e4=>?_) (fun tm h hA hO e2 e3=>?_) (ops.length - 0) 0 rfl (Nat.zero_le _) _ _ _ ⟨_,es,cl,fun x m=>mS _ m,H,hM⟩ rfl rfl rfl rfl rfl)
      · obtain ⟨tm,rfl⟩:=sets1 e4;refine cS (cR ?_);refine oI rfl (oI rfl (oI rfl (oZ (cT ?_))));refine ⟨trivial,_,rfl,?_⟩;have hn:nowS fs ops = some D:=by rw [nowS,if_pos ⟨hks,by omega⟩,hA]
        show NowR L fs ops _ _;unfold NowR;rw [hn];exact ⟨_,rfl,hD⟩
      · obtain ⟨tm,rfl⟩:=sets2 e2 e3;refine ⟨trivial,_,rfl,?_⟩;have hn:nowS fs ops = none:=by rw [nowS,if_pos ⟨hks,by omega⟩,hA]
        show NowR L fs ops _ _;unfold NowR;rw [hn];exact ⟨rfl,hO⟩
end
end Go.X

/- Now;two disks,two volumes compared. -/
namespace Go.X
open Go
section
variable {E:XEnv} {d:Option Slot} {opl:List XOp} {Q:Tm→Heap→Prop} {tm:Tm} {x y:XO} {h:Heap} {L M:List (Pos × AObj)} {v w fv ov:AV} {l m:List Nat} {fs:List FD} {ops:List OpV}
theorem resV_cell {p:Slot} {n:Nat} {q:Pos} {ty:TypeId} {cs:List AV} {sp:Bool} {r:AV} {rs:List XRes} {vs:List AV} (hp:tm.get p = some (.ptr q 0)) (hg:h.get q = .row ty cs sp) (hn:∀ h,partOf cs 0 (some n) h = .ok r h) (hr:resV rs tm h = some vs):resV (.cell p (some n) :: rs) tm h = some (r :: vs):=by
  have e:loadAV (some n) (.ptr q 0) h = .ok r h:=by simp only [loadAV,hg];exact hn h
  simp only [resV,hp,e,hr]
def NewIn (h:Heap) (L:List (Pos × AObj)) (P:List (Pos × AObj)→Prop):Prop:=∃ M N,(∀ x ∈ L,x ∈ M)∧Has h M∧(∀ x ∈ N,x ∈ M)∧(∀ x ∈ N,∀ y ∈ L,x.1 ≠ y.1)∧P N
def NowO (L:List (Pos × AObj)) (fs:List FD) (ops:List OpV) (r:AV) (h':Heap):Prop:=match nowS fs ops with
  | some D=>∃ fv',r = .tuple [.agg [fv'],.int .i64 0]∧NewIn h' L fun M=>FsV M fv' (sortF D)
  | none=>r = .tuple [.agg [.nilslice],.int .i64 370]∧Own h' L fun _=>True
theorem ckNow_ok (C:Code E) (CD:E.fn n_disk = some (.con (diskV tyF tyB))) (H:Has h L) (hfs:FsV L fv fs) (hos:OpsV L ov ops) (hnl:∀ f ∈ fs,f.1.length ≤ maxN) (hbl:∀ f ∈ fs,f.2.length ≤ maxN) (hml:fs.length ≤ maxN) (hmo:ops.length ≤ maxN) (hop:∀ op ∈ ops,okOp op):CallT E (.func n_ckNow [] []) [.agg [fv,ov]] h (NowO L fs ops):=by
  refine CallT.body C.ckNow ?_;unfold BodyT c_ckNow;refine cS (cR ?_);refine wp_box rfl rfl H fun q1 h H=>?_
  have H0:=H;refine wp_alloc H fun q2 h H=>?_
  have H1:=H;refine oI rfl (oZ ?_);refine cS (cR ?_);refine oI (sem_load rfl (H.at 1 rfl) (fun _=>by first | rfl | exact hfs.part rfl | exact hos.part rfl | exact BV.part hw rfl)) ?_;refine wp_call rfl (now_ok C H (hfs.mono (fun x m=>mS _ (mS _ m))) (hos.mono (fun x m=>mS _ (mS _ m))) hnl hbl hml hmo hop) ?_;rintro r h hN;unfold NowR at hN
  cases hn:nowS fs ops
  · rw [hn] at hN;obtain ⟨rfl,M,hM1,HM,_⟩:=hN;obtain ⟨K,H,_,hK⟩:=Has.own (N:=[]) HM (hM1 _ m0);refine oI rfl (oI rfl (oI rfl (oI rfl (oI rfl (oZ (cS ?_))))));refine cS (cR ?_);refine oI rfl (oI rfl (oZ (cC rfl ?_)));refine cS (cR ?_);refine oI rfl ?_;refine wp_store (k:=0) rfl rfl rfl rfl H rfl (fun k=>rfl) fun h H=>?_
    refine oI rfl (oZ (cT ?_));refine ⟨trivial,_,resV_cell rfl (H.at 0 rfl) (fun _=>rfl) rfl,?_⟩;show NowO L fs ops _ _;unfold NowO;rw [hn];exact ⟨rfl,_,fun x m=>mS _ (hK x (hM1 x (mS _ (mS _ m))) fun e=>(List.pairwise_cons.1 H1.2).1 x (mS _ m) e.symm),H,trivial⟩
  · rename_i D
    rw [hn] at hN;obtain ⟨q,rfl,M,es,cl,hM1,H,hM⟩:=hN;refine oI rfl (oI rfl (oI rfl (oI rfl (oI rfl (oZ (cS ?_))))));refine cS (cR ?_);refine oI rfl (oI rfl (oZ (cF rfl (cK ?_))));refine cS (cR ?_);refine oI rfl (wp_call rfl (disk_ok CD H hM (nowS_ok hn)) ?_);rintro _ h ⟨fv2,rfl,N,H,hfv⟩;have HN:=H;obtain ⟨K,H,hN,hK⟩:=H.own (mS _ (hM1 _ m0));refine wp_store (k:=0) rfl rfl rfl rfl H rfl (fun k=>rfl) fun h H=>?_
    refine oI rfl (oZ (cT ?_));refine ⟨trivial,_,resV_cell rfl (H.at 0 rfl) (fun _=>rfl) rfl,?_⟩;show NowO L fs ops _ _;unfold NowO;rw [hn];refine ⟨fv2,rfl,_,N,fun x m=>mS _ (hK x (mS _ (hM1 x (mS _ (mS _ m)))) fun e=>(List.pairwise_cons.1 H1.2).1 x (mS _ m) e.symm),H,fun x m=>mS _ (hN x m),fun x mx y my=>(List.pairwise_append.1 HN.2).2.2 x mx y (mS _ (hM1 y (mS _ (mS _ my)))),hfv⟩
theorem bytesOf_any:∀ l:List Nat,bytesOf (avBytes l) = some (l.map (· % 256))
  | []=>rfl
  | b :: l=>by simp only [avBytes,bytesOf,bytesOf_any l];rfl
theorem toStr_any (H:Has h L) (hs:BV L v l) (hv:x.val tm = some v):(XI.toStr x).sem tm h = .ok (.str (l.map (· % 256))) h:=by
  have hsrc:=srcOf_BV H hs;have hb:=bytesOf_any l
  rcases hs with ⟨rfl,rfl⟩ | ⟨cs,fu,rfl,_⟩ | ⟨p,o,cap,ty,cs,sp,rfl,_⟩ <;> simp only [XI.sem,toStrS,withO_run hv,hsrc,hb]
theorem neStr_F {a:List Nat} (hx:x.val tm = some (.str a)) (hy:y.val tm = some (.str a)):(XI.bin .ne x y).sem tm h = .ok (.bool false) h:=by
  simp only [XI.sem,binS,withO_run hx,withO_run hy];show okB h (match beqN a a with | true=>false | false=>true) = _;rw [beqN_refl];rfl
theorem neInt_F {a:Int} (hx:x.val tm = some (.int .i64 a)) (hy:y.val tm = some (.int .i64 a)):(XI.bin .ne x y).sem tm h = .ok (.bool false) h:=by
  simp only [XI.sem,binS,withO_run hx,withO_run hy];show okB h (match eqI a a with | true=>false | false=>true) = _;rw [eqI_refl];rfl
theorem sameDisk_loop {v1 v2:AV} {q2 q3:Pos} (hmx:fs.length ≤ 9223372036854775807) (hf1:FsV L v1 fs) (hf2:FsV L v2 fs) {Q:XExit→Tm→Heap→Prop} (hend:∀ tm h,Has h L→Q (.exit 0) tm h) :
    ∀ (k j:Nat),fs.length - j = k→∀ (tm:Tm) (h:Heap),Has h ((q3,.row tyD [v2] false) :: (q2,.row tyD [v1] false) :: L)→tm.get (.lo .d0 .d2) = some (.ptr q2 0)→tm.get (.lo .d0 .d3) = some (.ptr q3 0)→tm.get (.lo .d0 .d5) = some (.int .i64 (.ofNat j))→LoopT E c_sameDisk_b0 Q tm h:=by
  intro k
  induction k using Nat.strongRecOn with
  | ind k ih =>
    intro j hk tm h H e2 e3 e5;obtain ⟨tm,rfl⟩:=sets3 e2 e3 e5;refine LoopT.wp ?_;unfold c_sameDisk_b0;refine cS ?_;refine cS (cR ?_);refine oI rfl (oI rfl ?_);refine oI (sem_load rfl (H.at 1 rfl) (fun _=>by first | rfl | exact hf1.part rfl | exact hf2.part rfl)) ?_;refine oI (lenF_sem hf1 rfl) ?_;refine wp_bool rfl (fun hb1=>?_) (fun hb1=>?_)
    · have hj:=of_ltN hb1;obtain ⟨w1,r1,hw1,hp1⟩:=hf1.at hj;obtain ⟨w2,r2,hw2,hp2⟩:=hf2.at hj;refine oZ (cC rfl (cK (cS (cB (cS (cL rfl (oI rfl ?_)))))));refine oI (sem_load rfl (H.at 1 rfl) (fun _=>by first | rfl | exact hf1.part rfl | exact hf2.part rfl)) ?_;refine oI rfl (oI (iaddrF_sem hf1 hj rfl rfl) ?_);refine oI (faddr_sem (off:=0) hp1 (by simp) rfl) ?_;refine oI (load1_sem (H.tail.tail) (padd_ptr (off:=0) hp1 (by simp)) (by simp) rfl) ?_;refine oI rfl ?_;refine oI (sem_load rfl (H.at 0 rfl) (fun _=>by first | rfl | exact hf1.part rfl | exact hf2.part rfl)) ?_;refine oI rfl (oI (iaddrF_sem hf2 hj rfl rfl) ?_);refine oI (faddr_sem (off:=0) hp2 (by simp) rfl) ?_;refine oI (load1_sem (H.tail.tail) (padd_ptr (off:=0) hp2 (by simp)) (by simp) rfl) ?_;refine oI (neStr_F rfl rfl) (oI rfl (oN rfl (oI rfl (oN rfl ?_))));refine oI (sem_load rfl (H.at 1 rfl) (fun _=>by first | rfl | exact hf1.part rfl | exact hf2.part rfl)) ?_;refine oN rfl (oI rfl (oN rfl (oI (iaddrF_sem hf1 hj rfl rfl) (oN rfl ?_))));refine oI (faddr_sem (off:=1) hp1 (by simp) rfl) ?_;refine oN rfl ?_;refine oI (load1_sem (H.tail.tail) (padd_ptr (off:=1) hp1 (by simp)) (hw1.ne_any) rfl) ?_;refine oN rfl (oI (toStr_any (H.tail.tail) hw1 rfl) (oN rfl (oI rfl (oN rfl ?_))));refine oI (sem_load rfl (H.at 0 rfl) (fun _=>by first | rfl | exact hf1.part rfl | exact hf2.part rfl)) ?_;refine oN rfl (oI rfl (oN rfl (oI (iaddrF_sem hf2 hj rfl rfl) (oN rfl ?_))))
      refine oI (faddr_sem (off:=1) hp2 (by simp) rfl) ?_;refine oN rfl ?_;refine oI (load1_sem (H.tail.tail) (padd_ptr (off:=1) hp2 (by simp)) (hw2.ne_any) rfl) ?_;refine oN rfl (oI (toStr_any (H.tail.tail) hw2 rfl) (oN rfl (oI (neStr_F rfl rfl) (oI rfl ?_))));refine oZ ⟨?_,?_⟩
      · refine kI (rfl) rfl rfl ?_;refine kI (sem_load rfl (H.at 1 rfl) (fun _=>by first | rfl | exact hf1.part rfl | exact hf2.part rfl)) rfl rfl ?_;refine kI (rfl) rfl rfl (kI (iaddrF_sem hf1 hj rfl rfl) rfl rfl ?_);refine kI (faddr_sem (off:=0) hp1 (by simp) rfl) rfl rfl ?_;refine kI (load1_sem (H.tail.tail) (padd_ptr (off:=0) hp1 (by simp)) (by simp) rfl) rfl rfl ?_;refine kI (rfl) rfl rfl ?_;refine kI (sem_load rfl (H.at 0 rfl) (fun _=>by first | rfl | exact hf1.part rfl | exact hf2.part rfl)) rfl rfl ?_;refine kI (rfl) rfl rfl (kI (iaddrF_sem hf2 hj rfl rfl) rfl rfl ?_);refine kI (faddr_sem (off:=0) hp2 (by simp) rfl) rfl rfl ?_;refine kI (load1_sem (H.tail.tail) (padd_ptr (off:=0) hp2 (by simp)) (by simp) rfl) rfl rfl ?_;refine kI (neStr_F rfl rfl) rfl rfl (kI (rfl) rfl rfl (kN rfl (kI (rfl) rfl rfl (kN rfl ?_))));refine kI (sem_load rfl (H.at 1 rfl) (fun _=>by first | rfl | exact hf1.part rfl | exact hf2.part rfl)) rfl rfl ?_;refine kN rfl (kI (rfl) rfl rfl (kN rfl (kI (iaddrF_sem hf1 hj rfl rfl) rfl rfl (kN rfl ?_))));refine kI (faddr_sem (off:=1) hp1 (by simp) rfl) rfl rfl ?_;refine kN rfl ?_;refine kI (load1_sem (H.tail.tail) (padd_ptr (off:=1) hp1 (by simp)) (hw1.ne_any) rfl) rfl rfl ?_;refine kN rfl (kI (toStr_any (H.tail.tail) hw1 rfl) rfl rfl (kN rfl (kI (rfl) rfl rfl (kN rfl ?_))));refine kI (sem_load rfl (H.at 0 rfl) (fun _=>by first | rfl | exact hf1.part rfl | exact hf2.part rfl)) rfl rfl ?_
        refine kN rfl (kI (rfl) rfl rfl (kN rfl (kI (iaddrF_sem hf2 hj rfl rfl) rfl rfl (kN rfl ?_))));refine kI (faddr_sem (off:=1) hp2 (by simp) rfl) rfl rfl ?_;refine kN rfl ?_;refine kI (load1_sem (H.tail.tail) (padd_ptr (off:=1) hp2 (by simp)) (hw2.ne_any) rfl) rfl rfl ?_;refine kN rfl (kI (toStr_any (H.tail.tail) hw2 rfl) rfl rfl (kN rfl (kI (neStr_F rfl rfl) rfl rfl (kI (rfl) rfl rfl ?_))));exact kZ
      · refine cF rfl (cK (cR (oI rfl ?_)));refine oI (sem_int rfl (w64_succ (by omega))) ?_;refine oI rfl (oZ ?_);exact ih (fs.length - (j + 1)) (by omega) (j + 1) rfl _ _ H rfl rfl rfl
    · have hj:=of_geN hb1;refine oZ (cF rfl (cX ?_));exact hend _ _ H.tail.tail
theorem sameDisk_ok (C:Code E) {v1 v2:AV} (H:Has h L) (hmx:fs.length ≤ 9223372036854775807) (hf1:FsV L v1 fs) (hf2:FsV L v2 fs):CallT E (.func n_sameDisk [] []) [.agg [v1],.agg [v2]] h fun r h'=>r = .bool true∧Has h' L:=by
  refine CallT.body C.sameDisk ?_;unfold BodyT c_sameDisk;refine cS (cR ?_);refine wp_box rfl rfl H fun q1 h H=>?_
  refine wp_box rfl rfl H fun q2 h H=>?_
  refine oI rfl (oZ (cS ?_));refine cS (cR ?_);refine oI rfl ?_;refine oI (sem_load rfl (H.at 1 rfl) (fun _=>by first | rfl | exact hf1.part rfl | exact hf2.part rfl)) ?_;refine oI (lenF_sem hf1 rfl) (oI rfl ?_);refine oI (sem_load rfl (H.at 0 rfl) (fun _=>by first | rfl | exact hf1.part rfl | exact hf2.part rfl)) ?_;refine oI (lenF_sem hf2 rfl) (oI (neInt_F rfl rfl) (oZ (cF rfl (cK (cS ?_)))));refine cS (cR ?_);refine oI rfl (oZ (cB ?_));refine wpC_loop (sameDisk_loop hmx hf1 hf2 (fun tm h H=>?_) (fs.length - 0) 0 rfl _ _ H rfl rfl rfl);refine cS (cR ?_);refine oI rfl (oZ (cT ?_));refine ⟨trivial,_,rfl,?_⟩;exact ⟨rfl,H⟩
theorem sameOps_loop {v1 v2:AV} (H:Has h L) (hmx:ops.length ≤ 9223372036854775807) (hf1:OpsV L v1 ops) (hf2:OpsV L v2 ops) {Q:XExit→Tm→Heap→Prop} (hend:∀ tm,Q (.exit 0) tm h) :
    ∀ (k j:Nat),ops.length - j = k→∀ (tm:Tm),tm.get (.lo .d0 .d0) = some v1→tm.get (.lo .d0 .d1) = some v2→tm.get (.lo .d0 .d5) = some (.int .i64 (.ofNat j))→LoopT E c_sameOps_b0 Q tm h:=by
  intro k
  induction k using Nat.strongRecOn with
  | ind k ih =>
    intro j hk tm e0 e1 e5;obtain ⟨tm,rfl⟩:=sets3 e0 e1 e5;refine LoopT.wp ?_;unfold c_sameOps_b0;refine cS ?_;refine cS (cR ?_);refine oI rfl (oI rfl (oI (lenO_sem hf1 rfl) ?_));refine wp_bool rfl (fun hb1=>?_) (fun hb1=>?_)
    · have hj:=of_ltN hb1;obtain ⟨w1,r1,hw1,hp1⟩:=hf1.at hj;obtain ⟨w2,r2,hw2,hp2⟩:=hf2.at hj;refine oZ (cC rfl (cK (cS (cB (cS (cL rfl (oI rfl (oI rfl (oI (iaddrO_sem hf1 hj rfl rfl) ?_)))))))));refine oI (faddr_sem (off:=0) hp1 (by simp) rfl) ?_;refine oI (load1_sem (H) (padd_ptr (off:=0) hp1 (by simp)) (by simp) rfl) ?_;refine oI rfl (oI rfl (oI (iaddrO_sem hf2 hj rfl rfl) ?_));refine oI (faddr_sem (off:=0) hp2 (by simp) rfl) ?_;refine oI (load1_sem (H) (padd_ptr (off:=0) hp2 (by simp)) (by simp) rfl) ?_;refine oI (neInt_F rfl rfl) (oI rfl (oN rfl (oI rfl (oN rfl (oI rfl (oN rfl (oI (iaddrO_sem hf1 hj rfl rfl) (oN rfl ?_))))))));refine oI (faddr_sem (off:=1) hp1 (by simp) rfl) ?_;refine oN rfl ?_;refine oI (load1_sem (H) (padd_ptr (off:=1) hp1 (by simp)) (by simp) rfl) ?_;refine oN rfl (oI rfl (oN rfl (oI rfl (oN rfl (oI (iaddrO_sem hf2 hj rfl rfl) (oN rfl ?_))))));refine oI (faddr_sem (off:=1) hp2 (by simp) rfl) ?_;refine oN rfl ?_;refine oI (load1_sem (H) (padd_ptr (off:=1) hp2 (by simp)) (by simp) rfl) ?_;refine oN rfl (oI (neStr_F rfl rfl) (oI rfl (oI rfl (oN rfl (oI rfl (oN rfl (oI rfl (oN rfl (oI (iaddrO_sem hf1 hj rfl rfl) (oN rfl ?_))))))))));refine oI (faddr_sem (off:=2) hp1 (by simp) rfl) ?_;refine oN rfl ?_;refine oI (load1_sem (H) (padd_ptr (off:=2) hp1 (by simp)) (by simp) rfl) ?_;refine oN rfl (oI rfl (oN rfl (oI rfl (oN rfl (oI (iaddrO_sem hf2 hj rfl rfl) (oN rfl ?_))))))
      refine oI (faddr_sem (off:=2) hp2 (by simp) rfl) ?_;refine oN rfl ?_;refine oI (load1_sem (H) (padd_ptr (off:=2) hp2 (by simp)) (by simp) rfl) ?_;refine oN rfl (oI (neStr_F rfl rfl) (oI rfl (oI rfl (oN rfl (oI rfl (oN rfl (oI rfl (oN rfl (oI (iaddrO_sem hf1 hj rfl rfl) (oN rfl ?_))))))))));refine oI (faddr_sem (off:=3) hp1 (by simp) rfl) ?_;refine oN rfl ?_;refine oI (load1_sem (H) (padd_ptr (off:=3) hp1 (by simp)) (hw1.ne_any) rfl) ?_;refine oN rfl (oI (toStr_any (H) hw1 rfl) (oN rfl (oI rfl (oN rfl (oI rfl (oN rfl (oI (iaddrO_sem hf2 hj rfl rfl) (oN rfl ?_))))))));refine oI (faddr_sem (off:=3) hp2 (by simp) rfl) ?_;refine oN rfl ?_;refine oI (load1_sem (H) (padd_ptr (off:=3) hp2 (by simp)) (hw2.ne_any) rfl) ?_;refine oN rfl (oI (toStr_any (H) hw2 rfl) (oN rfl (oI (neStr_F rfl rfl) (oI rfl ?_))));refine oZ ⟨?_,?_⟩
      · refine kI (rfl) rfl rfl (kI (rfl) rfl rfl (kI (iaddrO_sem hf1 hj rfl rfl) rfl rfl ?_));refine kI (faddr_sem (off:=0) hp1 (by simp) rfl) rfl rfl ?_;refine kI (load1_sem (H) (padd_ptr (off:=0) hp1 (by simp)) (by simp) rfl) rfl rfl ?_;refine kI (rfl) rfl rfl (kI (rfl) rfl rfl (kI (iaddrO_sem hf2 hj rfl rfl) rfl rfl ?_));refine kI (faddr_sem (off:=0) hp2 (by simp) rfl) rfl rfl ?_;refine kI (load1_sem (H) (padd_ptr (off:=0) hp2 (by simp)) (by simp) rfl) rfl rfl ?_;refine kI (neInt_F rfl rfl) rfl rfl (kI (rfl) rfl rfl (kN rfl (kI (rfl) rfl rfl (kN rfl (kI (rfl) rfl rfl (kN rfl (kI (iaddrO_sem hf1 hj rfl rfl) rfl rfl (kN rfl ?_))))))));refine kI (faddr_sem (off:=1) hp1 (by simp) rfl) rfl rfl ?_;refine kN rfl ?_;refine kI (load1_sem (H) (padd_ptr (off:=1) hp1 (by simp)) (by simp) rfl) rfl rfl ?_;refine kN rfl (kI (rfl) rfl rfl (kN rfl (kI (rfl) rfl rfl (kN rfl (kI (iaddrO_sem hf2 hj rfl rfl) rfl rfl (kN rfl ?_))))));refine kI (faddr_sem (off:=1) hp2 (by simp) rfl) rfl rfl ?_;refine kN rfl ?_;refine kI (load1_sem (H) (padd_ptr (off:=1) hp2 (by simp)) (by simp) rfl) rfl rfl ?_;refine kN rfl (kI (neStr_F rfl rfl) rfl rfl (kI (rfl) rfl rfl (kI (rfl) rfl rfl (kN rfl (kI (rfl) rfl rfl (kN rfl (kI (rfl) rfl rfl (kN rfl (kI (iaddrO_sem hf1 hj rfl rfl) rfl rfl (kN rfl ?_))))))))));refine kI (faddr_sem (off:=2) hp1 (by simp) rfl) rfl rfl ?_;refine kN rfl ?_;refine kI (load1_sem (H) (padd_ptr (off:=2) hp1 (by simp)) (by simp) rfl) rfl rfl ?_
        refine kN rfl (kI (rfl) rfl rfl (kN rfl (kI (rfl) rfl rfl (kN rfl (kI (iaddrO_sem hf2 hj rfl rfl) rfl rfl (kN rfl ?_))))));refine kI (faddr_sem (off:=2) hp2 (by simp) rfl) rfl rfl ?_;refine kN rfl ?_;refine kI (load1_sem (H) (padd_ptr (off:=2) hp2 (by simp)) (by simp) rfl) rfl rfl ?_;refine kN rfl (kI (neStr_F rfl rfl) rfl rfl (kI (rfl) rfl rfl (kI (rfl) rfl rfl (kN rfl (kI (rfl) rfl rfl (kN rfl (kI (rfl) rfl rfl (kN rfl (kI (iaddrO_sem hf1 hj rfl rfl) rfl rfl (kN rfl ?_))))))))));refine kI (faddr_sem (off:=3) hp1 (by simp) rfl) rfl rfl ?_;refine kN rfl ?_;refine kI (load1_sem (H) (padd_ptr (off:=3) hp1 (by simp)) (hw1.ne_any) rfl) rfl rfl ?_;refine kN rfl (kI (toStr_any (H) hw1 rfl) rfl rfl (kN rfl (kI (rfl) rfl rfl (kN rfl (kI (rfl) rfl rfl (kN rfl (kI (iaddrO_sem hf2 hj rfl rfl) rfl rfl (kN rfl ?_))))))));refine kI (faddr_sem (off:=3) hp2 (by simp) rfl) rfl rfl ?_;refine kN rfl ?_;refine kI (load1_sem (H) (padd_ptr (off:=3) hp2 (by simp)) (hw2.ne_any) rfl) rfl rfl ?_;refine kN rfl (kI (toStr_any (H) hw2 rfl) rfl rfl (kN rfl (kI (neStr_F rfl rfl) rfl rfl (kI (rfl) rfl rfl ?_))));exact kZ
      · refine cF rfl (cK (cR (oI rfl ?_)));refine oI (sem_int rfl (w64_succ (by omega))) ?_;refine oI rfl (oZ ?_);exact ih (ops.length - (j + 1)) (by omega) (j + 1) rfl _ rfl rfl rfl
    · have hj:=of_geN hb1;refine oZ (cF rfl (cX ?_));exact hend _
theorem sameOps_ok (C:Code E) {v1 v2:AV} (H:Has h L) (hmx:ops.length ≤ 9223372036854775807) (hf1:OpsV L v1 ops) (hf2:OpsV L v2 ops):CallT E (.func n_sameOps [] []) [v1,v2] h fun r h'=>r = .bool true∧h' = h:=by
  refine CallT.body C.sameOps ?_;unfold BodyT c_sameOps;refine cS (cR ?_);refine oI rfl (oZ (cS ?_));refine cS (cR ?_);refine oI rfl (oI (lenO_sem hf1 rfl) (oI rfl (oI (lenO_sem hf2 rfl) (oI (neInt_F rfl rfl) (oZ (cF rfl (cK (cS ?_))))))));refine cS (cR ?_);refine oI rfl (oZ (cB ?_));refine wpC_loop (sameOps_loop H hmx hf1 hf2 (fun tm=>?_) (ops.length - 0) 0 rfl _ rfl rfl rfl);refine cS (cR ?_);refine oI rfl (oZ (cT ?_));refine ⟨trivial,_,rfl,?_⟩;exact ⟨rfl,rfl⟩
theorem sameVol_ok (C:Code E) {v1 v2 o1 o2:AV} (H:Has h L) (hmx:fs.length ≤ 9223372036854775807) (hmo:ops.length ≤ 9223372036854775807) (hf1:FsV L v1 fs) (hf2:FsV L v2 fs) (ho1:OpsV L o1 ops) (ho2:OpsV L o2 ops):CallT E (.func n_sameVol [] []) [.agg [v1,o1],.agg [v2,o2]] h fun r h'=>r = .bool true∧Has h' L:=by
  refine CallT.body C.sameVol ?_;unfold BodyT c_sameVol;refine cS (cR ?_);refine wp_box rfl rfl H fun q1 h H=>?_
  refine wp_box rfl rfl H fun q2 h H=>?_
  refine oI rfl (oZ ?_);refine cS (cR ?_);refine oI rfl ?_;refine oI (sem_load rfl (H.at 1 rfl) (fun _=>by first | rfl | exact hf1.part rfl | exact hf2.part rfl | exact ho1.part rfl | exact ho2.part rfl)) ?_;refine oI rfl ?_;refine oI (sem_load rfl (H.at 0 rfl) (fun _=>by first | rfl | exact hf1.part rfl | exact hf2.part rfl | exact ho1.part rfl | exact ho2.part rfl)) ?_;refine wp_call rfl (sameDisk_ok C H hmx (hf1.mono (fun x m=>mS _ (mS _ m))) (hf2.mono (fun x m=>mS _ (mS _ m)))) ?_;rintro _ h ⟨rfl,H⟩;refine oI rfl (oN rfl (oI rfl (oN rfl ?_)));refine oI (sem_load rfl (H.at 1 rfl) (fun _=>by first | rfl | exact hf1.part rfl | exact hf2.part rfl | exact ho1.part rfl | exact ho2.part rfl)) ?_;refine oN rfl (oI rfl (oN rfl ?_));refine oI (sem_load rfl (H.at 0 rfl) (fun _=>by first | rfl | exact hf1.part rfl | exact hf2.part rfl | exact ho1.part rfl | exact ho2.part rfl)) ?_;refine oN rfl ?_;refine wp_call rfl (sameOps_ok C H hmo (ho1.mono (fun x m=>mS _ (mS _ m))) (ho2.mono (fun x m=>mS _ (mS _ m)))) ?_;rintro _ _ ⟨rfl,rfl⟩;refine oI rfl (oI rfl (oZ (cT ?_)));refine ⟨trivial,_,rfl,?_⟩;exact ⟨rfl,H.tail.tail⟩
end
end Go.X

/- Operations copied,volumes that crash. -/
namespace Go.X
open Go
section
variable {E:XEnv} {d:Option Slot} {opl:List XOp} {Q:Tm→Heap→Prop} {tm:Tm} {x y:XO} {h:Heap} {L M:List (Pos × AObj)} {v w fv ov kv:AV} {l m:List Nat} {fs:List FD} {ops:List OpV} {op:OpV}
def isBy (op:OpV):Prop:=op.kind = 1∨op.kind = 2
instance (op:OpV):Decidable (isBy op):=inferInstanceAs (Decidable (_∨_))
theorem eqInt_sem {a b:Int} (hx:x.val tm = some (.int .i64 a)) (hy:y.val tm = some (.int .i64 b)):(XI.bin .eq x y).sem tm h = .ok (.bool (decide (a = b))) h:=by
  simp only [XI.sem,binS,withO_run hx,withO_run hy];show okB h (eqI a b) = _;rw [eqI_eq];rfl
theorem neInt_sem {a b:Int} (hx:x.val tm = some (.int .i64 a)) (hy:y.val tm = some (.int .i64 b)):(XI.bin .ne x y).sem tm h = .ok (.bool (decide (a ≠ b))) h:=by
  simp only [XI.sem,binS,withO_run hx,withO_run hy];show okB h (match eqI a b with | true=>false | false=>true) = _;rw [eqI_eq]
  by_cases e:a = b
  · subst e;simp;rfl
  · simp [e];rfl
theorem isBytes_ok (C:Code E) (H:Has h L) (_hb0:BV L w op.b):CallT E (.func n_bytesOf [] []) [opAV op w] h fun r h'=>r = .bool (decide (isBy op))∧Has h' L:=by
  refine CallT.body C.bytesOf ?_;unfold BodyT c_bytesOf;refine cS (cR ?_);refine wp_box rfl rfl H fun q1 h H=>?_
  refine oI rfl (oZ ?_);refine cS (cR ?_);refine oI rfl ?_;refine oI (sem_load rfl (H.at 0 rfl) (fun _=>by first | rfl | exact hfs.part rfl | exact hos.part rfl | exact BV.part hw rfl | exact BV.part hb0 rfl)) ?_;refine oI (eqInt_sem rfl rfl) ?_
  by_cases hk1:op.kind = 1
  · rw [decide_eq_true hk1];refine oI rfl (oF rfl (oF rfl (oF rfl (oI rfl (oI rfl (oZ (cT ?_)))))));refine ⟨trivial,_,rfl,?_⟩;exact ⟨show AV.bool true = _ by rw [decide_eq_true (show isBy op from Or.inl hk1)],H.tail⟩
  · rw [decide_eq_false hk1];refine oI rfl (oN rfl (oI rfl (oN rfl ?_)));refine oI (sem_load rfl (H.at 0 rfl) (fun _=>by first | rfl | exact hfs.part rfl | exact hos.part rfl | exact BV.part hw rfl | exact BV.part hb0 rfl)) ?_;refine oN rfl (oI (eqInt_sem rfl rfl) (oI rfl (oI rfl (oZ (cT ?_)))));refine ⟨trivial,_,rfl,?_⟩;exact ⟨show AV.bool (decide (op.kind = 2)) = AV.bool (decide (isBy op)) by simp [isBy,hk1],H.tail⟩
def syncOp:OpV:=⟨5,[],[],[]⟩
theorem sync_ok (C:Code E) (H:Has h L):CallT E (.func n_sync [] []) [] h fun r h'=>r = opAV syncOp .nilslice∧Has h' L:=by
  refine CallT.body C.sync ?_;unfold BodyT c_sync;refine cS (cR ?_);refine wp_alloc H fun q1 h H=>?_
  refine oZ ?_;refine cS (cR ?_);refine oI rfl ?_;refine wp_store (k:=0) rfl rfl rfl (by first | rfl | exact len_of (DT.len _) | exact len_of (DE.len _) | exact len_of (DV.len _)) H rfl (fun k=>by first | exact spliceK_len (by first | exact DT.len _ | exact DE.len _ | exact DV.len _) k | rfl) fun h H=>?_
  refine oZ (cT ?_);refine ⟨trivial,_,resV_cell rfl (H.at 0 rfl) (fun _=>rfl) rfl,?_⟩;exact ⟨rfl,H.tail⟩
theorem clone_fr (C:Code E) (H:Has h L) (hs:BV L v l) (hn:l.length ≤ 100000000):CallT E (.func n_bclone [] []) [v] h fun r h'=>∃ N,Has h' (N++L)∧BV N r l:=by
  have CC:E.fn (DkN.mk 0 0 tyB n_bclone 0 0).nClone = some (.code (dkClone (DkN.mk 0 0 tyB n_bclone 0 0)) [.tmp (.lo .d0 .d2)]):=C.bclone
  by_cases hv:v = .nilslice
  · subst hv;have hl:l = []:=by
      rcases hs with ⟨_,rfl⟩ | ⟨_,_,e,_⟩ | ⟨_,_,_,_,_,_,e,_⟩
      · rfl
      · simp at e
      · simp at e
    subst hl;refine CallT.mono ?_ (clone_nil CC);rintro _ _ ⟨rfl,rfl⟩;exact ⟨[],H,.nil⟩
  · have hsl:IsSl v:=by
      rcases hs with ⟨e,_⟩ | ⟨_,_,rfl,_⟩ | ⟨_,_,_,_,_,_,rfl,_⟩
      · exact absurd e hv
      · exact trivial
      · exact trivial
    refine CallT.mono ?_ (clone_some CC H hsl (fun h' H'=>srcOf_BV H' hs) hn);rintro r h' ⟨p,rfl,H'⟩;exact ⟨[_],H',cvOf_BV⟩
theorem copied_ok (C:Code E) (H:Has h L) (hb0:BV L w op.b) (hn:op.b.length ≤ 100000000):CallT E (.func n_copied [] []) [opAV op w] h fun r h'=>∃ w',r = opAV op w'∧∃ N,Has h' (N++L)∧BV N w' op.b:=by
  refine CallT.body C.copied ?_;unfold BodyT c_copied;refine cS (cR ?_);refine wp_box rfl rfl H fun q1 h H=>?_
  have H0:=H;refine wp_alloc H fun q2 h H=>?_
  refine oZ ?_;refine cS (cR ?_);refine oI rfl ?_;refine oI (sem_load rfl (H.at 1 rfl) (fun _=>by first | rfl | exact hfs.part rfl | exact hos.part rfl | exact BV.part hw rfl | exact BV.part hb0 rfl)) ?_;refine wp_call rfl (clone_fr C H (hb0.mono fun x m=>mS _ (mS _ m)) hn) ?_;rintro w2 h ⟨N,H,hw2⟩;have H:Has h ((q1,_) :: (q2,_) :: (N++L)):=H.perm (List.perm_middle.trans ((List.Perm.cons _ List.perm_middle).trans (List.Perm.swap _ _ _)));refine oI rfl ?_;refine wp_store (k:=0) rfl rfl hw2.cells1 rfl H rfl (fun k=>rfl) fun h H=>?_
  refine oZ ?_;refine cS (cR ?_);refine oI (sem_load rfl (H.at 0 rfl) (fun _=>by first | rfl | exact hfs.part rfl | exact hos.part rfl | exact BV.part hw rfl | exact BV.part hb0 rfl)) ?_;refine wp_store (k:=1) rfl rfl rfl rfl H rfl (fun k=>rfl) fun h H=>?_
  refine oZ (cT ?_);refine ⟨trivial,_,resV_cell rfl (H.at 1 rfl) (fun _=>rfl) rfl,?_⟩;exact ⟨w2,rfl,N,H.tail.tail,hw2⟩
/-! ### a crash -/
def KsV (M:List (Pos × AObj)) (v:AV) (ks:List Int):Prop:=RowV M 1 v (ks.map (AV.int .i64)) ks.length
theorem KsV.mono {M':List (Pos × AObj)} {ks:List Int} (hk:KsV M v ks) (hm:∀ x ∈ M,x ∈ M'):KsV M' v ks:=RowV.mono hk hm
theorem KsV.at {j:Nat} {ks:List Int} (hk:KsV M v ks) (hj:j < ks.length):∃ r,PtrV M (adr v j 1) (.int .i64 ks[j] :: r):=by
  have h1:=adr_ptr hk hj;rw [Nat.mul_one] at h1;refine ⟨(ks.map (AV.int .i64)).drop (j + 1),?_⟩;rw [List.drop_eq_getElem_cons (by simpa using hj)] at h1
  simpa using h1
def tornOp (op:OpV) (k:Int):Option OpV:=if isBy op then (if 0 ≤ k then some { op with b:=op.b.take (min k.toNat op.b.length) } else none) else if k = 1 then some op else none
def badK (op:OpV) (k:Int):Prop:=if isBy op then k < -1 else (k ≠ 0∧k ≠ 1)
instance (op:OpV) (k:Int):Decidable (badK op k):=by unfold badK;exact inferInstance
def crashD (D:List FD) (op:OpV) (k:Int):List FD:=match tornOp op k with
  | none=>D
  | some op'=>if okV op' D then (verbD op' D).1 else D
def crashL:List FD→List (OpV × Int)→List FD
  | D,[]=>D
  | D,(op,k) :: l=>crashL (crashD D op k) l
theorem crashL_snoc:∀ {l:List (OpV × Int)} {D:List FD} {op:OpV} {k:Int},crashL D (l++[(op,k)]) = crashD (crashL D l) op k
  | [],_,_,_=>rfl
  | (_,_) :: l,_,_,_=>crashL_snoc (l:=l)
theorem crashD_ok {D:List FD} {k:Int} (h:OkF D):OkF (crashD D op k):=by
  unfold crashD
  cases tornOp op k with
  | none=>exact h
  | some op' =>
    dsimp only
    split
    · rename_i hv;exact applyD_ok h (if_pos hv)
    · exact h
theorem crashL_ok:∀ {l:List (OpV × Int)} {D:List FD},OkF D→OkF (crashL D l)
  | [],_,h=>h
  | (_,_) :: l,_,h=>crashL_ok (l:=l) (crashD_ok h)
theorem OkF.same {D D':List FD} (h:OkF D) (hs:SameD D' D) (hd:Dist D'):OkF D':=⟨hd,by rw [(hs.perm hd h.dist).length_eq];exact h.len,fun f hf=>h.ok f ((hs.perm hd h.dist).mem_iff.1 hf)⟩
theorem okV_same {D D':List FD} (hs:SameD D' D) (h1:Dist D') (h2:Dist D):okV op D' ↔ okV op D:=by
  have:=applyD_same (op:=op) hs h1 h2;unfold applyD at this
  by_cases a:okV op D' <;> by_cases b:okV op D <;> simp [a,b] at this ⊢
def badL (ops:List OpV) (ks:List Int):Prop:=∃ i,∃ (hi:i < ops.length) (hk:i < ks.length),badK ops[i] ks[i]
def CrashO (L:List (Pos × AObj)) (fs:List FD) (ops:List OpV) (ks:List Int) (r:AV) (h':Heap):Prop :=
  (nowS fs ops = none∧r = .tuple [.agg [.nilslice,.nilslice],.int .i64 370]∧Own h' L fun _=>True) ∨
  ((ops.length < ks.length∨badL ops ks)∧nowS fs ops ≠ none∧r = .tuple [.agg [.nilslice,.nilslice],.int .i64 1]∧Own h' L fun _=>True) ∨
  (ks.length ≤ ops.length∧¬ badL ops ks∧nowS fs ops ≠ none∧∃ fv',r = .tuple [.agg [fv',.nilslice],.int .i64 0]∧NewIn h' L fun M=>FsV M fv' (sortF (crashL fs (ops.zip ks))))
theorem minmax_sem {a b:Nat} (hx:x.val tm = some (.int .i64 (.ofNat a))) (hy:y.val tm = some (.int .i64 (.ofNat b))):(XI.minmax false [x,y]).sem tm h = .ok (.int .i64 (.ofNat (min a b))) h:=by
  have e:withL [x,y] tm = fun k=>k [.int .i64 (.ofNat a),.int .i64 (.ofNat b)]:=by
    funext k
    simp only [withL,withO_run hx,withO_run hy]
  simp only [XI.sem,minmaxS,e,minmaxL]
  by_cases hlt:b < a
  · have h1:ltI (.ofNat b) (.ofNat a) = true:=ltI_of hlt;simp only [h1];rw [Nat.min_eq_right (by omega)];rfl
  · have h1:ltI (.ofNat b) (.ofNat a) = false:=ltI_not hlt;simp only [h1];rw [Nat.min_eq_left (by omega)];rfl
theorem crash_loop1 (C:Code E) {ks:List Int} {q2 q4:Pos} (hos:OpsV L ov ops) (hks:KsV L kv ks) (hle:ks.length ≤ ops.length) (hmx:ops.length ≤ 9223372036854775807) (h2:(q2,AObj.row tyV [fv,ov] false) ∈ L) {_x6:AV} {Q:XExit→Tm→Heap→Prop}
    (hend:∀ tm h,¬ badL ops ks→Has h ((q4,.row tyV [.nilslice,.nilslice] false) :: L)→tm.get (.lo .d0 .d1) = some kv→tm.get (.lo .d0 .d2) = some (.ptr q2 0)→tm.get (.lo .d0 .d4) = some (.ptr q4 0)→Q (.exit 0) tm h)
    (hret:∀ tm h,badL ops ks→Has h ((q4,.row tyV [.nilslice,.nilslice] false) :: L)→tm.get (.lo .d0 .d4) = some (.ptr q4 0)→tm.get (.lo .d0 .d5) = some (.int .i64 1)→Q .ret tm h) :
    ∀ (k j:Nat),ks.length - j = k→(∀ i (hi:i < ops.length) (hk:i < ks.length),i < j→¬ badK ops[i] ks[i])→∀ (tm:Tm) (h:Heap),Has h ((q4,.row tyV [.nilslice,.nilslice] false) :: L)→tm.get (.lo .d0 .d1) = some kv→tm.get (.lo .d0 .d2) = some (.ptr q2 0)→tm.get (.lo .d0 .d4) = some (.ptr q4 0)→tm.get (.lo .d1 .d13) = some kv→tm.get (.lo .d1 .d14) = some (.int .i64 (.ofNat ks.length))→tm.get (.lo .d1 .d15) = some (.int .i64 (.ofNat j))→LoopT E c_crash_b0 Q tm h:=by
  intro k
  induction k using Nat.strongRecOn with
  | ind k ih =>
    intro j hk hall tm h H e1 e2 e4 e29 e30 e31;obtain ⟨tm,rfl⟩:=sets6 e1 e2 e4 e29 e30 e31;refine LoopT.wp ?_;unfold c_crash_b0;refine cS (cR ?_);refine wp_bool rfl (fun hb1=>?_) (fun hb1=>?_)
    · have hj := of_ltN hb1;have hjo:j < ops.length:=by omega
      obtain ⟨rk,hpk⟩:=hks.at hj;obtain ⟨w,r,hw,hp⟩:=hos.at hjo;refine oZ (cS (cC rfl (cK (cS (cB ?_)))));refine cS (cR ?_);refine oI rfl ?_;refine oI (iaddr_sem hks (by decide) hj rfl rfl) ?_;refine oI (load1_sem (H.tail) hpk (by simp) rfl) ?_;refine oI rfl (oI rfl (oZ ?_));refine cS (cR ?_);refine oI rfl ?_;refine oI (sem_load rfl ((H.tail).mem (x:=(q2,_)) h2) (fun _=>hos.part rfl)) ?_;refine oI rfl (oI (iaddrO_sem hos hjo rfl rfl) ?_);refine oI (loadN_sem (k:=4) (H.tail) hp (by simp) rfl) ?_;refine wp_call rfl (isBytes_ok (op:=ops[j]) C H (hw.mono fun x m=>mS _ (m))) ?_;rintro _ h ⟨rfl,H⟩
      by_cases hby:isBy ops[j]
      · rw [decide_eq_true hby];refine oI rfl (oN rfl (oI rfl (oN rfl ?_)));refine wp_bool rfl (fun hb2=>?_) (fun hb2=>?_)
        · have hlt:=ltI_lt hb2
          try simp only [ofNat_cast] at hlt
          refine oI rfl (oI rfl (oF rfl (oF rfl (oF rfl (oF rfl (oF rfl (oF rfl (oF rfl (oF rfl (oU rfl (oU rfl ?_)))))))))));refine oF rfl (oF rfl (oU rfl (oU rfl (oF rfl (oI rfl (oZ (cC rfl ?_)))))));refine cS (cR ?_);refine oI rfl ?_;refine wp_store (k:=0) rfl rfl rfl (by first | rfl | exact len_of (DT.len _) | exact len_of (DE.len _) | exact len_of (DV.len _)) H rfl (fun k=>by first | exact spliceK_len (by first | exact DT.len _ | exact DE.len _ | exact DV.len _) k | rfl) fun h H=>?_
          refine oI rfl (oZ (cT ?_));have hnb:badK ops[j] ks[j]:=by unfold badK;rw [if_pos hby];omega
          exact hret _ _ ⟨j,hjo,hj,hnb⟩ H rfl rfl
        · have hlt:=ltI_ge hb2
          try simp only [ofNat_cast] at hlt
          refine oI rfl (oI rfl (oN rfl (oI rfl (oN rfl ?_))));refine oI (sem_load rfl ((H.tail).mem (x:=(q2,_)) h2) (fun _=>hos.part rfl)) ?_;refine oN rfl (oI rfl (oN rfl (oI (iaddrO_sem hos hjo rfl rfl) (oN rfl ?_))));refine oI (loadN_sem (k:=4) (H.tail) hp (by simp) rfl) ?_;refine oN rfl ?_;refine wp_call rfl (isBytes_ok (op:=ops[j]) C H (hw.mono fun x m=>mS _ (m))) ?_;rintro _ h ⟨rfl,H⟩;rw [decide_eq_true hby];refine oN rfl (oI rfl (oN rfl (oI rfl (oF rfl (oF rfl (oN rfl (oI rfl (oN rfl (oI rfl (oF rfl (oF rfl ?_)))))))))));refine oN rfl (oI rfl (oI rfl (oZ (cF rfl (cK (cR ?_))))));refine oI (sem_int rfl (w64_succ (by omega))) ?_;refine oI rfl (oZ ?_);have hnb : ¬ badK ops[j] ks[j]:=by unfold badK;rw [if_pos hby];omega
          have hall2:∀ i (hi:i < ops.length) (hk:i < ks.length),i < j + 1→¬ badK ops[i] ks[i]:=fun i hi hk hij=>by
            rcases Nat.lt_or_ge i j with h1 | h1
            · exact hall i hi hk h1
            · obtain rfl:i = j:=by omega
              exact hnb
          exact ih (ks.length - (j + 1)) (by omega) (j + 1) rfl hall2 _ _ H rfl rfl rfl rfl rfl rfl
      · rw [decide_eq_false hby];refine oI rfl (oF rfl (oF rfl (oI rfl (oI rfl (oN rfl (oI rfl (oN rfl ?_)))))));refine oI (sem_load rfl ((H.tail).mem (x:=(q2,_)) h2) (fun _=>hos.part rfl)) ?_;refine oN rfl (oI rfl (oN rfl (oI (iaddrO_sem hos hjo rfl rfl) (oN rfl ?_))));refine oI (loadN_sem (k:=4) (H.tail) hp (by simp) rfl) ?_;refine oN rfl ?_;refine wp_call rfl (isBytes_ok (op:=ops[j]) C H (hw.mono fun x m=>mS _ (m))) ?_;rintro _ h ⟨rfl,H⟩;rw [decide_eq_false hby];refine oN rfl (oI rfl (oN rfl (oI rfl (oN rfl (oI rfl (oN rfl (oI (neInt_sem rfl rfl) ?_)))))))
        by_cases hk0:ks[j] ≠ 0
        · rw [decide_eq_true hk0];refine oN rfl (oI rfl (oN rfl (oI rfl (oN rfl (oI rfl (oN rfl (oI (neInt_sem rfl rfl) ?_)))))))
          by_cases hk1:ks[j] ≠ 1
          · rw [decide_eq_true hk1];refine oN rfl (oI rfl (oI rfl (oZ (cC rfl ?_))));refine cS (cR ?_);refine oI rfl ?_;refine wp_store (k:=0) rfl rfl rfl (by first | rfl | exact len_of (DT.len _) | exact len_of (DE.len _) | exact len_of (DV.len _)) H rfl (fun k=>by first | exact spliceK_len (by first | exact DT.len _ | exact DE.len _ | exact DV.len _) k | rfl) fun h H=>?_
            refine oI rfl (oZ (cT ?_));have hnb:badK ops[j] ks[j]:=by unfold badK;rw [if_neg hby];exact ⟨hk0,hk1⟩
            exact hret _ _ ⟨j,hjo,hj,hnb⟩ H rfl rfl
          · rw [decide_eq_false hk1];refine oN rfl (oI rfl (oI rfl (oZ (cF rfl (cK (cR ?_))))));refine oI (sem_int rfl (w64_succ (by omega))) ?_;refine oI rfl (oZ ?_);have hnb : ¬ badK ops[j] ks[j]:=by unfold badK;rw [if_neg hby];omega
            have hall2:∀ i (hi:i < ops.length) (hk:i < ks.length),i < j + 1→¬ badK ops[i] ks[i]:=fun i hi hk hij=>by
              rcases Nat.lt_or_ge i j with h1 | h1
              · exact hall i hi hk h1
              · obtain rfl:i = j:=by omega
                exact hnb
            exact ih (ks.length - (j + 1)) (by omega) (j + 1) rfl hall2 _ _ H rfl rfl rfl rfl rfl rfl
        · rw [decide_eq_false hk0];refine oN rfl (oI rfl (oN rfl (oI rfl (oF rfl (oF rfl (oN rfl (oI rfl (oI rfl (oZ (cF rfl (cK ?_)))))))))));refine cR ?_;refine oI (sem_int rfl (w64_succ (by omega))) ?_;refine oI rfl (oZ ?_);have hnb : ¬ badK ops[j] ks[j]:=by unfold badK;rw [if_neg hby];omega
          have hall2:∀ i (hi:i < ops.length) (hk:i < ks.length),i < j + 1→¬ badK ops[i] ks[i]:=fun i hi hk hij=>by
            rcases Nat.lt_or_ge i j with h1 | h1
            · exact hall i hi hk h1
            · obtain rfl:i = j:=by omega
              exact hnb
          exact ih (ks.length - (j + 1)) (by omega) (j + 1) rfl hall2 _ _ H rfl rfl rfl rfl rfl rfl
    · have hj:=of_geN hb1;refine oZ (cS (cF rfl (cX ?_)));exact hend _ _ (fun ⟨i,hi,hk,hbad⟩=>hall i hi hk (by omega) hbad) H rfl rfl rfl
def CrInv (h:Heap) (L:List (Pos × AObj)) (qm:Pos) (D:List FD):Prop:=∃ D',MapAt h L qm D'∧SameD D' D∧Dist D'
theorem crash_loop2 (C:Code E) {ks:List Int} {q2 q4 qm:Pos} (hos:OpsV L ov ops) (hks:KsV L kv ks) (hle:ks.length ≤ ops.length) (hmx:ops.length ≤ 9223372036854775807) (hop:∀ op ∈ ops,okOp op) (hfo:OkF fs) (h2:(q2,AObj.row tyV [fv,ov] false) ∈ L) {Q:XExit→Tm→Heap→Prop}
    (hend:∀ tm h,CrInv h L qm (crashL fs (ops.zip ks))→tm.get (.lo .d0 .d4) = some (.ptr q4 0)→tm.get (.lo .d0 .d10) = some (.map qm)→Q (.exit 2) tm h) :
    ∀ (k j:Nat),ks.length - j = k→j ≤ ks.length→∀ (tm:Tm) (h:Heap),CrInv h L qm (crashL fs ((ops.zip ks).take j))→tm.get (.lo .d0 .d2) = some (.ptr q2 0)→tm.get (.lo .d0 .d4) = some (.ptr q4 0)→tm.get (.lo .d0 .d10) = some (.map qm)→tm.get (.lo .d4 .d4) = some kv→tm.get (.lo .d4 .d5) = some (.int .i64 (.ofNat ks.length))→tm.get (.lo .d4 .d6) = some (.int .i64 (.ofNat j))→LoopT E c_crash_b1 Q tm h:=by
  intro k
  induction k using Nat.strongRecOn with
  | ind k ih =>
    intro j hk hjl tm h hI e2 e4 e10 e68 e69 e70;obtain ⟨tm,rfl⟩:=sets6 e2 e4 e10 e68 e69 e70;obtain ⟨D,⟨M,es,cl,hL,H,hM⟩,hsame,hdist⟩:=hI;have hok:=(crashL_ok (l:=(ops.zip ks).take j) hfo).same hsame hdist;refine LoopT.wp ?_;unfold c_crash_b1;refine cS (cR ?_);refine wp_bool rfl (fun hb1=>?_) (fun hb1=>?_)
    · have hj:=of_ltN hb1;have hjo:j < ops.length:=by omega
      obtain ⟨rk,hpk⟩:=hks.at hj;obtain ⟨w,r,hw,hp⟩:=hos.at hjo;obtain ⟨hbo1,hbo2,hbo3⟩:=hop _ (List.getElem_mem hjo);obtain ⟨hb1,hb2,hb3⟩:=hop _ (List.getElem_mem hjo);have hstep:crashL fs ((ops.zip ks).take (j + 1)) = crashD (crashL fs ((ops.zip ks).take j)) ops[j] ks[j]:=by
        have hjz:j < (ops.zip ks).length:=by rw [List.length_zip];omega
        rw [List.take_add_one,List.getElem?_eq_getElem hjz,Option.toList_some,List.getElem_zip,crashL_snoc]
      refine oZ (cS (cC rfl (cK (cS (cB ?_)))));refine cS (cR ?_);refine oI rfl ?_;refine oI (iaddr_sem hks (by decide) hj rfl rfl) ?_;refine oI (load1_sem H (hpk.mono fun x m=>mS _ (hL x m)) (by simp) rfl) ?_;refine oI rfl (oI rfl (oZ ?_));refine cS (cR ?_);refine oI rfl ?_;refine oI (sem_load rfl (H.mem (x:=(q2,_)) (mS _ (hL _ h2))) (fun _=>hos.part rfl)) ?_;refine oI rfl (oI (iaddrO_sem hos hjo rfl rfl) ?_);refine oI (loadN_sem (k:=4) H (hp.mono fun x m=>mS _ (hL x m)) (by simp) rfl) ?_;refine wp_alloc H fun q13 h H=>?_
      refine wp_store (k:=0) rfl rfl rfl rfl H rfl (fun k=>rfl) fun h H=>?_
      refine oZ (cS (cB ?_));refine cS (cR ?_);refine oI (sem_load rfl (H.at 0 rfl) (fun _=>by first | rfl | exact hfs.part rfl | exact hos.part rfl | exact BV.part hw rfl | exact BV.part hb0 rfl)) ?_;refine wp_call rfl (isBytes_ok (op:=ops[j]) C H (hw.mono fun x m=>mS _ (mS _ (hL x m)))) ?_;rintro _ h ⟨rfl,H⟩
      by_cases hby:isBy ops[j]
      · rw [decide_eq_true hby];refine oI rfl (oN rfl (oI rfl (oN rfl ?_)));refine wp_bool rfl (fun hb2=>?_) (fun hb2=>?_)
        · have hge:=leI_le hb2;obtain ⟨kn,hkn⟩:∃ kn:Nat,ks[j] = .ofNat kn:=⟨ks[j].toNat,by rw [ofNat_cast];omega⟩;rw [hkn];have hwc:=hw.cut (b:=0) (e:=min kn ops[j].b.length) (Nat.zero_le _) (Nat.min_le_right _ _);refine oI rfl (oI rfl (oZ (cC rfl (cR (oI rfl ?_)))));refine oI (sem_load rfl (H.at 0 rfl) (fun _=>by first | rfl | exact hfs.part rfl | exact hos.part rfl | exact BV.part hw rfl | exact BV.part hb0 rfl)) ?_;refine oI rfl (oI rfl ?_);refine oI (sem_load rfl (H.at 0 rfl) (fun _=>by first | rfl | exact hfs.part rfl | exact hos.part rfl | exact BV.part hw rfl | exact BV.part hb0 rfl)) ?_;refine oI (len_BV hw rfl) (oI (minmax_sem rfl rfl) ?_);refine oI (cutB_sem (b:=0) (e:=min kn ops[j].b.length) hw rfl (fun _=>rfl) (fun _=>rfl) (Nat.zero_le _) (Nat.min_le_right _ _)) ?_;refine oI rfl ?_;refine wp_store (k:=0) rfl rfl hwc.cells1 rfl H rfl (fun k=>rfl) fun h H=>?_
          refine oZ (cR (oI rfl ?_));refine oI (sem_load rfl (H.at 0 rfl) (fun _=>by first | rfl | exact hfs.part rfl | exact hos.part rfl | exact BV.part hw rfl | exact BV.part hb0 rfl)) ?_;have hwc':BV L (cutB w 0 (min kn ops[j].b.length)) (ops[j].b.take (min kn ops[j].b.length)):=by simpa using hwc
          have htn:tornOp ops[j] ks[j] = some ({ ops[j] with b:=ops[j].b.take (min kn ops[j].b.length) }):=by unfold tornOp;rw [if_pos hby,if_pos (by omega),hkn];rfl
          have H:=Has.front H 1 rfl;refine wp_call rfl (apply_ok C (L:=L) (op:={ ops[j] with b:=ops[j].b.take (min kn ops[j].b.length) }) ⟨_,es,cl,fun x m=>mS _ (hL x m),H,hM.mono fun x m=>mS _ m⟩ hok hwc' (by simp;omega) hbo2 hbo3) ?_;rintro _ h ⟨D2,rfl,hD2,hyes,hnot⟩;have hI2:CrInv h L qm (crashL fs ((ops.zip ks).take (j + 1))):=by
            rw [hstep];unfold crashD;rw [htn];have hd0:=(crashL_ok (l:=(ops.zip ks).take j) hfo).dist;have hvs:=okV_same (op:={ ops[j] with b:=ops[j].b.take (min kn ops[j].b.length) }) hsame hdist hd0;dsimp only
            by_cases hv:okV ({ ops[j] with b:=ops[j].b.take (min kn ops[j].b.length) }) D
            · rw [if_pos (hvs.1 hv)];obtain rfl:=hyes hv;exact ⟨_,hD2,(verbD_same hsame hdist hd0).1,verbD_dist hdist⟩
            · rw [if_neg (fun hv'=>hv (hvs.2 hv'))];obtain ⟨hs2,hd2⟩:=hnot hv;exact ⟨D2,hD2,hs2.trans hsame,hd2⟩
          refine oZ (cR ?_);refine oI (sem_int rfl (w64_succ (by omega))) ?_;refine oI rfl (oZ ?_);exact ih (ks.length - (j + 1)) (by omega) (j + 1) rfl hj _ _ hI2 rfl rfl rfl rfl rfl rfl
        · have hge:=leI_gt hb2;refine oI rfl (oI rfl (oZ (cF rfl ?_)));refine cS (cR ?_);refine oI (sem_load rfl (H.at 0 rfl) (fun _=>by first | rfl | exact hfs.part rfl | exact hos.part rfl | exact BV.part hw rfl | exact BV.part hb0 rfl)) ?_;refine wp_call rfl (isBytes_ok (op:=ops[j]) C H (hw.mono fun x m=>mS _ (mS _ (hL x m)))) ?_;rintro _ h ⟨rfl,H⟩;rw [decide_eq_true hby];refine oI rfl (oI rfl (oF rfl (oF rfl (oI rfl (oI rfl (oZ (cF rfl (cX ?_))))))));simp only [reduceIte,Nat.reduceEqDiff];refine cR ?_;refine oI (sem_int rfl (w64_succ (by omega))) ?_;refine oI rfl (oZ ?_);have htn:tornOp ops[j] ks[j] = none:=by unfold tornOp;rw [if_pos hby,if_neg (by omega)]
          have H:=Has.front H 1 rfl;have hI2:CrInv h L qm (crashL fs ((ops.zip ks).take (j + 1))):=by
            rw [hstep];unfold crashD;rw [htn];exact ⟨D,⟨_,es,cl,fun x m=>mS _ (hL x m),H,hM.mono fun x m=>mS _ m⟩,hsame,hdist⟩
          exact ih (ks.length - (j + 1)) (by omega) (j + 1) rfl hj _ _ hI2 rfl rfl rfl rfl rfl rfl
      · rw [decide_eq_false hby];refine oI rfl (oF rfl (oF rfl (oI rfl (oI rfl (oZ (cF rfl ?_))))));refine cS (cR ?_);refine oI (sem_load rfl (H.at 0 rfl) (fun _=>by first | rfl | exact hfs.part rfl | exact hos.part rfl | exact BV.part hw rfl | exact BV.part hb0 rfl)) ?_;refine wp_call rfl (isBytes_ok (op:=ops[j]) C H (hw.mono fun x m=>mS _ (mS _ (hL x m)))) ?_;rintro _ h ⟨rfl,H⟩;rw [decide_eq_false hby];refine oI rfl (oI rfl (oN rfl (oI rfl (oN rfl (oI (eqInt_sem rfl rfl) ?_)))))
        by_cases hk1:ks[j] = 1
        · rw [decide_eq_true hk1];refine oI rfl (oI rfl (oZ (cC rfl (cK (cR (oI rfl ?_))))));refine oI (sem_load rfl (H.at 0 rfl) (fun _=>by first | rfl | exact hfs.part rfl | exact hos.part rfl | exact BV.part hw rfl | exact BV.part hb0 rfl)) ?_;have htn:tornOp ops[j] ks[j] = some ops[j]:=by unfold tornOp;rw [if_neg hby,if_pos hk1]
          have H:=Has.front H 1 rfl;refine wp_call rfl (apply_ok C (L:=L) (op:=ops[j]) ⟨_,es,cl,fun x m=>mS _ (hL x m),H,hM.mono fun x m=>mS _ m⟩ hok hw hbo1 hbo2 hbo3) ?_;rintro _ h ⟨D2,rfl,hD2,hyes,hnot⟩;have hI2:CrInv h L qm (crashL fs ((ops.zip ks).take (j + 1))):=by
            rw [hstep];unfold crashD;rw [htn];have hd0:=(crashL_ok (l:=(ops.zip ks).take j) hfo).dist;have hvs:=okV_same (op:=ops[j]) hsame hdist hd0;dsimp only
            by_cases hv:okV (ops[j]) D
            · rw [if_pos (hvs.1 hv)];obtain rfl:=hyes hv;exact ⟨_,hD2,(verbD_same hsame hdist hd0).1,verbD_dist hdist⟩
            · rw [if_neg (fun hv'=>hv (hvs.2 hv'))];obtain ⟨hs2,hd2⟩:=hnot hv;exact ⟨D2,hD2,hs2.trans hsame,hd2⟩
          refine oZ (cR ?_);refine oI (sem_int rfl (w64_succ (by omega))) ?_;refine oI rfl (oZ ?_);exact ih (ks.length - (j + 1)) (by omega) (j + 1) rfl hj _ _ hI2 rfl rfl rfl rfl rfl rfl
        · rw [decide_eq_false hk1];refine oI rfl (oI rfl (oZ (cF rfl (cX ?_))));simp only [reduceIte,Nat.reduceEqDiff];refine cR ?_;refine oI (sem_int rfl (w64_succ (by omega))) ?_;refine oI rfl (oZ ?_);have htn:tornOp ops[j] ks[j] = none:=by unfold tornOp;rw [if_neg hby,if_neg hk1]
          have H:=Has.front H 1 rfl;have hI2:CrInv h L qm (crashL fs ((ops.zip ks).take (j + 1))):=by
            rw [hstep];unfold crashD;rw [htn];exact ⟨D,⟨_,es,cl,fun x m=>mS _ (hL x m),H,hM.mono fun x m=>mS _ m⟩,hsame,hdist⟩
          exact ih (ks.length - (j + 1)) (by omega) (j + 1) rfl hj _ _ hI2 rfl rfl rfl rfl rfl rfl
    · have hj:=of_geN hb1;refine oZ (cS (cF rfl (cX ?_)));obtain rfl:j = ks.length:=by omega
      have hzl:(ops.zip ks).take ks.length = ops.zip ks:=List.take_of_length_le (by rw [List.length_zip];omega);rw [hzl] at hsame;exact hend _ _ ⟨D,⟨M,es,cl,hL,H,hM⟩,hsame,hdist⟩ rfl rfl
theorem nowS_okS {D:List FD} (h:nowS fs ops = some D):okS fs:=by
  unfold nowS at h
  split at h
  · rename_i hk;exact hk.1
  · simp at h
theorem crash_ok (C:Code E) (CD:E.fn n_disk = some (.con (diskV tyF tyB))) {ks:List Int} (H:Has h L) (hfs:FsV L fv fs) (hos:OpsV L ov ops) (hks:KsV L kv ks) (hnl:∀ f ∈ fs,f.1.length ≤ maxN) (hbl:∀ f ∈ fs,f.2.length ≤ maxN) (hml:fs.length ≤ maxN) (hmo:ops.length ≤ maxN) (hmk:ks.length ≤ maxN) (hop:∀ op ∈ ops,okOp op) :
    CallT E (.func n_crash [] []) [.agg [fv,ov],kv] h (CrashO L fs ops ks):=by
  have hmx:ops.length ≤ 9223372036854775807:=hmo;have hmk':ks.length ≤ 9223372036854775807:=hmk;refine CallT.body C.crash ?_;unfold BodyT c_crash;refine cS (cR ?_);refine wp_box rfl rfl H fun q1 h H=>?_
  refine wp_alloc H fun q4 h H=>?_
  have H1:=H;refine oI rfl (oZ (cS ?_));refine cS (cR ?_);refine oI (sem_load rfl (H.at 1 rfl) (fun _=>by first | rfl | exact hos.part rfl)) ?_;refine wp_call rfl (now_ok C H (hfs.mono (fun x m=>mS _ (mS _ m))) (hos.mono (fun x m=>mS _ (mS _ m))) hnl hbl hml hmo hop) ?_;rintro r h hN;unfold NowR at hN
  cases hn:nowS fs ops
  · rw [hn] at hN;obtain ⟨rfl,M,hM1,H,_⟩:=hN;obtain ⟨K,H,_,hK⟩:=Has.own (N:=[]) H (hM1 _ m0);have HM:∀ x ∈ _,x ∈ M:=hM1;have hK2:(q1,AObj.row tyV [fv,ov] false) ∈ K:=hK _ (HM _ (mS _ m0)) fun e=>(List.pairwise_cons.1 H1.2).1 _ m0 e.symm
    have hKL:∀ x ∈ L,x ∈ K:=fun x m=>hK _ (HM _ (mS _ (mS _ m))) fun e=>(List.pairwise_cons.1 H1.2).1 _ (mS _ m) e.symm
    refine oI rfl (oI rfl (oI rfl (oI rfl (oI rfl (oZ ?_)))));refine cS (cR ?_);refine oI rfl (oI rfl (oZ (cC rfl ?_)));refine cS (cR ?_);refine oI rfl ?_;refine wp_store (k:=0) rfl rfl rfl rfl H rfl (fun k=>rfl) fun h H=>?_
    refine oI rfl (oZ (cT ?_));refine ⟨trivial,_,resV_cell rfl (H.at 0 rfl) (fun _=>rfl) rfl,?_⟩;exact .inl ⟨hn,rfl,_,fun x m=>mS _ (hKL x m),H,trivial⟩
  · rename_i D
    rw [hn] at hN;obtain ⟨q,rfl,M,es0,cl0,hM1,H,_⟩:=hN;obtain ⟨K,H,_,hK⟩:=Has.own (N:=[_]) H (hM1 _ m0);have HM:∀ x ∈ _,x ∈ M:=hM1;have hK2:(q1,AObj.row tyV [fv,ov] false) ∈ K:=hK _ (HM _ (mS _ m0)) fun e=>(List.pairwise_cons.1 H1.2).1 _ m0 e.symm
    have hKL:∀ x ∈ L,x ∈ K:=fun x m=>hK _ (HM _ (mS _ (mS _ m))) fun e=>(List.pairwise_cons.1 H1.2).1 _ (mS _ m) e.symm
    have hks0:=nowS_okS hn;have hosK:=hos.mono hKL;have hksK:=hks.mono hKL;refine oI rfl (oI rfl (oI rfl (oI rfl (oI rfl (oZ ?_)))));refine cS (cR ?_);refine oI rfl (oI rfl (oZ (cF rfl (cK (cS ?_)))));refine cS (cR ?_);refine oI rfl (oI (len_RowV hks rfl) (oI rfl ?_));refine oI (sem_load rfl (H.mem (x:=(q1,_)) (mS _ hK2)) (fun _=>hos.part rfl)) ?_;refine oI (lenO_sem hos rfl) ?_;refine wp_bool rfl (fun hb2=>?_) (fun hb2=>?_)
    · have hgt:=ltI_lt hb2
      try simp only [ofNat_cast] at hgt
      refine oZ (cC rfl ?_);refine cS (cR ?_);refine oI rfl ?_;refine wp_store (k:=0) rfl rfl rfl rfl H rfl (fun k=>rfl) fun h H=>?_
      refine oI rfl (oZ (cT ?_));refine ⟨trivial,_,resV_cell rfl (H.at 0 rfl) (fun _=>rfl) rfl,?_⟩;exact .inr (.inl ⟨.inl (by omega),(by rw [hn];simp),rfl,_,fun x m=>mS _ (hKL x m),H,trivial⟩)
    · have hgt:=ltI_ge hb2
      try simp only [ofNat_cast] at hgt
      refine oZ (cF rfl (cK (cS ?_)));refine cS (cR ?_);refine oI rfl (oI (len_RowV hks rfl) (oI rfl (oZ (cB ?_))));refine wpC_loop (crash_loop1 (_x6:=.nilslice) C (L:=K) hosK hksK (by omega) hmx hK2 (fun tm h hnb H e1 e2 e4=>?_) (fun tm h hbd H e4 e5=>?_) (ks.length - 0) 0 rfl (fun i hi hk h0=>absurd h0 (Nat.not_lt_zero _)) _ _ H rfl rfl rfl rfl rfl rfl)
      · obtain ⟨tm,rfl⟩:=sets3 e1 e2 e4;refine cS (cR ?_);refine oI rfl ?_;refine oI (sem_load rfl (H.mem (x:=(q1,_)) (mS _ hK2)) (fun _=>rfl)) ?_;refine wp_call rfl (opened_ok C H hks0 (hfs.mono fun x m=>mS _ (hKL x m))) ?_;rintro _ h ⟨qm,es,cl,rfl,H,hM⟩;refine oI rfl (oZ (cS ?_));refine cS (cR ?_);refine oI rfl (oI (len_RowV hks rfl) (oI rfl (oZ (cB ?_))));refine wpC_loop (crash_loop2 C (L:=(q4,AObj.row tyV [.nilslice,.nilslice] false) :: K) (fs:=fs) (hosK.mono fun x m=>mS _ m) (hksK.mono fun x m=>mS _ m) (by omega) hmx hop (okS_okF hks0) (mS _ hK2) (fun tm h hI e4 e10=>?_) (ks.length - 0) 0 rfl (Nat.zero_le _) _ _ ⟨fs,⟨_,es,cl,fun _ m=>m,H,hM⟩,fun _=>rfl,(okS_okF hks0).dist⟩ rfl rfl rfl rfl rfl rfl);obtain ⟨tm,rfl⟩:=sets2 e4 e10;obtain ⟨D2,⟨M2,es2,cl2,hL2,H,hM2⟩,hsame,hdist⟩:=hI;refine cS (cR ?_);refine oI rfl (wp_call rfl (disk_ok CD H hM2 ((crashL_ok (okS_okF hks0)).same hsame hdist)) ?_);rintro _ h ⟨fv2,rfl,N,H,hfv⟩;have H0:=H;obtain ⟨K2,H,hN2,hK3⟩:=H.own (mS _ (hL2 _ m0));refine oI rfl ?_;refine wp_store (k:=0) rfl rfl rfl rfl H rfl (fun k=>rfl) fun h H=>?_
        refine oI rfl (oZ (cT ?_));refine ⟨trivial,_,resV_cell rfl (H.at 0 rfl) (fun _=>rfl) rfl,?_⟩;have hso:=hsame.sort_eq hdist (crashL_ok (l:=ops.zip ks) (okS_okF hks0)).dist;rw [hso] at hfv;refine .inr (.inr ⟨by omega,hnb,(by rw [hn];simp),fv2,rfl,_,N,fun x m=>mS _ (hK3 x (mS _ (hL2 x (mS _ (hKL x m)))) fun e=>?_),H,fun x m=>mS _ (hN2 x m),fun x mx y my=>(List.pairwise_append.1 H0.2).2.2 x mx y (mS _ (hL2 y (mS _ (hKL y my)))),hfv⟩);exact (List.pairwise_cons.1 H1.2).1 x (mS _ m) e.symm
      · obtain ⟨tm,rfl⟩:=sets2 e4 e5;refine ⟨trivial,_,resV_cell rfl (H.at 0 rfl) (fun _=>rfl) rfl,?_⟩;exact .inr (.inl ⟨.inr hbd,(by rw [hn];simp),rfl,_,fun x m=>mS _ (hKL x m),H,trivial⟩)
end
end Go.X
