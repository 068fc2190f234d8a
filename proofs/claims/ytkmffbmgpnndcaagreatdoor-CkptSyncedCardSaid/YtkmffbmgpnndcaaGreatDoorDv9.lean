/- Apply. -/
import Derived.Test.YtkmffbmgpnndcaaGreatDoorDvDisk
import Derived.Test.YtkmffbmgpnndcaaGreatDoorDkData
namespace Go.X
open Go
section
variable {E:XEnv} {d:Option Slot} {opl:List XOp} {Q:Tm→Heap→Prop} {tm:Tm} {x y:XO} {h:Heap} {L M K:List (Pos × AObj)} {v w fv ov pv:AV} {l m:List Nat} {fs:List FD} {ops:List OpV} {op:OpV} {cs:List AV}
theorem OpB.snoc (t:OpB M cs ops) (hb:BV M w op.b):OpB M (cs++[.int .i64 op.kind,.str op.name,.str op.to,w]) (ops++[op]):=by
  induction t with
  | nil=>exact .cons hb .nil
  | cons hb' _ ih=>exact .cons hb' ih
def ClipV (M:List (Pos × AObj)) (v:AV) (cs:List AV) (n:Nat):Prop:=cs.length = n * 4∧((v = .nilslice∧n = 0)∨v = .imm cs n true∨∃ p ty sp,v = .slice p 0 n (.ex n)∧(p,AObj.row ty cs sp) ∈ M)
def capOK4 (n:Nat):Cap→Prop
  | .ex c=>n ≤ c
  | .up z=>z = 4
theorem clip4_sem {z:XO} {n:Nat} (hr:RowV M 4 v cs n) (hcap:∀ p o m c,v = .slice p o m c→capOK4 m c) (hv:x.val tm = some v) (hy:y.val tm = some (.int .i64 (.ofNat n))) (hz:z.val tm = some (.int .i64 (.ofNat n))):∃ v',(XI.cutSl 4 x none (some y) (some z)).sem tm h = .ok v' h∧ClipV M v' cs n:=by
  have hyn:∀ (k:Nat) (f:Nat→Out AV),withNo (some y) k tm f = f n:=fun k f=>by simp only [withNo,XO.withN,XO.withI,withO_run hy]
  have hzn:∀ (k:Nat) (f:Nat→Out AV),withNo (some z) k tm f = f n:=fun k f=>by simp only [withNo,XO.withN,XO.withI,withO_run hz]
  have hzf:∀ (f:Nat→Out AV),z.withN tm f = f n:=fun f=>by simp only [XO.withN,XO.withI,withO_run hz]
  have h0:∀ (f:Nat→Out AV),withNo none 0 tm f = f 0:=fun _=>rfl
  obtain ⟨hl,hr⟩:=hr
  rcases hr with ⟨rfl,rfl⟩ | ⟨fu,rfl⟩ | ⟨p,cap,ty,sp,rfl,hm⟩
  · refine ⟨.nilslice,?_,hl,.inl ⟨rfl,rfl⟩⟩;simp only [XI.sem,cutSlS,withO_run hv,hyn,h0,hzn]
  · refine ⟨.imm cs n true,?_,hl,.inr (.inl rfl)⟩;have h1:Nat.ble 0 n = true:=Nat.ble_eq_true_of_le (Nat.zero_le _);have h2:Nat.ble n n = true:=Nat.ble_eq_true_of_le (Nat.le_refl _);have h3:Nat.beq n n = true:=Nat.beq_refl _;simp only [XI.sem,cutSlS,withO_run hv,hyn,h0,hzf,h1,h2,h3,Nat.zero_mul,dropE,Nat.sub_zero]
  · refine ⟨.slice p 0 n (.ex n),?_,hl,.inr (.inr ⟨p,ty,sp,rfl,hm⟩)⟩;have hc:=hcap _ _ _ _ rfl;have h1:Nat.ble 0 n = true:=Nat.ble_eq_true_of_le (Nat.zero_le _);have h2:Nat.ble n n = true:=Nat.ble_eq_true_of_le (Nat.le_refl _)
    cases cap with
    | ex c =>
      have h3:Nat.ble n c = true:=Nat.ble_eq_true_of_le hc;simp only [XI.sem,cutSlS,withO_run hv,hyn,h0,hzn,h1,h2,h3];simp
    | up zz =>
      have hz4:zz = 4:=hc;subst hz4;have h4:Nat.beq 4 4 = true:=rfl;simp only [XI.sem,cutSlS,withO_run hv,hyn,h0,hzf,h1,h2];simp
theorem wp_clipApp {xs:List AV} {n:Nat} {pn:Pos} {ty:TypeId} {sp:Bool} (hv:ClipV M v cs n) (hM:∀ x ∈ M,x ∈ K) (H:Has h K) (hn:n ≤ 1000000) (hxs:xs.length = 4) (hp:(pn,AObj.row ty xs sp) ∈ K) (hx:x.val tm = some v) (hy:y.val tm = some (.slice pn 0 1 (.ex 1)))
    (hq:∀ p h',Has h' ((p,.row tyO (cs++xs) true) :: K)→wpOps E opl Q (putT d (.slice p 0 (n + 1) (.up 4)) tm) h'):wpOps E (⟨d,none,.ins (.append tyO 4 64 x y)⟩ :: opl) Q tm h:=by
  have hgp:h.get pn = .row ty xs sp:=H.mem (x:=(pn,_)) hp;have hsub:sub xs 0 (1 * 4) = some xs:=by rw [sub_of (by omega),List.drop_zero,List.take_of_length_le (by omega)]
  have hsrc:srcOf 4 (.slice pn 0 1 (.ex 1)) h = some (1,xs):=by simp only [srcOf,hgp,hsub]
  have hsem:(XI.append tyO 4 64 x y).sem tm h = appendTo tyO 4 64 v 1 xs h:=by simp only [XI.sem,appendS,withO_run hx,withO_run hy,hsrc]
  have hs:small (n + 1) 64 = true:=by unfold small;exact Nat.ble_eq_true_of_le (by omega)
  have h0:Nat.beq 64 0 = false:=rfl;obtain ⟨hl,hv⟩:=hv;refine oI (v:=.slice h.next 0 (n + 1) (.up 4)) (h':=h.push (.row tyO (cs++xs) true)) ?_ (hq _ _ (H.push _));rw [hsem]
  rcases hv with ⟨rfl,rfl⟩ | rfl | ⟨p,ty',sp',rfl,hm⟩
  · have hcs:cs = []:=List.eq_nil_of_length_eq_zero (by omega);subst hcs;rfl
  · have ht:takeE (n * 4) cs = some cs:=by rw [takeE_of (by omega),List.take_of_length_le (by omega)]
    simp only [appendTo,hs,h0,ht,Heap.pushK]
  · have hb:Nat.ble (n + 1) n = false:=by
      cases hc:Nat.ble (n + 1) n with
      | false=>rfl
      | true=>have:=Nat.le_of_ble_eq_true hc;omega
    have hg:h.get p = .row ty' cs sp':=H.mem (x:=(p,_)) (hM _ hm);have hsrc2:srcOf 4 (.slice p 0 n (.ex n)) h = some (n,cs):=by
      cases n with
      | zero => have hcs:cs = []:=List.eq_nil_of_length_eq_zero (by omega)
                subst hcs;rfl
      | succ n =>
        have:sub cs 0 ((n + 1) * 4) = some cs:=by rw [sub_of (by omega),List.drop_zero,List.take_of_length_le (by omega)]
        simp only [srcOf,hg,this]
    simp only [appendTo,hb,hs,h0,hsrc2,Heap.pushK]
def OpsAt (v:AV) (cs:List AV) (n:Nat) (fl:List (Pos × AObj)):Prop:=cs.length = n * 4∧((v = .nilslice∧n = 0∧fl = [])∨(0 < n∧∃ p,v = .slice p 0 n (.up 4)∧fl = [(p,.row tyO cs true)]))
theorem wp_ownApp {xs:List AV} {n:Nat} {pn:Pos} {ty:TypeId} {sp:Bool} {fl:List (Pos × AObj)} (hf:OpsAt v cs n fl) (H:Has h ((pn,.row ty xs sp) :: (fl++L))) (hn:n ≤ 1000000) (hxs:xs.length = 4) (hx:x.val tm = some v) (hy:y.val tm = some (.slice pn 0 1 (.ex 1)))
    (hq:∀ v' h' fl',OpsAt v' (cs++xs) (n + 1) fl'→Has h' (fl'++L)→wpOps E opl Q (putT d v' tm) h'):wpOps E (⟨d,none,.ins (.append tyO 4 64 x y)⟩ :: opl) Q tm h:=by
  have hgp:h.get pn = .row ty xs sp:=H.mem (x:=(pn,_)) m0;have hsub:sub xs 0 (1 * 4) = some xs:=by rw [sub_of (by omega),List.drop_zero,List.take_of_length_le (by omega)]
  have hsrc:srcOf 4 (.slice pn 0 1 (.ex 1)) h = some (1,xs):=by simp only [srcOf,hgp,hsub]
  have hsem:(XI.append tyO 4 64 x y).sem tm h = appendTo tyO 4 64 v 1 xs h:=by simp only [XI.sem,appendS,withO_run hx,withO_run hy,hsrc]
  obtain ⟨hl,hf⟩:=hf
  rcases hf with ⟨rfl,rfl,rfl⟩ | ⟨hpos,p,rfl,rfl⟩
  · have hcs:cs = []:=List.eq_nil_of_length_eq_zero (by omega);subst hcs;refine oI (v:=.slice h.next 0 1 (.up 4)) (h':=h.push (.row tyO xs true)) ?_ (hq _ _ _ ⟨by simpa using hxs,.inr ⟨by omega,h.next,rfl,rfl⟩⟩ (H.tail.push _));rw [hsem];rfl
  · have hgf:h.get p = .row tyO cs true:=H.mem (x:=(p,_)) (by simp);have hd:dropE (0 + (n + 1) * 4) cs = none:=dropE_gt (by omega);have hsb:sub cs 0 (n * 4) = some cs:=by rw [sub_of (by omega),List.drop_zero,List.take_of_length_le (by omega)]
    have hs:small (n + 1) 64 = true:=by unfold small;exact Nat.ble_eq_true_of_le (by omega)
    have hset:Has (h.set p .dead) L:=(H.tail.set (k:=0) rfl .dead).tail;have hp:=hset.push (.row tyO (cs++xs) true);refine oI (h':=(h.set p .dead).push (.row tyO (cs++xs) true)) (v:=.slice (h.set p .dead).next 0 (n + 1) (.up 4)) ?_ (hq _ _ _ ⟨by simp [hl,hxs];omega,.inr ⟨by omega,_,rfl,rfl⟩⟩ hp);rw [hsem];have hz:Nat.beq 4 4 = true:=rfl;have h0:Nat.beq 64 0 = false:=rfl;have hb1:Nat.beq tyO tyO = true:=Nat.beq_refl _;simp only [appendTo,hgf,hz,hd,hs,h0,hb1,hsb,Heap.setK,Heap.pushK]
theorem wpK_bslice {d:Slot} {l:List XOp} {tm:Tm} {h:Heap} {ty:TypeId} {esz len:Nat} {zeros cs:List AV} {parts:List (Nat × Nat × XO)} {q:Pos} (hf:∀ k:List AV→Out AV,fillK .bad parts tm zeros k = k cs) (hg:tm.get d = some (.slice q 0 len (.ex len))) (hq:h.get q = .row ty cs false) (hl:wpK l tm h) :
    wpK (⟨some d,none,.ins (.bslice ty esz len zeros parts)⟩ :: l) tm h:=chk_bslice hf hg hq hl
theorem OpsAt.part {n:Nat} {fl:List (Pos × AObj)} {rs:List AV} {k:Nat} (hf:OpsAt v cs n fl) (hn:nth rs k = some v):partOf rs k none h = .ok v h:=by
  unfold partOf;rw [hn]
  rcases hf.2 with ⟨rfl,_⟩ | ⟨_,p,rfl,_⟩ <;> rfl
theorem OpsAt.cells1 {n:Nat} {fl:List (Pos × AObj)} (hf:OpsAt v cs n fl):v.cellsO = some [v]:=by
  rcases hf.2 with ⟨rfl,_⟩ | ⟨_,p,rfl,_⟩ <;> rfl
def CpInv (h:Heap) (B:List (Pos × AObj)) (q8:Pos) (fv2:AV) (all:List OpV) (j:Nat) (pv:AV) (fl Nc:List (Pos × AObj)) (cs:List AV):Prop:=OpsAt pv cs j fl∧OpB Nc cs (all.take j)∧Has h (fl++(q8,.row tyV [fv2,pv] false) :: (Nc++B))
theorem Has.own2 {N:List (Pos × AObj)} {x:Pos × AObj} (H:Has h (N++M)) (hx:x ∈ M):∃ K,Has h (x :: K)∧(∀ y ∈ N,y ∈ K)∧(∀ y ∈ M,y.1 ≠ x.1→y ∈ K)∧∀ y ∈ M,y ∈ x :: K:=by
  obtain ⟨A,B,rfl⟩:=List.append_of_mem hx;refine ⟨N++(A++B),?_,fun y m=>List.mem_append_left _ m,fun y m hne=>?_,fun y m=>?_⟩
  · refine H.perm ?_;rw [← List.append_assoc];exact List.perm_middle.trans (by rw [List.append_assoc])
  · rcases List.mem_append.1 m with m | m
    · exact List.mem_append_right _ (List.mem_append_left _ m)
    · rcases List.mem_cons.1 m with rfl | m
      · exact absurd rfl hne
      · exact List.mem_append_right _ (List.mem_append_right _ m)
  · rcases List.mem_append.1 m with m | m
    · exact mS _ (List.mem_append_right _ (List.mem_append_left _ m))
    · rcases List.mem_cons.1 m with rfl | m
      · exact m0
      · exact mS _ (List.mem_append_right _ (List.mem_append_right _ m))
theorem cp_perm (N2 fl Nc B:List (Pos × AObj)) (a b:Pos × AObj):(N2++a :: (fl++b :: (Nc++B))).Perm (fl++b :: ((N2++a :: Nc)++B)):=by
  refine List.Perm.trans ?_ List.perm_middle.symm;have h1:(N2++a :: (fl++b :: (Nc++B))).Perm (b :: (N2++a :: (fl++(Nc++B)))):=by
    refine (List.Perm.append_left N2 (List.Perm.cons a List.perm_middle)).trans ?_;refine (List.Perm.append_left N2 (List.Perm.swap b a _)).trans List.perm_middle
  refine h1.trans (List.Perm.cons b ?_);have h2:(N2++a :: (fl++(Nc++B))).Perm (N2++(fl++a :: (Nc++B))):=List.Perm.append_left N2 List.perm_middle.symm;refine h2.trans ?_;rw [← List.append_assoc,List.append_assoc N2 (a :: Nc) B,List.cons_append];rw [← List.append_assoc];exact List.Perm.append_right _ List.perm_append_comm
theorem ckApply_loop (C:Code E) {all:List OpV} {v60 fv2:AV} {q8 q4:Pos} {B:List (Pos × AObj)} (hall:OpsV B v60 all) (hmx:all.length ≤ 1000000) (hop:∀ op ∈ all,okOp op) {Q:XExit→Tm→Heap→Prop}
    (hend:∀ tm h pv fl Nc cs,CpInv h B q8 fv2 all all.length pv fl Nc cs→tm.get (.lo .d0 .d4) = some (.ptr q4 0)→tm.get (.lo .d0 .d8) = some (.ptr q8 0)→Q (.exit 0) tm h) :
    ∀ (k j:Nat),all.length - j = k→j ≤ all.length→∀ (tm:Tm) (h:Heap) (pv:AV) (fl Nc:List (Pos × AObj)) (cs:List AV),CpInv h B q8 fv2 all j pv fl Nc cs→tm.get (.lo .d0 .d4) = some (.ptr q4 0)→tm.get (.lo .d0 .d8) = some (.ptr q8 0)→tm.get (.lo .d3 .d12) = some v60→tm.get (.lo .d3 .d13) = some (.int .i64 (.ofNat all.length))→tm.get (.lo .d3 .d14) = some (.int .i64 (.ofNat j))→LoopT E c_ckApply_b0 Q tm h:=by
  intro k
  induction k using Nat.strongRecOn with
  | ind k ih =>
    intro j hk hjl tm h pv fl Nc cs hI e4 e8 e60 e61 e62;obtain ⟨tm,rfl⟩:=sets5 e4 e8 e60 e61 e62;obtain ⟨hf,hB,H⟩:=hI;have hmem8:∀ {pre:List (Pos × AObj)} {fl Nc:List (Pos × AObj)},(q8,AObj.row tyV [fv2,pv] false) ∈ pre++(fl++(q8,AObj.row tyV [fv2,pv] false) :: (Nc++B)):=by
      intro pre fl Nc;exact List.mem_append_right _ (List.mem_append_right _ m0)
    have hsubB:∀ {pre fl Nc:List (Pos × AObj)} {x8:Pos × AObj},∀ x ∈ B,x ∈ pre++(fl++x8 :: (Nc++B)):=fun x m=>List.mem_append_right _ (List.mem_append_right _ (mS _ (List.mem_append_right _ m)))
    refine LoopT.wp ?_;unfold c_ckApply_b0;refine cS (cR ?_);refine wp_bool rfl (fun hb1=>?_) (fun hb1=>?_)
    · have hj := of_ltN hb1;obtain ⟨w,r,hw,hp⟩:=hall.at hj;obtain ⟨hbo1,hbo2,hbo3⟩:=hop _ (List.getElem_mem hj);refine oZ (cS (cC rfl (cK (cS (cB ?_)))));refine cS (cR ?_);refine oI (iaddrO_sem hall hj rfl rfl) ?_;refine oI (loadN_sem (k:=4) H (hp.mono (hsubB (pre:=[]))) (by simp) rfl) ?_;refine wp_alloc H fun q10 h H=>?_
      refine wp_store (k:=0) rfl rfl rfl rfl H rfl (fun k=>rfl) fun h H=>?_
      refine oZ (wpC_phase rfl (oI rfl ?_));refine oI (sem_load rfl (H.mem (x:=(q8,_)) (hmem8 (pre:=[_]))) (fun _=>hf.part rfl)) ?_;refine oI (sem_load rfl (H.at 0 rfl) (fun _=>rfl)) ?_;refine oZ ⟨?_,?_⟩
      · refine kI (rfl) rfl rfl ?_;refine kI (sem_load rfl (H.mem (x:=(q8,_)) (hmem8 (pre:=[_]))) (fun _=>hf.part rfl)) rfl rfl ?_;refine kI (sem_load rfl (H.at 0 rfl) (fun _=>rfl)) rfl rfl ?_;exact kZ
      · refine wp_call rfl (copied_ok C (op:=all[j]) H (hw.mono (hsubB (pre:=[_]))) (by omega)) ?_;rintro _ h ⟨w2,rfl,N2,H,hw2⟩;have H:Has h (fl++(q8,.row tyV [fv2,pv] false) :: ((N2++(q10,_) :: Nc)++B)):=H.perm (by
          exact cp_perm N2 fl Nc B _ _)
        refine oZ (wpC_phase rfl ?_);refine wp_bslice (cs:=[.int .i64 all[j].kind,.str all[j].name,.str all[j].to,w2]) (fun k=>rfl) H fun q70 h H=>?_
        refine oZ ⟨?_,?_⟩
        · refine kI (rfl) rfl rfl ?_;refine kI (sem_load rfl (H.mem (x:=(q8,_)) (hmem8 (pre:=[_]))) (fun _=>hf.part rfl)) rfl rfl ?_;refine wpK_bslice (fun k=>rfl) rfl (H.at 0 rfl) ?_;exact kZ
        · refine wp_ownApp hf H (by omega) rfl rfl rfl fun pv2 h fl2 hf2 H=>?_
          refine oZ (wpC_phase rfl (oI rfl ?_));refine oZ ⟨?_,?_⟩
          · refine kI (rfl) rfl rfl ?_;exact kZ
          · have H:=H.mv;refine wp_store (k:=0) rfl rfl hf2.cells1 rfl H rfl (fun k=>rfl) fun h H=>?_
            refine oZ (cL rfl ?_);refine oZ ⟨?_,?_⟩
            · exact kZ
            · refine cR ?_;refine oI (sem_int rfl (w64_succ (by omega))) ?_;refine oI rfl (oZ ?_);have H:=Has.vm H;have hcs:=OpB.snoc (M:=N2++(q10,AObj.row tyO [.int .i64 all[j].kind,.str all[j].name,.str all[j].to,w] false) :: Nc) (op:=all[j]) (hB.mono fun x m=>List.mem_append_right _ (mS _ m)) (hw2.mono fun x m=>List.mem_append_left _ m);have htk:all.take j++[all[j]] = all.take (j + 1):=by rw [List.take_add_one,List.getElem?_eq_getElem hj,Option.toList_some]
              rw [htk] at hcs;exact ih (all.length - (j + 1)) (by omega) (j + 1) rfl hj _ _ _ _ _ _ ⟨hf2,hcs,H⟩ rfl rfl rfl rfl rfl
    · have hj:=of_geN hb1;refine oZ (cS (cF rfl (cX ?_)));obtain rfl:j = all.length:=by omega
      exact hend _ _ _ _ _ _ ⟨hf,hB,H⟩ rfl rfl
theorem wp_clip4 {z:XO} {n:Nat} (hr:RowV M 4 v cs n) (hcap:∀ p o m c,v = .slice p o m c→capOK4 m c) (hv:x.val tm = some v) (hy:y.val tm = some (.int .i64 (.ofNat n))) (hz:z.val tm = some (.int .i64 (.ofNat n))) (hq:∀ v',ClipV M v' cs n→wpOps E opl Q (putT d v' tm) h):wpOps E (⟨d,none,.ins (.cutSl 4 x none (some y) (some z))⟩ :: opl) Q tm h:=by
  obtain ⟨v',h1,h2⟩:=clip4_sem (h:=h) hr hcap hv hy hz;exact oI h1 (hq v' h2)
theorem clipO_ok (C:Code E) {n:Nat} (hr:RowV M 4 v cs n) (hcap:∀ p o m c,v = .slice p o m c→capOK4 m c):CallT E (.func n_clipO [] []) [v] h fun r h'=>ClipV M r cs n∧h' = h:=by
  refine CallT.body C.clipO ?_;unfold BodyT c_clipO;refine cS (cR ?_);refine oI rfl (oZ ?_);refine cS (cR ?_);refine oI rfl (oI rfl (oI (len_RowV hr rfl) (oI rfl (oI (len_RowV hr rfl) ?_))));refine wp_clip4 hr hcap rfl rfl rfl fun r hr2=>?_
  refine oI rfl (oZ (cT ?_));refine ⟨trivial,_,rfl,?_⟩;exact ⟨hr2,rfl⟩
theorem neStr_sem {a b:List Nat} (hx:x.val tm = some (.str a)) (hy:y.val tm = some (.str b)):(XI.bin .ne x y).sem tm h = .ok (.bool (decide (a ≠ b))) h:=by
  simp only [XI.sem,binS,withO_run hx,withO_run hy];show okB h (match beqN a b with | true=>false | false=>true) = _;rw [beqN_eq]
  by_cases e:a = b
  · subst e;simp;rfl
  · simp [e];rfl
theorem Own_of {h':Heap} (hL:∀ x ∈ L,x ∈ M) (H:Has h' M):Own h' L fun _=>True:=⟨M,hL,H,trivial⟩
def ApplyO (L:List (Pos × AObj)) (fs:List FD) (ops:List OpV) (op:OpV) (r:AV) (h':Heap):Prop:=match nowS fs ops with
  | none=>r = .tuple [.agg [.nilslice,.nilslice],.int .i64 370]∧Own h' L fun _=>True
  | some D=>if op.kind = 5 then (if op.name = []∧op.to = []∧op.b.length = 0 then ∃ fv',r = .tuple [.agg [fv',.nilslice],.int .i64 0]∧NewIn h' L fun M=>FsV M fv' (sortF D)
      else r = .tuple [.agg [.nilslice,.nilslice],.int .i64 370]∧Own h' L fun _=>True)
    else if okV op D then (if 200 ≤ ops.length then r = .tuple [.agg [.nilslice,.nilslice],.int .i64 2]∧Own h' L fun _=>True
      else ∃ fv' ov',r = .tuple [.agg [fv',ov'],.int .i64 0]∧NewIn h' L fun M=>FsV M fv' (sortF fs)∧OpsV M ov' (ops++[op])∧∀ p o m c,ov' = .slice p o m c→capOK4 m c)
    else r = .tuple [.agg [.nilslice,.nilslice],.int .i64 370]∧Own h' L fun _=>True
theorem ckApply_ok (C:Code E) (CD:E.fn n_disk = some (.con (diskV tyF tyB))) (H:Has h L) (hfs:FsV L fv fs) (hos:OpsV L ov ops) (hcap:∀ p o m c,ov = .slice p o m c→capOK4 m c) (hb0:BV L w op.b) (hnl:∀ f ∈ fs,f.1.length ≤ maxN) (hbl:∀ f ∈ fs,f.2.length ≤ maxN) (hml:fs.length ≤ maxN) (hmo:ops.length ≤ maxN) (hop:∀ op ∈ ops,okOp op) (hop1:okOp op) :
    CallT E (.func n_ckApply [] []) [.agg [fv,ov],opAV op w] h (ApplyO L fs ops op):=by
  have hmx:ops.length ≤ 9223372036854775807:=hmo;refine CallT.body C.ckApply ?_;unfold BodyT c_ckApply;refine cS (cR ?_);refine wp_box rfl rfl H fun q1 h H=>?_
  refine wp_box rfl rfl H fun q2 h H=>?_
  refine wp_alloc H fun q4 h H=>?_
  have H1:=H;have hap:=(List.pairwise_cons.1 H1.2).1;refine oI rfl (oZ ?_);refine cS (cR ?_);refine oI (sem_load rfl (H.at 2 rfl) (fun _=>by first | rfl | exact hos.part rfl | exact BV.part hb0 rfl)) ?_;refine wp_call rfl (now_ok C H (hfs.mono (fun x m=>mS _ (mS _ (mS _ m)))) (hos.mono (fun x m=>mS _ (mS _ (mS _ m)))) hnl hbl hml hmo hop) ?_;rintro r h hN;unfold NowR at hN
  cases hn:nowS fs ops
  · rw [hn] at hN;obtain ⟨rfl,M,HM,H,_⟩:=hN;obtain ⟨K,H,_,hK,_⟩:=Has.own2 (N:=[]) H (HM _ m0);have hKo:(q2,AObj.row tyO [.int .i64 op.kind,.str op.name,.str op.to,w] false) ∈ K:=hK _ (HM _ (mS _ m0)) fun e=>hap _ m0 e.symm
    have hKv:(q1,AObj.row tyV [fv,ov] false) ∈ K:=hK _ (HM _ (mS _ (mS _ m0))) fun e=>hap _ (mS _ m0) e.symm
    have hKL:∀ x ∈ L,x ∈ K:=fun x m=>hK _ (HM _ (mS _ (mS _ (mS _ m)))) fun e=>hap _ (mS _ (mS _ m)) e.symm
    refine oI rfl (oI rfl (oI rfl (oI rfl (oI rfl (oZ (cS ?_))))));refine cS (cR ?_);refine oI rfl (oI rfl (oZ (cC rfl ?_)));refine cS (cR ?_);refine oI rfl ?_;refine wp_store (k:=0) rfl rfl rfl rfl H rfl (fun k=>rfl) fun h H=>?_
    refine oI rfl (oZ (cT ?_));refine ⟨trivial,_,resV_cell rfl (H.at 0 rfl) (fun _=>rfl) rfl,?_⟩;show ApplyO L fs ops op _ _;unfold ApplyO;rw [hn];dsimp only;exact ⟨rfl,Own_of (fun x m=>mS _ (hKL x m)) H⟩
  · rename_i D
    rw [hn] at hN;obtain ⟨q,rfl,M,es0,cl0,HM,H,hM0⟩:=hN;have hqL:∀ x ∈ L,x.1 ≠ q:=fun x m e=>(List.pairwise_cons.1 H.2).1 x (HM x (mS _ (mS _ (mS _ m)))) e.symm
    obtain ⟨K,H,hNq,hK,hKall⟩:=Has.own2 (N:=[_]) H (HM _ m0);have hKo:(q2,AObj.row tyO [.int .i64 op.kind,.str op.name,.str op.to,w] false) ∈ K:=hK _ (HM _ (mS _ m0)) fun e=>hap _ m0 e.symm
    have hKv:(q1,AObj.row tyV [fv,ov] false) ∈ K:=hK _ (HM _ (mS _ (mS _ m0))) fun e=>hap _ (mS _ m0) e.symm
    have hKL:∀ x ∈ L,x ∈ K:=fun x m=>hK _ (HM _ (mS _ (mS _ (mS _ m)))) fun e=>hap _ (mS _ (mS _ m)) e.symm
    have hqm:=hNq _ m0;have hMK:MapR ((q4,AObj.row tyV [.nilslice,.nilslice] false) :: K) es0 cl0 D:=hM0.mono hKall;have hks0:=nowS_okS hn;have hok:=nowS_ok hn;refine oI rfl (oI rfl (oI rfl (oI rfl (oI rfl (oZ (cS ?_))))));refine cS (cR ?_);refine oI rfl (oI rfl (oZ (cF rfl (cK (cS ?_)))));refine cS (cR ?_);refine oI rfl ?_;refine oI (sem_load rfl (H.mem (x:=(q2,_)) (mS _ (hKo))) (fun _=>rfl)) ?_;refine oI (eqInt_sem rfl rfl) ?_
    by_cases h5:op.kind = 5
    · rw [decide_eq_true h5];refine oZ (cC rfl (cS ?_));refine cS (cR ?_);refine oI rfl ?_;refine oI (sem_load rfl (H.mem (x:=(q2,_)) (mS _ (hKo))) (fun _=>rfl)) ?_;refine oI (neStr_sem rfl rfl) ?_
      by_cases hnm1:op.name ≠ []
      · rw [decide_eq_true hnm1];refine oI rfl (oF rfl (oF rfl (oF rfl (oI rfl (oI rfl (oF rfl (oF rfl (oF rfl (oF rfl (oI rfl (oZ ?_)))))))))));refine cC rfl ?_;refine cS (cR ?_);refine oI rfl ?_;refine wp_store (k:=0) rfl rfl rfl rfl H rfl (fun k=>rfl) fun h H=>?_
        refine oI rfl (oZ (cT ?_));refine ⟨trivial,_,resV_cell rfl (H.at 0 rfl) (fun _=>rfl) rfl,?_⟩;show ApplyO L fs ops op _ _;unfold ApplyO;rw [hn];dsimp only;rw [if_pos h5,if_neg (by first | exact fun hc=>hnm1 hc.1 | exact fun hc=>hto1 hc.2.1 | exact fun hc=>by have:=hc.2.2;omega)];exact ⟨rfl,Own_of (fun x m=>mS _ (hKL x m)) H⟩
      · rw [decide_eq_false hnm1];refine oI rfl (oN rfl (oI rfl (oN rfl ?_)));refine oI (sem_load rfl (H.mem (x:=(q2,_)) (mS _ (hKo))) (fun _=>rfl)) ?_;refine oN rfl (oI (neStr_sem rfl rfl) ?_)
        by_cases hto1:op.to ≠ []
        · rw [decide_eq_true hto1];refine oI rfl (oI rfl (oF rfl (oF rfl (oF rfl (oF rfl (oI rfl (oZ (cC rfl ?_))))))));refine cS (cR ?_);refine oI rfl ?_;refine wp_store (k:=0) rfl rfl rfl rfl H rfl (fun k=>rfl) fun h H=>?_
          refine oI rfl (oZ (cT ?_));refine ⟨trivial,_,resV_cell rfl (H.at 0 rfl) (fun _=>rfl) rfl,?_⟩;show ApplyO L fs ops op _ _;unfold ApplyO;rw [hn];dsimp only;rw [if_pos h5,if_neg (by first | exact fun hc=>hnm1 hc.1 | exact fun hc=>hto1 hc.2.1 | exact fun hc=>by have:=hc.2.2;omega)];exact ⟨rfl,Own_of (fun x m=>mS _ (hKL x m)) H⟩
        · rw [decide_eq_false hto1];refine oI rfl (oI rfl (oN rfl (oI rfl (oN rfl ?_))));refine oI (sem_load rfl (H.mem (x:=(q2,_)) (mS _ (hKo))) (fun _=>BV.part hb0 rfl)) ?_;refine oN rfl (oI (len_BV hb0 rfl) (oN rfl ?_));refine wp_bool rfl (fun hb3=>?_) (fun hb3=>?_)
          · have hgt:=ltI_lt hb3
            try simp only [ofNat_cast] at hgt
            refine oI rfl (oZ (cC rfl ?_));refine cS (cR ?_);refine oI rfl ?_;refine wp_store (k:=0) rfl rfl rfl rfl H rfl (fun k=>rfl) fun h H=>?_
            refine oI rfl (oZ (cT ?_));refine ⟨trivial,_,resV_cell rfl (H.at 0 rfl) (fun _=>rfl) rfl,?_⟩;show ApplyO L fs ops op _ _;unfold ApplyO;rw [hn];dsimp only;rw [if_pos h5,if_neg (by first | exact fun hc=>hnm1 hc.1 | exact fun hc=>hto1 hc.2.1 | exact fun hc=>by have:=hc.2.2;omega)];exact ⟨rfl,Own_of (fun x m=>mS _ (hKL x m)) H⟩
          · have hgt:=ltI_ge hb3
            try simp only [ofNat_cast] at hgt
            refine oI rfl (oZ (cF rfl (cK ?_)));refine cS (cR ?_);refine oI rfl ?_;obtain ⟨K2,H,hK2⟩:=Has.pull H (mS _ hqm);have H2:=H;refine wp_call rfl (disk_ok CD H (hMK.pull hK2) hok) ?_;rintro _ h ⟨fv2,rfl,N,H,hfv⟩;have HF:=H;have hq42:=(hK2 _ m0).resolve_left (by simp);obtain ⟨K3,H,hN3,hK3,_⟩:=Has.own2 H (mS _ hq42);have hLK2:∀ x ∈ L,x ∈ K2:=fun x m=>(hK2 x (mS _ (hKL x m))).resolve_left fun e=>hqL x m (by rw [e])
            have hLK3:∀ x ∈ L,x ∈ K3:=fun x m=>hK3 x (mS _ (hLK2 x m)) fun e=>hap _ (mS _ (mS _ m)) e.symm
            refine oI rfl ?_;refine wp_store (k:=0) rfl rfl rfl rfl H rfl (fun k=>rfl) fun h H=>?_
            refine oI rfl (oZ (cT ?_));refine ⟨trivial,_,resV_cell rfl (H.at 0 rfl) (fun _=>rfl) rfl,?_⟩;show ApplyO L fs ops op _ _;unfold ApplyO;rw [hn];dsimp only;rw [if_pos h5,if_pos ⟨by simpa using hnm1,by simpa using hto1,by omega⟩];exact ⟨fv2,rfl,_,N,fun x m=>mS _ (hLK3 x m),H,fun x m=>mS _ (hN3 x m),fun x mx y my=>(List.pairwise_append.1 HF.2).2.2 x mx y (mS _ (hLK2 y my)),hfv⟩
    · rw [decide_eq_false h5];refine oZ (cF rfl (cK (cS ?_)));refine cS (cR ?_);refine oI rfl ?_;refine oI (sem_load rfl (H.mem (x:=(q2,_)) (mS _ (hKo))) (fun _=>rfl)) ?_;obtain ⟨K2,H,hK2⟩:=Has.pull H (mS _ hqm);have hne:∀ {a:Pos × AObj},a ∈ K→a ∈ (q4,AObj.row tyV [.nilslice,.nilslice] false) :: K:=fun m=>mS _ m
      have hl3:∀ x ∈ (q4,AObj.row tyV [.nilslice,.nilslice] false) :: (q2,AObj.row tyO [.int .i64 op.kind,.str op.name,.str op.to,w] false) :: (q1,AObj.row tyV [fv,ov] false) :: L,x ∈ K2:=by
        intro x m
        rcases List.mem_cons.1 m with rfl | m
        · exact (hK2 _ m0).resolve_left (by simp)
        rcases List.mem_cons.1 m with rfl | m
        · exact (hK2 _ (hne hKo)).resolve_left (by simp)
        rcases List.mem_cons.1 m with rfl | m
        · exact (hK2 _ (hne hKv)).resolve_left (by simp)
        · exact (hK2 x (hne (hKL x m))).resolve_left fun e=>hqL x m (by rw [e])
      refine wp_call rfl (apply_ok C (op:=op) (L:=(q4,AObj.row tyV [.nilslice,.nilslice] false) :: (q2,AObj.row tyO [.int .i64 op.kind,.str op.name,.str op.to,w] false) :: (q1,AObj.row tyV [fv,ov] false) :: L) ⟨K2,es0,cl0,hl3,H,hMK.pull hK2⟩ hok (hb0.mono (fun x m=>mS _ (mS _ (mS _ m)))) hop1.1 hop1.2.1 hop1.2.2) ?_;rintro _ h ⟨D2,rfl,⟨M2,es2,cl2,HM,H,_⟩,_,_⟩;clear hKo hKv hKL;obtain ⟨K,H,_,hK,_⟩:=Has.own2 (N:=[_]) H (HM _ m0);have hKo:(q2,AObj.row tyO [.int .i64 op.kind,.str op.name,.str op.to,w] false) ∈ K:=hK _ (HM _ (mS _ m0)) fun e=>hap _ m0 e.symm
      have hKv:(q1,AObj.row tyV [fv,ov] false) ∈ K:=hK _ (HM _ (mS _ (mS _ m0))) fun e=>hap _ (mS _ m0) e.symm
      have hKL:∀ x ∈ L,x ∈ K:=fun x m=>hK _ (HM _ (mS _ (mS _ (mS _ m)))) fun e=>hap _ (mS _ (mS _ m)) e.symm
      by_cases hv:okV op D
      · rw [decide_eq_true hv];refine oI rfl (oZ (cF rfl (cK (cS ?_))));refine cS (cR ?_);refine oI rfl ?_;refine oI (sem_load rfl (H.mem (x:=(q1,_)) (mS _ (hKv))) (fun _=>hos.part rfl)) ?_;refine oI (lenO_sem hos rfl) ?_;refine wp_bool rfl (fun hb4=>?_) (fun hb4=>?_)
        · have h200:=leI_le hb4
          try simp only [ofNat_cast] at h200
          refine oZ (cC rfl ?_);refine cS (cR ?_);refine oI rfl ?_;refine wp_store (k:=0) rfl rfl rfl rfl H rfl (fun k=>rfl) fun h H=>?_
          refine oI rfl (oZ (cT ?_));refine ⟨trivial,_,resV_cell rfl (H.at 0 rfl) (fun _=>rfl) rfl,?_⟩;show ApplyO L fs ops op _ _;unfold ApplyO;rw [hn];dsimp only;rw [if_neg h5,if_pos hv,if_pos (by omega)];exact ⟨rfl,Own_of (fun x m=>mS _ (hKL x m)) H⟩
        · have h200:=leI_gt hb4
          try simp only [ofNat_cast] at h200
          refine oZ (cF rfl (cK ?_));refine cS (cR ?_);refine oI rfl ?_;refine oI (sem_load rfl (H.mem (x:=(q1,_)) (mS _ (hKv))) (fun _=>rfl)) ?_;refine wp_call rfl (opened_ok C H hks0 (hfs.mono fun x m=>mS _ (hKL x m))) ?_;rintro _ h ⟨qm,es,cl,rfl,H,hM⟩;refine wp_call rfl (disk_ok CD H hM (okS_okF hks0)) ?_;rintro _ h ⟨fv2,rfl,N,H,hfv⟩;have HB:=H;have hBo:(q2,AObj.row tyO [.int .i64 op.kind,.str op.name,.str op.to,w] false) ∈ N++(qm,AObj.map es cl) :: (q4,AObj.row tyV [.nilslice,.nilslice] false) :: K:=List.mem_append_right _ (mS _ (mS _ hKo));have hBv:(q1,AObj.row tyV [fv,ov] false) ∈ N++(qm,AObj.map es cl) :: (q4,AObj.row tyV [.nilslice,.nilslice] false) :: K:=List.mem_append_right _ (mS _ (mS _ hKv));have hBL:∀ x ∈ L,x ∈ N++(qm,AObj.map es cl) :: (q4,AObj.row tyV [.nilslice,.nilslice] false) :: K:=fun x m=>List.mem_append_right _ (mS _ (mS _ (hKL x m)))
          refine oI rfl ?_;refine wp_alloc H fun q8 h H=>?_
          refine wp_store (k:=0) rfl rfl rfl rfl H rfl (fun k=>rfl) fun h H=>?_
          refine oZ (cS (cS (wpC_phase rfl (oI rfl ?_))));refine oI (sem_load rfl (H.mem (x:=(q1,_)) (mS _ (hBv))) (fun _=>hos.part rfl)) ?_;refine oI (sem_load rfl (H.mem (x:=(q2,_)) (mS _ (hBo))) (fun _=>rfl)) ?_;refine wp_bslice (cs:=[.int .i64 op.kind,.str op.name,.str op.to,w]) (fun k=>rfl) H fun q59 h H=>?_
          refine oI rfl ?_;refine oZ ⟨?_,?_⟩
          · refine kI (rfl) rfl rfl ?_;refine kI (sem_load rfl (H.mem (x:=(q1,_)) (mS _ (mS _ (hBv)))) (fun _=>hos.part rfl)) rfl rfl ?_;refine kI (sem_load rfl (H.mem (x:=(q2,_)) (mS _ (mS _ (hBo)))) (fun _=>rfl)) rfl rfl ?_;refine wpK_bslice (fun k=>rfl) rfl (H.at 0 rfl) ?_;refine kI (rfl) rfl rfl ?_;exact kZ
          · obtain ⟨cs,hcs,hrow⟩:=hos;refine wp_call rfl (clipO_ok C hrow hcap) ?_;rintro cv _ ⟨hcv,rfl⟩;refine oZ (wpC_phase rfl ?_);refine oZ ⟨?_,?_⟩
            · refine kI (sem_load rfl (H.mem (x:=(q2,_)) (mS _ (mS _ (hBo)))) (fun _=>rfl)) rfl rfl ?_;refine wpK_bslice (fun k=>rfl) rfl (H.at 0 rfl) ?_;refine kI (rfl) rfl rfl ?_;exact kZ
            · refine wp_clipApp hcv (fun x m=>mS _ (mS _ (hBL x m))) H (by omega) rfl m0 rfl rfl fun q60 h H=>?_
              refine oZ (cL rfl (oI rfl ?_));refine oZ ⟨?_,?_⟩
              · refine kI (rfl) rfl rfl (kI (rfl) rfl rfl ?_);exact kZ
              · refine cB ?_;have H:=Has.front H 2 rfl;have hall:OpsV ((q60,AObj.row tyO (cs++[.int .i64 op.kind,.str op.name,.str op.to,w]) true) :: (q59,AObj.row tyO [.int .i64 op.kind,.str op.name,.str op.to,w] false) :: (N++(qm,AObj.map es cl) :: (q4,AObj.row tyV [.nilslice,.nilslice] false) :: K)) (.slice q60 0 (ops.length + 1) (.up 4)) (ops++[op]):=by
                  refine ⟨_,(hcs.mono fun x m=>mS _ (mS _ (hBL x m))).snoc (hb0.mono fun x m=>mS _ (mS _ (hBL x m))),by rw [List.length_append,hcs.length,List.length_append];simp;omega,.inr (.inr ⟨q60,.up 4,tyO,true,by rw [List.length_append];rfl,m0⟩)⟩
                have hal:(ops++[op]).length = ops.length + 1:=by rw [List.length_append];rfl
                refine wpC_loop (ckApply_loop (q4:=q4) C hall (by omega) (fun o m=>by
                  rcases List.mem_append.1 m with m | m
                  · exact hop o m
                  · rw [List.mem_singleton.1 m];exact hop1) (fun tm h pv fl Nc cs2 hI e4 e8=>?_) ((ops++[op]).length - 0) 0 rfl (Nat.zero_le _) _ _ .nilslice [] [] [] ⟨⟨rfl,.inl ⟨rfl,rfl,rfl⟩⟩,.nil,H⟩ rfl rfl rfl (by rw [hal];rfl) rfl)
                obtain ⟨tm,rfl⟩:=sets2 e4 e8;obtain ⟨hf2,hB2,H⟩:=hI;refine cS (cR ?_);refine oI (sem_load rfl (H.mem (x:=(q8,_)) (List.mem_append_right _ m0)) (fun _=>rfl)) ?_;have hq4B:(q4,AObj.row tyV [.nilslice,.nilslice] false) ∈ N++(qm,AObj.map es cl) :: (q4,AObj.row tyV [.nilslice,.nilslice] false) :: K:=List.mem_append_right _ (mS _ m0);have H:Has h ((fl++(q8,AObj.row tyV [fv2,pv] false) :: Nc)++((q60,AObj.row tyO (cs++[.int .i64 op.kind,.str op.name,.str op.to,w]) true) :: (q59,AObj.row tyO [.int .i64 op.kind,.str op.name,.str op.to,w] false) :: (N++(qm,AObj.map es cl) :: (q4,AObj.row tyV [.nilslice,.nilslice] false) :: K))):=by rw [List.append_assoc,List.cons_append];exact H
                have H9:=H;obtain ⟨K5,H,hN5,hK5,_⟩:=Has.own2 H (mS _ (mS _ hq4B));refine wp_store (k:=0) rfl rfl rfl rfl H rfl (fun k=>rfl) fun h H=>?_
                refine oI rfl (oZ (cT ?_));refine ⟨trivial,_,resV_cell rfl (H.at 0 rfl) (fun _=>rfl) rfl,?_⟩;show ApplyO L fs ops op _ _;unfold ApplyO;rw [hn];dsimp only;rw [if_neg h5,if_pos hv,if_neg (by omega)];have hNq4:∀ y ∈ N,y.1 ≠ q4:=fun y m=>(List.pairwise_append.1 HB.2).2.2 y m _ (mS _ m0)
                have HP:=(List.pairwise_append.1 H9.2).2.2;refine ⟨fv2,pv,rfl,_,N++(fl++Nc),fun x m=>mS _ (hK5 x (mS _ (mS _ (hBL x m))) fun e=>hap _ (mS _ (mS _ m)) e.symm),H,?_,?_,?_,?_,?_⟩
                · intro y m
                  rcases List.mem_append.1 m with m | m
                  · exact mS _ (hK5 y (mS _ (mS _ (List.mem_append_left _ m))) (hNq4 y m))
                  rcases List.mem_append.1 m with m | m
                  · exact mS _ (hN5 y (List.mem_append_left _ m))
                  · exact mS _ (hN5 y (List.mem_append_right _ (mS _ m)))
                · intro y m z mz
                  rcases List.mem_append.1 m with m | m
                  · exact (List.pairwise_append.1 HB.2).2.2 y m z (mS _ (mS _ (hKL z mz)))
                  rcases List.mem_append.1 m with m | m
                  · exact HP y (List.mem_append_left _ m) z (mS _ (mS _ (hBL z mz)))
                  · exact HP y (List.mem_append_right _ (mS _ m)) z (mS _ (mS _ (hBL z mz)))
                · exact hfv.mono fun y m=>List.mem_append_left _ m
                · rw [List.take_length] at hB2;refine ⟨cs2,hB2.mono fun y m=>List.mem_append_right _ (List.mem_append_right _ m),hf2.1,?_⟩
                  rcases hf2.2 with ⟨rfl,h0,_⟩ | ⟨_,p,rfl,rfl⟩
                  · exact .inl ⟨rfl,h0⟩
                  · exact .inr (.inr ⟨p,.up 4,tyO,true,rfl,List.mem_append_right _ (List.mem_append_left _ m0)⟩)
                · intro p o m c e
                  rcases hf2.2 with ⟨rfl,_⟩ | ⟨_,p2,rfl,_⟩
                  · simp at e
                  · simp only [AV.slice.injEq] at e;obtain ⟨_,_,_,rfl⟩:=e;exact rfl
      · rw [decide_eq_false hv];refine oI rfl (oZ (cC rfl ?_));refine cS (cR ?_);refine oI rfl ?_;refine wp_store (k:=0) rfl rfl rfl rfl H rfl (fun k=>rfl) fun h H=>?_
        refine oI rfl (oZ (cT ?_));refine ⟨trivial,_,resV_cell rfl (H.at 0 rfl) (fun _=>rfl) rfl,?_⟩;show ApplyO L fs ops op _ _;unfold ApplyO;rw [hn];dsimp only;rw [if_neg h5,if_neg hv];exact ⟨rfl,Own_of (fun x m=>mS _ (hKL x m)) H⟩
end
end Go.X

/- CkptSynced. -/
namespace Go.X
open Go
section
variable {E:XEnv} {d:Option Slot} {opl:List XOp} {Q:Tm→Heap→Prop} {tm:Tm} {x y:XO} {h:Heap} {L M K:List (Pos × AObj)} {v w fv ov:AV} {l m:List Nat} {fs:List FD} {ops:List OpV} {op:OpV} {cs:List AV}
abbrev big47:Nat:=140737488355328
def szF (fs:List FD):Nat:=(fs.map fun f=>f.1.length + f.2.length).sum
def szO (ops:List OpV):Nat:=(ops.map fun o=>o.name.length + o.to.length + o.b.length).sum
def bigF (fs:List FD):Prop:=∀ f ∈ fs,f.1.length ≤ big47∧f.2.length ≤ big47
def bigO (ops:List OpV):Prop:=∀ o ∈ ops,o.name.length ≤ big47∧o.to.length ≤ big47∧o.b.length ≤ big47
theorem szF_snoc {j:Nat} (hj:j < fs.length):szF (fs.take (j + 1)) = szF (fs.take j) + (fs[j].1.length + fs[j].2.length):=by
  unfold szF;rw [List.take_add_one,List.getElem?_eq_getElem hj,Option.toList_some,List.map_append,List.sum_append];simp
theorem szO_snoc {j:Nat} (hj:j < ops.length):szO (ops.take (j + 1)) = szO (ops.take j) + (ops[j].name.length + ops[j].to.length + ops[j].b.length):=by
  unfold szO;rw [List.take_add_one,List.getElem?_eq_getElem hj,Option.toList_some,List.map_append,List.sum_append];simp
theorem szF_le:∀ {fs:List FD},bigF fs→szF fs ≤ fs.length * 281474976710656
  | [],_=>Nat.le_refl _
  | f :: fs,h=>by
    have h1:=h f m0;have h2:=szF_le (fs:=fs) fun g m=>h g (mS _ m)
    unfold szF at h2 ⊢;rw [List.map_cons,List.sum_cons,List.length_cons,Nat.add_mul];unfold big47 at h1;omega
theorem szO_le:∀ {ops:List OpV},bigO ops→szO ops ≤ ops.length * 562949953421312
  | [],_=>Nat.le_refl _
  | o :: ops,h=>by
    have h1:=h o m0;have h2:=szO_le (ops:=ops) fun g m=>h g (mS _ m)
    unfold szO at h2 ⊢;rw [List.map_cons,List.sum_cons,List.length_cons,Nat.add_mul];unfold big47 at h1;omega
theorem szO_mem:∀ {ops:List OpV} {o:OpV},o ∈ ops→o.name.length + o.to.length + o.b.length ≤ szO ops
  | [],_,m=>absurd m List.not_mem_nil
  | e :: ops,o,m=>by
    have h0:szO (e :: ops) = (e.name.length + e.to.length + e.b.length) + szO ops:=by unfold szO;rw [List.map_cons,List.sum_cons]
    rcases List.mem_cons.1 m with rfl | m
    · omega
    · have:=szO_mem m;omega
theorem w64_nat {n:Nat} (h:n < 9223372036854775808):wrapF .i64 (Int.ofNat n) = Int.ofNat n:=w64 (by rw [ofNat_cast];omega) (by rw [ofNat_cast];omega)
theorem w64_sum2 {z:Int} {s a b:Nat} (hz:z = Int.ofNat s) (h:s + (a + b) < 9223372036854775808):wrapF .i64 (z + wrapF .i64 (Int.ofNat a + Int.ofNat b)) = Int.ofNat (s + (a + b)):=by
  subst hz;have e1:Int.ofNat a + Int.ofNat b = Int.ofNat (a + b):=by simp only [ofNat_cast];omega
  have e2:Int.ofNat s + Int.ofNat (a + b) = Int.ofNat (s + (a + b)):=by simp only [ofNat_cast];omega
  rw [e1,w64_nat (by omega),e2,w64_nat h]
theorem w64_sum3 {z:Int} {s a b c:Nat} (hz:z = Int.ofNat s) (h:s + (a + b + c) < 9223372036854775808):wrapF .i64 (z + wrapF .i64 (wrapF .i64 (Int.ofNat a + Int.ofNat b) + Int.ofNat c)) = Int.ofNat (s + (a + b + c)):=by
  have e1:Int.ofNat a + Int.ofNat b = Int.ofNat (a + b):=by simp only [ofNat_cast];omega
  rw [e1,w64_nat (by omega)];exact w64_sum2 hz h
theorem slim_loop1 {q:Pos} (hfs:FsV L fv fs) (hlen:fs.length ≤ 9223372036854775807) (hbig:bigF fs) {Q:XExit→Tm→Heap→Prop} (hend:∀ tm h z,Has h ((q,.row tyD [fv] false) :: L)→tm.get (.lo .d0 .d1) = some ov→tm.get (.lo .d0 .d2) = some (.ptr q 0)→tm.get (.lo .d0 .d5) = some (.int .i64 z)→(fs.length ≤ 300→z = Int.ofNat (szF fs))→Q (.exit 0) tm h) :
    ∀ (k j:Nat) (z:Int),fs.length - j = k→∀ (tm:Tm) (h:Heap),Has h ((q,.row tyD [fv] false) :: L)→tm.get (.lo .d0 .d1) = some (ov)→tm.get (.lo .d0 .d2) = some (.ptr q 0)→tm.get (.lo .d0 .d5) = some (.int .i64 z)→tm.get (.lo .d0 .d11) = some (fv)→tm.get (.lo .d0 .d12) = some (.int .i64 (.ofNat fs.length))→tm.get (.lo .d0 .d13) = some (.int .i64 (.ofNat j))→(fs.length ≤ 300→z = Int.ofNat (szF (fs.take j)))→LoopT E c_slim_b0 Q tm h:=by
  intro k
  induction k using Nat.strongRecOn with
  | ind k ih =>
    intro j z hk tm h H e1 e2 e5 e11 e12 e13 hz;obtain ⟨tm,rfl⟩:=sets6 e1 e2 e5 e11 e12 e13;refine LoopT.wp ?_;unfold c_slim_b0;refine cS (cR ?_);refine wp_bool rfl (fun hb1=>?_) (fun hb1=>?_)
    · have hj:=of_ltN hb1;obtain ⟨w,r,hw,hp⟩:=hfs.at hj;refine oZ (cS (cC rfl (cK (cS (cB ?_)))));refine cS (cR ?_);refine oI (iaddrF_sem hfs hj rfl rfl) ?_;refine oI (loadN_sem (k:=2) (H.tail) hp (by simp) rfl) ?_;refine wp_alloc H fun q2 h H=>?_
      refine wp_store (k:=0) rfl rfl rfl (by first | rfl | exact len_of (DT.len _) | exact len_of (DE.len _) | exact len_of (DV.len _)) H rfl (fun k=>by first | exact spliceK_len (by first | exact DT.len _ | exact DE.len _ | exact DV.len _) k | rfl) fun h H=>?_
      refine oZ (cR (oI rfl (oI rfl ?_)));refine oI (sem_load rfl (H.at 0 rfl) (fun _=>by first | rfl | exact hfs.part rfl | exact hos.part rfl | exact BV.part hw rfl | exact BV.part hb0 rfl)) ?_;refine oI (len_str rfl) (oI rfl ?_);refine oI (sem_load rfl (H.at 0 rfl) (fun _=>by first | rfl | exact hfs.part rfl | exact hos.part rfl | exact BV.part hw rfl | exact BV.part hb0 rfl)) ?_;refine oI (len_BV hw rfl) (oI rfl (oI rfl (oI rfl (oZ (cR ?_)))));refine oI (sem_int rfl (w64_succ (by omega))) ?_;refine oI rfl (oZ ?_);have hs:fs.length ≤ 300→szF (fs.take j) + (fs[j].1.length + fs[j].2.length) < 9223372036854775808:=fun h3=>by
        have h4:=szF_le (fs:=fs.take (j + 1)) fun f m=>hbig f (List.mem_of_mem_take m)
        rw [szF_snoc hj,List.length_take] at h4;omega
      refine ih (fs.length - (j + 1)) (by omega) (j + 1) _ rfl _ _ H.tail rfl rfl rfl rfl rfl rfl (fun h3=>?_);rw [szF_snoc hj];exact w64_sum2 (hz h3) (hs h3)
    · have hj:=of_geN hb1;refine oZ (cS (cF rfl (cX ?_)));refine hend _ _ z H rfl rfl rfl (fun h3=>?_);rw [hz h3,List.take_of_length_le hj]
theorem slim_loop2 {q:Pos} (hos:OpsV L ov ops) (hlen:ops.length ≤ 9223372036854775807) (hbf:bigF fs) (hbig:bigO ops) {Q:XExit→Tm→Heap→Prop} (hend:∀ tm h z,Has h ((q,.row tyD [fv] false) :: L)→tm.get (.lo .d0 .d1) = some ov→tm.get (.lo .d0 .d2) = some (.ptr q 0)→tm.get (.lo .d0 .d5) = some (.int .i64 z)→(fs.length ≤ 300→ops.length ≤ 300→z = Int.ofNat (szF fs + szO ops))→Q (.exit 2) tm h) :
    ∀ (k j:Nat) (z:Int),ops.length - j = k→∀ (tm:Tm) (h:Heap),Has h ((q,.row tyD [fv] false) :: L)→tm.get (.lo .d0 .d1) = some (ov)→tm.get (.lo .d0 .d2) = some (.ptr q 0)→tm.get (.lo .d0 .d5) = some (.int .i64 z)→tm.get (.lo .d1 .d11) = some (ov)→tm.get (.lo .d1 .d12) = some (.int .i64 (.ofNat ops.length))→tm.get (.lo .d1 .d13) = some (.int .i64 (.ofNat j))→(fs.length ≤ 300→ops.length ≤ 300→z = Int.ofNat (szF fs + szO (ops.take j)))→LoopT E c_slim_b1 Q tm h:=by
  intro k
  induction k using Nat.strongRecOn with
  | ind k ih =>
    intro j z hk tm h H e1 e2 e5 e27 e28 e29 hz;obtain ⟨tm,rfl⟩:=sets6 e1 e2 e5 e27 e28 e29;refine LoopT.wp ?_;unfold c_slim_b1;refine cS (cR ?_);refine wp_bool rfl (fun hb1=>?_) (fun hb1=>?_)
    · have hj:=of_ltN hb1;obtain ⟨w,r,hw,hp⟩:=hos.at hj;refine oZ (cS (cC rfl (cK (cS (cB ?_)))));refine cS (cR ?_);refine oI (iaddrO_sem hos hj rfl rfl) ?_;refine oI (loadN_sem (k:=4) (H.tail) hp (by simp) rfl) ?_;refine wp_alloc H fun q2 h H=>?_
      refine wp_store (k:=0) rfl rfl rfl (by first | rfl | exact len_of (DT.len _) | exact len_of (DE.len _) | exact len_of (DV.len _)) H rfl (fun k=>by first | exact spliceK_len (by first | exact DT.len _ | exact DE.len _ | exact DV.len _) k | rfl) fun h H=>?_
      refine oZ (cR (oI rfl (oI rfl ?_)));refine oI (sem_load rfl (H.at 0 rfl) (fun _=>by first | rfl | exact hfs.part rfl | exact hos.part rfl | exact BV.part hw rfl | exact BV.part hb0 rfl)) ?_;refine oI (len_str rfl) (oI rfl ?_);refine oI (sem_load rfl (H.at 0 rfl) (fun _=>by first | rfl | exact hfs.part rfl | exact hos.part rfl | exact BV.part hw rfl | exact BV.part hb0 rfl)) ?_;refine oI (len_str rfl) (oI rfl (oI rfl ?_));refine oI (sem_load rfl (H.at 0 rfl) (fun _=>by first | rfl | exact hfs.part rfl | exact hos.part rfl | exact BV.part hw rfl | exact BV.part hb0 rfl)) ?_;refine oI (len_BV hw rfl) (oI rfl (oI rfl (oI rfl (oZ (cR ?_)))));refine oI (sem_int rfl (w64_succ (by omega))) ?_;refine oI rfl (oZ ?_);have hs:fs.length ≤ 300→ops.length ≤ 300→szF fs + szO (ops.take j) + (ops[j].name.length + ops[j].to.length + ops[j].b.length) < 9223372036854775808:=fun h3 h5=>by
        have h4:=szO_le (ops:=ops.take (j + 1)) fun f m=>hbig f (List.mem_of_mem_take m)
        have h6:=szF_le hbf;rw [szO_snoc hj,List.length_take] at h4;omega
      refine ih (ops.length - (j + 1)) (by omega) (j + 1) _ rfl _ _ H.tail rfl rfl rfl rfl rfl rfl (fun h3 h5=>?_);rw [szO_snoc hj,← Nat.add_assoc];exact w64_sum3 (hz h3 h5) (hs h3 h5)
    · have hj:=of_geN hb1;refine oZ (cS (cF rfl (cX ?_)));refine hend _ _ z H rfl rfl rfl (fun h3 h5=>?_);rw [hz h3 h5,List.take_of_length_le hj]
theorem slim_ok (C:Code E) (H:Has h L) (hfs:FsV L fv fs) (hos:OpsV L ov ops) (hl1:fs.length ≤ 9223372036854775807) (hl2:ops.length ≤ 9223372036854775807) (hbf:bigF fs) (hbo:bigO ops):CallT E (.func n_slim [] []) [.agg [fv],ov] h fun r h'=>∃ b,r = .bool b∧Has h' L∧(b = true→fs.length ≤ 300∧ops.length ≤ 300∧szF fs + szO ops ≤ 1000000):=by
  refine CallT.body C.slim ?_;unfold BodyT c_slim;refine cS (cR ?_);refine wp_box rfl rfl H fun q1 h H=>?_
  refine oI rfl (oZ ?_);refine cS (cR ?_);refine oI rfl (oZ (cS ?_));refine cS (cR ?_);refine oI rfl ?_;refine oI (sem_load rfl (H.at 0 rfl) (fun _=>by first | rfl | exact hfs.part rfl | exact hos.part rfl | exact BV.part hw rfl | exact BV.part hb0 rfl)) ?_;refine oI (lenF_sem hfs rfl) (oI rfl (oZ (cB ?_)));refine wpC_loop (slim_loop1 (q:=q1) (ov:=ov) hfs hl1 hbf (fun tm h z H e1 e2 e5 hz=>?_) (fs.length - 0) 0 0 rfl _ _ H rfl rfl rfl rfl rfl rfl (fun _=>rfl));obtain ⟨tm,rfl⟩:=sets3 e1 e2 e5;refine cS ?_;refine cS (cR ?_);refine oI rfl (oI (lenO_sem hos rfl) (oI rfl (oZ (cB ?_))));refine wpC_loop (slim_loop2 (q:=q1) (fv:=fv) hos hl2 hbf hbo (fun tm h z H e1 e2 e5 hz=>?_) (ops.length - 0) 0 z rfl _ _ H rfl rfl rfl rfl rfl rfl (fun h3 _=>hz h3));obtain ⟨tm,rfl⟩:=sets3 e1 e2 e5;refine cS (cR ?_);refine oI rfl ?_;refine oI (sem_load rfl (H.at 0 rfl) (fun _=>by first | rfl | exact hfs.part rfl | exact hos.part rfl | exact BV.part hw rfl | exact BV.part hb0 rfl)) ?_;refine oI (lenF_sem hfs rfl) ?_;refine wp_bool rfl (fun hb2=>?_) (fun hb2=>?_)
  · have h1:=leI_le hb2
    try simp only [ofNat_cast] at h1
    refine oI rfl (oN rfl (oI rfl (oN rfl (oI (lenO_sem hos rfl) (oN rfl ?_)))));refine wp_bool rfl (fun hb3=>?_) (fun hb3=>?_)
    · have h2:=leI_le hb3
      try simp only [ofNat_cast] at h2
      refine oI rfl (oI rfl (oN rfl (oI rfl (oN rfl ?_))));refine wp_bool rfl (fun hb4=>?_) (fun hb4=>?_)
      · have h3:=leI_le hb4
        try simp only [ofNat_cast] at h3
        refine oI rfl (oI rfl (oZ (cT ?_)));refine ⟨trivial,_,rfl,?_⟩;exact ⟨_,rfl,H.tail,fun e=>by first | (simp at e;done) | (have h4:=hz (by omega) (by omega);rw [h4,ofNat_cast] at h3;exact ⟨by omega,by omega,by omega⟩)⟩
      · have h3:=leI_gt hb4
        try simp only [ofNat_cast] at h3
        refine oI rfl (oI rfl (oZ (cT ?_)));refine ⟨trivial,_,rfl,?_⟩;exact ⟨_,rfl,H.tail,fun e=>by first | (simp at e;done) | (have h4:=hz (by omega) (by omega);rw [h4,ofNat_cast] at h3;exact ⟨by omega,by omega,by omega⟩)⟩
    · have h2:=leI_gt hb3
      try simp only [ofNat_cast] at h2
      refine oI rfl (oI rfl (oF rfl (oF rfl (oI rfl (oI rfl (oZ (cT ?_)))))));refine ⟨trivial,_,rfl,?_⟩;exact ⟨_,rfl,H.tail,fun e=>by first | (simp at e;done) | (have h4:=hz (by omega) (by omega);rw [h4,ofNat_cast] at h3;exact ⟨by omega,by omega,by omega⟩)⟩
  · have h1:=leI_gt hb2
    try simp only [ofNat_cast] at h1
    refine oI rfl (oF rfl (oF rfl (oF rfl (oI rfl (oI rfl (oF rfl (oF rfl (oI rfl (oI rfl (oZ (cT ?_)))))))))));refine ⟨trivial,_,rfl,?_⟩;exact ⟨_,rfl,H.tail,fun e=>by first | (simp at e;done) | (have h4:=hz (by omega) (by omega);rw [h4,ofNat_cast] at h3;exact ⟨by omega,by omega,by omega⟩)⟩
/-! ### plain -/
theorem applyL_noB:∀ {ops:List OpV} {D D':List FD},applyL D ops = some D'→∀ op ∈ ops,¬ isBy op→op.b.length = 0
  | [],_,_,_,op,hm,_=>by simp at hm
  | o :: ops,D,D',h,op,hm,hb=>by
    simp only [applyL] at h
    cases hd:applyD D o with
    | none=>rw [hd] at h;simp at h
    | some E =>
      rw [hd] at h
      rcases List.mem_cons.1 hm with rfl | hm
      · unfold applyD at hd
        split at hd
        · rename_i hv
          obtain ⟨_,h2,_,h4,_⟩:=hv;unfold verbD at h4;unfold isBy at hb;rw [if_neg (fun e=>hb (.inl e)),if_neg (fun e=>hb (.inr e))] at h4
          split at h4
          · simp only [Bool.and_eq_true,decide_eq_true_eq] at h4;exact h4.2
          · simp only [Bool.and_eq_true,decide_eq_true_eq] at h4;exact h4.2
        · simp at hd
      · exact applyL_noB h op hm hb
def keepAll (ops:List OpV):List Int:=ops.map fun op=>Int.ofNat (max 1 op.b.length)
theorem keepAll_length (ops:List OpV):(keepAll ops).length = ops.length:=by simp [keepAll]
theorem keepAll_at {ops:List OpV} {i:Nat} (hi:i < ops.length) (hk:i < (keepAll ops).length):(keepAll ops)[i] = Int.ofNat (max 1 ops[i].b.length):=by simp [keepAll]
theorem crashD_all {D D':List FD} {op:OpV} (h:applyD D op = some D') (hb : ¬ isBy op→op.b.length = 0):crashD D op (Int.ofNat (max 1 op.b.length)) = D':=by
  have ht:tornOp op (Int.ofNat (max 1 op.b.length)) = some op:=by
    unfold tornOp
    by_cases hy:isBy op
    · rw [if_pos hy,if_pos (by simp only [ofNat_cast];omega)];have e:min (Int.ofNat (max 1 op.b.length)).toNat op.b.length = op.b.length:=by
        have:(Int.ofNat (max 1 op.b.length)).toNat = max 1 op.b.length:=rfl;rw [this];omega
      rw [e,List.take_of_length_le (Nat.le_refl _)]
    · have h0:=hb hy;rw [if_neg hy,if_pos (by rw [h0];rfl)]
  unfold applyD at h
  split at h
  · rename_i hv
    simp only [sJ] at h;unfold crashD;rw [ht];dsimp only;rw [if_pos hv,h]
  · simp at h
theorem crashL_all:∀ {ops:List OpV} {D D':List FD},applyL D ops = some D'→(∀ op ∈ ops,¬ isBy op→op.b.length = 0)→crashL D (ops.zip (keepAll ops)) = D'
  | [],D,D',h,_=>by simp only [applyL,sJ] at h;subst h;rfl
  | o :: ops,D,D',h,hb=>by
    simp only [applyL] at h
    cases hd:applyD D o with
    | none=>rw [hd] at h;simp at h
    | some E =>
      rw [hd] at h;show crashL (crashD D o (Int.ofNat (max 1 o.b.length))) (ops.zip (keepAll ops)) = D';rw [crashD_all hd (hb o m0)];exact crashL_all h fun op hm=>hb op (mS _ hm)
theorem keepAll_ok {ops:List OpV} (hb:∀ op ∈ ops,¬ isBy op→op.b.length = 0) : ¬ badL ops (keepAll ops):=by
  rintro ⟨i,hi,hk,hbad⟩;rw [keepAll_at hi hk] at hbad;unfold badK at hbad
  split at hbad
  · simp only [ofNat_cast] at hbad;omega
  · rename_i hy
    have h0:=hb _ (List.getElem_mem hi) hy;rw [h0] at hbad;exact hbad.2 rfl
theorem nowS_some {D:List FD} (h:nowS fs ops = some D):okS fs∧ops.length ≤ 200∧applyL fs ops = some D:=by
  unfold nowS at h
  split at h
  · rename_i hk;exact ⟨hk.1,hk.2,h⟩
  · simp at h
theorem nowS_sorted {D:List FD} (h:OkF D):nowS (sortF D) [] = some (sortF D):=by
  unfold nowS;rw [if_pos ⟨okF_sort h,by simp⟩];rfl
theorem sort_sort {D:List FD} (h:OkF D):sortF (sortF D) = sortF D:=okS_sorted (okF_sort h)
theorem nowS_snoc {D D':List FD} (h:nowS fs ops = some D) (hl:ops.length < 200) (hd:applyD D op = some D'):nowS fs (ops++[op]) = some D':=by
  obtain ⟨h1,_,h3⟩:=nowS_some h;unfold nowS;rw [if_pos ⟨h1,by rw [List.length_append];simp;omega⟩,applyL_app,h3];simp only [applyL,hd]
theorem nowS_one {D D':List FD} (h:OkF D) (hd:applyD (sortF D) op = some D'):nowS (sortF D) ([]++[op]) = some D':=nowS_snoc (nowS_sorted h) (by simp) hd
end
end Go.X

/- CkptSynced: the law. -/
namespace Go.X
open Go
abbrev tyI:TypeId:=3
section
variable {E:XEnv} {d:Option Slot} {opl:List XOp} {Q:Tm→Heap→Prop} {tm:Tm} {x y:XO} {h:Heap} {L M K:List (Pos × AObj)} {v w fv ov:AV} {l m:List Nat} {fs:List FD} {ops:List OpV} {op:OpV} {cs:List AV}
theorem chk_alloc {d:Slot} {l:List XOp} {ty:TypeId} {zs:List AV} {q:Pos} (hg:tm.get d = some (.ptr q 0)) (hq:h.get q = .row ty zs false) (hl:wpK l tm h):wpK (⟨some d,none,.ins (.alloc ty zs)⟩ :: l) tm h:=by
  refine ⟨fun k=>?_,hl⟩;have hs:(XI.alloc ty zs).sem tm h = .ok (.ptr h.next 0) (h.push (.row ty zs false)):=rfl;have e1:chkF ⟨some d,none,.ins (.alloc ty zs)⟩ tm h k = semF (.alloc ty zs) tm h fun v h'=>getF tm d fun v'=>sameNew v h' v' h k:=rfl
  rw [e1,semF_eq,hs,viaOut_ok,getF_eq,hg,optR_some];have e2:sameNew (.ptr h.next 0) (h.push (.row ty zs false)) (.ptr q 0) h k = yes? (beqObj ((h.push (.row ty zs false)).get h.next) (h.get q)) k .bad:=rfl;have e4:beqObj (.row ty zs false) (.row ty zs false) = true:=by simp [beqObj,AV.beqs_refl,beqB]
  rw [e2,Heap.get_push_same,hq,e4];rfl
def NumsAt (v:AV) (cs:List AV) (n:Nat) (fl:List (Pos × AObj)):Prop:=cs.length = n∧((v = .nilslice∧n = 0∧fl = [])∨(0 < n∧∃ p,v = .slice p 0 n (.up 1)∧fl = [(p,.row tyI cs true)]))
theorem wp_numApp {a:AV} {n:Nat} {pn:Pos} {ty:TypeId} {sp:Bool} {fl:List (Pos × AObj)} (hf:NumsAt v cs n fl) (H:Has h ((pn,.row ty [a] sp) :: (fl++L))) (hn:n ≤ 2000000) (hx:x.val tm = some v) (hy:y.val tm = some (.slice pn 0 1 (.ex 1)))
    (hq:∀ v' h' fl',NumsAt v' (cs++[a]) (n + 1) fl'→Has h' (fl'++L)→wpOps E opl Q (putT d v' tm) h'):wpOps E (⟨d,none,.ins (.append tyI 1 8 x y)⟩ :: opl) Q tm h:=by
  have hgp:h.get pn = .row ty [a] sp:=H.mem (x:=(pn,_)) m0;have hsrc:srcOf 1 (.slice pn 0 1 (.ex 1)) h = some (1,[a]):=by simp only [srcOf,hgp];rfl
  have hsem:(XI.append tyI 1 8 x y).sem tm h = appendTo tyI 1 8 v 1 [a] h:=by simp only [XI.sem,appendS,withO_run hx,withO_run hy,hsrc]
  obtain ⟨hl,hf⟩:=hf
  rcases hf with ⟨rfl,rfl,rfl⟩ | ⟨hpos,p,rfl,rfl⟩
  · have hcs:cs = []:=List.eq_nil_of_length_eq_zero (by omega);subst hcs;refine oI (v:=.slice h.next 0 1 (.up 1)) (h':=h.push (.row tyI [a] true)) ?_ (hq _ _ _ ⟨rfl,.inr ⟨by omega,h.next,rfl,rfl⟩⟩ (H.tail.push _));rw [hsem];rfl
  · have hgf:h.get p = .row tyI cs true:=H.mem (x:=(p,_)) (by simp);have hd:dropE (0 + (n + 1) * 1) cs = none:=dropE_gt (by omega);have hsb:sub cs 0 (n * 1) = some cs:=by rw [sub_of (by omega),List.drop_zero,List.take_of_length_le (by omega)]
    have hs:small (n + 1) 8 = true:=by unfold small;exact Nat.ble_eq_true_of_le (by omega)
    have hset:Has (h.set p .dead) L:=(H.tail.set (k:=0) rfl .dead).tail;have hp:=hset.push (.row tyI (cs++[a]) true);refine oI (h':=(h.set p .dead).push (.row tyI (cs++[a]) true)) (v:=.slice (h.set p .dead).next 0 (n + 1) (.up 1)) ?_ (hq _ _ _ ⟨by simp [hl],.inr ⟨by omega,_,rfl,rfl⟩⟩ hp);rw [hsem];have hz:Nat.beq 1 1 = true:=rfl;have h0:Nat.beq 8 0 = false:=rfl;have hb1:Nat.beq tyI tyI = true:=Nat.beq_refl _;simp only [appendTo,hgf,hz,hd,hs,h0,hb1,hsb,Heap.setK,Heap.pushK]
theorem maxOne_sem {b:Nat} {y:XO} (hy:y.val tm = some (.int .i64 (.ofNat b))):(XI.minmax true [.c (.int .i64 1),y]).sem tm h = .ok (.int .i64 (.ofNat (max 1 b))) h:=by
  have hx:(XO.c (.int .i64 1)).val tm = some (.int .i64 (.ofNat 1)):=rfl;have e:withL [.c (.int .i64 1),y] tm = fun k=>k [.int .i64 (.ofNat 1),.int .i64 (.ofNat b)]:=by
    funext k
    simp only [withL,withO_run hx,withO_run hy]
  simp only [XI.sem,minmaxS,e,minmaxL]
  by_cases hlt:1 < b
  · have h1:ltI (.ofNat 1) (.ofNat b) = true:=ltI_of hlt;simp only [h1];rw [Nat.max_eq_right (by omega)];rfl
  · have h1:ltI (.ofNat 1) (.ofNat b) = false:=ltI_not hlt;simp only [h1];rw [Nat.max_eq_left (by omega)];rfl
theorem fs_nil:FsV L .nilslice []:=⟨[],.nil,rfl,.inl ⟨rfl,rfl⟩⟩
theorem ops_nil:OpsV L .nilslice []:=⟨[],.nil,rfl,.inl ⟨rfl,rfl⟩⟩
theorem ks_nil:KsV L .nilslice []:=⟨rfl,.inl ⟨rfl,rfl⟩⟩
theorem sets8 {t:Tm} {p1 p2 p3 p4 p5 p6 p7 p8:Slot} {v1 v2 v3 v4 v5 v6 v7 v8:AV} (h1:t.get p1 = some v1) (h2:t.get p2 = some v2) (h3:t.get p3 = some v3) (h4:t.get p4 = some v4) (h5:t.get p5 = some v5) (h6:t.get p6 = some v6) (h7:t.get p7 = some v7) (h8:t.get p8 = some v8):∃ s:Tm,t = (((((((s.set p1 v1).set p2 v2).set p3 v3).set p4 v4).set p5 v5).set p6 v6).set p7 v7).set p8 v8:=⟨t,by rw [TT.set_self h1,TT.set_self h2,TT.set_self h3,TT.set_self h4,TT.set_self h5,TT.set_self h6,TT.set_self h7,TT.set_self h8]⟩
theorem law_loop (hos:OpsV L ov ops) (hlen:ops.length ≤ 2000000) {Q:XExit→Tm→Heap→Prop} {q2 q3 q5 q7:Pos} (hend:∀ tm h K fl kv,(∀ x ∈ L,x ∈ K)→Has h (fl++K)→NumsAt kv ((keepAll ops).map (AV.int .i64)) ops.length fl→tm.get (.lo .d0 .d2) = some (.ptr q2 0)→tm.get (.lo .d0 .d3) = some (.ptr q3 0)→tm.get (.lo .d0 .d5) = some (.ptr q5 0)→tm.get (.lo .d0 .d7) = some (.ptr q7 0)→tm.get (.lo .d0 .d11) = some kv→Q (.exit 0) tm h) :
    ∀ (k j:Nat),ops.length - j = k→j ≤ ops.length→∀ (tm:Tm) (h:Heap) (K fl:List (Pos × AObj)) (kv:AV),(∀ x ∈ L,x ∈ K)→Has h (fl++K)→NumsAt kv ((keepAll (ops.take j)).map (AV.int .i64)) j fl→tm.get (.lo .d0 .d2) = some (.ptr q2 0)→tm.get (.lo .d0 .d3) = some (.ptr q3 0)→tm.get (.lo .d0 .d5) = some (.ptr q5 0)→tm.get (.lo .d0 .d7) = some (.ptr q7 0)→tm.get (.lo .d0 .d11) = some kv→tm.get (.lo .d4 .d10) = some ov→tm.get (.lo .d4 .d11) = some (.int .i64 (.ofNat ops.length))→tm.get (.lo .d4 .d12) = some (.int .i64 (.ofNat j))→LoopT E c_law_b0 Q tm h:=by
  intro k
  induction k using Nat.strongRecOn with
  | ind k ih =>
    intro j hk hjl tm h K fl kv hK H hf e2 e3 e5 e7 e11 e74 e75 e76;obtain ⟨tm,rfl⟩:=sets8 e2 e3 e5 e7 e11 e74 e75 e76;refine LoopT.wp ?_;unfold c_law_b0;refine cS (cR ?_);refine wp_bool rfl (fun hb1=>?_) (fun hb1=>?_)
    · have hj:=of_ltN hb1;obtain ⟨w,r,hw,hp⟩:=hos.at hj;refine oZ (cS (cC rfl (cK (cS (cB ?_)))));refine cS (cR ?_);refine oI (iaddrO_sem hos hj rfl rfl) ?_;refine oI (loadN_sem (k:=4) H (hp.mono fun x m=>List.mem_append_right _ (hK x m)) (by simp) rfl) ?_;refine wp_alloc H fun q13 h H=>?_
      refine wp_store (k:=0) rfl rfl rfl (by first | rfl | exact len_of (DT.len _) | exact len_of (DE.len _) | exact len_of (DV.len _)) H rfl (fun k=>by first | exact spliceK_len (by first | exact DT.len _ | exact DE.len _ | exact DV.len _) k | rfl) fun h H=>?_
      refine oZ (cR (oI rfl (oI rfl ?_)));refine oI (sem_load rfl (H.at 0 rfl) (fun _=>by first | rfl | exact BV.part hw rfl)) ?_;refine oI (len_BV hw rfl) (oI (maxOne_sem rfl) ?_);refine wp_bslice (cs:=[.int .i64 (.ofNat (max 1 ops[j].b.length))]) (fun k=>rfl) H fun q85 h H=>?_
      have H:Has h ((q85,_) :: (fl++(q13,_) :: K)):=H.perm (List.Perm.cons _ List.perm_middle.symm);refine wp_numApp hf H (by omega) rfl rfl fun kv2 h fl2 hf2 H=>?_
      refine oI rfl (oZ (cR ?_));refine oI (sem_int rfl (w64_succ (by omega))) ?_;refine oI rfl (oZ ?_);have hks:(keepAll (ops.take j)).map (AV.int .i64)++[.int .i64 (.ofNat (max 1 ops[j].b.length))] = (keepAll (ops.take (j + 1))).map (AV.int .i64):=by
        rw [List.take_add_one,List.getElem?_eq_getElem hj,Option.toList_some];simp only [keepAll,List.map_append,List.map_cons,List.map_nil]
      rw [hks] at hf2;exact ih (ops.length - (j + 1)) (by omega) (j + 1) rfl hj _ _ _ _ _ (fun x m=>mS _ (hK x m)) H hf2 rfl rfl rfl rfl rfl rfl rfl rfl
    · have hj:=of_geN hb1;refine oZ (cS (cF rfl (cX ?_)));obtain rfl:j = ops.length:=by omega
      rw [List.take_length] at hf;exact hend _ _ _ _ _ hK H hf rfl rfl rfl rfl rfl
theorem law_ok (C:Code E) (CD:E.fn n_disk = some (.con (diskV tyF tyB))) (hsane:∀ h,CallT E (.func n_sane [] []) [] h fun r h'=>r = .bool true∧h' = h) (H:Has h L) (hfs:FsV L fv fs) (hos:OpsV L ov ops) (hcap:∀ p o m c,ov = .slice p o m c→capOK4 m c) (hb0:BV L w op.b)
    (hbf:bigF fs) (hbo:bigO ops) (hbo1:bigO [op]) (hm1:fs.length ≤ big47) (hm2:ops.length ≤ big47) :
    CallT E (.func n_law [] []) [.agg [fv,ov],opAV op w] h fun r _=>r = .bool true:=by
  have hmN:maxN = 9223372036854775807:=rfl;have hb47:big47 = 140737488355328:=rfl;have hml:fs.length ≤ maxN:=by omega
  have hmo:ops.length ≤ maxN:=by omega
  have hnl:∀ f ∈ fs,f.1.length ≤ maxN:=fun f m=>by have:=(hbf f m).1;omega
  have hbl:∀ f ∈ fs,f.2.length ≤ maxN:=fun f m=>by have:=(hbf f m).2;omega
  have small1:∀ {n:Nat},n ≤ 2000000→n ≤ maxN:=fun hn=>by have:maxN = 9223372036854775807:=rfl;omega
  have okn:∀ {D:List FD},OkF D→(∀ f ∈ D,f.1.length ≤ maxN)∧(∀ f ∈ D,f.2.length ≤ maxN)∧D.length ≤ maxN:=fun hD=>⟨fun f m=>small1 (by have:=(hD.ok f m).1.2.1;omega),fun f m=>small1 (by have:=(hD.ok f m).2;omega),small1 (by have:=hD.len;omega)⟩
  have hsync:okOp syncOp:=⟨by decide,by decide,by decide⟩;refine CallT.body C.law ?_;unfold BodyT c_law;refine cS (cR ?_);refine wp_box rfl rfl H fun q2 h H=>?_
  obtain ⟨L2,H,h_q2,hsub⟩:∃ L2,Has h L2∧(q2,AObj.row tyV [fv,ov] false) ∈ L2∧∀ x ∈ _,x ∈ L2:=⟨_,H,m0,fun x m=>mS _ m⟩;replace hfs:=hfs.mono hsub;replace hos:=hos.mono hsub;replace hb0:=hb0.mono hsub;refine wp_box rfl rfl H fun q3 h H=>?_
  obtain ⟨L2,H,h_q3,hsub⟩:∃ L2,Has h L2∧(q3,AObj.row tyO [.int .i64 op.kind,.str op.name,.str op.to,w] false) ∈ L2∧∀ x ∈ _,x ∈ L2:=⟨_,H,m0,fun x m=>mS _ m⟩;replace h_q2:=hsub _ h_q2;replace hfs:=hfs.mono hsub;replace hos:=hos.mono hsub;replace hb0:=hb0.mono hsub;refine oI rfl (oZ (cS ?_));refine cS (cR ?_);refine wp_call rfl (hsane _) ?_;rintro _ _ ⟨rfl,rfl⟩;refine oI rfl (oZ (cF rfl (cK (cS ?_))));refine cS (cR ?_);refine oI rfl ?_;refine oI (sem_load rfl (H.mem (x:=(q2,_)) (h_q2)) (fun _=>by first | rfl | exact hfs.part rfl | exact hos.part rfl)) ?_;refine oI rfl ?_;refine oI (sem_load rfl (H.mem (x:=(q2,_)) (h_q2)) (fun _=>by first | rfl | exact hfs.part rfl | exact hos.part rfl)) ?_;refine wp_call rfl (slim_ok C H hfs hos hml hmo hbf hbo) ?_;rintro _ h ⟨b,rfl,H,hsz⟩
  cases b
  · clear hsz;refine oI rfl (oI rfl (oF rfl (oF rfl (oF rfl (oF rfl (oF rfl (oI rfl (oZ (cC rfl ?_)))))))));refine cS (cR ?_);refine oI rfl (oZ (cT ?_));refine ⟨trivial,_,rfl,?_⟩;rfl
  · obtain ⟨hs1,hs2,hs3⟩:=hsz rfl;have hl1:fs.length ≤ 2000000:=by omega
    have hl2:ops.length ≤ 2000000:=by omega
    have hop:∀ o ∈ ops,okOp o:=fun o m=>by have:=szO_mem m;exact ⟨by omega,by omega,by omega⟩
    refine oI rfl (oI rfl (oN rfl (oI rfl (oN rfl ?_))));refine oI (sem_load rfl (H.mem (x:=(q3,_)) (h_q3)) (fun _=>by first | rfl | exact hfs.part rfl | exact hos.part rfl)) ?_;refine oN rfl ?_;refine wp_bslice (cs:=[.int .i64 op.kind,.str op.name,.str op.to,w]) (fun k=>rfl) H fun q39 h H=>?_
    obtain ⟨L2,H,h_q39,hsub⟩:∃ L2,Has h L2∧(q39,AObj.row tyO [.int .i64 op.kind,.str op.name,.str op.to,w] false) ∈ L2∧∀ x ∈ _,x ∈ L2:=⟨_,H,m0,fun x m=>mS _ m⟩;replace h_q2:=hsub _ h_q2;replace h_q3:=hsub _ h_q3;replace hfs:=hfs.mono hsub;replace hos:=hos.mono hsub;replace hb0:=hb0.mono hsub;have hone:OpsV L2 (.slice q39 0 1 (.ex 1)) [op]:=⟨_,.cons hb0 .nil,rfl,.inr (.inr ⟨q39,_,tyO,false,rfl,h_q39⟩)⟩;refine oN rfl ?_;refine wp_call rfl (slim_ok C H fs_nil hone (by simp) (by simp) (fun _ m=>absurd m List.not_mem_nil) hbo1) ?_;rintro _ h ⟨b,rfl,H,hsz⟩
    cases b
    · clear hsz;refine oN rfl (oI rfl (oI rfl (oZ (cC rfl ?_))));refine cS (cR ?_);refine oI rfl (oZ (cT ?_));refine ⟨trivial,_,rfl,?_⟩;rfl
    · have hop1 : okOp op:=by
        have h3:=(hsz rfl).2.2;have h4:=szO_mem (ops:=[op]) m0;exact ⟨by omega,by omega,by omega⟩
      refine oN rfl (oI rfl (oI rfl (oZ (cF rfl (cK ?_)))));refine cS (cR ?_);refine oI (sem_load rfl (H.mem (x:=(q2,_)) (h_q2)) (fun _=>by first | rfl | exact hfs.part rfl | exact hos.part rfl)) ?_;refine wp_call rfl (ckNow_ok C CD H hfs hos hnl hbl hml hmo hop) ?_;rintro r h hN;unfold NowO at hN
      cases hn:nowS fs ops
      · rw [hn] at hN;obtain ⟨rfl,M,hsub,H,_⟩:=hN;replace h_q2:=hsub _ h_q2;replace h_q3:=hsub _ h_q3;replace h_q39:=hsub _ h_q39;replace hfs:=hfs.mono hsub;replace hos:=hos.mono hsub;replace hb0:=hb0.mono hsub;refine oI rfl (oI rfl (oI rfl ?_));refine wp_alloc H fun q5 h H=>?_
        refine wp_store (k:=0) rfl rfl rfl rfl H rfl (fun k=>rfl) fun h H=>?_
        obtain ⟨L2,H,h_q5,hsub⟩:∃ L2,Has h L2∧(q5,AObj.row tyD [.nilslice] false) ∈ L2∧∀ x ∈ _,x ∈ L2:=⟨_,H,m0,fun x m=>mS _ m⟩;replace h_q2:=hsub _ h_q2;replace h_q3:=hsub _ h_q3;replace h_q39:=hsub _ h_q39;replace hfs:=hfs.mono hsub;replace hos:=hos.mono hsub;replace hb0:=hb0.mono hsub;refine oI rfl (oZ (cS (wpC_phase rfl ?_)));refine oI (sem_load rfl (H.mem (x:=(q2,_)) (h_q2)) (fun _=>by first | rfl | exact hfs.part rfl | exact hos.part rfl)) ?_;refine wp_alloc H fun q7 h H=>?_
        refine oZ ⟨?_,?_⟩
        · refine kI (sem_load rfl (H.mem (x:=(q2,_)) (mS _ (h_q2))) (fun _=>by first | rfl | exact hfs.part rfl | exact hos.part rfl)) rfl rfl ?_;refine chk_alloc rfl (H.at 0 rfl) ?_;exact kZ
        · refine wp_call rfl (sync_ok C H) ?_;rintro _ h ⟨rfl,H⟩;refine oZ (wpC_phase rfl ?_);refine oZ ⟨?_,?_⟩
          · refine kI (sem_load rfl (H.mem (x:=(q2,_)) (mS _ (h_q2))) (fun _=>by first | rfl | exact hfs.part rfl | exact hos.part rfl)) rfl rfl ?_;refine chk_alloc rfl (H.at 0 rfl) ?_;exact kZ
          · have hap7:=(List.pairwise_cons.1 H.2).1;refine wp_call rfl (ckApply_ok C CD (op:=syncOp) (w:=.nilslice) H (hfs.mono (fun x m=>mS _ m)) (hos.mono (fun x m=>mS _ m)) hcap .nil hnl hbl hml hmo hop hsync) ?_;rintro r h hN;unfold ApplyO at hN;rw [hn] at hN;obtain ⟨rfl,M,hM7,H,_⟩:=hN;obtain ⟨K,H,_,hK,_⟩:=Has.own2 (N:=[]) H (hM7 _ m0);have hsub:∀ x ∈ _,x ∈ K:=fun x m=>hK x (hM7 x (mS _ m)) fun e=>hap7 x m e.symm
            replace h_q2:=hsub _ h_q2;replace h_q3:=hsub _ h_q3;replace h_q39:=hsub _ h_q39;replace h_q5:=hsub _ h_q5;replace hfs:=hfs.mono hsub;replace hos:=hos.mono hsub;replace hb0:=hb0.mono hsub;refine oZ (wpC_phase rfl (oI rfl (oI rfl (oI rfl ?_))));refine oZ ⟨?_,?_⟩
            · refine kI (rfl) rfl rfl (kI (rfl) rfl rfl (kI (rfl) rfl rfl (chk_alloc rfl (H.at 0 rfl) ?_)));exact kZ
            · refine wp_store (k:=0) rfl rfl rfl rfl H rfl (fun k=>rfl) fun h H=>?_
              obtain ⟨L2,H,h_q7,hsub⟩:∃ L2,Has h L2∧(q7,AObj.row tyV [.nilslice,.nilslice] false) ∈ L2∧∀ x ∈ _,x ∈ L2:=⟨_,H,m0,fun x m=>mS _ m⟩;replace h_q2:=hsub _ h_q2;replace h_q3:=hsub _ h_q3;replace h_q39:=hsub _ h_q39;replace h_q5:=hsub _ h_q5;replace hfs:=hfs.mono hsub;replace hos:=hos.mono hsub;replace hb0:=hb0.mono hsub;refine oZ (cL rfl (oI rfl ?_));refine oZ ⟨?_,?_⟩
              · refine kI (rfl) rfl rfl (kI (rfl) rfl rfl ?_);exact kZ
              · refine cS ?_;refine cS (cR ?_);refine oI rfl (oI (sem_is (b:=true) rfl rfl) (oI rfl (oF rfl (oF rfl (oI rfl (oZ (cC rfl ?_)))))));refine cS (cR ?_);refine oI (sem_load rfl (H.mem (x:=(q2,_)) (h_q2)) (fun _=>by first | rfl | exact hfs.part rfl | exact hos.part rfl)) ?_;refine wp_call rfl (crash_ok C CD H hfs hos ks_nil hnl hbl hml hmo (by decide) hop) ?_;rintro r h hN
                rcases hN with ⟨_,rfl,M,hsub,H,_⟩ | ⟨_,hne,_⟩ | ⟨_,_,hne,_⟩
                rotate_left
                · exact absurd hn hne
                · exact absurd hn hne
                replace h_q2:=hsub _ h_q2;replace h_q3:=hsub _ h_q3;replace h_q39:=hsub _ h_q39;replace h_q5:=hsub _ h_q5;replace h_q7:=hsub _ h_q7;replace hfs:=hfs.mono hsub;replace hos:=hos.mono hsub;replace hb0:=hb0.mono hsub;refine oI rfl (oI rfl (oI rfl ?_));refine wp_alloc H fun q9 h H=>?_
                refine wp_store (k:=0) rfl rfl rfl rfl H rfl (fun k=>rfl) fun h H=>?_
                obtain ⟨L2,H,h_q9,hsub⟩:∃ L2,Has h L2∧(q9,AObj.row tyV [.nilslice,.nilslice] false) ∈ L2∧∀ x ∈ _,x ∈ L2:=⟨_,H,m0,fun x m=>mS _ m⟩;replace h_q2:=hsub _ h_q2;replace h_q3:=hsub _ h_q3;replace h_q39:=hsub _ h_q39;replace h_q5:=hsub _ h_q5;replace h_q7:=hsub _ h_q7;replace hfs:=hfs.mono hsub;replace hos:=hos.mono hsub;replace hb0:=hb0.mono hsub;refine oI rfl (oZ ?_);refine cS (cR ?_);refine oI rfl (oI rfl (oI (sem_is (b:=true) rfl rfl) (oI rfl (oN rfl (oI rfl (oN rfl (oI rfl (oN rfl (oI (sem_is (b:=true) rfl rfl) (oI rfl (oI rfl ?_)))))))))));refine oZ (cT ?_);refine ⟨trivial,_,rfl,?_⟩;rfl
      · rename_i D
        rw [hn] at hN;obtain ⟨fv5,rfl,M,N,hsub,H,hNM,_,hf_fv5⟩:=hN;replace hf_fv5:=hf_fv5.mono hNM;replace h_q2:=hsub _ h_q2;replace h_q3:=hsub _ h_q3;replace h_q39:=hsub _ h_q39;replace hfs:=hfs.mono hsub;replace hos:=hos.mono hsub;replace hb0:=hb0.mono hsub;obtain ⟨hks0,h200,hap⟩:=nowS_some hn;have hDok:=nowS_ok hn;have hDs:=okS_okF (okF_sort hDok);obtain ⟨okn1,okn2,okn3⟩:=okn hDs;have hss:=sort_sort hDok;have hnb:=applyL_noB hap;have hnS:=nowS_sorted hDok;have hlS:(sortF D).length ≤ 9223372036854775807:=okn3;refine oI rfl (oI rfl (oI rfl ?_));refine wp_alloc H fun q5 h H=>?_
        refine wp_store (k:=0) rfl rfl rfl rfl H rfl (fun k=>rfl) fun h H=>?_
        obtain ⟨L2,H,h_q5,hsub⟩:∃ L2,Has h L2∧(q5,AObj.row tyD [fv5] false) ∈ L2∧∀ x ∈ _,x ∈ L2:=⟨_,H,m0,fun x m=>mS _ m⟩;replace h_q2:=hsub _ h_q2;replace h_q3:=hsub _ h_q3;replace h_q39:=hsub _ h_q39;replace hfs:=hfs.mono hsub;replace hos:=hos.mono hsub;replace hb0:=hb0.mono hsub;replace hf_fv5:=hf_fv5.mono hsub;refine oI rfl (oZ (cS (wpC_phase rfl ?_)));refine oI (sem_load rfl (H.mem (x:=(q2,_)) (h_q2)) (fun _=>by first | rfl | exact hfs.part rfl | exact hos.part rfl)) ?_;refine wp_alloc H fun q7 h H=>?_
        refine oZ ⟨?_,?_⟩
        · refine kI (sem_load rfl (H.mem (x:=(q2,_)) (mS _ (h_q2))) (fun _=>by first | rfl | exact hfs.part rfl | exact hos.part rfl)) rfl rfl ?_;refine chk_alloc rfl (H.at 0 rfl) ?_;exact kZ
        · refine wp_call rfl (sync_ok C H) ?_;rintro _ h ⟨rfl,H⟩;refine oZ (wpC_phase rfl ?_);refine oZ ⟨?_,?_⟩
          · refine kI (sem_load rfl (H.mem (x:=(q2,_)) (mS _ (h_q2))) (fun _=>by first | rfl | exact hfs.part rfl | exact hos.part rfl)) rfl rfl ?_;refine chk_alloc rfl (H.at 0 rfl) ?_;exact kZ
          · have hap7 := (List.pairwise_cons.1 H.2).1;refine wp_call rfl (ckApply_ok C CD (op:=syncOp) (w:=.nilslice) H (hfs.mono (fun x m=>mS _ m)) (hos.mono (fun x m=>mS _ m)) hcap .nil hnl hbl hml hmo hop hsync) ?_;rintro r h hN;unfold ApplyO at hN;rw [hn] at hN;dsimp only at hN;rw [if_pos (show syncOp.kind = 5 from rfl),if_pos (show syncOp.name = []∧syncOp.to = []∧syncOp.b.length = 0 from ⟨rfl,rfl,rfl⟩)] at hN;obtain ⟨fv7,rfl,M,N,hM7,H,hNM,hNL,hf_fv7⟩:=hN;obtain ⟨K,H,_,hK,_⟩:=Has.own2 (N:=[]) H (hM7 _ m0);have hsub:∀ x ∈ _,x ∈ K:=fun x m=>hK x (hM7 x (mS _ m)) fun e=>hap7 x m e.symm
            replace h_q2:=hsub _ h_q2;replace h_q3:=hsub _ h_q3;replace h_q39:=hsub _ h_q39;replace h_q5:=hsub _ h_q5;replace hfs:=hfs.mono hsub;replace hos:=hos.mono hsub;replace hb0:=hb0.mono hsub;replace hf_fv5:=hf_fv5.mono hsub;replace hf_fv7:=hf_fv7.mono fun x m=>hK x (hNM x m) (hNL x m _ m0)
            refine oZ (wpC_phase rfl (oI rfl (oI rfl (oI rfl ?_))));refine oZ ⟨?_,?_⟩
            · refine kI (rfl) rfl rfl (kI (rfl) rfl rfl (kI (rfl) rfl rfl (chk_alloc rfl (H.at 0 rfl) ?_)));exact kZ
            · refine wp_store (k:=0) rfl rfl rfl rfl H rfl (fun k=>rfl) fun h H=>?_
              obtain ⟨L2,H,h_q7,hsub⟩:∃ L2,Has h L2∧(q7,AObj.row tyV [fv7,.nilslice] false) ∈ L2∧∀ x ∈ _,x ∈ L2:=⟨_,H,m0,fun x m=>mS _ m⟩;replace h_q2:=hsub _ h_q2;replace h_q3:=hsub _ h_q3;replace h_q39:=hsub _ h_q39;replace h_q5:=hsub _ h_q5;replace hfs:=hfs.mono hsub;replace hos:=hos.mono hsub;replace hb0:=hb0.mono hsub;replace hf_fv5:=hf_fv5.mono hsub;replace hf_fv7:=hf_fv7.mono hsub;refine oZ (cL rfl (oI rfl ?_));refine oZ ⟨?_,?_⟩
              · refine kI (rfl) rfl rfl (kI (rfl) rfl rfl ?_);exact kZ
              · refine cS ?_;refine cS (cR ?_);refine oI rfl (oI (sem_is (b:=false) rfl rfl) (oI rfl (oN rfl (oI rfl (oN rfl (oI (sem_is (b:=false) rfl rfl) (oI rfl (oZ (cF rfl (cK ?_))))))))));refine cS (cR ?_);refine oI rfl (oZ (cS ?_));refine cS (cR ?_);refine oI rfl ?_;refine oI (sem_load rfl (H.mem (x:=(q2,_)) (h_q2)) (fun _=>by first | rfl | exact hfs.part rfl | exact hos.part rfl)) ?_;refine oI (lenO_sem hos rfl) (oI rfl (oZ (cB ?_)));refine wpC_loop (law_loop (q2:=q2) (q3:=q3) (q5:=q5) (q7:=q7) hos hl2 (fun tm h K fl kv hK H hf e2 e3 e5 e7 e11=>?_) (ops.length - 0) 0 rfl (Nat.zero_le _) _ _ _ [] .nilslice (fun _ m=>m) H ⟨rfl,.inl ⟨rfl,rfl,rfl⟩⟩ rfl rfl rfl rfl rfl rfl rfl rfl);obtain ⟨tm,rfl⟩:=sets5 e2 e3 e5 e7 e11;have hkv:KsV (fl++K) kv (keepAll ops):=by
                  refine ⟨by simp,?_⟩;rw [keepAll_length]
                  rcases hf.2 with ⟨rfl,h0,_⟩ | ⟨_,p,rfl,rfl⟩
                  · exact .inl ⟨rfl,h0⟩
                  · exact .inr (.inr ⟨p,.up 1,tyI,true,rfl,List.mem_append_left _ m0⟩)
                have hsub:∀ x ∈ _,x ∈ fl++K:=fun x m=>List.mem_append_right _ (hK x m)
                replace h_q2:=hsub _ h_q2;replace h_q3:=hsub _ h_q3;replace h_q39:=hsub _ h_q39;replace h_q5:=hsub _ h_q5;replace h_q7:=hsub _ h_q7;replace hfs:=hfs.mono hsub;replace hos:=hos.mono hsub;replace hb0:=hb0.mono hsub;replace hf_fv5:=hf_fv5.mono hsub;replace hf_fv7:=hf_fv7.mono hsub;refine cS (cR ?_);refine oI (sem_load rfl (H.mem (x:=(q2,_)) (h_q2)) (fun _=>by first | rfl | exact hfs.part rfl | exact hos.part rfl)) ?_;refine oI rfl ?_;refine wp_call rfl (crash_ok C CD (fs:=fs) (ops:=ops) (ks:=keepAll ops) H hfs hos hkv hnl hbl hml hmo (by rw [keepAll_length];exact hmo) hop) ?_;rintro r h hN
                rcases hN with ⟨h1,_⟩ | ⟨h1,_⟩ | ⟨_,_,_,fv14,rfl,M,N,hsub,H,hNM,_,hf_fv14⟩
                · exact absurd h1 (by rw [hn];simp)
                · exact False.elim (h1.elim (fun h2=>by rw [keepAll_length] at h2;omega) fun h2=>keepAll_ok hnb h2)
                rw [crashL_all hap hnb] at hf_fv14;replace hf_fv14:=hf_fv14.mono hNM;replace h_q2:=hsub _ h_q2;replace h_q3:=hsub _ h_q3;replace h_q39:=hsub _ h_q39;replace h_q5:=hsub _ h_q5;replace h_q7:=hsub _ h_q7;replace hfs:=hfs.mono hsub;replace hos:=hos.mono hsub;replace hb0:=hb0.mono hsub;replace hf_fv5:=hf_fv5.mono hsub;replace hf_fv7:=hf_fv7.mono hsub;refine oI rfl (oI rfl (oI rfl ?_));refine wp_alloc H fun q14 h H=>?_
                refine wp_store (k:=0) rfl rfl rfl rfl H rfl (fun k=>rfl) fun h H=>?_
                obtain ⟨L2,H,h_q14,hsub⟩:∃ L2,Has h L2∧(q14,AObj.row tyV [fv14,.nilslice] false) ∈ L2∧∀ x ∈ _,x ∈ L2:=⟨_,H,m0,fun x m=>mS _ m⟩;replace h_q2:=hsub _ h_q2;replace h_q3:=hsub _ h_q3;replace h_q39:=hsub _ h_q39;replace h_q5:=hsub _ h_q5;replace h_q7:=hsub _ h_q7;replace hfs:=hfs.mono hsub;replace hos:=hos.mono hsub;replace hb0:=hb0.mono hsub;replace hf_fv5:=hf_fv5.mono hsub;replace hf_fv7:=hf_fv7.mono hsub;replace hf_fv14:=hf_fv14.mono hsub;refine oI rfl (oZ ?_);refine cS (cR ?_);refine oI (sem_load rfl (H.mem (x:=(q7,_)) (h_q7)) (fun _=>by first | rfl | exact hfs.part rfl | exact hos.part rfl)) ?_;refine wp_call rfl (crash_ok C CD (fs:=sortF D) (ops:=[]) (ks:=[]) H hf_fv7 ops_nil ks_nil okn1 okn2 okn3 (by decide) (by decide) (fun _ m=>absurd m List.not_mem_nil)) ?_;rintro r h hN
                rcases hN with ⟨h1,_⟩ | ⟨h1,_⟩ | ⟨_,_,_,fv16,rfl,M,N,hsub,H,hNM,_,hf_fv16⟩
                · exact absurd h1 (by rw [hnS];simp)
                · exact False.elim (h1.elim (fun h2=>by simp at h2) fun h2=>(by obtain ⟨i,hi,_⟩:=h2;simp at hi))
                rw [show sortF (crashL (sortF D) (([]:List OpV).zip ([]:List Int))) = sortF D from hss] at hf_fv16;replace hf_fv16:=hf_fv16.mono hNM;replace h_q2:=hsub _ h_q2;replace h_q3:=hsub _ h_q3;replace h_q39:=hsub _ h_q39;replace h_q5:=hsub _ h_q5;replace h_q7:=hsub _ h_q7;replace h_q14:=hsub _ h_q14;replace hfs:=hfs.mono hsub;replace hos:=hos.mono hsub;replace hb0:=hb0.mono hsub;replace hf_fv5:=hf_fv5.mono hsub;replace hf_fv7:=hf_fv7.mono hsub;replace hf_fv14:=hf_fv14.mono hsub;refine oI rfl (oI rfl (oI rfl ?_));refine wp_alloc H fun q16 h H=>?_
                refine wp_store (k:=0) rfl rfl rfl rfl H rfl (fun k=>rfl) fun h H=>?_
                obtain ⟨L2,H,h_q16,hsub⟩:∃ L2,Has h L2∧(q16,AObj.row tyV [fv16,.nilslice] false) ∈ L2∧∀ x ∈ _,x ∈ L2:=⟨_,H,m0,fun x m=>mS _ m⟩;replace h_q2:=hsub _ h_q2;replace h_q3:=hsub _ h_q3;replace h_q39:=hsub _ h_q39;replace h_q5:=hsub _ h_q5;replace h_q7:=hsub _ h_q7;replace h_q14:=hsub _ h_q14;replace hfs:=hfs.mono hsub;replace hos:=hos.mono hsub;replace hb0:=hb0.mono hsub;replace hf_fv5:=hf_fv5.mono hsub;replace hf_fv7:=hf_fv7.mono hsub;replace hf_fv14:=hf_fv14.mono hsub;replace hf_fv16:=hf_fv16.mono hsub;refine oI rfl (oZ ?_);refine cS (cR ?_);refine oI (sem_load rfl (H.mem (x:=(q7,_)) (h_q7)) (fun _=>by first | rfl | exact hfs.part rfl | exact hos.part rfl)) ?_;refine wp_call rfl (ckNow_ok C CD (fs:=sortF D) (ops:=[]) H hf_fv7 ops_nil okn1 okn2 okn3 (by decide) (fun _ m=>absurd m List.not_mem_nil)) ?_;rintro r h hN;unfold NowO at hN;rw [hnS] at hN;obtain ⟨fv18,rfl,M,N,hsub,H,hNM,_,hf_fv18⟩:=hN;replace hf_fv18:=hf_fv18.mono hNM;replace h_q2:=hsub _ h_q2;replace h_q3:=hsub _ h_q3;replace h_q39:=hsub _ h_q39;replace h_q5:=hsub _ h_q5;replace h_q7:=hsub _ h_q7;replace h_q14:=hsub _ h_q14;replace h_q16:=hsub _ h_q16;replace hfs:=hfs.mono hsub;replace hos:=hos.mono hsub;replace hb0:=hb0.mono hsub;replace hf_fv5:=hf_fv5.mono hsub;replace hf_fv7:=hf_fv7.mono hsub;replace hf_fv14:=hf_fv14.mono hsub
                replace hf_fv16:=hf_fv16.mono hsub;refine oI rfl (oI rfl (oI rfl ?_));refine wp_alloc H fun q18 h H=>?_
                refine wp_store (k:=0) rfl rfl rfl rfl H rfl (fun k=>rfl) fun h H=>?_
                obtain ⟨L2,H,h_q18,hsub⟩:∃ L2,Has h L2∧(q18,AObj.row tyD [fv18] false) ∈ L2∧∀ x ∈ _,x ∈ L2:=⟨_,H,m0,fun x m=>mS _ m⟩;replace h_q2:=hsub _ h_q2;replace h_q3:=hsub _ h_q3;replace h_q39:=hsub _ h_q39;replace h_q5:=hsub _ h_q5;replace h_q7:=hsub _ h_q7;replace h_q14:=hsub _ h_q14;replace h_q16:=hsub _ h_q16;replace hfs:=hfs.mono hsub;replace hos:=hos.mono hsub;replace hb0:=hb0.mono hsub;replace hf_fv5:=hf_fv5.mono hsub;replace hf_fv7:=hf_fv7.mono hsub;replace hf_fv14:=hf_fv14.mono hsub;replace hf_fv16:=hf_fv16.mono hsub;replace hf_fv18:=hf_fv18.mono hsub;refine oI rfl (oZ (cS ?_));refine cS (cR ?_);refine oI rfl (oI (sem_is (b:=false) rfl rfl) (oI rfl (oN rfl (oI rfl (oN rfl (oI (sem_is (b:=false) rfl rfl) (oI rfl (oI rfl (oN rfl (oI rfl (oN rfl ?_)))))))))));refine oI (sem_is (b:=false) rfl rfl) (oI rfl (oI rfl (oN rfl (oI rfl (oN rfl ?_)))));refine oI (sem_load rfl (H.mem (x:=(q7,_)) (h_q7)) (fun _=>by first | rfl | exact hfs.part rfl | exact hos.part rfl)) ?_;refine oN rfl (oI rfl (oN rfl (oI (sem_is (b:=false) rfl rfl) (oI rfl (oI rfl (oN rfl (oI rfl (oN rfl ?_))))))));refine oI (sem_load rfl (H.mem (x:=(q7,_)) (h_q7)) (fun _=>by first | rfl | exact hfs.part rfl | exact hos.part rfl)) ?_;refine oN rfl ?_
                refine oI (sem_load rfl (H.mem (x:=(q5,_)) (h_q5)) (fun _=>by first | rfl | exact hfs.part rfl | exact hos.part rfl)) ?_;refine oN rfl (wp_call rfl (sameDisk_ok C H hlS hf_fv7 hf_fv5) ?_);rintro _ h ⟨rfl,H⟩;refine oN rfl (oI rfl (oI rfl (oI rfl (oN rfl ?_))));refine oI (sem_load rfl (H.mem (x:=(q14,_)) (h_q14)) (fun _=>by first | rfl | exact hfs.part rfl | exact hos.part rfl)) ?_;refine oN rfl ?_;refine oI (sem_load rfl (H.mem (x:=(q7,_)) (h_q7)) (fun _=>by first | rfl | exact hfs.part rfl | exact hos.part rfl)) ?_;refine oN rfl ?_;refine wp_call rfl (sameVol_ok C (ops:=[]) H hlS (by decide) hf_fv14 hf_fv7 ops_nil ops_nil) ?_;rintro _ h ⟨rfl,H⟩;refine oN rfl (oI rfl (oI rfl (oI rfl (oN rfl ?_))));refine oI (sem_load rfl (H.mem (x:=(q16,_)) (h_q16)) (fun _=>by first | rfl | exact hfs.part rfl | exact hos.part rfl)) ?_;refine oN rfl ?_;refine oI (sem_load rfl (H.mem (x:=(q7,_)) (h_q7)) (fun _=>by first | rfl | exact hfs.part rfl | exact hos.part rfl)) ?_;refine oN rfl ?_;refine wp_call rfl (sameVol_ok C (ops:=[]) H hlS (by decide) hf_fv16 hf_fv7 ops_nil ops_nil) ?_;rintro _ h ⟨rfl,H⟩;refine oN rfl (oI rfl (oI rfl (oI rfl (oN rfl ?_))));refine oI (sem_load rfl (H.mem (x:=(q18,_)) (h_q18)) (fun _=>by first | rfl | exact hfs.part rfl | exact hos.part rfl)) ?_;refine oN rfl ?_
                refine oI (sem_load rfl (H.mem (x:=(q5,_)) (h_q5)) (fun _=>by first | rfl | exact hfs.part rfl | exact hos.part rfl)) ?_;refine oN rfl ?_;rw [hss] at hf_fv18;refine wp_call rfl (sameDisk_ok C H hlS hf_fv18 hf_fv5) ?_;rintro _ h ⟨rfl,H⟩;refine oN rfl (oI rfl (oI rfl (oZ (cF rfl (cK ?_)))));refine cS (cR ?_);refine oI (sem_load rfl (H.mem (x:=(q2,_)) (h_q2)) (fun _=>by first | rfl | exact hfs.part rfl | exact hos.part rfl)) ?_;refine oI (sem_load rfl (H.mem (x:=(q3,_)) (h_q3)) (fun _=>by first | rfl | exact hfs.part rfl | exact hos.part rfl)) ?_;refine wp_call rfl (ckApply_ok C CD H hfs hos hcap hb0 hnl hbl hml hmo hop hop1) ?_;rintro r h hN;unfold ApplyO at hN;rw [hn] at hN;dsimp only at hN
                by_cases h5:op.kind = 5
                · by_cases hc:op.name = []∧op.to = []∧op.b.length = 0
                  · rw [if_pos h5,if_pos hc] at hN;obtain ⟨fv20,rfl,M,N,hsub,H,hNM,_,hf_fv20⟩:=hN;replace hf_fv20:=hf_fv20.mono hNM;replace h_q2:=hsub _ h_q2;replace h_q3:=hsub _ h_q3;replace h_q39:=hsub _ h_q39;replace h_q5:=hsub _ h_q5;replace h_q7:=hsub _ h_q7;replace h_q14:=hsub _ h_q14;replace h_q16:=hsub _ h_q16;replace h_q18:=hsub _ h_q18;replace hfs:=hfs.mono hsub;replace hos:=hos.mono hsub;replace hb0:=hb0.mono hsub;replace hf_fv5:=hf_fv5.mono hsub;replace hf_fv7:=hf_fv7.mono hsub;replace hf_fv14:=hf_fv14.mono hsub;replace hf_fv16:=hf_fv16.mono hsub;replace hf_fv18:=hf_fv18.mono hsub;refine oI rfl (oI rfl (oI rfl ?_));refine wp_alloc H fun q20 h H=>?_
                    refine wp_store (k:=0) rfl rfl rfl rfl H rfl (fun k=>rfl) fun h H=>?_
                    obtain ⟨L2,H,h_q20,hsub⟩:∃ L2,Has h L2∧(q20,AObj.row tyV [fv20,.nilslice] false) ∈ L2∧∀ x ∈ _,x ∈ L2:=⟨_,H,m0,fun x m=>mS _ m⟩;replace h_q2:=hsub _ h_q2;replace h_q3:=hsub _ h_q3;replace h_q39:=hsub _ h_q39;replace h_q5:=hsub _ h_q5;replace h_q7:=hsub _ h_q7;replace h_q14:=hsub _ h_q14;replace h_q16:=hsub _ h_q16;replace h_q18:=hsub _ h_q18;replace hfs:=hfs.mono hsub;replace hos:=hos.mono hsub;replace hb0:=hb0.mono hsub;replace hf_fv5:=hf_fv5.mono hsub;replace hf_fv7:=hf_fv7.mono hsub;replace hf_fv14:=hf_fv14.mono hsub;replace hf_fv16:=hf_fv16.mono hsub;replace hf_fv18:=hf_fv18.mono hsub;replace hf_fv20:=hf_fv20.mono hsub;refine oI rfl (oZ ?_);refine cS (cR ?_);refine oI (sem_load rfl (H.mem (x:=(q7,_)) (h_q7)) (fun _=>by first | rfl | exact hfs.part rfl | exact hos.part rfl)) ?_;refine oI (sem_load rfl (H.mem (x:=(q3,_)) (h_q3)) (fun _=>by first | rfl | exact hfs.part rfl | exact hos.part rfl)) ?_;refine wp_call rfl (ckApply_ok C CD (fs:=sortF D) (ops:=[]) H hf_fv7 ops_nil (fun _ _ _ _ e=>by simp at e) hb0 okn1 okn2 okn3 (by decide) (fun _ m=>absurd m List.not_mem_nil) hop1) ?_;rintro r h hN;unfold ApplyO at hN;rw [hnS] at hN;dsimp only at hN;rw [if_pos h5,if_pos hc,hss] at hN;obtain ⟨fv22,rfl,M,N,hsub,H,hNM,_,hf_fv22⟩:=hN;replace hf_fv22:=hf_fv22.mono hNM;replace h_q2:=hsub _ h_q2
                    replace h_q3:=hsub _ h_q3;replace h_q39:=hsub _ h_q39;replace h_q5:=hsub _ h_q5;replace h_q7:=hsub _ h_q7;replace h_q14:=hsub _ h_q14;replace h_q16:=hsub _ h_q16;replace h_q18:=hsub _ h_q18;replace h_q20:=hsub _ h_q20;replace hfs:=hfs.mono hsub;replace hos:=hos.mono hsub;replace hb0:=hb0.mono hsub;replace hf_fv5:=hf_fv5.mono hsub;replace hf_fv7:=hf_fv7.mono hsub;replace hf_fv14:=hf_fv14.mono hsub;replace hf_fv16:=hf_fv16.mono hsub;replace hf_fv18:=hf_fv18.mono hsub;replace hf_fv20:=hf_fv20.mono hsub;refine oI rfl (oI rfl (oI rfl ?_));refine wp_alloc H fun q22 h H=>?_
                    refine wp_store (k:=0) rfl rfl rfl rfl H rfl (fun k=>rfl) fun h H=>?_
                    obtain ⟨L2,H,h_q22,hsub⟩:∃ L2,Has h L2∧(q22,AObj.row tyV [fv22,.nilslice] false) ∈ L2∧∀ x ∈ _,x ∈ L2:=⟨_,H,m0,fun x m=>mS _ m⟩;replace h_q2:=hsub _ h_q2;replace h_q3:=hsub _ h_q3;replace h_q39:=hsub _ h_q39;replace h_q5:=hsub _ h_q5;replace h_q7:=hsub _ h_q7;replace h_q14:=hsub _ h_q14;replace h_q16:=hsub _ h_q16;replace h_q18:=hsub _ h_q18;replace h_q20:=hsub _ h_q20;replace hfs:=hfs.mono hsub;replace hos:=hos.mono hsub;replace hb0:=hb0.mono hsub;replace hf_fv5:=hf_fv5.mono hsub;replace hf_fv7:=hf_fv7.mono hsub;replace hf_fv14:=hf_fv14.mono hsub;replace hf_fv16:=hf_fv16.mono hsub;replace hf_fv18:=hf_fv18.mono hsub;replace hf_fv20:=hf_fv20.mono hsub;replace hf_fv22:=hf_fv22.mono hsub;refine oI rfl (oZ (cS ?_));refine cS (cR ?_);refine oI rfl (oI (sem_is (b:=false) rfl rfl) (oI rfl (oN rfl (oI rfl (oN rfl (oI (sem_is (b:=false) rfl rfl) (oI rfl (oZ (cF rfl (cK ?_))))))))));refine cS (cR ?_);refine oI (sem_load rfl (H.mem (x:=(q20,_)) (h_q20)) (fun _=>by first | rfl | exact hfs.part rfl | exact hos.part rfl)) ?_;refine wp_call rfl (ckNow_ok C CD (fs:=sortF D) (ops:=[]) H hf_fv20 ops_nil okn1 okn2 okn3 (by decide) (fun _ m=>absurd m List.not_mem_nil)) ?_;rintro r h hN;unfold NowO at hN;rw [hnS] at hN;obtain ⟨fv24,rfl,M,N,hsub,H,hNM,_,hf_fv24⟩:=hN;replace hf_fv24:=hf_fv24.mono hNM
                    replace h_q2:=hsub _ h_q2;replace h_q3:=hsub _ h_q3;replace h_q39:=hsub _ h_q39;replace h_q5:=hsub _ h_q5;replace h_q7:=hsub _ h_q7;replace h_q14:=hsub _ h_q14;replace h_q16:=hsub _ h_q16;replace h_q18:=hsub _ h_q18;replace h_q20:=hsub _ h_q20;replace h_q22:=hsub _ h_q22;replace hfs:=hfs.mono hsub;replace hos:=hos.mono hsub;replace hb0:=hb0.mono hsub;replace hf_fv5:=hf_fv5.mono hsub;replace hf_fv7:=hf_fv7.mono hsub;replace hf_fv14:=hf_fv14.mono hsub;replace hf_fv16:=hf_fv16.mono hsub;replace hf_fv18:=hf_fv18.mono hsub;replace hf_fv20:=hf_fv20.mono hsub;replace hf_fv22:=hf_fv22.mono hsub;refine oI rfl (oI rfl (oI rfl ?_));refine wp_alloc H fun q24 h H=>?_
                    refine wp_store (k:=0) rfl rfl rfl rfl H rfl (fun k=>rfl) fun h H=>?_
                    obtain ⟨L2,H,h_q24,hsub⟩:∃ L2,Has h L2∧(q24,AObj.row tyD [fv24] false) ∈ L2∧∀ x ∈ _,x ∈ L2:=⟨_,H,m0,fun x m=>mS _ m⟩;replace h_q2:=hsub _ h_q2;replace h_q3:=hsub _ h_q3;replace h_q39:=hsub _ h_q39;replace h_q5:=hsub _ h_q5;replace h_q7:=hsub _ h_q7;replace h_q14:=hsub _ h_q14;replace h_q16:=hsub _ h_q16;replace h_q18:=hsub _ h_q18;replace h_q20:=hsub _ h_q20;replace h_q22:=hsub _ h_q22;replace hfs:=hfs.mono hsub;replace hos:=hos.mono hsub;replace hb0:=hb0.mono hsub;replace hf_fv5:=hf_fv5.mono hsub;replace hf_fv7:=hf_fv7.mono hsub;replace hf_fv14:=hf_fv14.mono hsub;replace hf_fv16:=hf_fv16.mono hsub;replace hf_fv18:=hf_fv18.mono hsub;replace hf_fv20:=hf_fv20.mono hsub;replace hf_fv22:=hf_fv22.mono hsub;replace hf_fv24:=hf_fv24.mono hsub;refine oI rfl (oZ ?_);refine cS (cR ?_);refine oI (sem_load rfl (H.mem (x:=(q22,_)) (h_q22)) (fun _=>by first | rfl | exact hfs.part rfl | exact hos.part rfl)) ?_;refine wp_call rfl (ckNow_ok C CD (fs:=sortF D) (ops:=[]) H hf_fv22 ops_nil okn1 okn2 okn3 (by decide) (fun _ m=>absurd m List.not_mem_nil)) ?_;rintro r h hN;unfold NowO at hN;rw [hnS] at hN;obtain ⟨fv26,rfl,M,N,hsub,H,hNM,_,hf_fv26⟩:=hN;replace hf_fv26:=hf_fv26.mono hNM;replace h_q2:=hsub _ h_q2;replace h_q3:=hsub _ h_q3;replace h_q39:=hsub _ h_q39;replace h_q5:=hsub _ h_q5
                    replace h_q7:=hsub _ h_q7;replace h_q14:=hsub _ h_q14;replace h_q16:=hsub _ h_q16;replace h_q18:=hsub _ h_q18;replace h_q20:=hsub _ h_q20;replace h_q22:=hsub _ h_q22;replace h_q24:=hsub _ h_q24;replace hfs:=hfs.mono hsub;replace hos:=hos.mono hsub;replace hb0:=hb0.mono hsub;replace hf_fv5:=hf_fv5.mono hsub;replace hf_fv7:=hf_fv7.mono hsub;replace hf_fv14:=hf_fv14.mono hsub;replace hf_fv16:=hf_fv16.mono hsub;replace hf_fv18:=hf_fv18.mono hsub;replace hf_fv20:=hf_fv20.mono hsub;replace hf_fv22:=hf_fv22.mono hsub;replace hf_fv24:=hf_fv24.mono hsub;refine oI rfl (oI rfl (oI rfl ?_));refine wp_alloc H fun q26 h H=>?_
                    refine wp_store (k:=0) rfl rfl rfl rfl H rfl (fun k=>rfl) fun h H=>?_
                    obtain ⟨L2,H,h_q26,hsub⟩:∃ L2,Has h L2∧(q26,AObj.row tyD [fv26] false) ∈ L2∧∀ x ∈ _,x ∈ L2:=⟨_,H,m0,fun x m=>mS _ m⟩;replace h_q2:=hsub _ h_q2;replace h_q3:=hsub _ h_q3;replace h_q39:=hsub _ h_q39;replace h_q5:=hsub _ h_q5;replace h_q7:=hsub _ h_q7;replace h_q14:=hsub _ h_q14;replace h_q16:=hsub _ h_q16;replace h_q18:=hsub _ h_q18;replace h_q20:=hsub _ h_q20;replace h_q22:=hsub _ h_q22;replace h_q24:=hsub _ h_q24;replace hfs:=hfs.mono hsub;replace hos:=hos.mono hsub;replace hb0:=hb0.mono hsub;replace hf_fv5:=hf_fv5.mono hsub;replace hf_fv7:=hf_fv7.mono hsub;replace hf_fv14:=hf_fv14.mono hsub;replace hf_fv16:=hf_fv16.mono hsub;replace hf_fv18:=hf_fv18.mono hsub;replace hf_fv20:=hf_fv20.mono hsub;replace hf_fv22:=hf_fv22.mono hsub;replace hf_fv24:=hf_fv24.mono hsub;replace hf_fv26:=hf_fv26.mono hsub;refine oI rfl (oZ ?_);refine cS (cR ?_);refine oI rfl (oI (sem_is (b:=true) rfl rfl) (oI rfl (oN rfl (oI rfl (oN rfl (oI (sem_is (b:=true) rfl rfl) (oI rfl (oI rfl (oN rfl ?_)))))))));refine oI (sem_load rfl (H.mem (x:=(q24,_)) (h_q24)) (fun _=>by first | rfl | exact hfs.part rfl | exact hos.part rfl)) ?_;refine oN rfl ?_;refine oI (sem_load rfl (H.mem (x:=(q26,_)) (h_q26)) (fun _=>by first | rfl | exact hfs.part rfl | exact hos.part rfl)) ?_;refine oN rfl ?_;rw [hss] at hf_fv24 hf_fv26
                    refine wp_call rfl (sameDisk_ok C H hlS hf_fv24 hf_fv26) ?_;rintro _ h ⟨rfl,H⟩;refine oI rfl (oI rfl (oZ (cT ?_)));refine ⟨trivial,_,rfl,?_⟩;rfl
                  · rw [if_pos h5,if_neg hc] at hN;obtain ⟨rfl,M,hsub,H,_⟩:=hN;replace h_q2:=hsub _ h_q2;replace h_q3:=hsub _ h_q3;replace h_q39:=hsub _ h_q39;replace h_q5:=hsub _ h_q5;replace h_q7:=hsub _ h_q7;replace h_q14:=hsub _ h_q14;replace h_q16:=hsub _ h_q16;replace h_q18:=hsub _ h_q18;replace hfs:=hfs.mono hsub;replace hos:=hos.mono hsub;replace hb0:=hb0.mono hsub;replace hf_fv5:=hf_fv5.mono hsub;replace hf_fv7:=hf_fv7.mono hsub;replace hf_fv14:=hf_fv14.mono hsub;replace hf_fv16:=hf_fv16.mono hsub;replace hf_fv18:=hf_fv18.mono hsub;refine oI rfl (oI rfl (oI rfl ?_));refine wp_alloc H fun q20 h H=>?_
                    refine wp_store (k:=0) rfl rfl rfl rfl H rfl (fun k=>rfl) fun h H=>?_
                    obtain ⟨L2,H,h_q20,hsub⟩:∃ L2,Has h L2∧(q20,AObj.row tyV [.nilslice,.nilslice] false) ∈ L2∧∀ x ∈ _,x ∈ L2:=⟨_,H,m0,fun x m=>mS _ m⟩;replace h_q2:=hsub _ h_q2;replace h_q3:=hsub _ h_q3;replace h_q39:=hsub _ h_q39;replace h_q5:=hsub _ h_q5;replace h_q7:=hsub _ h_q7;replace h_q14:=hsub _ h_q14;replace h_q16:=hsub _ h_q16;replace h_q18:=hsub _ h_q18;replace hfs:=hfs.mono hsub;replace hos:=hos.mono hsub;replace hb0:=hb0.mono hsub;replace hf_fv5:=hf_fv5.mono hsub;replace hf_fv7:=hf_fv7.mono hsub;replace hf_fv14:=hf_fv14.mono hsub;replace hf_fv16:=hf_fv16.mono hsub;replace hf_fv18:=hf_fv18.mono hsub;refine oI rfl (oZ ?_);refine cS (cR ?_);refine oI (sem_load rfl (H.mem (x:=(q7,_)) (h_q7)) (fun _=>by first | rfl | exact hfs.part rfl | exact hos.part rfl)) ?_;refine oI (sem_load rfl (H.mem (x:=(q3,_)) (h_q3)) (fun _=>by first | rfl | exact hfs.part rfl | exact hos.part rfl)) ?_;refine wp_call rfl (ckApply_ok C CD (fs:=sortF D) (ops:=[]) H hf_fv7 ops_nil (fun _ _ _ _ e=>by simp at e) hb0 okn1 okn2 okn3 (by decide) (fun _ m=>absurd m List.not_mem_nil) hop1) ?_;rintro r h hN;unfold ApplyO at hN;rw [hnS] at hN;dsimp only at hN;rw [if_pos h5,if_neg hc] at hN;obtain ⟨rfl,M,hsub,H,_⟩:=hN;replace h_q2:=hsub _ h_q2;replace h_q3:=hsub _ h_q3;replace h_q39:=hsub _ h_q39;replace h_q5:=hsub _ h_q5
                    replace h_q7:=hsub _ h_q7;replace h_q14:=hsub _ h_q14;replace h_q16:=hsub _ h_q16;replace h_q18:=hsub _ h_q18;replace h_q20:=hsub _ h_q20;replace hfs:=hfs.mono hsub;replace hos:=hos.mono hsub;replace hb0:=hb0.mono hsub;replace hf_fv5:=hf_fv5.mono hsub;replace hf_fv7:=hf_fv7.mono hsub;replace hf_fv14:=hf_fv14.mono hsub;replace hf_fv16:=hf_fv16.mono hsub;replace hf_fv18:=hf_fv18.mono hsub;refine oI rfl (oI rfl (oI rfl ?_));refine wp_alloc H fun q22 h H=>?_
                    refine wp_store (k:=0) rfl rfl rfl rfl H rfl (fun k=>rfl) fun h H=>?_
                    obtain ⟨L2,H,h_q22,hsub⟩:∃ L2,Has h L2∧(q22,AObj.row tyV [.nilslice,.nilslice] false) ∈ L2∧∀ x ∈ _,x ∈ L2:=⟨_,H,m0,fun x m=>mS _ m⟩;replace h_q2:=hsub _ h_q2;replace h_q3:=hsub _ h_q3;replace h_q39:=hsub _ h_q39;replace h_q5:=hsub _ h_q5;replace h_q7:=hsub _ h_q7;replace h_q14:=hsub _ h_q14;replace h_q16:=hsub _ h_q16;replace h_q18:=hsub _ h_q18;replace h_q20:=hsub _ h_q20;replace hfs:=hfs.mono hsub;replace hos:=hos.mono hsub;replace hb0:=hb0.mono hsub;replace hf_fv5:=hf_fv5.mono hsub;replace hf_fv7:=hf_fv7.mono hsub;replace hf_fv14:=hf_fv14.mono hsub;replace hf_fv16:=hf_fv16.mono hsub;replace hf_fv18:=hf_fv18.mono hsub;refine oI rfl (oZ (cS ?_));refine cS (cR ?_);refine oI rfl (oI (sem_is (b:=true) rfl rfl) (oI rfl (oF rfl (oF rfl (oI rfl (oZ (cC rfl ?_)))))));refine cS (cR ?_);refine oI rfl (oI rfl (oI (sem_is (b:=true) rfl rfl) (oI rfl (oF rfl (oF rfl (oF rfl (oU rfl (oU rfl (oU rfl (oU rfl (oF rfl ?_)))))))))));refine oI rfl (oI rfl (oZ (cT ?_)));refine ⟨trivial,_,rfl,?_⟩;rfl
                · by_cases hv:okV op D
                  · by_cases hl:200 ≤ ops.length
                    · rw [if_neg h5,if_pos hv,if_pos hl] at hN;obtain ⟨rfl,M,hsub,H,_⟩:=hN;replace h_q2:=hsub _ h_q2;replace h_q3:=hsub _ h_q3;replace h_q39:=hsub _ h_q39;replace h_q5:=hsub _ h_q5;replace h_q7:=hsub _ h_q7;replace h_q14:=hsub _ h_q14;replace h_q16:=hsub _ h_q16;replace h_q18:=hsub _ h_q18;replace hfs:=hfs.mono hsub;replace hos:=hos.mono hsub;replace hb0:=hb0.mono hsub;replace hf_fv5:=hf_fv5.mono hsub;replace hf_fv7:=hf_fv7.mono hsub;replace hf_fv14:=hf_fv14.mono hsub;replace hf_fv16:=hf_fv16.mono hsub;replace hf_fv18:=hf_fv18.mono hsub;refine oI rfl (oI rfl (oI rfl ?_));refine wp_alloc H fun q20 h H=>?_
                      refine wp_store (k:=0) rfl rfl rfl rfl H rfl (fun k=>rfl) fun h H=>?_
                      obtain ⟨L2,H,h_q20,hsub⟩:∃ L2,Has h L2∧(q20,AObj.row tyV [.nilslice,.nilslice] false) ∈ L2∧∀ x ∈ _,x ∈ L2:=⟨_,H,m0,fun x m=>mS _ m⟩;replace h_q2:=hsub _ h_q2;replace h_q3:=hsub _ h_q3;replace h_q39:=hsub _ h_q39;replace h_q5:=hsub _ h_q5;replace h_q7:=hsub _ h_q7;replace h_q14:=hsub _ h_q14;replace h_q16:=hsub _ h_q16;replace h_q18:=hsub _ h_q18;replace hfs:=hfs.mono hsub;replace hos:=hos.mono hsub;replace hb0:=hb0.mono hsub;replace hf_fv5:=hf_fv5.mono hsub;replace hf_fv7:=hf_fv7.mono hsub;replace hf_fv14:=hf_fv14.mono hsub;replace hf_fv16:=hf_fv16.mono hsub;replace hf_fv18:=hf_fv18.mono hsub;refine oI rfl (oZ ?_);refine cS (cR ?_);refine oI (sem_load rfl (H.mem (x:=(q7,_)) (h_q7)) (fun _=>by first | rfl | exact hfs.part rfl | exact hos.part rfl)) ?_;refine oI (sem_load rfl (H.mem (x:=(q3,_)) (h_q3)) (fun _=>by first | rfl | exact hfs.part rfl | exact hos.part rfl)) ?_;refine wp_call rfl (ckApply_ok C CD (fs:=sortF D) (ops:=[]) H hf_fv7 ops_nil (fun _ _ _ _ e=>by simp at e) hb0 okn1 okn2 okn3 (by decide) (fun _ m=>absurd m List.not_mem_nil) hop1) ?_;rintro r h hN;unfold ApplyO at hN;rw [hnS] at hN;dsimp only at hN;have hvS:okV op (sortF D) ↔ okV op D:=okV_same (SameD.sort hDok.dist) hDok.dist.sort hDok.dist;rw [if_neg h5,if_pos (hvS.2 hv),if_neg (by simp),hss] at hN
                      obtain ⟨fv22,ov22,rfl,M,N,hsub,H,hNM,_,hf_fv22,ho_22,_⟩:=hN;replace hf_fv22:=hf_fv22.mono hNM;replace ho_22:=ho_22.mono hNM;replace h_q2:=hsub _ h_q2;replace h_q3:=hsub _ h_q3;replace h_q39:=hsub _ h_q39;replace h_q5:=hsub _ h_q5;replace h_q7:=hsub _ h_q7;replace h_q14:=hsub _ h_q14;replace h_q16:=hsub _ h_q16;replace h_q18:=hsub _ h_q18;replace h_q20:=hsub _ h_q20;replace hfs:=hfs.mono hsub;replace hos:=hos.mono hsub;replace hb0:=hb0.mono hsub;replace hf_fv5:=hf_fv5.mono hsub;replace hf_fv7:=hf_fv7.mono hsub;replace hf_fv14:=hf_fv14.mono hsub;replace hf_fv16:=hf_fv16.mono hsub;replace hf_fv18:=hf_fv18.mono hsub;refine oI rfl (oI rfl (oI rfl ?_));refine wp_alloc H fun q22 h H=>?_
                      refine wp_store (k:=0) rfl rfl rfl rfl H rfl (fun k=>rfl) fun h H=>?_
                      obtain ⟨L2,H,h_q22,hsub⟩:∃ L2,Has h L2∧(q22,AObj.row tyV [fv22,ov22] false) ∈ L2∧∀ x ∈ _,x ∈ L2:=⟨_,H,m0,fun x m=>mS _ m⟩;replace h_q2:=hsub _ h_q2;replace h_q3:=hsub _ h_q3;replace h_q39:=hsub _ h_q39;replace h_q5:=hsub _ h_q5;replace h_q7:=hsub _ h_q7;replace h_q14:=hsub _ h_q14;replace h_q16:=hsub _ h_q16;replace h_q18:=hsub _ h_q18;replace h_q20:=hsub _ h_q20;replace hfs:=hfs.mono hsub;replace hos:=hos.mono hsub;replace hb0:=hb0.mono hsub;replace hf_fv5:=hf_fv5.mono hsub;replace hf_fv7:=hf_fv7.mono hsub;replace hf_fv14:=hf_fv14.mono hsub;replace hf_fv16:=hf_fv16.mono hsub;replace hf_fv18:=hf_fv18.mono hsub;replace hf_fv22:=hf_fv22.mono hsub;replace ho_22:=ho_22.mono hsub;refine oI rfl (oZ (cS ?_));refine cS (cR ?_);refine oI rfl (oI (sem_is (b:=true) rfl rfl) (oI rfl (oF rfl (oF rfl (oI rfl (oZ (cC rfl ?_)))))));refine cS (cR ?_);refine oI rfl (oI rfl (oI (sem_is (b:=false) rfl rfl) (oI rfl (oN rfl (oI rfl (oN rfl (oI (sem_is (b:=true) rfl rfl) (oN rfl (oI rfl (oN rfl (oI rfl ?_)))))))))));refine oN rfl ?_;refine oI (sem_load rfl (H.mem (x:=(q2,_)) (h_q2)) (fun _=>by first | rfl | exact hfs.part rfl | exact hos.part rfl)) ?_;refine oN rfl (oI (lenO_sem hos rfl) (oN rfl ?_));refine oI (sem_is (b:=true) rfl (leI_T (by simp only [ofNat_cast];omega))) ?_
                      refine oN rfl (oI rfl (oI rfl (oI rfl (oZ (cT ?_)))));refine ⟨trivial,_,rfl,?_⟩;rfl
                    · rw [if_neg h5,if_pos hv,if_neg hl] at hN;obtain ⟨fv20,ov20,rfl,M,N,hsub,H,hNM,_,hf_fv20,ho_20,_⟩:=hN;replace hf_fv20:=hf_fv20.mono hNM;replace ho_20:=ho_20.mono hNM;rw [okS_sorted hks0] at hf_fv20;replace h_q2:=hsub _ h_q2;replace h_q3:=hsub _ h_q3;replace h_q39:=hsub _ h_q39;replace h_q5:=hsub _ h_q5;replace h_q7:=hsub _ h_q7;replace h_q14:=hsub _ h_q14;replace h_q16:=hsub _ h_q16;replace h_q18:=hsub _ h_q18;replace hfs:=hfs.mono hsub;replace hos:=hos.mono hsub;replace hb0:=hb0.mono hsub;replace hf_fv5:=hf_fv5.mono hsub;replace hf_fv7:=hf_fv7.mono hsub;replace hf_fv14:=hf_fv14.mono hsub;replace hf_fv16:=hf_fv16.mono hsub;replace hf_fv18:=hf_fv18.mono hsub;refine oI rfl (oI rfl (oI rfl ?_));refine wp_alloc H fun q20 h H=>?_
                      refine wp_store (k:=0) rfl rfl rfl rfl H rfl (fun k=>rfl) fun h H=>?_
                      obtain ⟨L2,H,h_q20,hsub⟩:∃ L2,Has h L2∧(q20,AObj.row tyV [fv20,ov20] false) ∈ L2∧∀ x ∈ _,x ∈ L2:=⟨_,H,m0,fun x m=>mS _ m⟩;replace h_q2:=hsub _ h_q2;replace h_q3:=hsub _ h_q3;replace h_q39:=hsub _ h_q39;replace h_q5:=hsub _ h_q5;replace h_q7:=hsub _ h_q7;replace h_q14:=hsub _ h_q14;replace h_q16:=hsub _ h_q16;replace h_q18:=hsub _ h_q18;replace hfs:=hfs.mono hsub;replace hos:=hos.mono hsub;replace hb0:=hb0.mono hsub;replace hf_fv5:=hf_fv5.mono hsub;replace hf_fv7:=hf_fv7.mono hsub;replace hf_fv14:=hf_fv14.mono hsub;replace hf_fv16:=hf_fv16.mono hsub;replace hf_fv18:=hf_fv18.mono hsub;replace hf_fv20:=hf_fv20.mono hsub;replace ho_20:=ho_20.mono hsub;refine oI rfl (oZ ?_);refine cS (cR ?_);refine oI (sem_load rfl (H.mem (x:=(q7,_)) (h_q7)) (fun _=>by first | rfl | exact hfs.part rfl | exact hos.part rfl)) ?_;refine oI (sem_load rfl (H.mem (x:=(q3,_)) (h_q3)) (fun _=>by first | rfl | exact hfs.part rfl | exact hos.part rfl)) ?_;refine wp_call rfl (ckApply_ok C CD (fs:=sortF D) (ops:=[]) H hf_fv7 ops_nil (fun _ _ _ _ e=>by simp at e) hb0 okn1 okn2 okn3 (by decide) (fun _ m=>absurd m List.not_mem_nil) hop1) ?_;rintro r h hN;unfold ApplyO at hN;rw [hnS] at hN;dsimp only at hN;have hvS:okV op (sortF D) ↔ okV op D:=okV_same (SameD.sort hDok.dist) hDok.dist.sort hDok.dist
                      rw [if_neg h5,if_pos (hvS.2 hv),if_neg (by simp),hss] at hN;obtain ⟨fv22,ov22,rfl,M,N,hsub,H,hNM,_,hf_fv22,ho_22,_⟩:=hN;replace hf_fv22:=hf_fv22.mono hNM;replace ho_22:=ho_22.mono hNM;replace h_q2:=hsub _ h_q2;replace h_q3:=hsub _ h_q3;replace h_q39:=hsub _ h_q39;replace h_q5:=hsub _ h_q5;replace h_q7:=hsub _ h_q7;replace h_q14:=hsub _ h_q14;replace h_q16:=hsub _ h_q16;replace h_q18:=hsub _ h_q18;replace h_q20:=hsub _ h_q20;replace hfs:=hfs.mono hsub;replace hos:=hos.mono hsub;replace hb0:=hb0.mono hsub;replace hf_fv5:=hf_fv5.mono hsub;replace hf_fv7:=hf_fv7.mono hsub;replace hf_fv14:=hf_fv14.mono hsub;replace hf_fv16:=hf_fv16.mono hsub;replace hf_fv18:=hf_fv18.mono hsub;replace hf_fv20:=hf_fv20.mono hsub;replace ho_20:=ho_20.mono hsub;refine oI rfl (oI rfl (oI rfl ?_));refine wp_alloc H fun q22 h H=>?_
                      refine wp_store (k:=0) rfl rfl rfl rfl H rfl (fun k=>rfl) fun h H=>?_
                      obtain ⟨L2,H,h_q22,hsub⟩:∃ L2,Has h L2∧(q22,AObj.row tyV [fv22,ov22] false) ∈ L2∧∀ x ∈ _,x ∈ L2:=⟨_,H,m0,fun x m=>mS _ m⟩;replace h_q2:=hsub _ h_q2;replace h_q3:=hsub _ h_q3;replace h_q39:=hsub _ h_q39;replace h_q5:=hsub _ h_q5;replace h_q7:=hsub _ h_q7;replace h_q14:=hsub _ h_q14;replace h_q16:=hsub _ h_q16;replace h_q18:=hsub _ h_q18;replace h_q20:=hsub _ h_q20;replace hfs:=hfs.mono hsub;replace hos:=hos.mono hsub;replace hb0:=hb0.mono hsub;replace hf_fv5:=hf_fv5.mono hsub;replace hf_fv7:=hf_fv7.mono hsub;replace hf_fv14:=hf_fv14.mono hsub;replace hf_fv16:=hf_fv16.mono hsub;replace hf_fv18:=hf_fv18.mono hsub;replace hf_fv20:=hf_fv20.mono hsub;replace ho_20:=ho_20.mono hsub;replace hf_fv22:=hf_fv22.mono hsub;replace ho_22:=ho_22.mono hsub;refine oI rfl (oZ (cS ?_));refine cS (cR ?_);refine oI rfl (oI (sem_is (b:=false) rfl rfl) (oI rfl (oN rfl (oI rfl (oN rfl (oI (sem_is (b:=false) rfl rfl) (oI rfl (oZ (cF rfl (cK ?_))))))))));refine cS (cR ?_);refine oI (sem_load rfl (H.mem (x:=(q20,_)) (h_q20)) (fun _=>by first | rfl | exact hfs.part rfl | exact hos.part rfl)) ?_;have hop2:∀ o ∈ ops++[op],okOp o:=fun o m=>by
                        rcases List.mem_append.1 m with m | m
                        · exact hop o m
                        · rw [List.mem_singleton.1 m];exact hop1
                      refine wp_call rfl (ckNow_ok C CD (fs:=fs) (ops:=ops++[op]) H hf_fv20 ho_20 hnl hbl hml (small1 (by rw [List.length_append];simp;omega)) hop2) ?_;rintro r h hN;unfold NowO at hN;rw [nowS_snoc hn (by omega) (if_pos hv)] at hN;obtain ⟨fv24,rfl,M,N,hsub,H,hNM,_,hf_fv24⟩:=hN;replace hf_fv24:=hf_fv24.mono hNM;replace h_q2:=hsub _ h_q2;replace h_q3:=hsub _ h_q3;replace h_q39:=hsub _ h_q39;replace h_q5:=hsub _ h_q5;replace h_q7:=hsub _ h_q7;replace h_q14:=hsub _ h_q14;replace h_q16:=hsub _ h_q16;replace h_q18:=hsub _ h_q18;replace h_q20:=hsub _ h_q20;replace h_q22:=hsub _ h_q22;replace hfs:=hfs.mono hsub;replace hos:=hos.mono hsub;replace hb0:=hb0.mono hsub;replace hf_fv5:=hf_fv5.mono hsub;replace hf_fv7:=hf_fv7.mono hsub;replace hf_fv14:=hf_fv14.mono hsub;replace hf_fv16:=hf_fv16.mono hsub;replace hf_fv18:=hf_fv18.mono hsub;replace hf_fv20:=hf_fv20.mono hsub;replace ho_20:=ho_20.mono hsub;replace hf_fv22:=hf_fv22.mono hsub;replace ho_22:=ho_22.mono hsub;refine oI rfl (oI rfl (oI rfl ?_));refine wp_alloc H fun q24 h H=>?_
                      refine wp_store (k:=0) rfl rfl rfl rfl H rfl (fun k=>rfl) fun h H=>?_
                      obtain ⟨L2,H,h_q24,hsub⟩:∃ L2,Has h L2∧(q24,AObj.row tyD [fv24] false) ∈ L2∧∀ x ∈ _,x ∈ L2:=⟨_,H,m0,fun x m=>mS _ m⟩;replace h_q2:=hsub _ h_q2;replace h_q3:=hsub _ h_q3;replace h_q39:=hsub _ h_q39;replace h_q5:=hsub _ h_q5;replace h_q7:=hsub _ h_q7;replace h_q14:=hsub _ h_q14;replace h_q16:=hsub _ h_q16;replace h_q18:=hsub _ h_q18;replace h_q20:=hsub _ h_q20;replace h_q22:=hsub _ h_q22;replace hfs:=hfs.mono hsub;replace hos:=hos.mono hsub;replace hb0:=hb0.mono hsub;replace hf_fv5:=hf_fv5.mono hsub;replace hf_fv7:=hf_fv7.mono hsub;replace hf_fv14:=hf_fv14.mono hsub;replace hf_fv16:=hf_fv16.mono hsub;replace hf_fv18:=hf_fv18.mono hsub;replace hf_fv20:=hf_fv20.mono hsub;replace ho_20:=ho_20.mono hsub;replace hf_fv22:=hf_fv22.mono hsub;replace ho_22:=ho_22.mono hsub;replace hf_fv24:=hf_fv24.mono hsub;refine oI rfl (oZ ?_);refine cS (cR ?_);refine oI (sem_load rfl (H.mem (x:=(q22,_)) (h_q22)) (fun _=>by first | rfl | exact hfs.part rfl | exact hos.part rfl)) ?_;refine wp_call rfl (ckNow_ok C CD (fs:=sortF D) (ops:=[]++[op]) H hf_fv22 ho_22 okn1 okn2 okn3 (small1 (by simp)) (fun o m=>by rw [List.mem_singleton.1 m];exact hop1)) ?_;rintro r h hN;unfold NowO at hN;rw [nowS_one hDok (if_pos (hvS.2 hv))] at hN;obtain ⟨fv26,rfl,M,N,hsub,H,hNM,_,hf_fv26⟩:=hN;replace hf_fv26:=hf_fv26.mono hNM
                      replace h_q2:=hsub _ h_q2;replace h_q3:=hsub _ h_q3;replace h_q39:=hsub _ h_q39;replace h_q5:=hsub _ h_q5;replace h_q7:=hsub _ h_q7;replace h_q14:=hsub _ h_q14;replace h_q16:=hsub _ h_q16;replace h_q18:=hsub _ h_q18;replace h_q20:=hsub _ h_q20;replace h_q22:=hsub _ h_q22;replace h_q24:=hsub _ h_q24;replace hfs:=hfs.mono hsub;replace hos:=hos.mono hsub;replace hb0:=hb0.mono hsub;replace hf_fv5:=hf_fv5.mono hsub;replace hf_fv7:=hf_fv7.mono hsub;replace hf_fv14:=hf_fv14.mono hsub;replace hf_fv16:=hf_fv16.mono hsub;replace hf_fv18:=hf_fv18.mono hsub;replace hf_fv20:=hf_fv20.mono hsub;replace ho_20:=ho_20.mono hsub;replace hf_fv22:=hf_fv22.mono hsub;replace ho_22:=ho_22.mono hsub;replace hf_fv24:=hf_fv24.mono hsub;refine oI rfl (oI rfl (oI rfl ?_));refine wp_alloc H fun q26 h H=>?_
                      refine wp_store (k:=0) rfl rfl rfl rfl H rfl (fun k=>rfl) fun h H=>?_
                      obtain ⟨L2,H,h_q26,hsub⟩:∃ L2,Has h L2∧(q26,AObj.row tyD [fv26] false) ∈ L2∧∀ x ∈ _,x ∈ L2:=⟨_,H,m0,fun x m=>mS _ m⟩;replace h_q2:=hsub _ h_q2;replace h_q3:=hsub _ h_q3;replace h_q39:=hsub _ h_q39;replace h_q5:=hsub _ h_q5;replace h_q7:=hsub _ h_q7;replace h_q14:=hsub _ h_q14;replace h_q16:=hsub _ h_q16;replace h_q18:=hsub _ h_q18;replace h_q20:=hsub _ h_q20;replace h_q22:=hsub _ h_q22;replace h_q24:=hsub _ h_q24;replace hfs:=hfs.mono hsub;replace hos:=hos.mono hsub;replace hb0:=hb0.mono hsub;replace hf_fv5:=hf_fv5.mono hsub;replace hf_fv7:=hf_fv7.mono hsub;replace hf_fv14:=hf_fv14.mono hsub;replace hf_fv16:=hf_fv16.mono hsub;replace hf_fv18:=hf_fv18.mono hsub;replace hf_fv20:=hf_fv20.mono hsub;replace ho_20:=ho_20.mono hsub;replace hf_fv22:=hf_fv22.mono hsub;replace ho_22:=ho_22.mono hsub;replace hf_fv24:=hf_fv24.mono hsub;replace hf_fv26:=hf_fv26.mono hsub;refine oI rfl (oZ ?_);refine cS (cR ?_);refine oI rfl (oI (sem_is (b:=true) rfl rfl) (oI rfl (oN rfl (oI rfl (oN rfl (oI (sem_is (b:=true) rfl rfl) (oI rfl (oI rfl (oN rfl ?_)))))))));refine oI (sem_load rfl (H.mem (x:=(q24,_)) (h_q24)) (fun _=>by first | rfl | exact hfs.part rfl | exact hos.part rfl)) ?_;refine oN rfl ?_
                      refine oI (sem_load rfl (H.mem (x:=(q26,_)) (h_q26)) (fun _=>by first | rfl | exact hfs.part rfl | exact hos.part rfl)) ?_;refine oN rfl ?_;have hvd:=verbD_same (op:=op) (SameD.sort hDok.dist) hDok.dist.sort hDok.dist;have heq:=hvd.1.sort_eq (verbD_dist hDok.dist.sort) (verbD_dist hDok.dist);rw [heq] at hf_fv26;have hE:OkF (verbD op D).1:=applyD_ok hDok (if_pos hv);have hlE:(sortF (verbD op D).1).length ≤ 9223372036854775807:=by rw [(sortF_perm _).length_eq];have:=hE.len;omega
                      refine wp_call rfl (sameDisk_ok C H hlE hf_fv24 hf_fv26) ?_;rintro _ h ⟨rfl,H⟩;refine oI rfl (oI rfl (oZ (cT ?_)));refine ⟨trivial,_,rfl,?_⟩;rfl
                  · rw [if_neg h5,if_neg hv] at hN;obtain ⟨rfl,M,hsub,H,_⟩:=hN;replace h_q2:=hsub _ h_q2;replace h_q3:=hsub _ h_q3;replace h_q39:=hsub _ h_q39;replace h_q5:=hsub _ h_q5;replace h_q7:=hsub _ h_q7;replace h_q14:=hsub _ h_q14;replace h_q16:=hsub _ h_q16;replace h_q18:=hsub _ h_q18;replace hfs:=hfs.mono hsub;replace hos:=hos.mono hsub;replace hb0:=hb0.mono hsub;replace hf_fv5:=hf_fv5.mono hsub;replace hf_fv7:=hf_fv7.mono hsub;replace hf_fv14:=hf_fv14.mono hsub;replace hf_fv16:=hf_fv16.mono hsub;replace hf_fv18:=hf_fv18.mono hsub;refine oI rfl (oI rfl (oI rfl ?_));refine wp_alloc H fun q20 h H=>?_
                    refine wp_store (k:=0) rfl rfl rfl rfl H rfl (fun k=>rfl) fun h H=>?_
                    obtain ⟨L2,H,h_q20,hsub⟩:∃ L2,Has h L2∧(q20,AObj.row tyV [.nilslice,.nilslice] false) ∈ L2∧∀ x ∈ _,x ∈ L2:=⟨_,H,m0,fun x m=>mS _ m⟩;replace h_q2:=hsub _ h_q2;replace h_q3:=hsub _ h_q3;replace h_q39:=hsub _ h_q39;replace h_q5:=hsub _ h_q5;replace h_q7:=hsub _ h_q7;replace h_q14:=hsub _ h_q14;replace h_q16:=hsub _ h_q16;replace h_q18:=hsub _ h_q18;replace hfs:=hfs.mono hsub;replace hos:=hos.mono hsub;replace hb0:=hb0.mono hsub;replace hf_fv5:=hf_fv5.mono hsub;replace hf_fv7:=hf_fv7.mono hsub;replace hf_fv14:=hf_fv14.mono hsub;replace hf_fv16:=hf_fv16.mono hsub;replace hf_fv18:=hf_fv18.mono hsub;refine oI rfl (oZ ?_);refine cS (cR ?_);refine oI (sem_load rfl (H.mem (x:=(q7,_)) (h_q7)) (fun _=>by first | rfl | exact hfs.part rfl | exact hos.part rfl)) ?_;refine oI (sem_load rfl (H.mem (x:=(q3,_)) (h_q3)) (fun _=>by first | rfl | exact hfs.part rfl | exact hos.part rfl)) ?_;refine wp_call rfl (ckApply_ok C CD (fs:=sortF D) (ops:=[]) H hf_fv7 ops_nil (fun _ _ _ _ e=>by simp at e) hb0 okn1 okn2 okn3 (by decide) (fun _ m=>absurd m List.not_mem_nil) hop1) ?_;rintro r h hN;unfold ApplyO at hN;rw [hnS] at hN;dsimp only at hN;have hvS:okV op (sortF D) ↔ okV op D:=okV_same (SameD.sort hDok.dist) hDok.dist.sort hDok.dist;rw [if_neg h5,if_neg (fun hx=>hv (hvS.1 hx))] at hN;obtain ⟨rfl,M,hsub,H,_⟩:=hN
                    replace h_q2:=hsub _ h_q2;replace h_q3:=hsub _ h_q3;replace h_q39:=hsub _ h_q39;replace h_q5:=hsub _ h_q5;replace h_q7:=hsub _ h_q7;replace h_q14:=hsub _ h_q14;replace h_q16:=hsub _ h_q16;replace h_q18:=hsub _ h_q18;replace h_q20:=hsub _ h_q20;replace hfs:=hfs.mono hsub;replace hos:=hos.mono hsub;replace hb0:=hb0.mono hsub;replace hf_fv5:=hf_fv5.mono hsub;replace hf_fv7:=hf_fv7.mono hsub;replace hf_fv14:=hf_fv14.mono hsub;replace hf_fv16:=hf_fv16.mono hsub;replace hf_fv18:=hf_fv18.mono hsub;refine oI rfl (oI rfl (oI rfl ?_));refine wp_alloc H fun q22 h H=>?_
                    refine wp_store (k:=0) rfl rfl rfl rfl H rfl (fun k=>rfl) fun h H=>?_
                    obtain ⟨L2,H,h_q22,hsub⟩:∃ L2,Has h L2∧(q22,AObj.row tyV [.nilslice,.nilslice] false) ∈ L2∧∀ x ∈ _,x ∈ L2:=⟨_,H,m0,fun x m=>mS _ m⟩;replace h_q2:=hsub _ h_q2;replace h_q3:=hsub _ h_q3;replace h_q39:=hsub _ h_q39;replace h_q5:=hsub _ h_q5;replace h_q7:=hsub _ h_q7;replace h_q14:=hsub _ h_q14;replace h_q16:=hsub _ h_q16;replace h_q18:=hsub _ h_q18;replace h_q20:=hsub _ h_q20;replace hfs:=hfs.mono hsub;replace hos:=hos.mono hsub;replace hb0:=hb0.mono hsub;replace hf_fv5:=hf_fv5.mono hsub;replace hf_fv7:=hf_fv7.mono hsub;replace hf_fv14:=hf_fv14.mono hsub;replace hf_fv16:=hf_fv16.mono hsub;replace hf_fv18:=hf_fv18.mono hsub;refine oI rfl (oZ (cS ?_));refine cS (cR ?_);refine oI rfl (oI (sem_is (b:=true) rfl rfl) (oI rfl (oF rfl (oF rfl (oI rfl (oZ (cC rfl ?_)))))));refine cS (cR ?_);refine oI rfl (oI rfl (oI (sem_is (b:=true) rfl rfl) (oI rfl (oF rfl (oF rfl (oF rfl (oU rfl (oU rfl (oU rfl (oU rfl (oF rfl ?_)))))))))));refine oI rfl (oI rfl (oZ (cT ?_)));refine ⟨trivial,_,rfl,?_⟩;rfl
end
end Go.X
