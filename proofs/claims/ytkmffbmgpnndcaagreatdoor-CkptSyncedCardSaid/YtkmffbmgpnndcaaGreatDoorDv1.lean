/- Names of files. -/
import Derived.Test.YtkmffbmgpnndcaaGreatDoorDvCode
namespace Go.X
open Go
section
variable {E:XEnv} {d:Option Slot} {ops:List XOp} {Q:Tm→Heap→Prop} {tm:Tm} {x y:XO} {h:Heap} {L:List (Pos × AObj)} {v w:AV} {l m:List Nat}
theorem okC_lo {b:Nat} (h:b < 33):okC b = false:=by
  have:Nat.ble 33 b = false:=by cases hb:Nat.ble 33 b with | false=>rfl | true=>have:=Nat.le_of_ble_eq_true hb;omega
  simp [okC,this]
theorem okC_hi {b:Nat} (h:126 < b):okC b = false:=by
  have:Nat.ble b 126 = false:=by cases hb:Nat.ble b 126 with | false=>rfl | true=>have:=Nat.le_of_ble_eq_true hb;omega
  simp [okC,this]
theorem okC_mid {b:Nat} (h1:33 ≤ b) (h2:b ≤ 126):okC b = true:=by
  have h3:Nat.ble 33 b = true:=Nat.ble_eq_true_of_le h1;have h4:Nat.ble b 126 = true:=Nat.ble_eq_true_of_le h2;simp [okC,h3,h4]
theorem all_of (hi:∀ i (hi:i < l.length),okC l[i] = true):l.all okC = true:=by
  rw [List.all_eq_true];intro c m;obtain ⟨i,h1,rfl⟩:=List.getElem_of_mem m;exact hi i h1
theorem all_no {j:Nat} (hj:j < l.length) (h:okC l[j] = false):l.all okC = false:=by
  rw [List.all_eq_false];exact ⟨l[j],List.getElem_mem hj,by simp [h]⟩
theorem len_str {s:List Nat} (hx:x.val tm = some (.str s)):(XI.len true x).sem tm h = .ok (.int .i64 (.ofNat s.length)) h:=by
  simp only [XI.sem,lenS,withO_run hx,lenN_eq,Nat.add_zero];rfl
theorem wp_toBytes {ty:TypeId} (hx:x.val tm = some (.str l)) (H:Has h L) (hq:∀ q h',Has h' ((q,.row ty (avBytes l) true) :: L)→wpOps E ops Q (putT d (.slice q 0 l.length (.up 1)) tm) h'):wpOps E (⟨d,none,.ins (.toBytes ty x)⟩ :: ops) Q tm h:=by
  refine oI (v:=.slice h.next 0 l.length (.up 1)) (h':=h.push (.row ty (avBytes l) true)) ?_ (hq _ _ (H.push _));simp only [XI.sem,toBytesS,withO_run hx,lenN_eq,Nat.add_zero];rfl
theorem sv_own {p:Pos} {ty:TypeId} {sp:Bool} {n:Nat} (hn:n = l.length):SV ((p,AObj.row ty (avBytes l) sp) :: L) (.slice p 0 n (.up 1)) l:=⟨p,0,.up 1,ty,_,sp,by rw [hn],m0,by rw [avB_len];omega,by rw [List.drop_zero,List.take_of_length_le (by rw [avB_len];omega)],rfl⟩
theorem geStr_T {a b:List Nat} (hx:x.val tm = some (.str a)) (hy:y.val tm = some (.str b)) (hl:ltN a b = false):(XI.bin .ge x y).sem tm h = .ok (.bool true) h:=by
  simp only [XI.sem,binS,withO_run hx,withO_run hy];show okB h (match ltN a b with | true=>false | false=>true) = _;rw [hl];rfl
theorem geStr_F {a b:List Nat} (hx:x.val tm = some (.str a)) (hy:y.val tm = some (.str b)) (hl:ltN a b = true):(XI.bin .ge x y).sem tm h = .ok (.bool false) h:=by
  simp only [XI.sem,binS,withO_run hx,withO_run hy];show okB h (match ltN a b with | true=>false | false=>true) = _;rw [hl];rfl
theorem wp_geStr {a b:List Nat} (hx:x.val tm = some (.str a)) (hy:y.val tm = some (.str b)) (ht:ltN a b = false→wpOps E ops Q (putT d (.bool true) tm) h) (hf:ltN a b = true→wpOps E ops Q (putT d (.bool false) tm) h):wpOps E (⟨d,none,.ins (.bin .ge x y)⟩ :: ops) Q tm h:=by
  cases hl:ltN a b with
  | false=>exact oI (geStr_T hx hy hl) (ht hl)
  | true=>exact oI (geStr_F hx hy hl) (hf hl)
theorem wp_mkmap (H:Has h L) (hq:∀ q h',Has h' ((q,.map [] 0) :: L)→wpOps E ops Q (putT d (.map q) tm) h'):wpOps E (⟨d,none,.ins .mkmap⟩ :: ops) Q tm h :=
  oI (v:=.map h.next) (h':=h.push (.map [] 0)) rfl (hq _ _ (H.push _))
theorem kU {d:Slot} {l:List XOp} {g:Slot} {b:Bool} {c:XC} (hg:tm.get g = some unit) (hd:tm.get d = some unit) (hq:wpK l tm h):wpK (⟨some d,some (g,b),c⟩ :: l) tm h :=
  ⟨fun k=>by
    rw [chk_guard hg];have h1:chkU (some d) tm k = k:=by
      have:chkU (some d) tm k = getF tm d fun v=>yes? (AV.beq unit v) k .bad:=rfl
      rw [this,getF_eq,hd,optR_some];rfl
    exact h1,hq⟩
theorem isName1_ok (C:Code E) {b:Nat}:CallT E (.func n_isName1 [] []) [.int .u8 (.ofNat b)] h fun r h'=>r = .bool (!okC b)∧h' = h:=by
  refine CallT.body C.isName1 ?_;unfold BodyT c_isName1;refine cS (cR ?_);refine oI rfl (oZ ?_);refine cS (cR ?_);refine oI rfl ?_;refine wp_bool rfl (fun hb1=>?_) (fun hb1=>?_)
  · have ha:=ltI_lt hb1
    try simp only [ofNat_cast] at ha
    refine oI rfl (oF rfl (oF rfl (oI rfl (oI rfl (oZ (cT ?_))))));refine ⟨trivial,_,rfl,?_⟩;exact ⟨by rw [okC_lo (by omega)];rfl,rfl⟩
  · have ha:=ltI_ge hb1
    try simp only [ofNat_cast] at ha
    refine oI rfl (oN rfl (oI rfl (oN rfl ?_)));refine wp_bool rfl (fun hb2=>?_) (fun hb2=>?_)
    · have hc:=ltI_lt hb2
      try simp only [ofNat_cast] at hc
      refine oI rfl (oI rfl (oZ (cT ?_)));refine ⟨trivial,_,rfl,?_⟩;exact ⟨by rw [okC_hi (by omega)];rfl,rfl⟩
    · have hc:=ltI_ge hb2
      try simp only [ofNat_cast] at hc
      refine oI rfl (oI rfl (oZ (cT ?_)));refine ⟨trivial,_,rfl,?_⟩;exact ⟨by rw [okC_mid (by omega) (by omega)];rfl,rfl⟩
theorem indexF_loop (C:Code E) (H:Has h L) (hs:BV L v l) (hlen:l.length ≤ maxN) {Q:XExit→Tm→Heap→Prop} (hend:∀ tm,l.all okC = true→Q (.exit 0) tm h) (hret:∀ tm j,l.all okC = false→tm.get (.lo .d0 .d4) = some (.int .i64 (.ofNat j))→Q .ret tm h) :
    ∀ (k j:Nat),l.length - j = k→(∀ i (hi:i < l.length),i < j→okC l[i] = true)→∀ (tm:Tm),tm.get (.lo .d0 .d0) = some v→tm.get (.lo .d0 .d1) = some (.func n_isName1 [] [])→tm.get (.lo .d0 .d7) = some (.int .i64 (.ofNat l.length))→tm.get (.lo .d0 .d8) = some (.int .i64 (.ofNat j))→LoopT E c_indexF_b0 Q tm h:=by
  have hlen:l.length ≤ 9223372036854775807:=hlen;intro k
  induction k using Nat.strongRecOn with
  | ind k ih =>
    intro j hk hall tm e0 e1 e7 e8;obtain ⟨tm,rfl⟩:=sets4 e0 e1 e7 e8;refine LoopT.wp ?_;unfold c_indexF_b0;refine cS (cR ?_);refine wp_bool rfl (fun hb1=>?_) (fun hb1=>?_)
    · have hj:=of_ltN hb1;refine oZ (cS (cC rfl (cK (cS (cB ?_)))));refine cS (cR ?_);refine oI rfl (oI rfl (oZ ?_));refine cS (cR ?_);refine oI rfl (oI rfl (oI rfl ?_));refine wp_byte H hs hj rfl rfl fun pv2=>?_
      refine wp_callv rfl rfl (isName1_ok C) ?_;rintro _ _ ⟨rfl,rfl⟩
      cases hc:okC l[j]
      · have:=hall;refine oZ (cC rfl ?_);refine cS (cR ?_);refine oI rfl (oI rfl (oZ (cT ?_)));exact hret _ j (all_no hj hc) rfl
      · have hall2:∀ i (hi:i < l.length),i < j + 1→okC l[i] = true:=fun i hi hij=>by
          rcases Nat.lt_or_ge i j with h1 | h1
          · exact hall i hi h1
          · obtain rfl:i = j:=by omega
            exact hc
        refine oZ (cF rfl (cK (cR ?_)));refine oI (sem_int rfl (w64_succ (by omega))) ?_;refine oI rfl (oZ ?_);exact ih (l.length - (j + 1)) (by omega) (j + 1) rfl hall2 _ rfl rfl rfl rfl
    · have hj:=of_geN hb1;refine oZ (cS (cF rfl (cX ?_)));exact hend _ (all_of fun i hi=>hall i hi (by omega))
theorem indexF_ok (C:Code E) (H:Has h L) (hs:BV L v l) (hlen:l.length ≤ maxN):CallT E (.func n_indexF [] []) [v,.func n_isName1 [] []] h fun r h'=>((l.all okC = true∧r = .int .i64 (-1))∨(l.all okC = false∧∃ j:Nat,r = .int .i64 (.ofNat j)))∧h' = h:=by
  refine CallT.body C.indexF ?_;unfold BodyT c_indexF;refine cS (cR ?_);refine oI rfl (oZ (cS ?_));refine cS (cR ?_);refine oI rfl (oI (len_BV hs rfl) (oI rfl (oZ (cB ?_))));refine wpC_loop (indexF_loop C H hs hlen (fun tm ha=>?_) (fun tm j ha e4=>?_) (l.length - 0) 0 rfl (fun i hi h0=>absurd h0 (Nat.not_lt_zero _)) _ rfl rfl rfl rfl)
  · refine cS (cR ?_);refine oI rfl (oZ (cT ?_));refine ⟨trivial,_,rfl,?_⟩;exact ⟨.inl ⟨ha,rfl⟩,rfl⟩
  · obtain ⟨tm,rfl⟩:=sets1 e4;refine ⟨trivial,_,rfl,?_⟩;exact ⟨.inr ⟨ha,_,rfl⟩,rfl⟩
theorem containsF_ok (C:Code E) (H:Has h L) (hs:BV L v l) (hlen:l.length ≤ maxN):CallT E (.func n_containsF [] []) [v,.func n_isName1 [] []] h fun r h'=>r = .bool (!l.all okC)∧h' = h:=by
  refine CallT.body C.containsF ?_;unfold BodyT c_containsF;refine cS (cR ?_);refine oI rfl (oZ ?_);refine cS (cR ?_);refine oI rfl (oI rfl (wp_call rfl (indexF_ok C H hs hlen) ?_));rintro _ _ ⟨⟨ha,rfl⟩ | ⟨ha,j,rfl⟩,rfl⟩
  · have:=ha;refine oI (sem_is (b:=false) rfl rfl) (oI rfl (oZ (cT ?_)));refine ⟨trivial,_,rfl,?_⟩;exact ⟨by rw [ha];rfl,rfl⟩
  · have:=ha;refine oI (sem_is (b:=true) rfl (leI_T (by rw [ofNat_cast];omega))) ?_;refine oI rfl (oZ (cT ?_));refine ⟨trivial,_,rfl,?_⟩;exact ⟨by rw [ha];rfl,rfl⟩
theorem isNm_bool (b:Bool) {s:List Nat} (h:b = true ↔ isNm s):AV.bool b = .bool (decide (isNm s)):=by
  congr 1
  by_cases hn:isNm s
  · rw [h.2 hn];simp [hn]
  · have:b = false:=by cases b with | false=>rfl | true=>exact (hn (h.1 rfl)).elim
    rw [this];simp [hn]
theorem isName_ok (C:Code E) (H:Has h L) (hlen:l.length ≤ maxN):CallT E (.func n_isName [] []) [.str l] h fun r h'=>r = .bool (decide (isNm l))∧Has h' L:=by
  have hlen':l.length ≤ 9223372036854775807:=hlen;refine CallT.body C.isName ?_;unfold BodyT c_isName;refine cS (cR ?_);refine oI rfl (oZ ?_);refine cS (cR ?_);refine oI rfl (oI (len_str rfl) ?_);refine wp_bool rfl (fun hb1=>?_) (fun hb1=>?_)
  · have ha0:=ltI_lt hb1
    try simp only [ofNat_cast] at ha0
    refine oI rfl (oN rfl (oI rfl (oN rfl (oI (len_str rfl) (oN rfl ?_)))));refine wp_bool rfl (fun hb2=>?_) (fun hb2=>?_)
    · have hc0:=leI_le hb2
      try simp only [ofNat_cast] at hc0
      refine oI rfl (oI rfl (oN rfl (oI rfl (oN rfl ?_))));refine wp_toBytes rfl H fun q h H=>?_
      refine oN rfl (wp_call rfl (containsF_ok C H (sv_own rfl).bv hlen) ?_);rintro _ _ ⟨rfl,rfl⟩
      cases ha:l.all okC
      · have:=hlen;refine oN rfl (oI rfl (oI rfl (oI rfl (oZ (cT ?_)))));refine ⟨trivial,_,rfl,?_⟩;exact ⟨isNm_bool false (iff_of_false (by simp) fun hn=>by rw [hn.2.2] at ha;simp at ha),H.tail⟩
      · have:=hlen;refine oN rfl (oI rfl (oI rfl (oI rfl (oZ (cT ?_)))));refine ⟨trivial,_,rfl,?_⟩;exact ⟨isNm_bool true (iff_of_true rfl ⟨by omega,by omega,ha⟩),H.tail⟩
    · have hc0:=leI_gt hb2
      try simp only [ofNat_cast] at hc0
      refine oI rfl (oI rfl (oF rfl (oF rfl (oF rfl (oF rfl (oI rfl (oI rfl (oZ (cT ?_)))))))));refine ⟨trivial,_,rfl,?_⟩;exact ⟨isNm_bool false (iff_of_false (by simp) fun hn=>by have h1:=hn.1;have h2:=hn.2.1;omega),H⟩
  · have ha0:=ltI_ge hb1
    try simp only [ofNat_cast] at ha0
    refine oI rfl (oF rfl (oF rfl (oF rfl (oI rfl (oI rfl (oF rfl (oF rfl (oF rfl (oF rfl (oI rfl (oI rfl ?_)))))))))));refine oZ (cT ?_);refine ⟨trivial,_,rfl,?_⟩;exact ⟨isNm_bool false (iff_of_false (by simp) fun hn=>by have h1:=hn.1;have h2:=hn.2.1;omega),H⟩
end
end Go.X

/- Disks. -/
namespace Go.X
open Go
/-! ### valid -/
def okAtD (fs:List FD) (i:Nat):Prop:=∀ hi:i < fs.length,isNm fs[i].1∧fs[i].2.length ≤ 400000∧(i = 0∨ltN fs[i - 1].1 fs[i].1 = true)
def okS (fs:List FD):Prop:=fs.length ≤ 100∧∀ i,i < fs.length→okAtD fs i
theorem okAtD_no {fs:List FD} {j:Nat} (hj:j < fs.length) (h : ¬ okAtD fs j) : ¬ okS fs:=fun hd=>h (hd.2 j hj)
theorem okAtD_0 {fs:List FD} {j:Nat} (hj:j < fs.length) (h : ¬ isNm fs[j].1) : ¬ okAtD fs j:=fun ha=>h (ha hj).1
theorem okAtD_1 {fs:List FD} {j:Nat} (hj:j < fs.length) (h:400000 < fs[j].2.length) : ¬ okAtD fs j:=fun ha=>by have:=(ha hj).2.1;omega
theorem okAtD_2 {fs:List FD} {j:Nat} (hj:j < fs.length) (h0:0 < j) (h:ltN fs[j - 1].1 fs[j].1 = false) : ¬ okAtD fs j:=fun ha=>by
  rcases (ha hj).2.2 with h1 | h1
  · omega
  · rw [h] at h1;simp at h1
theorem okAtD_step {fs:List FD} {j:Nat} (h:∀ i,i < j→okAtD fs i) (h1:okAtD fs j):∀ i,i < j + 1→okAtD fs i:=fun i hi=>by
  rcases Nat.lt_or_ge i j with h2 | h2
  · exact h i h2
  · obtain rfl:i = j:=by omega
    exact h1
theorem okS_lt {fs:List FD} (h:okS fs):fs.Pairwise fun a b=>ltN a.1 b.1 = true:=by
  have key:∀ (j i:Nat) (hij:i < j) (hj:j < fs.length),ltN (fs[i]'(by omega)).1 fs[j].1 = true:=by
    intro j
    induction j with
    | zero=>intro i hi;omega
    | succ j ih =>
      intro i hi hj;have h1:=(h.2 (j + 1) hj hj).2.2;have h2:ltN (fs[j]'(by omega)).1 fs[j + 1].1 = true:=by
        rcases h1 with h1 | h1
        · omega
        · exact h1
      rcases Nat.lt_or_ge i j with h3 | h3
      · exact ltN_tr (ih i h3 (by omega)) h2
      · obtain rfl:i = j:=by omega
        exact h2
  exact List.pairwise_iff_getElem.2 fun i j hi hj hij=>key j i hij hj
theorem okS_iff {fs:List FD}:okS fs ↔ fs.length ≤ 100∧(∀ f ∈ fs,isNm f.1∧f.2.length ≤ 400000)∧fs.Pairwise fun a b=>ltN a.1 b.1 = true:=by
  constructor
  · intro h;refine ⟨h.1,fun f hf=>?_,okS_lt h⟩;obtain ⟨i,hi,rfl⟩:=List.getElem_of_mem hf;exact ⟨(h.2 i hi hi).1,(h.2 i hi hi).2.1⟩
  · rintro ⟨h1,h2,h3⟩;refine ⟨h1,fun i hi _=>⟨(h2 _ (List.getElem_mem hi)).1,(h2 _ (List.getElem_mem hi)).2,?_⟩⟩
    cases i with
    | zero=>exact .inl rfl
    | succ i=>exact .inr (List.pairwise_iff_getElem.1 h3 i (i + 1) (by omega) hi (by omega))
theorem ltN_ne' {a b:List Nat} (h:ltN a b = true):a ≠ b:=fun e=>by subst e;rw [ltN_irr] at h;simp at h
theorem okS_okF {fs:List FD} (h:okS fs):OkF fs:=by
  obtain ⟨h1,h2,h3⟩:=okS_iff.1 h;exact ⟨h3.imp fun h=>ltN_ne' h,h1,h2⟩
theorem okF_sort {D:List FD} (h:OkF D):okS (sortF D):=okS_iff.2 ⟨by rw [(sortF_perm D).length_eq];exact h.len,fun f hf=>h.ok f ((sortF_perm D).mem_iff.1 hf),sortF_sorted h.dist⟩
theorem okS_sorted {fs:List FD} (h:okS fs):sortF fs = fs:=(sortF_of_perm (.refl _) (okS_lt h)).symm
instance (s:List FD) (i:Nat):Decidable (okAtD s i):=inferInstanceAs (Decidable (∀ _,_))
section
variable {E:XEnv} {d:Option Slot} {ops:List XOp} {Q:Tm→Heap→Prop} {tm:Tm} {x y:XO} {h:Heap} {L M:List (Pos × AObj)} {v w:AV} {l m:List Nat} {fs:List FD}
theorem w64_sub {a b:Nat} (h1:b ≤ a) (h2:a ≤ 1000000):wrapF .i64 (Int.ofNat a - (b:Int)) = Int.ofNat (a - b):=(w64 (by rw [ofNat_cast];omega) (by rw [ofNat_cast];omega)).trans (by simp only [ofNat_cast];omega)
theorem BV.part {cs:List AV} {o:Nat} (hs:BV L v l) (hn:nth cs o = some v):partOf cs o none h = .ok v h:=by
  have:=hs.ne_any;unfold partOf;rw [hn]
  cases v <;> first | rfl | exact absurd rfl this
theorem FsV.ne_any (hf:FsV M v fs):v ≠ .any:=let ⟨_,_,h2⟩:=hf;h2.ne_any
theorem FsV.cells1 (hf:FsV M v fs):v.cellsO = some [v]:=let ⟨_,_,h2⟩:=hf;h2.cellsO
theorem FsV.part {cs:List AV} {o:Nat} (hf:FsV M v fs) (hn:nth cs o = some v):partOf cs o none h = .ok v h:=by
  have:=hf.ne_any;unfold partOf;rw [hn]
  cases v <;> first | rfl | exact absurd rfl this
theorem FsV.at {j:Nat} (hf:FsV M v fs) (hj:j < fs.length):∃ w r,BV M w fs[j].2∧PtrV M (adr v j 2) (.str fs[j].1 :: w :: r):=by
  obtain ⟨ps,h1,h2⟩:=hf;obtain ⟨w,h3,h4⟩:=h1.at (List.getElem?_eq_getElem hj);obtain ⟨h5,h6⟩:=flatP_at h3;refine ⟨w,(flatP ps).drop (j * 2 + 2),h4,?_⟩;have:=adr_ptr h2 hj;obtain ⟨k1,k2⟩:=List.getElem?_eq_some_iff.1 h5;obtain ⟨k3,k4⟩:=List.getElem?_eq_some_iff.1 h6;rw [List.drop_eq_getElem_cons k1,k2,List.drop_eq_getElem_cons k3,k4] at this;exact this
theorem iaddrF_sem {j:Nat} {k:IntKind} (hf:FsV M v fs) (hj:j < fs.length) (hv:x.val tm = some v) (hi:y.val tm = some (.int k (.ofNat j))):(XI.iaddrS 2 x y).sem tm h = .ok (adr v j 2) h:=let ⟨_,_,h2⟩:=hf;iaddr_sem h2 (by decide) hj hv hi
theorem lenF_sem (hf:FsV M v fs) (hv:x.val tm = some v):(XI.len false x).sem tm h = .ok (.int .i64 (.ofNat fs.length)) h:=let ⟨_,_,h2⟩:=hf;len_RowV h2 hv
def VdR (L:List (Pos × AObj)) (fs:List FD):AV→Heap→Prop:=fun r h'=>∃ b,r = .bool b∧(b = true ↔ okS fs)∧Has h' L
theorem valid_loop (C:Code E) {q:Pos} (hlen:fs.length ≤ 100) (hfs:FsV L v fs) (hnl:∀ f ∈ fs,f.1.length ≤ maxN) (hbl:∀ f ∈ fs,f.2.length ≤ maxN) {Q:XExit→Tm→Heap→Prop} (hend:∀ tm h,(∀ i,i < fs.length→okAtD fs i)→Has h L→Q (.exit 0) tm h) (hret:∀ tm h,¬ okS fs→Has h L→tm.get (.lo .d0 .d2) = some (.bool false)→Q .ret tm h) :
    ∀ (k j:Nat),fs.length - j = k→(∀ i,i < j→okAtD fs i)→∀ (tm:Tm) (h:Heap),Has h ((q,.row tyD [v] false) :: L)→tm.get (.lo .d0 .d1) = some (.ptr q 0)→tm.get (.lo .d0 .d10) = some v→tm.get (.lo .d0 .d11) = some (.int .i64 (.ofNat fs.length))→tm.get (.lo .d0 .d12) = some (.int .i64 (.ofNat j))→LoopT E c_valid_b0 Q tm h:=by
  intro k
  induction k using Nat.strongRecOn with
  | ind k ih =>
    intro j hk hall tm h H e1 e10 e11 e12;obtain ⟨tm,rfl⟩:=sets4 e1 e10 e11 e12;refine LoopT.wp ?_;unfold c_valid_b0;refine cS (cR ?_);refine wp_bool rfl (fun hb1=>?_) (fun hb1=>?_)
    · have hj := of_ltN hb1;obtain ⟨w,r,hw,hp⟩:=hfs.at hj;have hn1:=hnl _ (List.getElem_mem hj);have hb1:fs[j].2.length ≤ 9223372036854775807:=hbl _ (List.getElem_mem hj);refine oZ (cS (cC rfl (cK (cS (cB ?_)))));refine cS (cR ?_);refine oI rfl (oI (iaddrF_sem hfs hj rfl rfl) ?_);refine oI (loadN_sem (k:=2) (H.tail) hp (by simp) rfl) ?_;refine wp_alloc H fun q2 h H=>?_
      refine oI rfl ?_;refine wp_store (k:=0) rfl rfl rfl (by first | rfl | exact len_of (DT.len _) | exact len_of (DE.len _) | exact len_of (DV.len _)) H rfl (fun k=>by first | exact spliceK_len (by first | exact DT.len _ | exact DE.len _ | exact DV.len _) k | rfl) fun h H=>?_
      refine oZ (cS (wpC_phase rfl (oI rfl ?_)));refine oI (sem_load rfl (H.at 0 rfl) (fun _=>by first | rfl | exact BV.part hw rfl | exact hfs.part rfl)) ?_;refine oZ ⟨?_,?_⟩
      · refine kI (rfl) rfl rfl ?_;refine kI (sem_load rfl (H.at 0 rfl) (fun _=>by first | rfl | exact BV.part hw rfl | exact hfs.part rfl)) rfl rfl ?_;exact kZ
      · refine wp_call rfl (isName_ok C H hn1) ?_;rintro _ h ⟨rfl,H⟩
        by_cases hnm:isNm fs[j].1
        · rw [decide_eq_true hnm];refine oZ (cL rfl (oI rfl (oI rfl (oN rfl (oI rfl (oN rfl ?_))))));refine oI (sem_load rfl (H.at 0 rfl) (fun _=>by first | rfl | exact BV.part hw rfl | exact hfs.part rfl)) ?_;refine oN rfl (oI (len_BV hw rfl) (oN rfl ?_));refine wp_bool rfl (fun hb3=>?_) (fun hb3=>?_)
          · have hbig:=ltI_lt hb3
            try simp only [ofNat_cast] at hbig
            refine oI rfl (oI rfl (oF rfl (oF rfl (oF rfl (oU rfl (oU rfl (oU rfl (oU rfl (oU rfl (oU rfl (oU rfl ?_)))))))))));refine oU rfl (oU rfl (oU rfl (oF rfl (oI rfl ?_))));refine oZ ⟨?_,?_⟩
            · refine kI (rfl) rfl rfl (kI (rfl) rfl rfl (kN rfl (kI (rfl) rfl rfl (kN rfl ?_))));refine kI (sem_load rfl (H.at 0 rfl) (fun _=>by first | rfl | exact BV.part hw rfl | exact hfs.part rfl)) rfl rfl ?_;refine kN rfl (kI (len_BV hw rfl) rfl rfl (kN rfl ?_));refine kI (sem_is rfl (by first | assumption | exact neI_refl _ | exact eqI_refl _)) rfl rfl ?_;refine kI (rfl) rfl rfl (kI (rfl) rfl rfl (kF rfl rfl (kF rfl rfl (kF rfl rfl (kU rfl rfl (kU rfl rfl (kU rfl rfl (kU rfl rfl (kU rfl rfl (kU rfl rfl (kU rfl rfl ?_)))))))))));refine kU rfl rfl (kU rfl rfl (kU rfl rfl (kF rfl rfl (kI (rfl) rfl rfl ?_))));exact kZ
            · refine cC rfl ?_;refine cS (cR ?_);refine oI rfl (oZ (cT ?_));exact hret _ _ (okAtD_no hj (okAtD_1 hj (by omega))) H.tail.tail rfl
          · have hbig:=ltI_ge hb3
            try simp only [ofNat_cast] at hbig
            refine oI rfl (oI rfl (oN rfl (oI rfl (oN rfl ?_))));refine wp_bool rfl (fun hb4=>?_) (fun hb4=>?_)
            · have hj0:=ltI_lt hb4
              try simp only [ofNat_cast] at hj0
              refine oN rfl (oI rfl (oN rfl (oI rfl (oN rfl ?_))));refine oI (sem_load rfl (H.at 1 rfl) (fun _=>by first | rfl | exact BV.part hw rfl | exact hfs.part rfl)) ?_;refine oN rfl (oI rfl (oN rfl ?_));refine oI (sem_int (m:=.ofNat (j - 1)) rfl (w64_sub (b:=1) (by omega) (by omega))) ?_;refine oN rfl ?_;obtain ⟨w0,r0,hw0,hp0⟩:=hfs.at (j:=j - 1) (by omega);refine oI (iaddrF_sem hfs (j:=j - 1) (by omega) rfl rfl) ?_;refine oN rfl (oI (faddr_sem hp0 (Nat.zero_le _) rfl) (oN rfl ?_));refine oI (load1_sem (H.tail.tail) (padd_ptr (off:=0) hp0 (Nat.zero_le _)) (by simp) rfl) ?_;refine oN rfl (oI rfl (oN rfl ?_));refine oI (sem_load rfl (H.at 0 rfl) (fun _=>by first | rfl | exact BV.part hw rfl | exact hfs.part rfl)) ?_;refine oN rfl ?_;refine wp_geStr rfl rfl (fun hlt=>?_) (fun hlt=>?_)
              · have:=hall;refine oN rfl (oI rfl (oI rfl ?_));refine oZ ⟨?_,?_⟩
                · refine kI (rfl) rfl rfl (kI (rfl) rfl rfl (kN rfl (kI (rfl) rfl rfl (kN rfl ?_))));refine kI (sem_load rfl (H.at 0 rfl) (fun _=>by first | rfl | exact BV.part hw rfl | exact hfs.part rfl)) rfl rfl ?_;refine kN rfl (kI (len_BV hw rfl) rfl rfl (kN rfl ?_));refine kI (sem_is rfl (by first | assumption | exact neI_refl _ | exact eqI_refl _)) rfl rfl ?_;refine kI (rfl) rfl rfl (kI (rfl) rfl rfl (kN rfl (kI (rfl) rfl rfl (kN rfl ?_))));refine kI (sem_is rfl (by first | assumption | exact neI_refl _ | exact eqI_refl _)) rfl rfl ?_;refine kN rfl (kI (rfl) rfl rfl (kN rfl (kI (rfl) rfl rfl (kN rfl ?_))));refine kI (sem_load rfl (H.at 1 rfl) (fun _=>by first | rfl | exact BV.part hw rfl | exact hfs.part rfl)) rfl rfl ?_;refine kN rfl (kI (rfl) rfl rfl (kN rfl ?_));refine kI (sem_int (m:=.ofNat (j - 1)) rfl (w64_sub (b:=1) (by omega) (by omega))) rfl rfl ?_;refine kN rfl ?_;refine kI (iaddrF_sem hfs (j:=j - 1) (by omega) rfl rfl) rfl rfl ?_;refine kN rfl (kI (faddr_sem hp0 (Nat.zero_le _) rfl) rfl rfl (kN rfl ?_));refine kI (load1_sem (H.tail.tail) (padd_ptr (off:=0) hp0 (Nat.zero_le _)) (by simp) rfl) rfl rfl ?_;refine kN rfl (kI (rfl) rfl rfl (kN rfl ?_));refine kI (sem_load rfl (H.at 0 rfl) (fun _=>by first | rfl | exact BV.part hw rfl | exact hfs.part rfl)) rfl rfl ?_;refine kN rfl (kI (geStr_T rfl rfl hlt) rfl rfl (kN rfl (kI (rfl) rfl rfl (kI (rfl) rfl rfl ?_))));exact kZ
                · refine cC rfl ?_;refine cS (cR ?_);refine oI rfl (oZ (cT ?_));exact hret _ _ (okAtD_no hj (okAtD_2 hj (by omega) hlt)) H.tail.tail rfl
              · have:=hall;refine oN rfl (oI rfl (oI rfl ?_));refine oZ ⟨?_,?_⟩
                · refine kI (rfl) rfl rfl (kI (rfl) rfl rfl (kN rfl (kI (rfl) rfl rfl (kN rfl ?_))));refine kI (sem_load rfl (H.at 0 rfl) (fun _=>by first | rfl | exact BV.part hw rfl | exact hfs.part rfl)) rfl rfl ?_;refine kN rfl (kI (len_BV hw rfl) rfl rfl (kN rfl ?_));refine kI (sem_is rfl (by first | assumption | exact neI_refl _ | exact eqI_refl _)) rfl rfl ?_;refine kI (rfl) rfl rfl (kI (rfl) rfl rfl (kN rfl (kI (rfl) rfl rfl (kN rfl ?_))));refine kI (sem_is rfl (by first | assumption | exact neI_refl _ | exact eqI_refl _)) rfl rfl ?_;refine kN rfl (kI (rfl) rfl rfl (kN rfl (kI (rfl) rfl rfl (kN rfl ?_))));refine kI (sem_load rfl (H.at 1 rfl) (fun _=>by first | rfl | exact BV.part hw rfl | exact hfs.part rfl)) rfl rfl ?_;refine kN rfl (kI (rfl) rfl rfl (kN rfl ?_));refine kI (sem_int (m:=.ofNat (j - 1)) rfl (w64_sub (b:=1) (by omega) (by omega))) rfl rfl ?_;refine kN rfl ?_;refine kI (iaddrF_sem hfs (j:=j - 1) (by omega) rfl rfl) rfl rfl ?_;refine kN rfl (kI (faddr_sem hp0 (Nat.zero_le _) rfl) rfl rfl (kN rfl ?_));refine kI (load1_sem (H.tail.tail) (padd_ptr (off:=0) hp0 (Nat.zero_le _)) (by simp) rfl) rfl rfl ?_;refine kN rfl (kI (rfl) rfl rfl (kN rfl ?_));refine kI (sem_load rfl (H.at 0 rfl) (fun _=>by first | rfl | exact BV.part hw rfl | exact hfs.part rfl)) rfl rfl ?_;refine kN rfl (kI (geStr_F rfl rfl hlt) rfl rfl (kN rfl (kI (rfl) rfl rfl (kI (rfl) rfl rfl ?_))));exact kZ
                · refine cF rfl (cK (cR ?_));refine oI (sem_int rfl (w64_succ (by omega))) ?_;refine oI rfl (oZ ?_);have hat:okAtD fs j:=fun _=>⟨hnm,by omega,.inr hlt⟩
                  exact ih (fs.length - (j + 1)) (by omega) (j + 1) rfl (okAtD_step hall hat) _ _ H.tail rfl rfl rfl rfl
            · have hj0:=ltI_ge hb4
              try simp only [ofNat_cast] at hj0
              refine oN rfl (oI rfl (oF rfl (oF rfl (oF rfl (oF rfl (oF rfl (oF rfl (oF rfl (oF rfl (oF rfl (oF rfl ?_)))))))))));refine oN rfl (oI rfl (oI rfl ?_));refine oZ ⟨?_,?_⟩
              · refine kI (rfl) rfl rfl (kI (rfl) rfl rfl (kN rfl (kI (rfl) rfl rfl (kN rfl ?_))));refine kI (sem_load rfl (H.at 0 rfl) (fun _=>by first | rfl | exact BV.part hw rfl | exact hfs.part rfl)) rfl rfl ?_;refine kN rfl (kI (len_BV hw rfl) rfl rfl (kN rfl ?_));refine kI (sem_is rfl (by first | assumption | exact neI_refl _ | exact eqI_refl _)) rfl rfl ?_;refine kI (rfl) rfl rfl (kI (rfl) rfl rfl (kN rfl (kI (rfl) rfl rfl (kN rfl ?_))));refine kI (sem_is rfl (by first | assumption | exact neI_refl _ | exact eqI_refl _)) rfl rfl ?_;refine kN rfl (kI (rfl) rfl rfl (kF rfl rfl (kF rfl rfl (kF rfl rfl (kF rfl rfl (kF rfl rfl (kF rfl rfl (kF rfl rfl (kF rfl rfl (kF rfl rfl (kF rfl rfl ?_)))))))))));refine kN rfl (kI (rfl) rfl rfl (kI (rfl) rfl rfl ?_));exact kZ
              · refine cF rfl (cK (cR ?_));refine oI (sem_int rfl (w64_succ (by omega))) ?_;refine oI rfl (oZ ?_);have hat:okAtD fs j:=fun _=>⟨hnm,by omega,.inl (by omega)⟩
                exact ih (fs.length - (j + 1)) (by omega) (j + 1) rfl (okAtD_step hall hat) _ _ H.tail rfl rfl rfl rfl
        · rw [decide_eq_false hnm];refine oZ (cL rfl (oI rfl (oI rfl (oF rfl (oF rfl (oF rfl (oF rfl (oI rfl (oI rfl (oF rfl (oF rfl ?_)))))))))));refine oF rfl (oU rfl (oU rfl (oU rfl (oU rfl (oU rfl (oU rfl (oU rfl (oU rfl (oU rfl (oU rfl (oF rfl ?_)))))))))));refine oI rfl ?_;refine oZ ⟨?_,?_⟩
          · refine kI (rfl) rfl rfl (kI (rfl) rfl rfl (kF rfl rfl (kF rfl rfl (kF rfl rfl (kF rfl rfl (kI (rfl) rfl rfl (kI (rfl) rfl rfl (kF rfl rfl (kF rfl rfl (kF rfl rfl (kU rfl rfl ?_)))))))))));refine kU rfl rfl (kU rfl rfl (kU rfl rfl (kU rfl rfl (kU rfl rfl (kU rfl rfl (kU rfl rfl (kU rfl rfl (kU rfl rfl (kF rfl rfl (kI (rfl) rfl rfl ?_))))))))));exact kZ
          · refine cC rfl ?_;refine cS (cR ?_);refine oI rfl (oZ (cT ?_));exact hret _ _ (okAtD_no hj (okAtD_0 hj hnm)) H.tail.tail rfl
    · have hj:=of_geN hb1;refine oZ (cS (cF rfl (cX ?_)));exact hend _ _ (fun i hi=>hall i (by omega)) H.tail
theorem valid_ok (C:Code E) (H:Has h L) (hfs:FsV L v fs) (hnl:∀ f ∈ fs,f.1.length ≤ maxN) (hbl:∀ f ∈ fs,f.2.length ≤ maxN) (hml:fs.length ≤ maxN):CallT E (.func n_valid [] []) [.agg [v]] h (VdR L fs):=by
  have hml:fs.length ≤ 9223372036854775807:=hml;refine CallT.body C.valid ?_;unfold BodyT c_valid;refine cS (cR ?_);refine wp_box rfl rfl H fun q1 h H=>?_
  refine oI rfl (oZ (cS ?_));refine cS (cR ?_);refine oI rfl ?_;refine oI (sem_load rfl (H.at 0 rfl) (fun _=>by first | rfl | exact BV.part hw rfl | exact hfs.part rfl)) ?_;refine oI (lenF_sem hfs rfl) ?_;refine wp_bool rfl (fun hb2=>?_) (fun hb2=>?_)
  · have h100:=ltI_lt hb2
    try simp only [ofNat_cast] at h100
    refine oZ (cC rfl ?_);refine cS (cR ?_);refine oI rfl (oZ (cT ?_));refine ⟨trivial,_,rfl,?_⟩;exact ⟨false,rfl,iff_of_false (by simp) fun hd=>by have:=hd.1;omega,H.tail⟩
  · have h100:=ltI_ge hb2
    try simp only [ofNat_cast] at h100
    have h100:fs.length ≤ 100:=by omega
    refine oZ (cF rfl (cK (cS ?_)));refine cS (cR ?_);refine oI rfl ?_;refine oI (sem_load rfl (H.at 0 rfl) (fun _=>by first | rfl | exact BV.part hw rfl | exact hfs.part rfl)) ?_;refine oI (lenF_sem hfs rfl) (oI rfl (oZ (cB ?_)));refine wpC_loop (valid_loop C (q:=q1) (L:=L) h100 hfs hnl hbl (fun tm h hall H=>?_) (fun tm h hno H e2=>?_) (fs.length - 0) 0 rfl (fun i h0=>absurd h0 (Nat.not_lt_zero _)) _ _ H rfl rfl rfl rfl)
    · refine cS (cR ?_);refine oI rfl (oZ (cT ?_));refine ⟨trivial,_,rfl,?_⟩;exact ⟨true,rfl,iff_of_true rfl ⟨h100,hall⟩,H⟩
    · obtain ⟨tm,rfl⟩:=sets1 e2;refine ⟨trivial,_,rfl,?_⟩;exact ⟨false,rfl,iff_of_false (by simp) hno,H⟩
theorem opened_loop {qb qm:Pos} (hd:okS fs) (hfs:FsV L v fs) {Q:XExit→Tm→Heap→Prop} (hend:∀ tm h es cl,Has h ((qm,.map es cl) :: L)→MapR L es cl fs→tm.get (.lo .d0 .d3) = some (.map qm)→Q (.exit 0) tm h) :
    ∀ (k j:Nat),fs.length - j = k→j ≤ fs.length→∀ (tm:Tm) (h:Heap) (es:List (AV × AV × Nat)) (cl:Nat),Has h ((qm,.map es cl) :: (qb,.row tyD [v] false) :: L)→MapR L es cl (fs.take j)→tm.get (.lo .d0 .d3) = some (.map qm)→tm.get (.lo .d0 .d8) = some v→tm.get (.lo .d0 .d9) = some (.int .i64 (.ofNat fs.length))→tm.get (.lo .d0 .d10) = some (.int .i64 (.ofNat j))→LoopT E c_opened_b0 Q tm h:=by
  have hlen:=hd.1;intro k
  induction k using Nat.strongRecOn with
  | ind k ih =>
    intro j hk hjl tm h es cl H hM e3 e8 e9 e10;obtain ⟨tm,rfl⟩:=sets4 e3 e8 e9 e10;refine LoopT.wp ?_;unfold c_opened_b0;refine cS (cR ?_);refine wp_bool rfl (fun hb1=>?_) (fun hb1=>?_)
    · have hj:=of_ltN hb1;obtain ⟨w,r,hw,hp⟩:=hfs.at hj;have hnone:lookD fs[j].1 (fs.take j) = none:=lookD_none.2 fun f m=>by
        obtain ⟨i,hi,rfl⟩:=List.getElem_of_mem m;have hij:i < j:=by rw [List.length_take] at hi;omega
        rw [List.getElem_take];exact ltN_ne' (List.pairwise_iff_getElem.1 (okS_lt hd) i j (by omega) hj hij)
      have hstep:setD fs[j].1 fs[j].2 (fs.take j) = fs.take (j + 1):=by
        rw [setD_new hnone,List.take_add_one,List.getElem?_eq_getElem hj,Option.toList_some]
      refine oZ (cS (cC rfl (cK (cS (cB ?_)))));refine cS (cR ?_);refine oI (iaddrF_sem hfs hj rfl rfl) ?_;refine oI (loadN_sem (k:=2) (H.tail.tail) hp (by simp) rfl) ?_;refine wp_alloc H fun q2 h H=>?_
      refine wp_store (k:=0) rfl rfl rfl rfl H rfl (fun k=>rfl) fun h H=>?_
      refine oZ (cR (oI rfl (oI rfl ?_)));refine oI (sem_load rfl (H.at 0 rfl) (fun _=>by first | rfl | exact BV.part hw rfl | exact hfs.part rfl)) ?_;refine oI rfl ?_;refine oI (sem_load rfl (H.at 0 rfl) (fun _=>by first | rfl | exact BV.part hw rfl | exact hfs.part rfl)) ?_;have H:=Has.front H 1 rfl;refine wp_put hM H hw rfl rfl rfl fun h es2 cl2 H hM2=>?_
      refine oZ (cR ?_);refine oI (sem_int rfl (w64_succ (by omega))) ?_;refine oI rfl (oZ ?_);rw [hstep] at hM2;exact ih (fs.length - (j + 1)) (by omega) (j + 1) rfl hj _ _ _ _ H.tail2 hM2 rfl rfl rfl rfl
    · have hj:=of_geN hb1;refine oZ (cS (cF rfl (cX ?_)));obtain rfl:j = fs.length:=by omega
      rw [List.take_length] at hM;exact hend _ _ _ _ H.tail2 hM rfl
theorem opened_ok (C:Code E) (H:Has h L) (hd:okS fs) (hfs:FsV L v fs):CallT E (.func n_opened [] []) [.agg [v]] h fun r h'=>∃ q es cl,r = .map q∧Has h' ((q,.map es cl) :: L)∧MapR L es cl fs:=by
  have hlen:=hd.1;refine CallT.body C.opened ?_;unfold BodyT c_opened;refine cS (cR ?_);refine wp_box rfl rfl H fun q1 h H=>?_
  refine oI rfl (oZ ?_);refine cS (cR ?_);refine wp_mkmap H fun q2 h H=>?_
  refine oI rfl (oZ (cS ?_));refine cS (cR ?_);refine oI rfl ?_;refine oI (sem_load rfl (H.at 1 rfl) (fun _=>by first | rfl | exact BV.part hw rfl | exact hfs.part rfl)) ?_;refine oI (lenF_sem hfs rfl) (oI rfl (oZ (cB ?_)));refine wpC_loop (opened_loop (L:=L) hd hfs (fun tm h es cl H hM e3=>?_) (fs.length - 0) 0 rfl (Nat.zero_le _) _ _ _ _ H ⟨.nil,by simp,List.Pairwise.nil⟩ rfl rfl rfl rfl);obtain ⟨tm,rfl⟩:=sets1 e3;refine cS (cR ?_);refine oI rfl (oI rfl (oZ (cT ?_)));refine ⟨trivial,_,rfl,?_⟩;exact ⟨_,_,_,rfl,H,hM⟩
end
end Go.X

/- Bytes one behind the other;what operations do to the files. -/
namespace Go.X
open Go
section
variable {E:XEnv} {h:Heap} {L M:List (Pos × AObj)} {v w:AV} {l m:List Nat}
theorem smallN8 {n:Nat} (h:n ≤ 100000000):smallN n 1 = true:=by unfold smallN;exact Nat.ble_eq_true_of_le (by omega)
/-! ### one behind the other -/
theorem repeat_zeros:∀ n:Nat,repeatL n [AV.int .u8 0] = avBytes (List.replicate n 0)
  | 0=>rfl
  | n + 1=>by simp only [repeatL,repeat_zeros n,List.replicate_succ];rfl
variable {d:Option Slot} {ops:List XOp} {Q:Tm→Heap→Prop} {tm:Tm} {x y:XO}
theorem wp_appendZ1 {k:IntKind} {n:Nat} (hn:n + 1 ≤ 100000000) (hv:x.val tm = some .nilslice) (hy:y.val tm = some (.int k (.ofNat (n + 1)))) (H:Has h L)
    (hq:∀ q h',Has h' ((q,.row tyB (avBytes (List.replicate (n + 1) 0)) true) :: L)→wpOps E ops Q (putT d (.slice q 0 (n + 1) (.up 1)) tm) h'):wpOps E (⟨d,none,.ins (.appendZ tyB 1 [.int .u8 0] x y)⟩ :: ops) Q tm h:=by
  refine oI (v:=.slice h.next 0 (n + 1) (.up 1)) (h':=h.push (.row tyB (avBytes (List.replicate (n + 1) 0)) true)) ?_ (hq _ _ (H.push _));have h1:Nat.ble (n + 1) 281474976702464 = true:=Nat.ble_eq_true_of_le (by omega);have h2:=smallN8 hn;simp only [XI.sem,appendZS,withO_run hv,XO.withN,XO.withI,withO_run hy,h1,h2,repeat_zeros];show appendTo tyB 1 1 .nilslice (n + 1) (avBytes (List.replicate (n + 1) 0)) h = _;simp only [appendTo,h2];rfl
def CatB (h:Heap) (L:List (Pos × AObj)) (v:AV) (n:Nat) (acc:List Nat):Prop:=∃ q,acc.length ≤ n∧v = .slice q 0 acc.length (.up 1)∧Has h ((q,.row tyB (avBytes (acc++List.replicate (n - acc.length) 0)) true) :: L)
theorem spliceK_midB {β:Type} {no:β}:∀ (a x b c:List AV),x.length = b.length→∀ kk:List AV→β,spliceK no a.length x (a++(b++c)) kk = kk (a++(x++c))
  | [],x,b,c,h,kk=>by
    have:∀ (x b:List AV),x.length = b.length→∀ kk:List AV→β,overK no x (b++c) kk = kk (x++c):=by
      intro x
      induction x with
      | nil=>intro b h kk;cases b with | nil=>rfl | cons _ _=>simp at h
      | cons y x ih=>intro b h kk;cases b with | nil=>simp at h | cons z b=>exact ih b (by simpa using h) fun r=>kk (y :: r)
    exact this x b h kk
  | y :: a,x,b,c,h,kk=>spliceK_midB a x b c h fun r=>kk (y :: r)
theorem wp_catB {n:Nat} (ho:CatB h L v n l) (hw:srcOf 1 w h = some (m.length,avBytes m)) (hn:l.length + m.length ≤ n) (hv:x.val tm = some v) (hy:y.val tm = some w)
    (hq:∀ v' h',CatB h' L v' n (l++m)→wpOps E ops Q (putT d v' tm) h'):wpOps E (⟨d,none,.ins (.append tyB 1 1 x y)⟩ :: ops) Q tm h:=by
  have hsem:(XI.append tyB 1 1 x y).sem tm h = appendTo tyB 1 1 v m.length (avBytes m) h:=by simp only [XI.sem,appendS,withO_run hv,withO_run hy,hw]
  obtain ⟨q,hle,rfl,H⟩:=ho
  cases m with
  | nil =>
    refine oI (v:=.slice q 0 l.length (.up 1)) (h':=h) (by rw [hsem];rfl) (hq _ _ ⟨q,by simpa using hle,by simp,by simpa using H⟩)
  | cons b m =>
    have hg:h.get q = .row tyB (avBytes (l++List.replicate (n - l.length) 0)) true:=H.mem (x:=(q,_)) (by simp);have hd:∃ r,dropE (0 + (l.length + (b :: m).length) * 1) (avBytes (l++List.replicate (n - l.length) 0)) = some r:=⟨_,dropE_of (by rw [avB_len];simp only [List.length_append,List.length_replicate];omega)⟩;obtain ⟨r,hr⟩:=hd;have hsp:List.replicate (n - l.length) 0 = List.replicate (b :: m).length 0++List.replicate (n - (l++b :: m).length) 0:=by rw [List.replicate_append_replicate];congr 1;simp only [List.length_append,List.length_cons] at *;omega
    have hsl:∀ kk:List AV→Out AV,spliceK .bad (0 + l.length * 1) (avBytes (b :: m)) (avBytes (l++List.replicate (n - l.length) 0)) kk = kk (avBytes ((l++b :: m)++List.replicate (n - (l++b :: m).length) 0)):=fun kk=>by
      rw [hsp,avB_app l,avB_app (List.replicate _ _),List.append_assoc,avB_app l,avB_app (b :: m)];have:=spliceK_midB (no:=Out.bad) (avBytes l) (avBytes (b :: m)) (avBytes (List.replicate (b :: m).length 0)) (avBytes (List.replicate (n - (l++b :: m).length) 0)) (by rw [avB_len,avB_len,List.length_replicate]) kk;rw [avB_len] at this;rw [show 0 + l.length * 1 = l.length by omega];exact this
    have H2:=H.set (k:=0) rfl (.row tyB (avBytes ((l++b :: m)++List.replicate (n - (l++b :: m).length) 0)) true);refine oI (v:=.slice q 0 (l.length + (b :: m).length) (.up 1)) (h':=h.set q (.row tyB (avBytes ((l++b :: m)++List.replicate (n - (l++b :: m).length) 0)) true)) ?_ (hq _ _ ⟨q,by rw [List.length_append];exact hn,by rw [List.length_append],H2⟩);rw [hsem];have hz:Nat.beq 1 1 = true:=rfl;simp only [List.length_cons] at hr ⊢;simp only [appendTo,hz,hg,hr];unfold writeAt;rw [hg];simp only [hsl];rfl
theorem CatB.has {n:Nat} (ho:CatB h L v n l):Has h L:=by obtain ⟨q,_,_,H⟩:=ho;exact H.tail
theorem CatB.sv {n:Nat} (ho:CatB h L v n l):∃ x,Has h (x :: L)∧SV (x :: L) v l:=by
  obtain ⟨q,hle,rfl,H⟩:=ho;exact ⟨_,H,q,0,.up 1,tyB,_,true,rfl,m0,by rw [avB_len];simp,by rw [List.drop_zero,avB_take,List.take_left],rfl⟩
theorem growB_ok (C:Code E) {n:Nat} (hn:n + 1 ≤ 100000000) (H:Has h L):CallT E (.func n_grow [] []) [.nilslice,.int .i64 (.ofNat (n + 1))] h fun r h'=>CatB h' L r (n + 1) []:=by
  refine CallT.body C.grow ?_;unfold BodyT c_grow;refine cS (cR ?_);refine oI rfl (oZ (cS ?_));refine cS (cR ?_);refine oI rfl (oI (sem_is (b:=false) rfl rfl) (oZ (cF rfl (cK (cS ?_)))));refine cS (cR ?_);refine oI rfl (oI rfl (oI rfl (oI rfl (oI rfl (oI (sem_int (m:=0) rfl rfl) ?_)))));refine oI (sem_int (m:=.ofNat (n + 1)) rfl (by rw [Int.sub_zero];exact w64 (by rw [ofNat_cast];omega) (by rw [ofNat_cast];omega))) ?_;refine oI rfl (oZ ?_);refine cS (cR ?_);refine oI rfl ?_;refine oI (sem_is (b:=true) rfl (ltI_T (by rw [ofNat_cast];omega))) ?_;refine oZ (cC rfl (cR (oI rfl (oI rfl (oI rfl (oI rfl (oI rfl ?_)))))));refine wp_appendZ1 hn rfl rfl H fun q h H=>?_
  refine oI rfl (oI rfl (oI rfl (oI rfl (oZ ?_))));refine cS (cR ?_);refine oI rfl (oI rfl (oZ (cT ?_)));refine ⟨trivial,_,rfl,?_⟩;exact ⟨q,Nat.zero_le _,rfl,H⟩
theorem iaddrS_sem {k:IntKind} {p:Pos} {o n esz j:Nat} {c:Cap} (hx:x.val tm = some (.slice p o n c)) (hy:y.val tm = some (.int k (.ofNat j))) (hj:j < n):(XI.iaddrS esz x y).sem tm h = .ok (.ptr p (o + j * esz)) h:=by
  have h1:Nat.blt j n = true:=blt_of hj;simp only [XI.sem,iaddrSS,withO_run hx,XO.withN,XO.withI,withO_run hy,h1]
theorem w64_add (x y:Nat) (h:x + y ≤ 100000000):wrapF .i64 (Int.ofNat x + Int.ofNat y) = Int.ofNat (x + y):=w64 (by simp only [ofNat_cast];omega) (by simp only [ofNat_cast];omega)
theorem concat_ok (C:Code E) (h0:0 < l.length + m.length) (hn:l.length + m.length ≤ 100000000) {q:Pos} {ty:TypeId} {sp:Bool} (H:Has h L) (hm:(q,AObj.row ty [v,w] sp) ∈ L) (ha:BV L v l) (hb:BV L w m) (hpa:∀ h,partOf [v,w] (0 + 0 * 1) none h = .ok v h) (hpb:∀ h,partOf [v,w] (0 + 1 * 1) none h = .ok w h) :
    CallT E (.func n_concat [] []) [.slice q 0 2 (.ex 2)] h fun r h'=>∃ x,Has h' (x :: L)∧SV (x :: L) r (l++m):=by
  refine CallT.body C.concat ?_;unfold BodyT c_concat;refine cS (cR ?_);refine oI rfl (oZ ?_);refine cS (cR ?_);refine oI rfl (oZ (cS ?_));refine cS (cR ?_);refine oI rfl (oI rfl (oI rfl (oZ (cB (wpC_loop (LoopT.wp ?_))))));unfold c_concat_b0;refine cS (cR ?_);refine oI (sem_is (b:=true) rfl rfl) (oZ (cS (cC rfl (cK (cS (cB ?_))))));refine cS (cR ?_);refine oI (iaddrS_sem rfl rfl (by decide)) ?_;refine oI (sem_load rfl (H.mem (x:=(q,_)) (hm)) (fun _=>hpa _)) ?_;refine oI rfl (oZ ?_);refine cS (cR ?_);refine oI rfl (oI rfl (oI (len_BV ha rfl) ?_));refine oI (sem_int (m:=.ofNat l.length) rfl ((w64_add 0 l.length (by omega)).trans (congrArg Int.ofNat (Nat.zero_add _)))) ?_;refine oI rfl (oZ ?_);refine cS (cR ?_);refine oI rfl ?_;refine oI (sem_is (b:=false) rfl (ltI_F (by simp only [ofNat_cast];omega))) ?_;refine oZ (cF rfl (cK (cR (oI (sem_int (m:=.ofNat 1) rfl rfl) (oI rfl (oZ (LoopT.wp ?_)))))));refine cS (cR ?_);refine oI (sem_is (b:=true) rfl rfl) (oZ (cS (cC rfl (cK (cS (cB ?_))))));refine cS (cR ?_);refine oI (iaddrS_sem rfl rfl (by decide)) ?_;refine oI (sem_load rfl (H.mem (x:=(q,_)) (hm)) (fun _=>hpb _)) ?_;refine oI rfl (oZ ?_);refine cS (cR ?_);refine oI rfl (oI rfl (oI (len_BV hb rfl) ?_));refine oI (sem_int (m:=.ofNat (l.length + m.length)) rfl (w64_add l.length m.length (by omega))) ?_;refine oI rfl (oZ ?_);refine cS (cR ?_);refine oI rfl ?_
  refine oI (sem_is (b:=false) rfl (ltI_F (by simp only [ofNat_cast];omega))) ?_;refine oZ (cF rfl (cK (cR (oI (sem_int (m:=.ofNat 2) rfl rfl) (oI rfl (oZ (LoopT.wp ?_)))))));refine cS (cR ?_);refine oI (sem_is (b:=false) rfl rfl) (oZ (cS (cF rfl (cX ?_))));refine cS (cR ?_);refine oI rfl ?_;obtain ⟨n,hn1⟩:∃ n,l.length + m.length = n + 1:=⟨l.length + m.length - 1,by omega⟩;rw [hn1];refine wp_call rfl (growB_ok C (by omega) H) ?_;rintro v9 h ho;have H:=ho.has;refine oI rfl (oZ (cS ?_));refine cS (cR ?_);refine oI rfl (oI rfl (oI rfl (oZ (cB (wpC_loop (LoopT.wp ?_))))));unfold c_concat_b1;refine cS (cR ?_);refine oI (sem_is (b:=true) rfl rfl) (oZ (cS (cC rfl (cK (cS (cB ?_))))));refine cS (cR ?_);refine oI (iaddrS_sem rfl rfl (by decide)) ?_;refine oI (sem_load rfl (H.mem (x:=(q,_)) (hm)) (fun _=>hpa _)) ?_;refine oI rfl (oZ (cR (oI rfl (oI rfl ?_))));refine wp_catB ho (srcOf_BV H ha) (by simp only [List.length_nil];omega) rfl rfl fun v0 h ho=>?_
  have H:=ho.has;refine oI rfl (oZ (cR (oI (sem_int (m:=.ofNat 1) rfl rfl) (oI rfl (oZ (LoopT.wp ?_))))));refine cS (cR ?_);refine oI (sem_is (b:=true) rfl rfl) (oZ (cS (cC rfl (cK (cS (cB ?_))))));refine cS (cR ?_);refine oI (iaddrS_sem rfl rfl (by decide)) ?_;refine oI (sem_load rfl (H.mem (x:=(q,_)) (hm)) (fun _=>hpb _)) ?_;refine oI rfl (oZ (cR (oI rfl (oI rfl ?_))));refine wp_catB ho (srcOf_BV H hb) (by simp only [List.length_append,List.length_nil];omega) rfl rfl fun v1 h ho=>?_
  have H:=ho.has;refine oI rfl (oZ (cR (oI (sem_int (m:=.ofNat 2) rfl rfl) (oI rfl (oZ (LoopT.wp ?_))))));refine cS (cR ?_);refine oI (sem_is (b:=false) rfl rfl) (oZ (cS (cF rfl (cX ?_))));refine cS (cR ?_);refine oI rfl (oI rfl (oZ (cT ?_)));refine ⟨trivial,_,rfl,?_⟩;have ho:CatB _ L v1 (n + 1) (l++m):=ho;exact ho.sv
theorem grow0_ok (C:Code E):CallT E (.func n_grow [] []) [.nilslice,.int .i64 (.ofNat 0)] h fun r h'=>r = .nilslice∧h' = h:=by
  refine CallT.body C.grow ?_;unfold BodyT c_grow;refine cS (cR ?_);refine oI rfl (oZ (cS ?_));refine cS (cR ?_);refine oI rfl (oI (sem_is (b:=false) rfl rfl) (oZ (cF rfl (cK (cS ?_)))));refine cS (cR ?_);refine oI rfl (oI rfl (oI rfl (oI rfl (oI rfl (oI (sem_int (m:=0) rfl rfl) (oI (sem_int (m:=.ofNat 0) rfl rfl) (oI rfl (oZ ?_))))))));refine cS (cR ?_);refine oI rfl (oI (sem_is (b:=false) rfl rfl) (oZ (cF rfl (cK ?_))));refine cS (cR ?_);refine oI rfl (oI rfl (oZ (cT ?_)));refine ⟨trivial,_,rfl,?_⟩;exact ⟨rfl,rfl⟩
theorem app0 (hw:srcOf 1 w h = some (([]:List Nat).length,avBytes [])) (hv:x.val tm = some .nilslice) (hy:y.val tm = some w):(XI.append tyB 1 1 x y).sem tm h = .ok .nilslice h:=by
  simp only [XI.sem,appendS,withO_run hv,withO_run hy,hw];rfl
theorem concat0_ok (C:Code E) {q:Pos} {ty:TypeId} {sp:Bool} (H:Has h L) (hm:(q,AObj.row ty [v,w] sp) ∈ L) (ha:BV L v []) (hb:BV L w []) (hpa:∀ h,partOf [v,w] (0 + 0 * 1) none h = .ok v h) (hpb:∀ h,partOf [v,w] (0 + 1 * 1) none h = .ok w h) :
    CallT E (.func n_concat [] []) [.slice q 0 2 (.ex 2)] h fun r h'=>r = .nilslice∧h' = h:=by
  refine CallT.body C.concat ?_;unfold BodyT c_concat;refine cS (cR ?_);refine oI rfl (oZ ?_);refine cS (cR ?_);refine oI rfl (oZ (cS ?_));refine cS (cR ?_);refine oI rfl (oI rfl (oI rfl (oZ (cB (wpC_loop (LoopT.wp ?_))))));unfold c_concat_b0;refine cS (cR ?_);refine oI (sem_is (b:=true) rfl rfl) (oZ (cS (cC rfl (cK (cS (cB ?_))))));refine cS (cR ?_);refine oI (iaddrS_sem rfl rfl (by decide)) ?_;refine oI (sem_load rfl (H.mem (x:=(q,_)) (hm)) (fun _=>hpa _)) ?_;refine oI rfl (oZ ?_);refine cS (cR ?_);refine oI rfl (oI rfl (oI (len_BV ha rfl) (oI (sem_int (m:=.ofNat 0) rfl rfl) (oI rfl (oZ ?_)))));refine cS (cR ?_);refine oI rfl (oI (sem_is (b:=false) rfl rfl) (oZ (cF rfl (cK (cR (oI (sem_int (m:=.ofNat 1) rfl rfl) (oI rfl (oZ (LoopT.wp ?_)))))))));refine cS (cR ?_);refine oI (sem_is (b:=true) rfl rfl) (oZ (cS (cC rfl (cK (cS (cB ?_))))));refine cS (cR ?_);refine oI (iaddrS_sem rfl rfl (by decide)) ?_;refine oI (sem_load rfl (H.mem (x:=(q,_)) (hm)) (fun _=>hpb _)) ?_;refine oI rfl (oZ ?_);refine cS (cR ?_);refine oI rfl (oI rfl (oI (len_BV hb rfl) (oI (sem_int (m:=.ofNat 0) rfl rfl) (oI rfl (oZ ?_)))));refine cS (cR ?_);refine oI rfl (oI (sem_is (b:=false) rfl rfl) (oZ (cF rfl (cK (cR (oI (sem_int (m:=.ofNat 2) rfl rfl) (oI rfl (oZ (LoopT.wp ?_)))))))));refine cS (cR ?_);refine oI (sem_is (b:=false) rfl rfl) (oZ (cS (cF rfl (cX ?_))));refine cS (cR ?_);refine oI rfl (wp_call rfl (grow0_ok C) ?_)
  rintro _ _ ⟨rfl,rfl⟩;refine oI rfl (oZ (cS ?_));refine cS (cR ?_);refine oI rfl (oI rfl (oI rfl (oZ (cB (wpC_loop (LoopT.wp ?_))))));unfold c_concat_b1;refine cS (cR ?_);refine oI (sem_is (b:=true) rfl rfl) (oZ (cS (cC rfl (cK (cS (cB ?_))))));refine cS (cR ?_);refine oI (iaddrS_sem rfl rfl (by decide)) ?_;refine oI (sem_load rfl (H.mem (x:=(q,_)) (hm)) (fun _=>hpa _)) ?_;refine oI rfl (oZ (cR (oI rfl (oI rfl (oI (app0 (srcOf_BV H ha) rfl rfl) (oI rfl (oZ (cR (oI (sem_int (m:=.ofNat 1) rfl rfl) (oI rfl (oZ ?_)))))))))));refine LoopT.wp ?_;refine cS (cR ?_);refine oI (sem_is (b:=true) rfl rfl) (oZ (cS (cC rfl (cK (cS (cB ?_))))));refine cS (cR ?_);refine oI (iaddrS_sem rfl rfl (by decide)) ?_;refine oI (sem_load rfl (H.mem (x:=(q,_)) (hm)) (fun _=>hpb _)) ?_;refine oI rfl (oZ (cR (oI rfl (oI rfl (oI (app0 (srcOf_BV H hb) rfl rfl) (oI rfl (oZ (cR (oI (sem_int (m:=.ofNat 2) rfl rfl) (oI rfl (oZ ?_)))))))))));refine LoopT.wp ?_;refine cS (cR ?_);refine oI (sem_is (b:=false) rfl rfl) (oZ (cS (cF rfl (cX ?_))));refine cS (cR ?_);refine oI rfl (oI rfl (oZ (cT ?_)));refine ⟨trivial,_,rfl,?_⟩;exact ⟨rfl,rfl⟩
def Own (h:Heap) (L:List (Pos × AObj)) (P:List (Pos × AObj)→Prop):Prop:=∃ M,(∀ x ∈ L,x ∈ M)∧Has h M∧P M
theorem concat_all (C:Code E) (hn:l.length + m.length ≤ 100000000) {q:Pos} {ty:TypeId} {sp:Bool} (H:Has h L) (hm:(q,AObj.row ty [v,w] sp) ∈ L) (ha:BV L v l) (hb:BV L w m):CallT E (.func n_concat [] []) [.slice q 0 2 (.ex 2)] h fun r h'=>Own h' L fun M=>BV M r (l++m):=by
  have hpa:∀ h:Heap,partOf [v,w] (0 + 0 * 1) none h = .ok v h:=fun h=>BV.part ha rfl
  have hpb:∀ h:Heap,partOf [v,w] (0 + 1 * 1) none h = .ok w h:=fun h=>BV.part hb rfl
  rcases Nat.eq_zero_or_pos (l.length + m.length) with h0 | h0
  · have h1:l = []:=List.eq_nil_of_length_eq_zero (by omega);have h2:m = []:=List.eq_nil_of_length_eq_zero (by omega);subst h1 h2;refine CallT.mono ?_ (concat0_ok C H hm ha hb hpa hpb);rintro _ _ ⟨rfl,rfl⟩;exact ⟨L,fun _ m=>m,H,.nil⟩
  · refine CallT.mono ?_ (concat_ok C h0 hn H hm ha hb hpa hpb);rintro r h' ⟨x,H',hs⟩;exact ⟨_,fun _ m=>mS _ m,H',hs.bv⟩
theorem Gr1.sv {ty:TypeId} (hg:Gr1 ty h L v l):∃ x,Has h (x :: L)∧SV (x :: L) v l:=by
  obtain ⟨p,rfl,H⟩:=hg;exact ⟨_,H,p,0,.up 1,ty,avBytes l,true,rfl,by simp,by rw [avB_len];omega,by rw [List.drop_zero,List.take_of_length_le (by rw [avB_len];omega)],rfl⟩
/-! ### what operations do -/
def MapAt (h:Heap) (L:List (Pos × AObj)) (qm:Pos) (D:List FD):Prop:=∃ M es cl,(∀ x ∈ L,x ∈ M)∧Has h ((qm,.map es cl) :: M)∧MapR M es cl D
def opAV (op:OpV) (v:AV):AV:=.agg [.int .i64 op.kind,.str op.name,.str op.to,v]
theorem Has.two {x y:Pos × AObj} (H:Has h (x :: y :: L)):Has h (y :: x :: L):=H.swap
theorem wp_eqStr {d:Option Slot} {ops:List XOp} {Q:Tm→Heap→Prop} {tm:Tm} {x y:XO} {a b:List Nat} (hx:x.val tm = some (.str a)) (hy:y.val tm = some (.str b)) (hq:wpOps E ops Q (putT d (.bool (decide (a = b))) tm) h):wpOps E (⟨d,none,.ins (.bin .eq x y)⟩ :: ops) Q tm h:=oI (strEq_sem hx hy) hq
theorem len0_sem {tm:Tm} {x:XO} {n:Nat} (hx:x.val tm = some (.int .i64 (.ofNat n))):(XI.bin .eq x (.c (.int .i64 0))).sem tm h = .ok (.bool (decide (n = 0))) h:=by
  have e:(XO.c (.int .i64 0)).val tm = some (.int .i64 0):=rfl;simp only [XI.sem,binS,withO_run hx,withO_run e];show okB h (eqI (.ofNat n) 0) = _;have:eqI (.ofNat n) 0 = decide (n = 0):=by rw [eqI_eq];congr 1;simp
  rw [this];rfl
theorem Has.pull {qm:Pos} {es:List (AV × AV × Nat)} {cl:Nat} (H:Has h M) (hm:(qm,AObj.map es cl) ∈ M):∃ K,Has h ((qm,.map es cl) :: K)∧∀ x ∈ M,x = (qm,.map es cl)∨x ∈ K:=by
  obtain ⟨A,B,rfl⟩:=List.append_of_mem hm;refine ⟨A++B,H.perm List.perm_middle,fun x m=>?_⟩
  rcases List.mem_append.1 m with m | m
  · exact .inr (List.mem_append_left _ m)
  · rcases List.mem_cons.1 m with m | m
    · exact .inl m
    · exact .inr (List.mem_append_right _ m)
section
variable {K:List (Pos × AObj)} {qm:Pos} {es es':List (AV × AV × Nat)} {cl cl':Nat} {D:List FD}
theorem BV.pull (hs:BV M v l) (hk:∀ x ∈ M,x = (qm,.map es cl)∨x ∈ K):BV K v l:=by
  refine hs.imp id (·.imp id ?_);rintro ⟨p,o,cap,ty,cs,sp,h1,h2,h3⟩;refine ⟨p,o,cap,ty,cs,sp,h1,?_,h3⟩
  rcases hk _ h2 with e | m
  · simp at e
  · exact m
theorem EntsR.pull (t:EntsR M es' D) (hk:∀ x ∈ M,x = (qm,.map es cl)∨x ∈ K):EntsR K es' D:=by
  induction t with
  | nil=>exact .nil
  | cons hv _ ih=>exact .cons (hv.pull hk) ih
theorem MapR.pull (t:MapR M es' cl' D) (hk:∀ x ∈ M,x = (qm,.map es cl)∨x ∈ K):MapR K es' cl' D:=⟨t.ents.pull hk,t.lt,t.apart⟩
theorem sub_pull {N:List (Pos × AObj)} {h0:Heap} (H:Has h0 ((qm,.map es cl) :: N)) (hL:∀ x ∈ L,x ∈ N) (hN:∀ x ∈ N,x ∈ M) (hk:∀ x ∈ M,x = (qm,.map es cl)∨x ∈ K):∀ x ∈ L,x ∈ K:=fun x m=>by
  rcases hk x (hN x (hL x m)) with e | m'
  · exact absurd (by rw [e]) ((List.pairwise_cons.1 H.2).1 x (hL x m))
  · exact m'
end
theorem verb1_ok (C:Code E) {qm:Pos} {D:List FD} {op:OpV} (hD:MapAt h L qm D) (hb0:BV L v op.b) (hk:op.kind = 1) (_hlb:op.b.length ≤ 10000000) (_hlD:∀ f ∈ D,f.2.length ≤ 400000) (_hto:op.to.length ≤ maxN):CallT E (.func n_verb1 [] []) [.map qm,opAV op v] h fun r h'=>r = .bool (verbD op D).2∧MapAt h' L qm (verbD op D).1:=by
  obtain ⟨M,es,cl,hL,H,hM⟩:=hD;have hb0:=hb0.mono hL;have hV:verbD op D = (setD op.name op.b D,decide (op.to = [])):=by unfold verbD;rw [hk];rfl
  rw [hV];refine CallT.body C.verb1 ?_;unfold BodyT c_verb1;refine cS (cR ?_);refine wp_box rfl rfl H fun q1 h H=>?_
  refine oI rfl (oZ ?_);refine cS (cR ?_);refine oI rfl (oI rfl ?_);refine oI (sem_load rfl (H.at 0 rfl) (fun _=>by first | rfl | exact BV.part hb0 rfl | exact BV.part hw rfl)) ?_;refine oI rfl ?_;refine oI (sem_load rfl (H.at 0 rfl) (fun _=>by first | rfl | exact BV.part hb0 rfl | exact BV.part hw rfl)) ?_;have H:=Has.front H 1 rfl;refine wp_put hM H hb0 rfl rfl rfl fun h es2 cl2 H hM2=>?_
  refine oZ ?_;refine cS (cR ?_);refine oI rfl ?_;refine oI (sem_load rfl (H.at 1 rfl) (fun _=>by first | rfl | exact BV.part hb0 rfl | exact BV.part hw rfl)) ?_;refine wp_eqStr rfl rfl (oI rfl (oZ (cT ?_)));refine ⟨trivial,_,rfl,?_⟩;exact ⟨rfl,M,_,_,hL,H.tail2,hM2⟩
theorem look_mem {nm b:List Nat}:∀ {D:List FD},lookD nm D = some b→(nm,b) ∈ D
  | [],e=>by simp [lookD] at e
  | f :: D,e=>by
    simp only [lookD] at e
    split at e
    · rename_i hn
      simp only [sJ] at e;subst e hn;exact m0
    · exact mS _ (look_mem e)
theorem fill2B {tm:Tm} {x y:XO} {a b z1 z2:AV} (hx:x.val tm = some a) (ha:a.cellsO = some [a]) (hy:y.val tm = some b) (hb:b.cellsO = some [b]) (k:List AV→Out AV):fillK .bad [(0,1,x),(1,1,y)] tm [z1,z2] k = k [a,b]:=by
  simp only [fillK,withO_run hx,ha,withO_run hy,hb];rfl
theorem chk_bslice {d:Slot} {l:List XOp} {tm:Tm} {h:Heap} {ty:TypeId} {esz len:Nat} {zeros cs:List AV} {parts:List (Nat × Nat × XO)} {q:Pos} (hf:∀ k:List AV→Out AV,fillK .bad parts tm zeros k = k cs) (hg:tm.get d = some (.slice q 0 len (.ex len))) (hq:h.get q = .row ty cs false) (hl:wpK l tm h) :
    wpK (⟨some d,none,.ins (.bslice ty esz len zeros parts)⟩ :: l) tm h:=by
  refine ⟨fun k=>?_,hl⟩;have hs:(XI.bslice ty esz len zeros parts).sem tm h = .ok (.slice h.next 0 len (.ex len)) (h.push (.row ty cs false)):=by simp only [XI.sem,bsliceS,hf,Heap.pushK]
  have e1:chkF ⟨some d,none,.ins (.bslice ty esz len zeros parts)⟩ tm h k = semF (.bslice ty esz len zeros parts) tm h fun v h'=>getF tm d fun v'=>sameNew v h' v' h k:=rfl
  rw [e1,semF_eq,hs,viaOut_ok,getF_eq,hg,optR_some];have e2:sameNew (.slice h.next 0 len (.ex len)) (h.push (.row ty cs false)) (.slice q 0 len (.ex len)) h k = (match beqMod (.slice h.next 0 len (.ex len)) (.slice q 0 len (.ex len)) with | true=>yes? (beqObj ((h.push (.row ty cs false)).get h.next) (h.get q)) k .bad | false=>.bad):=by
    unfold sameNew AV.pos
    cases beqMod (.slice h.next 0 len (.ex len)) (.slice q 0 len (.ex len)) <;> rfl
  have e3:beqMod (.slice h.next 0 len (.ex len)) (.slice q 0 len (.ex len)) = true:=by simp [beqMod,beqCap]
  have e4:beqObj (.row ty cs false) (.row ty cs false) = true:=by simp [beqObj,AV.beqs_refl,beqB]
  rw [e2,e3,Heap.get_push_same,hq,e4];rfl
theorem verb2_ok (C:Code E) {qm:Pos} {D:List FD} {op:OpV} (hD:MapAt h L qm D) (hb0:BV L v op.b) (hk:op.kind = 2) (hlb:op.b.length ≤ 10000000) (hlD:∀ f ∈ D,f.2.length ≤ 400000) (_hto:op.to.length ≤ maxN):CallT E (.func n_verb2 [] []) [.map qm,opAV op v] h fun r h'=>r = .bool (verbD op D).2∧MapAt h' L qm (verbD op D).1:=by
  obtain ⟨M,es,cl,hL,H,hM⟩:=hD;have H0:=H;have hb0:=hb0.mono hL;have hV:verbD op D = (setD op.name ((lookD op.name D).getD []++op.b) D,decide (op.to = [])):=by unfold verbD;rw [hk];rfl
  rw [hV];obtain ⟨w,hw,hlk⟩:=hM.look1 op.name;have hlt:((lookD op.name D).getD []).length + op.b.length ≤ 100000000:=by
    cases hl:lookD op.name D with
    | none=>simp;omega
    | some b=>have:=hlD (op.name,b) (look_mem hl);simp at this ⊢;omega
  refine CallT.body C.verb2 ?_;unfold BodyT c_verb2;refine cS (cR ?_);refine wp_box rfl rfl H fun q1 h H=>?_
  refine oI rfl (oZ (cS (wpC_phase rfl (oI rfl (oI rfl ?_)))));refine oI (sem_load rfl (H.at 0 rfl) (fun _=>by first | rfl | exact BV.part hb0 rfl | exact BV.part hw rfl)) ?_;refine oI rfl (oI rfl ?_);refine oI (sem_load rfl (H.at 0 rfl) (fun _=>by first | rfl | exact BV.part hb0 rfl | exact BV.part hw rfl)) ?_;refine oI (hlk (H.at 1 rfl) rfl rfl) (oI rfl ?_);refine oI (sem_load rfl (H.at 0 rfl) (fun _=>by first | rfl | exact BV.part hb0 rfl | exact BV.part hw rfl)) ?_;refine wp_bslice (fun k=>fill2B rfl hw.cells1 rfl hb0.cells1 k) H fun q2 h H=>?_
  refine oZ ⟨?_,?_⟩
  · refine kI (rfl) rfl rfl (kI (rfl) rfl rfl ?_);refine kI (sem_load rfl (H.at 1 rfl) (fun _=>rfl)) rfl rfl ?_;refine kI (rfl) rfl rfl (kI (rfl) rfl rfl ?_);refine kI (sem_load rfl (H.at 1 rfl) (fun _=>by first | rfl | exact BV.part hb0 rfl | exact BV.part hw rfl)) rfl rfl ?_;refine kI (hlk (H.at 2 rfl) rfl rfl) rfl rfl (kI (rfl) rfl rfl ?_);refine kI (sem_load rfl (H.at 1 rfl) (fun _=>by first | rfl | exact BV.part hb0 rfl | exact BV.part hw rfl)) rfl rfl ?_;refine chk_bslice (fun k=>fill2B rfl hw.cells1 rfl hb0.cells1 k) rfl (H.at 0 rfl) ?_;exact kZ
  · refine wp_call rfl (concat_all C hlt H m0 (hw.mono fun x m=>mS _ (mS _ (mS _ m))) (hb0.mono fun x m=>mS _ (mS _ (mS _ m)))) ?_;rintro r h ⟨M2,hM2,H2,hr⟩;obtain ⟨K,H,hK⟩:=H2.pull (hM2 _ (mS _ (mS _ m0)));have hq1:(q1,AObj.row tyO [.int .i64 op.kind,.str op.name,.str op.to,v] false) ∈ K:=(hK _ (hM2 _ (mS _ m0))).resolve_left (by simp);have hLK:=sub_pull (L:=L) H0 hL (fun x m=>hM2 x (mS _ (mS _ (mS _ m)))) hK;have hMK:MapR K es cl D:=(hM.mono fun x m=>hM2 x (mS _ (mS _ (mS _ m)))).pull hK;have hrK:=hr.pull hK;refine oZ (wpC_phase rfl ?_);refine oZ ⟨?_,?_⟩
    · refine kI (rfl) rfl rfl (kI (rfl) rfl rfl ?_);refine kI (sem_load rfl (H.mem (x:=(q1,_)) (mS _ hq1)) (fun _=>rfl)) rfl rfl ?_;exact kZ
    · refine wp_put hMK H hrK rfl rfl rfl fun h es2 cl2 H hM2'=>?_
      refine oZ (cL rfl ?_);refine oZ ⟨?_,?_⟩
      · exact kZ
      · refine cS (cR ?_);refine oI rfl ?_;refine oI (sem_load rfl (H.mem (x:=(q1,_)) (mS _ hq1)) (fun _=>rfl)) ?_;refine wp_eqStr rfl rfl (oI rfl (oZ (cT ?_)));refine ⟨trivial,_,rfl,?_⟩;exact ⟨rfl,K,_,_,hLK,H,hM2'⟩
theorem verb3_ok (C:Code E) {qm:Pos} {D:List FD} {op:OpV} (hD:MapAt h L qm D) (hb0:BV L v op.b) (hk:op.kind = 3) (hlb:op.b.length ≤ 10000000) (_hlD:∀ f ∈ D,f.2.length ≤ 400000) (hto:op.to.length ≤ maxN):CallT E (.func n_verb3 [] []) [.map qm,opAV op v] h fun r h'=>r = .bool (verbD op D).2∧MapAt h' L qm (verbD op D).1:=by
  obtain ⟨M,es,cl,hL,H,hM⟩:=hD;have H0:=H;have hb0:=hb0.mono hL;have hV:verbD op D = (setD op.to ((lookD op.name D).getD []) (delD op.name D),(lookD op.name D).isSome && decide (isNm op.to) && decide (op.b.length = 0)):=by unfold verbD;rw [hk];rfl
  rw [hV];obtain ⟨w,hw,hlk⟩:=hM.look2 op.name;refine CallT.body C.verb3 ?_;unfold BodyT c_verb3;refine cS (cR ?_);refine wp_box rfl rfl H fun q1 h H=>?_
  refine oI rfl (oZ ?_);refine cS (cR ?_);refine oI rfl (oI rfl ?_);refine oI (sem_load rfl (H.at 0 rfl) (fun _=>by first | rfl | exact BV.part hb0 rfl | exact BV.part hw rfl)) ?_;refine oI (hlk (H.at 1 rfl) rfl rfl) ?_
  cases hi:(lookD op.name D).isSome
  · have:=hlb;refine oI rfl (oI rfl (oI rfl (oI rfl (oI rfl (oZ ?_)))));refine cS (cR ?_);refine oI rfl (oI rfl ?_);refine oI (sem_load rfl (H.at 0 rfl) (fun _=>by first | rfl | exact BV.part hb0 rfl | exact BV.part hw rfl)) ?_;have H:=Has.front H 1 rfl;refine wp_del hM H rfl rfl fun h es1 H hM1=>?_
    refine oZ ?_;refine cS (cR ?_);refine oI rfl (oI rfl ?_);refine oI (sem_load rfl (H.at 1 rfl) (fun _=>by first | rfl | exact BV.part hb0 rfl | exact BV.part hw rfl)) ?_;refine oI rfl ?_;refine wp_put hM1 H hw rfl rfl rfl fun h es2 cl2 H hM2=>?_
    refine oZ ?_;refine cS (cR ?_);refine oI rfl (oI rfl (oF rfl (oF rfl (oF rfl (oI rfl (oI rfl (oF rfl (oF rfl (oF rfl (oF rfl (oI rfl ?_)))))))))));refine oI rfl (oZ (cT ?_));refine ⟨trivial,_,rfl,?_⟩;exact ⟨show AV.bool _ = AV.bool _ by simp,M,_,_,hL,H.tail2,hM2⟩
  · have:=hlb;refine oI rfl (oI rfl (oI rfl (oI rfl (oI rfl (oZ ?_)))));refine cS (cR ?_);refine oI rfl (oI rfl ?_);refine oI (sem_load rfl (H.at 0 rfl) (fun _=>by first | rfl | exact BV.part hb0 rfl | exact BV.part hw rfl)) ?_;have H:=Has.front H 1 rfl;refine wp_del hM H rfl rfl fun h es1 H hM1=>?_
    refine oZ ?_;refine cS (cR ?_);refine oI rfl (oI rfl ?_);refine oI (sem_load rfl (H.at 1 rfl) (fun _=>by first | rfl | exact BV.part hb0 rfl | exact BV.part hw rfl)) ?_;refine oI rfl ?_;refine wp_put hM1 H hw rfl rfl rfl fun h es2 cl2 H hM2=>?_
    refine oZ ?_;refine cS (cR ?_);refine oI rfl (oI rfl (oN rfl (oI rfl (oN rfl ?_))));refine oI (sem_load rfl (H.at 1 rfl) (fun _=>by first | rfl | exact BV.part hb0 rfl | exact BV.part hw rfl)) ?_;refine oN rfl (wp_call rfl (isName_ok C H hto) ?_);rintro _ h ⟨rfl,H⟩
    by_cases hnm:isNm op.to
    · rw [decide_eq_true hnm];refine oI rfl (oI rfl (oN rfl (oI rfl (oN rfl ?_))));refine oI (sem_load rfl (H.at 1 rfl) (fun _=>by first | rfl | exact BV.part hb0 rfl | exact BV.part hw rfl)) ?_;refine oN rfl (oI (len_BV hb0 rfl) (oN rfl (oI (len0_sem rfl) (oI rfl (oI rfl (oZ (cT ?_)))))));refine ⟨trivial,_,rfl,?_⟩;exact ⟨show AV.bool _ = AV.bool _ by simp,M,_,_,hL,H.tail2,hM2⟩
    · rw [decide_eq_false hnm];refine oI rfl (oI rfl (oF rfl (oF rfl (oF rfl (oF rfl (oI rfl (oI rfl (oZ (cT ?_)))))))));refine ⟨trivial,_,rfl,?_⟩;exact ⟨show AV.bool _ = AV.bool _ by simp,M,_,_,hL,H.tail2,hM2⟩
theorem verb4_ok (C:Code E) {qm:Pos} {D:List FD} {op:OpV} (hD:MapAt h L qm D) (hb0:BV L v op.b) (hk:op.kind = 4) (hlb:op.b.length ≤ 10000000) (_hlD:∀ f ∈ D,f.2.length ≤ 400000) (_hto:op.to.length ≤ maxN):CallT E (.func n_verb4 [] []) [.map qm,opAV op v] h fun r h'=>r = .bool (verbD op D).2∧MapAt h' L qm (verbD op D).1:=by
  obtain ⟨M,es,cl,hL,H,hM⟩:=hD;have H0:=H;have hb0:=hb0.mono hL;have hV:verbD op D = (delD op.name D,(lookD op.name D).isSome && decide (op.to = []) && decide (op.b.length = 0)):=by unfold verbD;rw [hk];rfl
  rw [hV];obtain ⟨w,hw,hlk⟩:=hM.look2 op.name;refine CallT.body C.verb4 ?_;unfold BodyT c_verb4;refine cS (cR ?_);refine wp_box rfl rfl H fun q1 h H=>?_
  refine oI rfl (oZ ?_);refine cS (cR ?_);refine oI rfl (oI rfl ?_);refine oI (sem_load rfl (H.at 0 rfl) (fun _=>by first | rfl | exact BV.part hb0 rfl | exact BV.part hw rfl)) ?_;refine oI (hlk (H.at 1 rfl) rfl rfl) ?_
  cases hi:(lookD op.name D).isSome
  · have:=hlb;refine oI rfl (oI rfl (oI rfl (oI rfl (oI rfl (oZ ?_)))));refine cS (cR ?_);refine oI rfl (oI rfl ?_);refine oI (sem_load rfl (H.at 0 rfl) (fun _=>by first | rfl | exact BV.part hb0 rfl | exact BV.part hw rfl)) ?_;have H:=Has.front H 1 rfl;refine wp_del hM H rfl rfl fun h es1 H hM1=>?_
    refine oZ ?_;refine cS (cR ?_);refine oI rfl (oI rfl (oF rfl (oF rfl (oF rfl (oI rfl (oI rfl (oF rfl (oF rfl (oF rfl (oF rfl (oI rfl ?_)))))))))));refine oI rfl (oZ (cT ?_));refine ⟨trivial,_,rfl,?_⟩;exact ⟨show AV.bool _ = AV.bool _ by simp,M,_,_,hL,H.tail2,hM1⟩
  · have:=hlb;refine oI rfl (oI rfl (oI rfl (oI rfl (oI rfl (oZ ?_)))));refine cS (cR ?_);refine oI rfl (oI rfl ?_);refine oI (sem_load rfl (H.at 0 rfl) (fun _=>by first | rfl | exact BV.part hb0 rfl | exact BV.part hw rfl)) ?_;have H:=Has.front H 1 rfl;refine wp_del hM H rfl rfl fun h es1 H hM1=>?_
    refine oZ ?_;refine cS (cR ?_);refine oI rfl (oI rfl (oN rfl (oI rfl (oN rfl ?_))));refine oI (sem_load rfl (H.at 1 rfl) (fun _=>by first | rfl | exact BV.part hb0 rfl | exact BV.part hw rfl)) ?_;refine oN rfl (wp_eqStr rfl rfl ?_)
    by_cases hto0:op.to = []
    · rw [decide_eq_true hto0];refine oI rfl (oI rfl (oN rfl (oI rfl (oN rfl ?_))));refine oI (sem_load rfl (H.at 1 rfl) (fun _=>by first | rfl | exact BV.part hb0 rfl | exact BV.part hw rfl)) ?_;refine oN rfl (oI (len_BV hb0 rfl) (oN rfl (oI (len0_sem rfl) (oI rfl (oI rfl (oZ (cT ?_)))))));refine ⟨trivial,_,rfl,?_⟩;exact ⟨show AV.bool _ = AV.bool _ by simp,M,_,_,hL,H.tail2,hM1⟩
    · rw [decide_eq_false hto0];refine oI rfl (oI rfl (oF rfl (oF rfl (oF rfl (oF rfl (oI rfl (oI rfl (oZ (cT ?_)))))))));refine ⟨trivial,_,rfl,?_⟩;exact ⟨show AV.bool _ = AV.bool _ by simp,M,_,_,hL,H.tail2,hM1⟩
end
end Go.X

/- An operation carried out. -/
namespace Go.X
open Go
section
variable {E:XEnv} {d:Option Slot} {ops:List XOp} {Q:Tm→Heap→Prop} {tm:Tm} {x y z:XO} {h:Heap} {L M:List (Pos × AObj)} {v w:AV} {l m:List Nat}
theorem sets7 {t:Tm} {p1 p2 p3 p4 p5 p6 p7:Slot} {v1 v2 v3 v4 v5 v6 v7:AV} (h1:t.get p1 = some v1) (h2:t.get p2 = some v2) (h3:t.get p3 = some v3) (h4:t.get p4 = some v4) (h5:t.get p5 = some v5) (h6:t.get p6 = some v6) (h7:t.get p7 = some v7):∃ s:Tm,t = ((((((s.set p1 v1).set p2 v2).set p3 v3).set p4 v4).set p5 v5).set p6 v6).set p7 v7:=⟨t,by rw [TT.set_self h1,TT.set_self h2,TT.set_self h3,TT.set_self h4,TT.set_self h5,TT.set_self h6,TT.set_self h7]⟩
theorem wp_mapNew {p:Pos} {s:Bool} {key u:AV} {es:List (AV × AV × Nat)} {cl:Nat} (hk:isKey s key = true) (hf:findE key es 0 = some none) (hx:x.val tm = some (.map p)) (hy:y.val tm = some key) (hz:z.val tm = some u) (H:Has h ((p,.map es cl) :: L))
    (hq:∀ h',Has h' ((p,.map (es++[(key,u,cl)]) (cl + 1)) :: L)→wpOps E ops Q (putT d unit tm) h'):wpOps E (⟨d,none,.ins (.mapUpd s x y z)⟩ :: ops) Q tm h:=by
  refine oI (h':=h.set p (.map (es++[(key,u,cl)]) (cl + 1))) (v:=unit) ?_ (hq _ (H.set (k:=0) rfl _));simp only [XI.sem,mapUpdS,withO_run hx,withO_run hy,withO_run hz,hk,H.at 0 rfl,hf,Heap.setK]
def vEs:List (AV × AV × Nat):=[(.int .i64 1,.func n_verb1 [] [],0),(.int .i64 2,.func n_verb2 [] [],1),(.int .i64 3,.func n_verb3 [] [],2),(.int .i64 4,.func n_verb4 [] [],3)]
def vF (z:Int):FuncId:=if z = 1 then n_verb1 else if z = 2 then n_verb2 else if z = 3 then n_verb3 else n_verb4
theorem verbs_ok (C:Code E) (H:Has h L):CallT E (.func n_verbs [] []) [] h fun r h'=>∃ q,r = .map q∧Has h' ((q,.map vEs 4) :: L):=by
  refine CallT.body C.verbs ?_;unfold BodyT c_verbs;refine cS (cR ?_);refine oI rfl (oZ ?_);refine cS (cR ?_);refine wp_mkmap H fun q1 h H=>?_
  refine wp_mapNew rfl rfl rfl rfl rfl H fun h H=>?_
  refine wp_mapNew rfl rfl rfl rfl rfl H fun h H=>?_
  refine wp_mapNew rfl rfl rfl rfl rfl H fun h H=>?_
  refine wp_mapNew rfl rfl rfl rfl rfl H fun h H=>?_
  refine oI rfl (oI rfl (oZ (cT ?_)));refine ⟨trivial,_,rfl,?_⟩;exact ⟨_,rfl,H⟩
theorem verb_find {k:Int}:(1 ≤ k∧k ≤ 4∧∃ j,findE (.int .i64 k) vEs 0 = some (some (j,.func (vF k) [] [])))∨(¬ (1 ≤ k∧k ≤ 4)∧findE (.int .i64 k) vEs 0 = some none):=by
  by_cases h1:k = 1
  · subst h1;exact .inl ⟨by decide,by decide,0,rfl⟩
  by_cases h2:k = 2
  · subst h2;exact .inl ⟨by decide,by decide,1,rfl⟩
  by_cases h3:k = 3
  · subst h3;exact .inl ⟨by decide,by decide,2,rfl⟩
  by_cases h4:k = 4
  · subst h4;exact .inl ⟨by decide,by decide,3,rfl⟩
  refine .inr ⟨by omega,?_⟩;have e:∀ j:Int,k ≠ j→eqI k j = false:=fun j hj=>by rw [eqI_eq];simp [hj]
  have s:sameK .i64 .i64 = true:=rfl;simp only [vEs,findE,keyIs,s,e 1 h1,e 2 h2,e 3 h3,e 4 h4]
theorem lookF_sem {k:Int} {p:Pos} (hg:h.get p = .map vEs 4) (hx:x.val tm = some (.map p)) (hy:y.val tm = some (.int .i64 k)) :
    (1 ≤ k∧k ≤ 4→(XI.lookup false .nilfunc true x y).sem tm h = .ok (.tuple [.func (vF k) [] [],.bool true]) h)∧(¬ (1 ≤ k∧k ≤ 4)→(XI.lookup false .nilfunc true x y).sem tm h = .ok (.tuple [.nilfunc,.bool false]) h):=by
  rcases verb_find (k:=k) with ⟨h1,h2,j,h3⟩ | ⟨h1,h3⟩
  · exact ⟨fun _=>by simp only [XI.sem,lookupS,withO_run hx,withO_run hy,isKey,hg,h3,lookRes],fun hn=>absurd ⟨h1,h2⟩ hn⟩
  · exact ⟨fun hn=>absurd hn h1,fun _=>by simp only [XI.sem,lookupS,withO_run hx,withO_run hy,isKey,hg,h3,lookRes]⟩
theorem verb_ok (C:Code E) {qm:Pos} {D:List FD} {op:OpV} (hD:MapAt h L qm D) (hb0:BV L v op.b) (hk:1 ≤ op.kind∧op.kind ≤ 4) (hlb:op.b.length ≤ 10000000) (hlD:∀ f ∈ D,f.2.length ≤ 400000) (hto:op.to.length ≤ maxN):CallT E (.func (vF op.kind) [] []) [.map qm,opAV op v] h fun r h'=>r = .bool (verbD op D).2∧MapAt h' L qm (verbD op D).1:=by
  by_cases h1:op.kind = 1
  · rw [show vF op.kind = n_verb1 by rw [h1];rfl];exact verb1_ok C hD hb0 h1 hlb hlD hto
  by_cases h2:op.kind = 2
  · rw [show vF op.kind = n_verb2 by rw [h2];rfl];exact verb2_ok C hD hb0 h2 hlb hlD hto
  by_cases h3:op.kind = 3
  · rw [show vF op.kind = n_verb3 by rw [h3];rfl];exact verb3_ok C hD hb0 h3 hlb hlD hto
  have h4:op.kind = 4:=by omega
  rw [show vF op.kind = n_verb4 by rw [h4];rfl];exact verb4_ok C hD hb0 h4 hlb hlD hto
/-! ### what was there,and back -/
def nmAt (n0 n1:List Nat) (j:Nat):List Nat:=if j = 0 then n0 else n1
theorem part_nm {n0 n1:List Nat} {j:Nat} (hj:j < 2) (h:Heap):partOf [.str n0,.str n1] (0 + j * 1) none h = .ok (.str (nmAt n0 n1 j)) h:=by
  obtain rfl | rfl:j = 0∨j = 1:=by omega
  · rfl
  · rfl
def InT (n0 n1:List Nat) (j:Nat) (n:List Nat):Prop:=(0 < j∧n = n0)∨(1 < j∧n = n1)
instance (n0 n1:List Nat) (j:Nat) (n:List Nat):Decidable (InT n0 n1 j n):=inferInstanceAs (Decidable (_∨_))
theorem inT_succ {n0 n1 n:List Nat} {j:Nat} (hj:j < 2):InT n0 n1 (j + 1) n ↔ InT n0 n1 j n∨n = nmAt n0 n1 j:=by
  obtain rfl | rfl:j = 0∨j = 1:=by omega
  · simp [InT,nmAt]
  · simp [InT,nmAt]
def WasR (n0 n1:List Nat) (D:List FD) (j:Nat) (W:List FD):Prop:=Dist W∧∀ n,lookD n W = if InT n0 n1 j n then lookD n D else none
def BackR (n0 n1:List Nat) (D V:List FD) (j:Nat) (F:List FD):Prop:=Dist F∧∀ n,lookD n F = if InT n0 n1 j n then lookD n D else lookD n V
theorem was_0 {n0 n1:List Nat} {D:List FD}:WasR n0 n1 D 0 []:=⟨List.Pairwise.nil,fun n=>by simp [InT,lookD]⟩
theorem back_0 {n0 n1:List Nat} {D V:List FD} (hV:Dist V):BackR n0 n1 D V 0 V:=⟨hV,fun n=>by simp [InT]⟩
theorem was_set {n0 n1:List Nat} {D W:List FD} {j:Nat} (hj:j < 2) (hw:WasR n0 n1 D j W) {b:List Nat} (hb:lookD (nmAt n0 n1 j) D = some b):WasR n0 n1 D (j + 1) (setD (nmAt n0 n1 j) b W):=by
  refine ⟨hw.1.set,fun n=>?_⟩;rw [look_set,hw.2 n]
  by_cases hn:n = nmAt n0 n1 j
  · subst hn;rw [if_pos rfl,if_pos ((inT_succ hj).2 (.inr rfl)),hb]
  · rw [if_neg hn]
    by_cases hi:InT n0 n1 j n
    · rw [if_pos hi,if_pos ((inT_succ hj).2 (.inl hi))]
    · rw [if_neg hi,if_neg fun h=>((inT_succ hj).1 h).elim hi hn]
theorem was_no {n0 n1:List Nat} {D W:List FD} {j:Nat} (hj:j < 2) (hw:WasR n0 n1 D j W) (hb:lookD (nmAt n0 n1 j) D = none):WasR n0 n1 D (j + 1) W:=by
  refine ⟨hw.1,fun n=>?_⟩;rw [hw.2 n]
  by_cases hn:n = nmAt n0 n1 j
  · subst hn;rw [if_pos ((inT_succ hj).2 (.inr rfl)),hb];split <;> rfl
  · by_cases hi:InT n0 n1 j n
    · rw [if_pos hi,if_pos ((inT_succ hj).2 (.inl hi))]
    · rw [if_neg hi,if_neg fun h=>((inT_succ hj).1 h).elim hi hn]
theorem was_at {n0 n1:List Nat} {D W:List FD} {j:Nat} (hj:j < 2) (hw:WasR n0 n1 D 2 W):lookD (nmAt n0 n1 j) W = lookD (nmAt n0 n1 j) D:=by
  rw [hw.2,if_pos];obtain rfl | rfl:j = 0∨j = 1:=by omega
  · exact .inl ⟨by omega,rfl⟩
  · exact .inr ⟨by omega,rfl⟩
theorem back_set {n0 n1:List Nat} {D V F:List FD} {j:Nat} (hj:j < 2) (hw:BackR n0 n1 D V j F) {b:List Nat} (hb:lookD (nmAt n0 n1 j) D = some b):BackR n0 n1 D V (j + 1) (setD (nmAt n0 n1 j) b (delD (nmAt n0 n1 j) F)):=by
  refine ⟨hw.1.del.set,fun n=>?_⟩;rw [look_set,look_del hw.1,hw.2 n]
  by_cases hn:n = nmAt n0 n1 j
  · subst hn;rw [if_pos rfl,if_pos ((inT_succ hj).2 (.inr rfl)),hb]
  · rw [if_neg hn,if_neg hn]
    by_cases hi:InT n0 n1 j n
    · rw [if_pos hi,if_pos ((inT_succ hj).2 (.inl hi))]
    · rw [if_neg hi,if_neg fun h=>((inT_succ hj).1 h).elim hi hn]
theorem back_no {n0 n1:List Nat} {D V F:List FD} {j:Nat} (hj:j < 2) (hw:BackR n0 n1 D V j F) (hb:lookD (nmAt n0 n1 j) D = none):BackR n0 n1 D V (j + 1) (delD (nmAt n0 n1 j) F):=by
  refine ⟨hw.1.del,fun n=>?_⟩;rw [look_del hw.1,hw.2 n]
  by_cases hn:n = nmAt n0 n1 j
  · subst hn;rw [if_pos rfl,if_pos ((inT_succ hj).2 (.inr rfl)),hb]
  · rw [if_neg hn]
    by_cases hi:InT n0 n1 j n
    · rw [if_pos hi,if_pos ((inT_succ hj).2 (.inl hi))]
    · rw [if_neg hi,if_neg fun h=>((inT_succ hj).1 h).elim hi hn]
theorem verbD_other {op:OpV} {D:List FD} (hd:Dist D) {n:List Nat} (h0:n ≠ op.name) (h1:n ≠ op.to):lookD n (verbD op D).1 = lookD n D:=by
  unfold verbD
  split
  · exact look_set.trans (if_neg h0)
  · split
    · exact look_set.trans (if_neg h0)
    · split
      · exact look_set.trans ((if_neg h1).trans ((look_del hd).trans (if_neg h0)))
      · exact (look_del hd).trans (if_neg h0)
theorem back_done {op:OpV} {D F:List FD} (hd:Dist D) (hw:BackR op.name op.to D (verbD op D).1 2 F):SameD F D:=fun n=>by
  rw [hw.2 n]
  by_cases hi:InT op.name op.to 2 n
  · rw [if_pos hi]
  · rw [if_neg hi];exact verbD_other hd (fun e=>hi (.inl ⟨by omega,e⟩)) (fun e=>hi (.inr ⟨by omega,e⟩))
theorem was_loop {qm qw qn:Pos} {es:List (AV × AV × Nat)} {cl:Nat} {D:List FD} {n0 n1:List Nat} {sp:Bool} {ty:TypeId} (hM:MapR M es cl D) (hmm:(qm,AObj.map es cl) ∈ L) (hnn:(qn,AObj.row ty [.str n0,.str n1] sp) ∈ L) {x3 x5:AV}
    {Q:XExit→Tm→Heap→Prop} (hend:∀ tm h ws wc W,Has h ((qw,.map ws wc) :: L)→MapR M ws wc W→WasR n0 n1 D 2 W→tm.get (.lo .d0 .d0) = some (.map qm)→tm.get (.lo .d0 .d3) = some x3→tm.get (.lo .d0 .d5) = some x5→tm.get (.lo .d0 .d7) = some (.map qw)→Q (.exit 0) tm h) :
    ∀ (k j:Nat),2 - j = k→j ≤ 2→∀ (tm:Tm) (h:Heap) (ws:List (AV × AV × Nat)) (wc:Nat) (W:List FD),Has h ((qw,.map ws wc) :: L)→MapR M ws wc W→WasR n0 n1 D j W→tm.get (.lo .d0 .d0) = some (.map qm)→tm.get (.lo .d0 .d3) = some x3→tm.get (.lo .d0 .d5) = some x5→tm.get (.lo .d0 .d7) = some (.map qw) →
      tm.get (.lo .d2 .d4) = some (.slice qn 0 2 (.ex 2))→tm.get (.lo .d2 .d5) = some (.int .i64 (.ofNat 2))→tm.get (.lo .d2 .d6) = some (.int .i64 (.ofNat j))→LoopT E c_apply_b0 Q tm h:=by
  intro k
  induction k using Nat.strongRecOn with
  | ind k ih =>
    intro j hk hj2 tm h ws wc W H hW hR e0 e3 e5 e7 e36 e37 e38;obtain ⟨tm,rfl⟩:=sets7 e0 e3 e5 e7 e36 e37 e38;refine LoopT.wp ?_;unfold c_apply_b0;refine cS (cR ?_);refine wp_bool rfl (fun hb1=>?_) (fun hb1=>?_)
    · have hj:=of_ltN hb1;obtain ⟨w,hw,hlk⟩:=hM.look2 (nmAt n0 n1 j);refine oZ (cS (cC rfl (cK (cS (cB ?_)))));refine cS (cR ?_);refine oI (iaddrS_sem rfl rfl hj) (oI (sem_load rfl (H.mem (x:=(qn,_)) (mS _ hnn)) (part_nm hj)) (oI rfl (oZ ?_)));refine cS (cR ?_);refine oI rfl (oI rfl (oI (hlk (H.mem (x:=(qm,_)) (mS _ hmm)) rfl rfl) ?_))
      cases hi:lookD (nmAt n0 n1 j) D
      · rw [hi] at hw;refine oI rfl (oI rfl (oI rfl (oI rfl (oI rfl (oZ ?_)))));refine cS (cR ?_);refine oI rfl (oZ (cF rfl (cK (cR ?_))));refine oI (sem_int rfl (w64_succ (by omega))) ?_;refine oI rfl (oZ ?_);exact ih (2 - (j + 1)) (by omega) (j + 1) rfl (by omega) _ _ _ _ _ H hW (was_no hj hR hi) rfl rfl rfl rfl rfl rfl rfl
      · rename_i bb
        rw [hi] at hw;refine oI rfl (oI rfl (oI rfl (oI rfl (oI rfl (oZ ?_)))));refine cS (cR ?_);refine oI rfl (oZ (cC rfl (cR (oI rfl (oI rfl (oI rfl ?_))))));refine wp_put hW H hw rfl rfl rfl fun h ws2 wc2 H hW2=>?_
        refine oZ (cR ?_);refine oI (sem_int rfl (w64_succ (by omega))) ?_;refine oI rfl (oZ ?_);exact ih (2 - (j + 1)) (by omega) (j + 1) rfl (by omega) _ _ _ _ _ H hW2 (was_set hj hR hi) rfl rfl rfl rfl rfl rfl rfl
    · have hj:=of_geN hb1;refine oZ (cS (cF rfl (cX ?_)));obtain rfl:j = 2:=by omega
      exact hend _ _ _ _ _ H hW hR rfl rfl rfl rfl
theorem back_loop {qm qw qn:Pos} {ws:List (AV × AV × Nat)} {wc:Nat} {D V W:List FD} {n0 n1:List Nat} {sp:Bool} {ty:TypeId} (hW:MapR M ws wc W) (hR:WasR n0 n1 D 2 W) (hww:(qw,AObj.map ws wc) ∈ L) (hnn:(qn,AObj.row ty [.str n0,.str n1] sp) ∈ L)
    {Q:XExit→Tm→Heap→Prop} (hend:∀ tm h es cl F,Has h ((qm,.map es cl) :: L)→MapR M es cl F→BackR n0 n1 D V 2 F→Q (.exit 2) tm h) :
    ∀ (k j:Nat),2 - j = k→j ≤ 2→∀ (tm:Tm) (h:Heap) (es:List (AV × AV × Nat)) (cl:Nat) (F:List FD),Has h ((qm,.map es cl) :: L)→MapR M es cl F→BackR n0 n1 D V j F→tm.get (.lo .d0 .d0) = some (.map qm)→tm.get (.lo .d0 .d7) = some (.map qw) →
      tm.get (.lo .d4 .d10) = some (.slice qn 0 2 (.ex 2))→tm.get (.lo .d4 .d11) = some (.int .i64 (.ofNat 2))→tm.get (.lo .d4 .d12) = some (.int .i64 (.ofNat j))→LoopT E c_apply_b1 Q tm h:=by
  intro k
  induction k using Nat.strongRecOn with
  | ind k ih =>
    intro j hk hj2 tm h es cl F H hM hB e0 e7 e74 e75 e76;obtain ⟨tm,rfl⟩:=sets5 e0 e7 e74 e75 e76;refine LoopT.wp ?_;unfold c_apply_b1;refine cS (cR ?_);refine wp_bool rfl (fun hb1=>?_) (fun hb1=>?_)
    · have hj:=of_ltN hb1;obtain ⟨w,hw,hlk⟩:=hW.look2 (nmAt n0 n1 j);refine oZ (cS (cC rfl (cK (cS (cB ?_)))));refine cS (cR ?_);refine oI (iaddrS_sem rfl rfl hj) (oI (sem_load rfl (H.mem (x:=(qn,_)) (mS _ hnn)) (part_nm hj)) (oI rfl (oZ ?_)));refine cS (cR ?_);refine oI rfl (oI rfl ?_);refine wp_del hM H rfl rfl fun h es1 H hM1=>?_
      refine oZ ?_;refine cS (cR ?_);refine oI rfl (oI rfl (oI (hlk (H.mem (x:=(qw,_)) (mS _ hww)) rfl rfl) ?_))
      cases hi:lookD (nmAt n0 n1 j) W
      · rw [hi] at hw;refine oI rfl (oI rfl (oI rfl (oI rfl (oI rfl (oZ ?_)))));refine cS (cR ?_);refine oI rfl (oZ (cF rfl (cK (cR ?_))));refine oI (sem_int rfl (w64_succ (by omega))) ?_;refine oI rfl (oZ ?_);exact ih (2 - (j + 1)) (by omega) (j + 1) rfl (by omega) _ _ _ _ _ H hM1 (back_no hj hB ((was_at hj hR).symm.trans hi)) rfl rfl rfl rfl rfl
      · rename_i bb
        rw [hi] at hw;refine oI rfl (oI rfl (oI rfl (oI rfl (oI rfl (oZ ?_)))));refine cS (cR ?_);refine oI rfl (oZ (cC rfl (cR (oI rfl (oI rfl (oI rfl ?_))))));refine wp_put hM1 H hw rfl rfl rfl fun h es2 cl2 H hM2=>?_
        refine oZ (cR ?_);refine oI (sem_int rfl (w64_succ (by omega))) ?_;refine oI rfl (oZ ?_);exact ih (2 - (j + 1)) (by omega) (j + 1) rfl (by omega) _ _ _ _ _ H hM2 (back_set hj hB ((was_at hj hR).symm.trans hi)) rfl rfl rfl rfl rfl
    · have hj:=of_geN hb1;refine oZ (cS (cF rfl (cX ?_)));obtain rfl:j = 2:=by omega
      exact hend _ _ _ _ _ H hM hB
end
end Go.X

/- An operation carried out;volumes. -/
namespace Go.X
open Go
section
variable {E:XEnv} {h:Heap} {L M:List (Pos × AObj)} {v w:AV} {l m:List Nat}
theorem apply_ok (C:Code E) {qm:Pos} {D:List FD} {op:OpV} (hD:MapAt h L qm D) (hok:OkF D) (hb0:BV L v op.b) (hlb:op.b.length ≤ 10000000) (hnl:op.name.length ≤ maxN) (hto:op.to.length ≤ maxN) :
    CallT E (.func n_apply [] []) [.map qm,opAV op v] h fun r h'=>∃ D',r = .bool (decide (okV op D))∧MapAt h' L qm D'∧(okV op D→D' = (verbD op D).1)∧(¬ okV op D→SameD D' D∧Dist D'):=by
  obtain ⟨M,es,cl,hL,H,hM⟩:=hD;have H0:=H;have hb0:=hb0.mono hL;have hlD:∀ f ∈ D,f.2.length ≤ 400000:=fun f m=>(hok.ok f m).2
  refine CallT.body C.apply ?_;unfold BodyT c_apply;refine cS (cR ?_);refine wp_box rfl rfl H fun q1 h H=>?_
  refine oI rfl (oZ (cS (wpC_phase rfl (oI rfl ?_))));refine oI (sem_load rfl (H.at 0 rfl) (fun _=>by first | rfl | exact BV.part hb0 rfl)) ?_;refine oZ ⟨?_,?_⟩
  · refine kI (rfl) rfl rfl ?_;refine kI (sem_load rfl (H.at 0 rfl) (fun _=>by first | rfl | exact BV.part hb0 rfl)) rfl rfl ?_;exact kZ
  · refine wp_call rfl (verbs_ok C H) ?_;rintro _ h ⟨qv,rfl,H⟩;refine oZ (cL rfl ?_)
    by_cases hk:1 ≤ op.kind∧op.kind ≤ 4
    · refine oI ((lookF_sem (H.at 0 rfl) rfl rfl).1 hk) (oI rfl (oI rfl (oI rfl (oI rfl (oI rfl ?_)))));refine oZ ⟨?_,?_⟩
      · refine kI (rfl) rfl rfl ?_;refine kI (sem_load rfl (H.at 1 rfl) (fun _=>by first | rfl | exact BV.part hb0 rfl)) rfl rfl ?_;refine kI ((lookF_sem (H.at 0 rfl) rfl rfl).1 hk) rfl rfl (kI (rfl) rfl rfl (kI (rfl) rfl rfl (kI (rfl) rfl rfl (kI (rfl) rfl rfl (kI (rfl) rfl rfl ?_)))));exact kZ
      · refine cS ?_;refine cS (cR ?_);refine oI rfl (oI rfl (oI rfl (oN rfl (oI rfl (oN rfl ?_)))));refine oI (sem_load rfl (H.at 1 rfl) (fun _=>by first | rfl | exact BV.part hb0 rfl)) ?_;refine oN rfl (wp_call rfl (isName_ok C H hnl) ?_);rintro _ h ⟨rfl,H⟩
        by_cases hnm:isNm op.name
        · rw [decide_eq_true hnm];refine oN rfl (oI rfl (oI rfl (oZ (cF rfl (cK ?_)))));refine cS (cR ?_);refine wp_mkmap H fun qw h H=>?_
          refine oI rfl (oZ (cS ?_));refine cS (cR ?_);refine oI rfl ?_;refine oI (sem_load rfl (H.at 2 rfl) (fun _=>by first | rfl | exact BV.part hb0 rfl)) ?_;refine oI rfl ?_;refine oI (sem_load rfl (H.at 2 rfl) (fun _=>by first | rfl | exact BV.part hb0 rfl)) ?_;refine wp_bslice (fun k=>rfl) H fun qn h H=>?_
          refine oI rfl (oI rfl (oZ (cB ?_)));have H:=Has.front H 1 rfl;refine wpC_loop (was_loop (n0:=op.name) (n1:=op.to) (x3:=.ptr q1 0) (x5:=.func (vF op.kind) [] []) hM (mS _ (mS _ (mS _ m0))) m0 (fun tm h ws wc W H hW hR e0 e3 e5 e7=>?_) (2 - 0) 0 rfl (by omega) _ _ _ _ _ H ⟨.nil,by simp,.nil⟩ was_0 rfl rfl rfl rfl rfl rfl rfl);obtain ⟨tm,rfl⟩:=sets4 e0 e3 e5 e7;refine cS ?_;refine cS (cR ?_);refine oI rfl (oI rfl ?_);refine oI (sem_load rfl (H.at 3 rfl) (fun _=>by first | rfl | exact BV.part hb0 rfl)) ?_;have H:=Has.front H 4 rfl;have hsub:∀ x ∈ M,x ∈ (qw,AObj.map ws wc) :: (qn,AObj.row tyS [.str op.name,.str op.to] false) :: (qv,AObj.map vEs 4) :: (q1,AObj.row tyO [.int .i64 op.kind,.str op.name,.str op.to,v] false) :: M:=fun x m=>mS _ (mS _ (mS _ (mS _ m)))
          refine wp_callv rfl rfl (verb_ok C ⟨_,es,cl,fun _ m=>m,H,hM.mono hsub⟩ (hb0.mono hsub) hk hlb hlD hto) ?_;rintro _ h ⟨rfl,M2,es2,cl2,hL2,H,hM2⟩;have hqw:(qw,AObj.map ws wc) ∈ M2:=hL2 _ m0;have hq1:(q1,AObj.row tyO [.int .i64 op.kind,.str op.name,.str op.to,v] false) ∈ M2:=hL2 _ (by simp);have hW2:MapR M2 ws wc W:=hW.mono fun x m=>hL2 x (hsub x m)
          have hLM:∀ x ∈ L,x ∈ M2:=fun x m=>hL2 x (hsub x (hL x m))
          obtain ⟨w3,hw3,hlk3⟩:=hM2.look1 op.name
          cases hv:(verbD op D).2
          · have hno : ¬ okV op D:=fun ho=>by rw [ho.2.2.2.1] at hv;simp at hv
            refine oI rfl (oF rfl (oF rfl (oF rfl (oI rfl (oI rfl (oF rfl (oF rfl (oF rfl (oF rfl (oF rfl (oF rfl ?_)))))))))));refine oI rfl (oZ (cF rfl (cK (cS ?_))));refine cS (cR ?_);refine oI rfl ?_;refine oI (sem_load rfl (H.mem (x:=(q1,_)) (mS _ hq1)) (fun _=>rfl)) ?_;refine oI rfl ?_;refine oI (sem_load rfl (H.mem (x:=(q1,_)) (mS _ hq1)) (fun _=>rfl)) ?_;refine wp_bslice (fun k=>rfl) H fun qn2 h H=>?_
            refine oI rfl (oI rfl (oZ (cB ?_)));have H:=Has.front H 1 rfl;refine wpC_loop (back_loop (n0:=op.name) (n1:=op.to) (V:=(verbD op D).1) hW2 hR (mS _ hqw) (m0) (fun tm h es3 cl3 F H hM3 hB=>?_) (2 - 0) 0 rfl (by omega) _ _ _ _ _ H hM2 (back_0 (verbD_dist hok.dist)) rfl rfl rfl rfl rfl);refine cS (cR ?_);refine oI rfl (oZ (cT ?_));refine ⟨trivial,_,rfl,?_⟩;exact ⟨F,show AV.bool _ = AV.bool _ by rw [decide_eq_false hno],⟨_,es3,cl3,fun x m=>mS _ (hLM x m),H,hM3.mono fun x m=>mS _ m⟩,fun hy=>absurd hy hno,fun _=>⟨back_done hok.dist hB,hB.1⟩⟩
          · have:=hok;refine oI rfl (oN rfl (oI rfl (oN rfl (oI (lenM_sem hM2 (H.at 0 rfl) rfl) (oN rfl ?_)))));refine wp_bool rfl (fun hb2=>?_) (fun hb2=>?_)
            · have hl1:=leI_le hb2
              try simp only [ofNat_cast] at hl1
              refine oI rfl (oI rfl (oN rfl (oI rfl (oN rfl (oI rfl (oN rfl ?_))))));refine oI (sem_load rfl (H.mem (x:=(q1,_)) (mS _ hq1)) (fun _=>rfl)) ?_;refine oN rfl (oI (hlk3 (H.at 0 rfl) rfl rfl) (oN rfl (oI (len_BV hw3 rfl) (oN rfl ?_))));refine wp_bool rfl (fun hb3=>?_) (fun hb3=>?_)
              · have hl2:=leI_le hb3
                try simp only [ofNat_cast] at hl2
                refine oI rfl (oZ (cC rfl ?_));refine cS (cR ?_);refine oI rfl (oZ (cT ?_));have hyes:okV op D:=⟨hk.1,hk.2,hnm,hv,by omega,by omega⟩;refine ⟨trivial,_,rfl,?_⟩;exact ⟨_,show AV.bool _ = AV.bool _ by rw [decide_eq_true hyes],⟨M2,es2,cl2,hLM,H,hM2⟩,fun _=>rfl,fun hn=>absurd hyes hn⟩
              · have hl2:=leI_gt hb3
                try simp only [ofNat_cast] at hl2
                have hno : ¬ okV op D:=fun ho=>by have:=ho.2.2.2.2.2;omega
                refine oI rfl (oZ (cF rfl (cK (cS ?_))));refine cS (cR ?_);refine oI rfl ?_;refine oI (sem_load rfl (H.mem (x:=(q1,_)) (mS _ hq1)) (fun _=>rfl)) ?_;refine oI rfl ?_;refine oI (sem_load rfl (H.mem (x:=(q1,_)) (mS _ hq1)) (fun _=>rfl)) ?_;refine wp_bslice (fun k=>rfl) H fun qn2 h H=>?_
                refine oI rfl (oI rfl (oZ (cB ?_)));have H:=Has.front H 1 rfl;refine wpC_loop (back_loop (n0:=op.name) (n1:=op.to) (V:=(verbD op D).1) hW2 hR (mS _ hqw) (m0) (fun tm h es3 cl3 F H hM3 hB=>?_) (2 - 0) 0 rfl (by omega) _ _ _ _ _ H hM2 (back_0 (verbD_dist hok.dist)) rfl rfl rfl rfl rfl);refine cS (cR ?_);refine oI rfl (oZ (cT ?_));refine ⟨trivial,_,rfl,?_⟩;exact ⟨F,show AV.bool _ = AV.bool _ by rw [decide_eq_false hno],⟨_,es3,cl3,fun x m=>mS _ (hLM x m),H,hM3.mono fun x m=>mS _ m⟩,fun hy=>absurd hy hno,fun _=>⟨back_done hok.dist hB,hB.1⟩⟩
            · have hl1:=leI_gt hb2
              try simp only [ofNat_cast] at hl1
              have hno : ¬ okV op D:=fun ho=>by have:=ho.2.2.2.2.1;omega
              refine oI rfl (oI rfl (oF rfl (oF rfl (oF rfl (oF rfl (oF rfl (oF rfl (oI rfl (oZ (cF rfl (cK ?_)))))))))));refine cS ?_;refine cS (cR ?_);refine oI rfl ?_;refine oI (sem_load rfl (H.mem (x:=(q1,_)) (mS _ hq1)) (fun _=>rfl)) ?_;refine oI rfl ?_;refine oI (sem_load rfl (H.mem (x:=(q1,_)) (mS _ hq1)) (fun _=>rfl)) ?_;refine wp_bslice (fun k=>rfl) H fun qn2 h H=>?_
              refine oI rfl (oI rfl (oZ (cB ?_)));have H:=Has.front H 1 rfl;refine wpC_loop (back_loop (n0:=op.name) (n1:=op.to) (V:=(verbD op D).1) hW2 hR (mS _ hqw) (m0) (fun tm h es3 cl3 F H hM3 hB=>?_) (2 - 0) 0 rfl (by omega) _ _ _ _ _ H hM2 (back_0 (verbD_dist hok.dist)) rfl rfl rfl rfl rfl);refine cS (cR ?_);refine oI rfl (oZ (cT ?_));refine ⟨trivial,_,rfl,?_⟩;exact ⟨F,show AV.bool _ = AV.bool _ by rw [decide_eq_false hno],⟨_,es3,cl3,fun x m=>mS _ (hLM x m),H,hM3.mono fun x m=>mS _ m⟩,fun hy=>absurd hy hno,fun _=>⟨back_done hok.dist hB,hB.1⟩⟩
        · rw [decide_eq_false hnm];refine oN rfl (oI rfl (oI rfl (oZ (cC rfl ?_))));refine cS (cR ?_);refine oI rfl (oZ (cT ?_));have hno : ¬ okV op D:=fun ho=>hnm ho.2.2.1
          refine ⟨trivial,_,rfl,?_⟩;exact ⟨D,show AV.bool _ = AV.bool _ by rw [decide_eq_false hno],⟨M,es,cl,hL,H.tail.tail,hM⟩,fun hy=>absurd hy hno,fun _=>⟨fun _=>rfl,hok.dist⟩⟩
    · refine oI ((lookF_sem (H.at 0 rfl) rfl rfl).2 hk) (oI rfl (oI rfl (oI rfl (oI rfl (oI rfl ?_)))));refine oZ ⟨?_,?_⟩
      · refine kI (rfl) rfl rfl ?_;refine kI (sem_load rfl (H.at 1 rfl) (fun _=>by first | rfl | exact BV.part hb0 rfl)) rfl rfl ?_;refine kI ((lookF_sem (H.at 0 rfl) rfl rfl).2 hk) rfl rfl (kI (rfl) rfl rfl (kI (rfl) rfl rfl (kI (rfl) rfl rfl (kI (rfl) rfl rfl (kI (rfl) rfl rfl ?_)))));exact kZ
      · refine cS ?_;refine cS (cR ?_);refine oI rfl (oI rfl (oI rfl (oF rfl (oF rfl (oF rfl (oF rfl (oI rfl (oZ (cC rfl ?_)))))))));refine cS (cR ?_);refine oI rfl (oZ (cT ?_));have hno : ¬ okV op D:=fun ho=>hk ⟨ho.1,ho.2.1⟩
        refine ⟨trivial,_,rfl,?_⟩;exact ⟨D,show AV.bool _ = AV.bool _ by rw [decide_eq_false hno],⟨M,es,cl,hL,H.tail.tail,hM⟩,fun hy=>absurd hy hno,fun _=>⟨fun _=>rfl,hok.dist⟩⟩
end
end Go.X
