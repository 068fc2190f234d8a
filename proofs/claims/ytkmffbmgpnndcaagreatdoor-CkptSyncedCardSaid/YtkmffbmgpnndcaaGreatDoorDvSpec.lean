/- Disks as lists of names and contents; what carrying an operation out comes to. No program in sight. -/
import Derived.Test.YtkmffbmgpnndcaaGreatDoorXxName
import Derived.Test.YtkmffbmgpnndcaaGreatDoorCtMath
namespace Go.X
open Go
abbrev FD:=List Nat × List Nat
def lookD (n:List Nat):List FD→Option (List Nat)
  | []=>none
  | f :: D=>if f.1 = n then some f.2 else lookD n D
def delD (n:List Nat):List FD→List FD
  | []=>[]
  | f :: D=>if f.1 = n then D else f :: delD n D
def setD (n b:List Nat):List FD→List FD
  | []=>[(n,b)]
  | f :: D=>if f.1 = n then (n,b) :: D else f :: setD n b D
def Dist (D:List FD):Prop:=D.Pairwise fun x y=>x.1 ≠ y.1
section
variable {D D':List FD} {n m b:List Nat}
theorem lookD_none:lookD n D = none ↔ ∀ f ∈ D,f.1 ≠ n:=by
  induction D with
  | nil=>simp [lookD]
  | cons f D ih =>
    simp only [lookD,fJ]
    by_cases h:f.1 = n
    · simp [h]
    · simp [h,ih]
theorem lookD_some (hd:Dist D):lookD n D = some b ↔ (n,b) ∈ D:=by
  induction D with
  | nil=>simp [lookD]
  | cons f D ih =>
    have hd':=List.pairwise_cons.1 hd;simp only [lookD,List.mem_cons]
    by_cases h:f.1 = n
    · rw [if_pos h,sJ]
      constructor
      · intro e;left;subst e;subst h;rfl
      · rintro (e | e)
        · rw [← e]
        · exact absurd h (hd'.1 _ e)
    · rw [if_neg h,ih hd'.2]
      constructor
      · exact .inr
      · rintro (e | e)
        · rw [← e] at h;exact absurd rfl h
        · exact e
theorem mem_delD {f:FD} (h:f ∈ delD n D):f ∈ D:=by
  induction D with
  | nil=>simp [delD] at h
  | cons g D ih =>
    simp only [delD] at h
    split at h
    · exact mS _ h
    · rcases List.mem_cons.1 h with rfl | h
      · exact m0
      · exact mS _ (ih h)
theorem mem_setD {f:FD} (h:f ∈ setD n b D):f = (n,b)∨f ∈ D:=by
  induction D with
  | nil=>simp only [setD,List.mem_singleton] at h;exact .inl h
  | cons g D ih =>
    simp only [setD] at h
    split at h
    · rcases List.mem_cons.1 h with rfl | h
      · exact .inl rfl
      · exact .inr (mS _ h)
    · rcases List.mem_cons.1 h with rfl | h
      · exact .inr m0
      · exact (ih h).imp id (mS _)
theorem Dist.del (hd:Dist D):Dist (delD n D):=by
  induction D with
  | nil=>exact hd
  | cons g D ih =>
    have hd':=List.pairwise_cons.1 hd;simp only [delD]
    split
    · exact hd'.2
    · exact List.pairwise_cons.2 ⟨fun f hf=>hd'.1 f (mem_delD hf),ih hd'.2⟩
theorem Dist.set (hd:Dist D):Dist (setD n b D):=by
  induction D with
  | nil=>exact List.pairwise_singleton ..
  | cons g D ih =>
    have hd':=List.pairwise_cons.1 hd;simp only [setD]
    by_cases h:g.1 = n
    · rw [if_pos h];exact List.pairwise_cons.2 ⟨fun f hf=>by have:=hd'.1 f hf;rw [h] at this;exact this,hd'.2⟩
    · rw [if_neg h];refine List.pairwise_cons.2 ⟨fun f hf=>?_,ih hd'.2⟩
      rcases mem_setD hf with rfl | hf
      · exact h
      · exact hd'.1 f hf
theorem look_del (hd:Dist D):lookD m (delD n D) = if m = n then none else lookD m D:=by
  induction D with
  | nil=>simp [delD,lookD]
  | cons g D ih =>
    have hd':=List.pairwise_cons.1 hd;simp only [delD]
    by_cases h:g.1 = n
    · rw [if_pos h]
      by_cases hm:m = n
      · rw [if_pos hm,lookD_none];intro f hf e;exact hd'.1 f hf (by rw [h,e,hm])
      · rw [if_neg hm,lookD,if_neg (by rw [h];exact fun e=>hm e.symm)]
    · rw [if_neg h];simp only [lookD]
      by_cases hg:g.1 = m
      · rw [if_pos hg,if_pos hg,if_neg (by rw [← hg];exact h)]
      · rw [if_neg hg,if_neg hg,ih hd'.2]
theorem look_set:lookD m (setD n b D) = if m = n then some b else lookD m D:=by
  induction D with
  | nil => simp only [setD,lookD];by_cases h:m = n
           · subst h;simp
           · rw [if_neg (fun e=>h e.symm),if_neg h]
  | cons g D ih =>
    simp only [setD]
    by_cases h:g.1 = n
    · rw [if_pos h];simp only [lookD]
      by_cases hm:m = n
      · subst hm;simp
      · rw [if_neg (fun e=>hm e.symm),if_neg hm,if_neg (by rw [h];exact fun e=>hm e.symm)]
    · rw [if_neg h];simp only [lookD]
      by_cases hg:g.1 = m
      · rw [if_pos hg,if_pos hg,if_neg (by rw [← hg];exact h)]
      · rw [if_neg hg,if_neg hg,ih]
def SameD (D D':List FD):Prop:=∀ n,lookD n D = lookD n D'
theorem SameD.symm (h:SameD D D'):SameD D' D:=fun n=>(h n).symm
theorem SameD.trans {D2:List FD} (h:SameD D D') (h':SameD D' D2):SameD D D2:=fun n=>(h n).trans (h' n)
theorem Dist.nodup (hd:Dist D):D.Nodup:=hd.imp fun h e=>h (by rw [e])
theorem SameD.perm (h:SameD D D') (h1:Dist D) (h2:Dist D'):D.Perm D':=by
  rw [List.perm_ext_iff_of_nodup h1.nodup h2.nodup];rintro ⟨n,b⟩;rw [← lookD_some h1,← lookD_some h2,h n]
theorem SameD.of_perm (h:D.Perm D') (h1:Dist D):SameD D D':=fun n=>by
  have h2:Dist D':=(h.pairwise_iff fun e=>Ne.symm e).1 h1
  cases hb:lookD n D with
  | none =>
    symm;rw [lookD_none] at hb ⊢
    exact fun f hf=>hb f (h.mem_iff.2 hf)
  | some b =>
    symm;rw [lookD_some h1] at hb;rw [lookD_some h2];exact h.mem_iff.1 hb
theorem SameD.sort (h1:Dist D):SameD (sortF D) D:=(SameD.of_perm (sortF_perm D).symm h1).symm
theorem SameD.sort_eq (h:SameD D D') (h1:Dist D) (h2:Dist D'):sortF D = sortF D':=sortF_of_perm ((sortF_perm D).trans (h.perm h1 h2)) (sortF_sorted h1)
theorem Dist.sort (h1:Dist D):Dist (sortF D):=((sortF_perm D).pairwise_iff fun e=>Ne.symm e).2 h1
end

/-! ### operations -/
structure OpV where
  kind:Int
  name:List Nat
  to:List Nat
  b:List Nat
instance (s:List Nat):Decidable (isNm s):=inferInstanceAs (Decidable (_∧_∧_))
def verbD (op:OpV) (D:List FD):List FD × Bool :=
  if op.kind = 1 then (setD op.name op.b D,decide (op.to = []))
  else if op.kind = 2 then (setD op.name ((lookD op.name D).getD []++op.b) D,decide (op.to = []))
  else if op.kind = 3 then (setD op.to ((lookD op.name D).getD []) (delD op.name D),(lookD op.name D).isSome && decide (isNm op.to) && decide (op.b.length = 0))
  else (delD op.name D,(lookD op.name D).isSome && decide (op.to = []) && decide (op.b.length = 0))
def okV (op:OpV) (D:List FD):Prop:=1 ≤ op.kind∧op.kind ≤ 4∧isNm op.name∧(verbD op D).2 = true∧(verbD op D).1.length ≤ 100∧((lookD op.name (verbD op D).1).getD []).length ≤ 400000
instance (op:OpV) (D:List FD):Decidable (okV op D):=inferInstanceAs (Decidable (_∧_∧_∧_∧_∧_))
def applyD (D:List FD) (op:OpV):Option (List FD):=if okV op D then some (verbD op D).1 else none
structure OkF (D:List FD):Prop where
  dist:Dist D
  len:D.length ≤ 100
  ok:∀ f ∈ D,isNm f.1∧f.2.length ≤ 400000
section
variable {D D':List FD} {op:OpV}
theorem verbD_dist (hd:Dist D):Dist (verbD op D).1:=by
  unfold verbD
  split
  · exact hd.set
  · split
    · exact hd.set
    · split
      · exact hd.del.set
      · exact hd.del
theorem applyD_ok (h:OkF D) (ha:applyD D op = some D'):OkF D':=by
  unfold applyD at ha
  split at ha
  case isFalse=>simp at ha
  rename_i hk
  simp only [sJ] at ha;subst ha;obtain ⟨k1,k2,k3,k4,k5,k6⟩:=hk;refine ⟨verbD_dist h.dist,k5,fun f hf=>?_⟩;have hdist:=verbD_dist (op:=op) h.dist;have hl:=(lookD_some hdist).2 (show (f.1,f.2) ∈ _ from hf)
  by_cases hn:f.1 = op.name
  · rw [hn] at hl;rw [hl] at k6;exact ⟨by rw [hn];exact k3,k6⟩
  · -- another file: of the disk,or the new name's
    have key:f ∈ D∨(isNm f.1∧f.2.length ≤ 400000):=by
      unfold verbD at hf k4
      split at hf
      · rcases mem_setD hf with rfl | hf
        · exact absurd rfl hn
        · exact .inl hf
      · rename_i h1
        rw [if_neg h1] at k4
        split at hf
        · rcases mem_setD hf with rfl | hf
          · exact absurd rfl hn
          · exact .inl hf
        · rename_i h2
          rw [if_neg h2] at k4
          split at hf
          · rename_i h3
            rw [if_pos h3] at k4;simp only [Bool.and_eq_true,decide_eq_true_eq] at k4
            rcases mem_setD hf with rfl | hf
            · refine .inr ⟨k4.1.2,?_⟩
              cases hl2:lookD op.name D with
              | none=>simp
              | some b=>exact (h.ok _ ((lookD_some h.dist).1 hl2)).2
            · exact .inl (mem_delD hf)
          · exact .inl (mem_delD hf)
    rcases key with hf | hf
    · exact h.ok f hf
    · exact hf
theorem verbD_same (h:SameD D D') (h1:Dist D) (h2:Dist D'):SameD (verbD op D).1 (verbD op D').1∧(verbD op D).2 = (verbD op D').2:=by
  have hl:=h op.name;unfold verbD;rw [hl]
  split
  · exact ⟨fun n=>by rw [look_set,look_set,h n],rfl⟩
  · split
    · exact ⟨fun n=>by rw [look_set,look_set,h n],rfl⟩
    · split
      · exact ⟨fun n=>by rw [look_set,look_set,look_del h1,look_del h2,h n],rfl⟩
      · exact ⟨fun n=>by rw [look_del h1,look_del h2,h n],rfl⟩
theorem applyD_same (h:SameD D D') (h1:Dist D) (h2:Dist D'):(applyD D op = none∧applyD D' op = none)∨∃ E E',applyD D op = some E∧applyD D' op = some E'∧SameD E E'∧Dist E∧Dist E':=by
  obtain ⟨hv,hb⟩:=verbD_same (op:=op) h h1 h2;have hlen:=(hv.perm (verbD_dist h1) (verbD_dist h2)).length_eq;have hk:okV op D ↔ okV op D':=by
    unfold okV;rw [hb,hlen,hv op.name]
  unfold applyD
  by_cases hd:okV op D
  · exact .inr ⟨_,_,if_pos hd,if_pos (hk.1 hd),hv,verbD_dist h1,verbD_dist h2⟩
  · exact .inl ⟨if_neg hd,if_neg (fun h=>hd (hk.2 h))⟩
end
def applyL:List FD→List OpV→Option (List FD)
  | D,[]=>some D
  | D,op :: ops=>match applyD D op with | some D'=>applyL D' ops | none=>none
theorem applyL_app:∀ {D:List FD} {a b:List OpV},applyL D (a++b) = (match applyL D a with | some D'=>applyL D' b | none=>none)
  | D,[],b=>rfl
  | D,op :: a,b=>by
    simp only [List.cons_append,applyL]
    cases applyD D op with
    | none=>rfl
    | some D'=>exact applyL_app
theorem applyL_ok:∀ {ops:List OpV} {D D':List FD},OkF D→applyL D ops = some D'→OkF D'
  | [],D,D',h,ha=>by simp only [applyL,sJ] at ha;subst ha;exact h
  | op :: ops,D,D',h,ha=>by
    simp only [applyL] at ha
    cases hd:applyD D op with
    | none=>rw [hd] at ha;simp at ha
    | some E=>rw [hd] at ha;exact applyL_ok (applyD_ok h hd) ha
end Go.X

/- Files and operations in memory: slices of elements of several cells,maps of files;what looking at them and changing them comes to. No program in sight. -/
namespace Go.X
open Go
section
variable {E:XEnv} {d:Option Slot} {ops:List XOp} {Q:Tm→Heap→Prop} {tm:Tm} {h:Heap} {L M M':List (Pos × AObj)} {v w:AV} {x y z:XO} {cs:List AV} {n esz:Nat}
/-! ### slices of elements of several cells -/
def RowV (M:List (Pos × AObj)) (esz:Nat) (v:AV) (cs:List AV) (n:Nat):Prop:=cs.length = n * esz∧((v = .nilslice∧n = 0)∨(∃ fu,v = .imm cs n fu)∨(∃ p cap ty sp,v = .slice p 0 n cap∧(p,AObj.row ty cs sp) ∈ M))
theorem RowV.mono (hr:RowV M esz v cs n) (hm:∀ x ∈ M,x ∈ M'):RowV M' esz v cs n:=⟨hr.1,hr.2.imp id (·.imp id fun ⟨p,cap,ty,sp,h1,h2⟩=>⟨p,cap,ty,sp,h1,hm _ h2⟩)⟩
theorem RowV.cellsO (hr:RowV M esz v cs n):v.cellsO = some [v]:=by
  rcases hr.2 with ⟨rfl,_⟩ | ⟨fu,rfl⟩ | ⟨p,cap,ty,sp,rfl,_⟩ <;> rfl
theorem RowV.ne_any (hr:RowV M esz v cs n):v ≠ .any:=by
  rcases hr.2 with ⟨rfl,_⟩ | ⟨fu,rfl⟩ | ⟨p,cap,ty,sp,rfl,_⟩ <;> simp
theorem BV.ne_any {l:List Nat} (hs:BV M v l):v ≠ .any:=by
  rcases hs with ⟨rfl,_⟩ | ⟨_,_,rfl,_⟩ | ⟨_,_,_,_,_,_,rfl,_⟩ <;> simp
theorem BV.cells1 {l:List Nat} (hs:BV M v l):v.cellsO = some [v]:=by
  rcases hs with ⟨rfl,_⟩ | ⟨_,_,rfl,_⟩ | ⟨_,_,_,_,_,_,rfl,_⟩ <;> rfl
theorem len_RowV (hr:RowV M esz v cs n) (hv:x.val tm = some v):(XI.len false x).sem tm h = .ok (.int .i64 (.ofNat n)) h:=by
  rcases hr.2 with ⟨rfl,rfl⟩ | ⟨fu,rfl⟩ | ⟨p,cap,ty,sp,rfl,_⟩ <;> simp only [XI.sem,lenS,withO_run hv] <;> rfl
def adr (v:AV) (j esz:Nat):AV:=match v with
  | .imm cs _ _=>.iptr (cs.drop (j * esz))
  | .slice p o _ _=>.ptr p (o + j * esz)
  | v=>v
def padd (v:AV) (n:Nat):AV:=match v with
  | .iptr cs=>.iptr (cs.drop n)
  | .ptr p o=>.ptr p (o + n)
  | v=>v
def PtrV (M:List (Pos × AObj)) (v:AV) (cs:List AV):Prop:=v = .iptr cs∨∃ p o ty rs sp,v = .ptr p o∧(p,AObj.row ty rs sp) ∈ M∧rs.drop o = cs∧o ≤ rs.length
theorem PtrV.mono (hr:PtrV M v cs) (hm:∀ x ∈ M,x ∈ M'):PtrV M' v cs:=hr.imp id fun ⟨p,o,ty,rs,sp,h1,h2,h3⟩=>⟨p,o,ty,rs,sp,h1,hm _ h2,h3⟩
theorem iaddr_sem {j:Nat} {k:IntKind} (hr:RowV M esz v cs n) (hz:0 < esz) (hj:j < n) (hv:x.val tm = some v) (hi:y.val tm = some (.int k (.ofNat j))):(XI.iaddrS esz x y).sem tm h = .ok (adr v j esz) h:=by
  have hb:Nat.blt j n = true:=by rw [Nat.blt_eq];exact hj
  obtain ⟨hl,hr⟩:=hr
  rcases hr with ⟨rfl,rfl⟩ | ⟨fu,rfl⟩ | ⟨p,cap,ty,sp,rfl,_⟩
  · omega
  · have h1:(j + 1) * esz ≤ n * esz:=Nat.mul_le_mul_right _ hj;have h2:j * esz < cs.length:=by rw [Nat.add_mul] at h1;omega
    have h3:dropE (j * esz) cs = some (cs.drop (j * esz)):=dropE_of (by omega)
    cases hd:cs.drop (j * esz) with
    | nil=>have:=congrArg List.length hd;simp at this;omega
    | cons c r =>
      rw [hd] at h3;simp only [XI.sem,iaddrSS,withO_run hv,XO.withN,XO.withI,withO_run hi,hb,h3,adr,hd]
  · simp only [XI.sem,iaddrSS,withO_run hv,XO.withN,XO.withI,withO_run hi,hb,adr]
theorem adr_ptr {j:Nat} (hr:RowV M esz v cs n) (hj:j < n):PtrV M (adr v j esz) (cs.drop (j * esz)):=by
  obtain ⟨hl,hr⟩:=hr;have h1:j * esz ≤ n * esz:=Nat.mul_le_mul_right _ (by omega)
  rcases hr with ⟨rfl,rfl⟩ | ⟨fu,rfl⟩ | ⟨p,cap,ty,sp,rfl,hm⟩
  · omega
  · exact .inl rfl
  · exact .inr ⟨p,_,ty,cs,sp,rfl,hm,by rw [Nat.zero_add],by omega⟩
theorem faddr_sem {off:Nat} (hp:PtrV M v cs) (ho:off ≤ cs.length) (hv:x.val tm = some v):(XI.faddr off x).sem tm h = .ok (padd v off) h:=by
  rcases hp with rfl | ⟨p,o,ty,rs,sp,rfl,_⟩
  · simp only [XI.sem,faddrS,withO_run hv,ptrAdd,dropE_of ho,padd]
  · simp only [XI.sem,faddrS,withO_run hv,ptrAdd,padd]
theorem padd_ptr {off:Nat} (hp:PtrV M v cs) (ho:off ≤ cs.length):PtrV M (padd v off) (cs.drop off):=by
  rcases hp with rfl | ⟨p,o,ty,rs,sp,rfl,hm,rfl,h1⟩
  · exact .inl rfl
  · exact .inr ⟨p,_,ty,rs,sp,rfl,hm,by rw [List.drop_drop],by simp at ho;omega⟩
theorem load1_sem {c:AV} {r:List AV} (H:Has h M) (hp:PtrV M v (c :: r)) (hc:c ≠ .any) (hv:x.val tm = some v):(XI.load none x).sem tm h = .ok c h:=by
  have part:∀ {rs:List AV} {o:Nat},rs.drop o = c :: r→partOf rs o none h = .ok c h:=fun {rs o} e=>by
    have:nth rs o = some c:=by rw [nth_eq,← List.head?_drop,e,List.head?_cons]
    unfold partOf;rw [this]
    cases c <;> first | rfl | exact absurd rfl hc
  rcases hp with rfl | ⟨p,o,ty,rs,sp,rfl,hm,h1,h2⟩
  · simp only [XI.sem,loadS,withO_run hv];exact part (by simp)
  · simp only [XI.sem,loadS,withO_run hv,H.mem hm];exact part h1
theorem loadN_sem {k:Nat} (H:Has h M) (hp:PtrV M v cs) (hk:k ≤ cs.length) (hv:x.val tm = some v):(XI.load (some k) x).sem tm h = .ok (.agg (cs.take k)) h:=by
  rcases hp with rfl | ⟨p,o,ty,rs,sp,rfl,hm,rfl,h2⟩
  · have:sub cs 0 k = some (cs.take k):=by rw [sub_of (by omega)];rfl
    simp only [XI.sem,loadS,withO_run hv,partOf,this]
  · have:sub rs o k = some ((rs.drop o).take k):=sub_of (by simp at hk;omega);simp only [XI.sem,loadS,withO_run hv,H.mem hm,partOf,this]
/-! ### files -/
inductive PsB (M:List (Pos × AObj)):List (List Nat × AV)→List FD→Prop
  | nil:PsB M [] []
  | cons {n b:List Nat} {v:AV} {ps:List (List Nat × AV)} {D:List FD} (hv:BV M v b) (t:PsB M ps D):PsB M ((n,v) :: ps) ((n,b) :: D)
theorem PsB.mono (hm:∀ x ∈ M,x ∈ M') {ps:List (List Nat × AV)} {D:List FD} (t:PsB M ps D):PsB M' ps D:=by
  induction t with
  | nil=>exact .nil
  | cons hv _ ih=>exact .cons (hv.mono hm) ih
theorem PsB.length {ps:List (List Nat × AV)} {D:List FD} (t:PsB M ps D):ps.length = D.length:=by
  induction t with
  | nil=>rfl
  | cons _ _ ih=>simp [ih]
theorem PsB.at {ps:List (List Nat × AV)} {D:List FD} (t:PsB M ps D):∀ {j:Nat} {f:FD},D[j]? = some f→∃ v,ps[j]? = some (f.1,v)∧BV M v f.2:=by
  induction t with
  | nil=>intro j f e;simp at e
  | cons hv _ ih =>
    intro j f e
    cases j with
    | zero=>simp only [List.getElem?_cons_zero,sJ] at e;subst e;exact ⟨_,rfl,hv⟩
    | succ j=>exact ih e
theorem flatP_at:∀ {ps:List (List Nat × AV)} {j:Nat} {n:List Nat} {v:AV},ps[j]? = some (n,v)→(flatP ps)[j * 2]? = some (.str n)∧(flatP ps)[j * 2 + 1]? = some v
  | [],_,_,_,e=>by simp at e
  | (n',v') :: ps,0,n,v,e=>by simp only [List.getElem?_cons_zero,sJ,Prod.mk.injEq] at e;obtain ⟨rfl,rfl⟩:=e;exact ⟨rfl,rfl⟩
  | (n',v') :: ps,j + 1,n,v,e=>by
    have:=flatP_at (ps:=ps) (j:=j) (n:=n) (v:=v) e;have e1:(j + 1) * 2 = j * 2 + 2:=by omega
    have e2:(j + 1) * 2 + 1 = (j * 2 + 1) + 2:=by omega
    rw [e2,e1];exact this
def FsV (M:List (Pos × AObj)) (v:AV) (D:List FD):Prop:=∃ ps,PsB M ps D∧RowV M 2 v (flatP ps) D.length
theorem FsV.mono {D:List FD} (hf:FsV M v D) (hm:∀ x ∈ M,x ∈ M'):FsV M' v D:=let ⟨ps,h1,h2⟩:=hf;⟨ps,h1.mono hm,h2.mono hm⟩

/-! ### maps of files -/
inductive EntsR (M:List (Pos × AObj)):List (AV × AV × Nat)→List FD→Prop
  | nil:EntsR M [] []
  | cons {n b:List Nat} {v:AV} {c:Nat} {es:List (AV × AV × Nat)} {D:List FD} (hv:BV M v b) (t:EntsR M es D):EntsR M ((.str n,v,c) :: es) ((n,b) :: D)
structure MapR (M:List (Pos × AObj)) (es:List (AV × AV × Nat)) (cl:Nat) (D:List FD):Prop where
  ents:EntsR M es D
  lt:∀ e ∈ es,e.2.2 < cl
  apart:es.Pairwise fun x y=>x.2.2 ≠ y.2.2
section
variable {es:List (AV × AV × Nat)} {cl:Nat} {D:List FD} {nm b:List Nat} {p:Pos}
theorem EntsR.mono (hm:∀ x ∈ M,x ∈ M') (t:EntsR M es D):EntsR M' es D:=by
  induction t with
  | nil=>exact .nil
  | cons hv _ ih=>exact .cons (hv.mono hm) ih
theorem MapR.mono (hm:∀ x ∈ M,x ∈ M') (t:MapR M es cl D):MapR M' es cl D:=⟨t.ents.mono hm,t.lt,t.apart⟩
theorem EntsR.length (t:EntsR M es D):es.length = D.length:=by
  induction t with
  | nil=>rfl
  | cons _ _ ih=>simp [ih]
theorem EntsR.none (t:EntsR M es D) (hn:lookD nm D = .none) (i:Nat):findE (.str nm) es i = some .none:=by
  induction t generalizing i with
  | nil=>rfl
  | @cons n b v c es D hv t ih =>
    simp only [lookD] at hn
    split at hn
    · simp at hn
    · rename_i hne
      have hb:beqN nm n = false:=by rw [beqN_eq,decide_eq_false];exact fun e=>hne e.symm
      simp only [findE,keyIs,hb];exact ih hn (i + 1)
theorem EntsR.some (t:EntsR M es D) (hn:lookD nm D = .some b) (i:Nat):∃ j v,findE (.str nm) es i = .some (.some (i + j,v))∧BV M v b∧EntsR M (eraseAt es j) (delD nm D)∧∀ {w:AV} {b':List Nat},BV M w b'→EntsR M (setVal w es j) (setD nm b' D):=by
  induction t generalizing i with
  | nil=>simp [lookD] at hn
  | @cons n b0 v c es D hv t ih =>
    simp only [lookD] at hn
    by_cases hne:n = nm
    · subst hne;rw [if_pos rfl,sJ] at hn;subst hn;have hb:beqN n n = true:=beqN_refl n;refine ⟨0,v,by simp only [findE,keyIs,hb];rfl,hv,?_,fun hw=>?_⟩
      · simp only [delD,if_true];exact t
      · simp only [setD,if_true];exact .cons hw t
    · rw [if_neg hne] at hn;have hb:beqN nm n = false:=by rw [beqN_eq,decide_eq_false];exact fun e=>hne e.symm
      obtain ⟨j,v',h1,h2,h3,h4⟩:=ih hn (i + 1);refine ⟨j + 1,v',?_,h2,?_,fun hw=>?_⟩
      · simp only [findE,keyIs,hb];rw [h1];congr 3;omega
      · simp only [delD];rw [if_neg hne];exact .cons hv h3
      · simp only [setD];rw [if_neg hne];exact .cons hv (h4 hw)
theorem setD_new (hn:lookD nm D = .none):setD nm b D = D++[(nm,b)]:=by
  induction D with
  | nil=>rfl
  | cons f D ih =>
    simp only [lookD] at hn
    split at hn
    · simp at hn
    · rename_i hne
      simp only [setD,List.cons_append];rw [if_neg hne,ih hn]
theorem delD_none (hn:lookD nm D = .none):delD nm D = D:=by
  induction D with
  | nil=>rfl
  | cons f D ih =>
    simp only [lookD] at hn
    split at hn
    · simp at hn
    · rename_i hne
      simp only [delD];rw [if_neg hne,ih hn]
theorem EntsR.snoc (t:EntsR M es D) (hw:BV M w b):EntsR M (es++[(.str nm,w,cl)]) (D++[(nm,b)]):=by
  induction t with
  | nil=>exact .cons hw .nil
  | cons hv _ ih=>exact .cons hv ih
theorem eraseAt_sub:∀ (es:List (AV × AV × Nat)) (j:Nat),(eraseAt es j).Sublist es
  | [],_=>.slnil
  | _ :: _,0=>List.sublist_cons_self _ _
  | x :: es,j + 1=>(eraseAt_sub es j).cons_cons x
theorem setVal_born (w:AV):∀ (es:List (AV × AV × Nat)) (j:Nat),(setVal w es j).map (·.2.2) = es.map (·.2.2)
  | [],_=>rfl
  | _ :: _,0=>rfl
  | (k,x,b) :: es,j + 1=>by simp only [setVal,List.map_cons,setVal_born w es j]
theorem MapR.del (t:MapR M es cl D) {j:Nat} (he:EntsR M (eraseAt es j) (delD nm D)):MapR M (eraseAt es j) cl (delD nm D) :=
  ⟨he,fun e m=>t.lt e ((eraseAt_sub es j).subset m),t.apart.sublist (eraseAt_sub es j)⟩
theorem MapR.set (t:MapR M es cl D) {j:Nat} (he:EntsR M (setVal w es j) (setD nm b D)):MapR M (setVal w es j) cl (setD nm b D):=by
  have hb:=setVal_born w es j;refine ⟨he,fun e m=>?_,?_⟩
  · have h1:e.2.2 ∈ (setVal w es j).map (·.2.2):=List.mem_map_of_mem m;rw [hb] at h1;obtain ⟨e',h2,h3⟩:=List.mem_map.1 h1;rw [← h3];exact t.lt e' h2
  · have h1:=List.pairwise_map.2 t.apart;rw [← hb] at h1;exact List.pairwise_map.1 h1
theorem MapR.new (t:MapR M es cl D) (hn:lookD nm D = .none) (hw:BV M w b):MapR M (es++[(.str nm,w,cl)]) (cl + 1) (setD nm b D):=by
  rw [setD_new hn];refine ⟨t.ents.snoc hw,fun e m=>?_,?_⟩
  · rcases List.mem_append.1 m with m | m
    · have:=t.lt e m;omega
    · rw [List.mem_singleton.1 m];exact Nat.lt_succ_self _
  · refine List.pairwise_append.2 ⟨t.apart,List.pairwise_singleton ..,fun e m f hf=>?_⟩;rw [List.mem_singleton.1 hf];have:=t.lt e m;show e.2.2 ≠ cl;omega
/-! rules -/
theorem MapR.look1 (t:MapR M es cl D) (nm:List Nat):∃ v,BV M v ((lookD nm D).getD [])∧∀ {tm:Tm} {h:Heap} {x y:XO} {p:Pos},h.get p = .map es cl→x.val tm = some (.map p)→y.val tm = some (.str nm)→(XI.lookup true .nilslice false x y).sem tm h = .ok v h:=by
  cases hl:lookD nm D with
  | none =>
    have:=t.ents.none hl 0;exact ⟨.nilslice,.nil,fun hg hx hy=>by simp only [XI.sem,lookupS,withO_run hx,withO_run hy,isKey,hg,this,lookRes]⟩
  | some b =>
    obtain ⟨j,v,h1,h2,_⟩:=t.ents.some hl 0;exact ⟨v,h2,fun hg hx hy=>by simp only [XI.sem,lookupS,withO_run hx,withO_run hy,isKey,hg,h1,lookRes]⟩
theorem MapR.look2 (t:MapR M es cl D) (nm:List Nat):∃ v,BV M v ((lookD nm D).getD [])∧∀ {tm:Tm} {h:Heap} {x y:XO} {p:Pos},h.get p = .map es cl→x.val tm = some (.map p)→y.val tm = some (.str nm) →
    (XI.lookup true .nilslice true x y).sem tm h = .ok (.tuple [v,.bool (lookD nm D).isSome]) h:=by
  cases hl:lookD nm D with
  | none =>
    have:=t.ents.none hl 0;exact ⟨.nilslice,.nil,fun hg hx hy=>by simp only [XI.sem,lookupS,withO_run hx,withO_run hy,isKey,hg,this,lookRes];rfl⟩
  | some b =>
    obtain ⟨j,v,h1,h2,_⟩:=t.ents.some hl 0;exact ⟨v,h2,fun hg hx hy=>by simp only [XI.sem,lookupS,withO_run hx,withO_run hy,isKey,hg,h1,lookRes];rfl⟩
theorem wp_put (t:MapR M es cl D) (H:Has h ((p,.map es cl) :: L)) (hw:BV M w b) (hx:x.val tm = some (.map p)) (hy:y.val tm = some (.str nm)) (hz:z.val tm = some w)
    (hq:∀ h' es' cl',Has h' ((p,.map es' cl') :: L)→MapR M es' cl' (setD nm b D)→wpOps E ops Q (putT d unit tm) h'):wpOps E (⟨d,none,.ins (.mapUpd true x y z)⟩ :: ops) Q tm h:=by
  have hg:=H.at 0 rfl
  cases hl:lookD nm D with
  | none =>
    have hn:=t.ents.none hl 0;refine oI (h':=h.set p (.map (es++[(.str nm,w,cl)]) (cl + 1))) (v:=unit) ?_ (hq _ _ _ (H.set (k:=0) rfl _) (t.new hl hw));simp only [XI.sem,mapUpdS,withO_run hx,withO_run hy,withO_run hz,isKey,hg,hn,Heap.setK]
  | some b0 =>
    obtain ⟨j,v0,h1,_,_,h4⟩:=t.ents.some hl 0;rw [Nat.zero_add] at h1;refine oI (h':=h.set p (.map (setVal w es j) cl)) (v:=unit) ?_ (hq _ _ _ (H.set (k:=0) rfl _) (t.set (h4 hw)));simp only [XI.sem,mapUpdS,withO_run hx,withO_run hy,withO_run hz,isKey,hg,h1,Heap.setK]
theorem wp_del (t:MapR M es cl D) (H:Has h ((p,.map es cl) :: L)) (hx:x.val tm = some (.map p)) (hy:y.val tm = some (.str nm))
    (hq:∀ h' es',Has h' ((p,.map es' cl) :: L)→MapR M es' cl (delD nm D)→wpOps E ops Q (putT d unit tm) h'):wpOps E (⟨d,none,.ins (.delete true x y)⟩ :: ops) Q tm h:=by
  have hg:=H.at 0 rfl
  cases hl:lookD nm D with
  | none =>
    have hn:=t.ents.none hl 0;refine oI (h':=h) (v:=unit) ?_ (hq _ _ H (by rw [delD_none hl];exact t));simp only [XI.sem,deleteS,withO_run hx,withO_run hy,isKey,hg,hn]
  | some b0 =>
    obtain ⟨j,v0,h1,_,h3,_⟩:=t.ents.some hl 0;rw [Nat.zero_add] at h1;refine oI (h':=h.set p (.map (eraseAt es j) cl)) (v:=unit) ?_ (hq _ _ (H.set (k:=0) rfl _) (t.del h3));simp only [XI.sem,deleteS,withO_run hx,withO_run hy,isKey,hg,h1,Heap.setK]
theorem lenM_sem (t:MapR M es cl D) (hg:h.get p = .map es cl) (hx:x.val tm = some (.map p)):(XI.lenM x).sem tm h = .ok (.int .i64 (.ofNat D.length)) h:=by
  simp only [XI.sem,lenMS,withO_run hx,hg,lenN_eq,Nat.add_zero,t.ents.length];rfl
end
end
end Go.X
