/- Files of a map as a list by name: the contract of the function that makes it, in lists; clones of slices of bytes. No program in sight. -/
import Derived.Test.YtkmffbmgpnndcaaGreatDoorXxDem
import Derived.Test.YtkmffbmgpnndcaaGreatDoorXxName
import Derived.Test.YtkmffbmgpnndcaaGreatDoorCtMath
namespace Go.X
open Go
/-! ### what it comes to -/
abbrev FEnt:=List Nat × Option (List Nat)
def bytesX:List AV→Option (List Nat)
  | []=>some []
  | c :: cs=>match c with
    | .int .u8 (.ofNat n)=>(match bytesX cs with | some l=>some (n :: l) | none=>none)
    | _=>none
theorem bytesX_eq:∀ {cs:List AV} {l:List Nat},bytesX cs = some l→cs = avBytes l
  | [],l,h=>by simp only [bytesX,sJ] at h;subst h;rfl
  | c :: cs,l,h=>by
    simp only [bytesX] at h
    split at h
    · cases hb:bytesX cs with
      | none=>rw [hb] at h;simp at h
      | some m=>rw [hb] at h;simp only [sJ] at h;subst h;rw [bytesX_eq hb];rfl
    · simp at h
theorem bytesX_av:∀ l:List Nat,bytesX (avBytes l) = some l
  | []=>rfl
  | a :: l=>by simp only [avBytes,bytesX,bytesX_av l]
def contentOf (h:Heap) (u:AV):Option (Option (List Nat)):=match u with
  | .nilslice=>some none
  | .slice .. | .imm ..=>(match srcOf 1 u h with | some (_,cs)=>(match bytesX cs with | some l=>some (some l) | none=>none) | none=>none)
  | _=>none
def deOf (h:Heap) (e:AV × AV × Nat):Option FEnt:=match e.1,contentOf h e.2.1 with
  | .str n,some c=>some (n,c)
  | _,_=>none
def des (h:Heap):List (AV × AV × Nat)→Option (List FEnt)
  | []=>some []
  | e :: es=>match deOf h e,des h es with
    | some d,some l=>some (d :: l)
    | _,_=>none
def bornIn (b:Nat):List (AV × AV × Nat)→Bool
  | []=>false
  | e :: es=>match Nat.beq e.2.2 b with | true=>true | false=>bornIn b es
def bornOK (cl:Nat):List (AV × AV × Nat)→Bool
  | []=>true
  | e :: es=>match Nat.blt e.2.2 cl,bornIn e.2.2 es with | true,false=>bornOK cl es | _,_=>false
def lenOK:List FEnt→Bool
  | []=>true
  | (_,none) :: l=>lenOK l
  | (_,some b) :: l=>match Nat.ble b.length 1000000 with | true=>lenOK l | false=>false
def cvOf (p:Pos):List Nat→AV
  | []=>.slice p 0 0 (.ex 0)
  | b :: l=>.slice p 0 (b :: l).length (.up 1)
def rowOf (ty:TypeId):List Nat→AObj
  | []=>.row ty [] false
  | b :: l=>.row ty (avBytes (b :: l)) true
def clonesV (ty:TypeId):List FEnt→Heap→List (List Nat × AV) × Heap
  | [],h=>([],h)
  | (n,none) :: D,h=>match clonesV ty D h with | (ps,h')=>((n,.nilslice) :: ps,h')
  | (n,some l) :: D,h=>match clonesV ty D (h.push (rowOf ty l)) with | (ps,h')=>((n,cvOf h.next l) :: ps,h')
def filesV (tyF tyB:TypeId) (D:List FEnt) (h:Heap):AV × Heap:=match clonesV tyB D h with
  | ([],h')=>(.agg [.nilslice],h')
  | (p :: ps,h')=>(.agg [.slice h'.next 0 (p :: ps).length (.up 2)],h'.push (.row tyF (flatP (p :: ps)) true))
def diskV (tyF tyB:TypeId):List AV→Heap→Option (AV × Heap)
  | [.map p],h=>(match h.get p with
    | .map es cl=>(match des h es with
      | some D=>(match aloneF D,bornOK cl es,Nat.ble D.length 10000,lenOK D with
        | true,true,true,true=>some (filesV tyF tyB (sortF D) h)
        | _,_,_,_=>none)
      | none=>none)
    | _=>none)
  | _,_=>none

/-! ### births -/
theorem bornIn_iff {b:Nat}:∀ {es:List (AV × AV × Nat)},bornIn b es = true ↔ ∃ e ∈ es,e.2.2 = b
  | []=>by simp [bornIn]
  | e :: es=>by
    simp only [bornIn]
    cases hb:Nat.beq e.2.2 b with
    | true=>have:=Nat.eq_of_beq_eq_true hb;simp [this]
    | false =>
      have:e.2.2 ≠ b:=fun h=>by rw [h,Nat.beq_refl] at hb;simp at hb
      simp [this,bornIn_iff (es:=es)]
theorem bornOK_iff {cl:Nat}:∀ {es:List (AV × AV × Nat)},bornOK cl es = true ↔ (∀ e ∈ es,e.2.2 < cl)∧es.Pairwise fun x y=>x.2.2 ≠ y.2.2
  | []=>by simp [bornOK]
  | e :: es => by
    simp only [bornOK,fJ,List.pairwise_cons]
    cases h1:Nat.blt e.2.2 cl with
    | false => have : ¬ e.2.2 < cl:=fun h=>by rw [← Nat.blt_eq,h1] at h;simp at h
               simp [this]
    | true =>
      have h1':e.2.2 < cl:=by rw [Nat.blt_eq] at h1;exact h1
      cases h2:bornIn e.2.2 es with
      | true =>
        obtain ⟨y,hy,hb⟩:=bornIn_iff.1 h2;simp only [Bool.false_eq_true,false_iff];exact fun h=>h.2.1 y hy hb.symm
      | false =>
        simp only [bornOK_iff (es:=es)];refine ⟨fun h=>⟨⟨h1',h.1⟩,fun y hy hb=>?_,h.2⟩,fun h=>⟨h.1.2,h.2.2⟩⟩;have:=bornIn_iff.2 ⟨y,hy,hb.symm⟩;rw [h2] at this;simp at this
theorem hasN_iff {n:Nat}:∀ {l:List Nat},hasN n l = true ↔ n ∈ l
  | []=>by simp [hasN]
  | m :: l=>by
    simp only [hasN]
    cases hb:Nat.beq n m with
    | true=>have:=Nat.eq_of_beq_eq_true hb;simp [this]
    | false =>
      have:n ≠ m:=fun h=>by rw [h,Nat.beq_refl] at hb;simp at hb
      simp [this,hasN_iff (l:=l)]
theorem leftE_filter (seen:List Nat):∀ es:List (AV × AV × Nat),leftE seen es = es.filter fun e=>!hasN e.2.2 seen
  | []=>rfl
  | e :: es=>by
    simp only [leftE,List.filter_cons]
    cases hasN e.2.2 seen <;> simp [leftE_filter seen es]
theorem leftE_nil (es:List (AV × AV × Nat)):leftE [] es = es:=by rw [leftE_filter];simp [hasN]
theorem leftE_snoc {seen:List Nat} {e:AV × AV × Nat}:∀ {es:List (AV × AV × Nat)},(es.Pairwise fun x y=>x.2.2 ≠ y.2.2)→e ∈ leftE seen es→(leftE seen es).Perm (e :: leftE (seen++[e.2.2]) es)
  | [],_,h=>by simp [leftE] at h
  | x :: es,hp,h=>by
    rw [List.pairwise_cons] at hp;have key:hasN x.2.2 (seen++[e.2.2]) = (hasN x.2.2 seen || decide (x.2.2 = e.2.2)):=by
      rw [Bool.eq_iff_iff,hasN_iff,Bool.or_eq_true,hasN_iff,decide_eq_true_eq];simp
    have same:∀ {l:List (AV × AV × Nat)},(∀ y ∈ l,y.2.2 ≠ e.2.2)→leftE (seen++[e.2.2]) l = leftE seen l:=by
      intro l hl;rw [leftE_filter,leftE_filter];refine List.filter_congr fun y hy=>?_
      have:hasN y.2.2 (seen++[e.2.2]) = hasN y.2.2 seen:=by
        rw [Bool.eq_iff_iff,hasN_iff,hasN_iff];simp [hl y hy]
      rw [this]
    simp only [leftE] at h ⊢;rw [key]
    cases hs:hasN x.2.2 seen with
    | true =>
      rw [hs] at h;simp only [Bool.true_or];exact leftE_snoc hp.2 h
    | false =>
      rw [hs] at h;simp only [Bool.false_or]
      rcases List.mem_cons.1 h with rfl | h
      · have h1:decide (e.2.2 = e.2.2) = true:=by simp
        rw [h1];dsimp only;rw [same fun y hy hb=>hp.1 y hy hb.symm]
      · have hmem:e ∈ es:=by rw [leftE_filter] at h;exact (List.mem_filter.1 h).1
        have h1:decide (x.2.2 = e.2.2) = false:=decide_eq_false (hp.1 e hmem);rw [h1];exact ((leftE_snoc hp.2 h).cons x).trans (.swap _ _ _)
theorem findBorn_at:∀ {es:List (AV × AV × Nat)} {e:AV × AV × Nat} (i:Nat),(es.Pairwise fun x y=>x.2.2 ≠ y.2.2)→e ∈ es→∃ j,findBorn e.2.2 es i = some (i + j)∧nth es j = some e
  | [],_,_,_,h=>by simp at h
  | (k, u,c) :: es,e,i,hp,h=>by
    rw [List.pairwise_cons] at hp;simp only [findBorn]
    rcases List.mem_cons.1 h with rfl | h
    · exact ⟨0,by rw [Nat.beq_refl];rfl,rfl⟩
    · have hb:Nat.beq c e.2.2 = false:=by
        cases hb:Nat.beq c e.2.2 with
        | false=>rfl
        | true=>exact absurd (Nat.eq_of_beq_eq_true hb) (hp.1 e h)
      rw [hb];obtain ⟨j,h1,h2⟩:=findBorn_at (i + 1) hp.2 h;exact ⟨j + 1,by dsimp only;rw [h1];congr 1;omega,h2⟩
theorem lastN_snoc (b:Nat):∀ l:List Nat,lastN (l++[b]) = some b
  | []=>rfl
  | [x]=>rfl
  | x :: y :: l=>by
    have:lastN (x :: y :: l++[b]) = lastN (y :: l++[b]):=rfl;rw [this];exact lastN_snoc b (y :: l)
theorem des_cons {h:Heap} {e:AV × AV × Nat} {es:List (AV × AV × Nat)} {D:List FEnt} (hd:des h (e :: es) = some D):∃ d D',deOf h e = some d∧des h es = some D'∧D = d :: D':=by
  simp only [des] at hd
  split at hd
  · rename_i d l h1 h2;exact ⟨d,l,h1,h2,by simpa using hd.symm⟩
  · simp at hd
theorem des_perm {h:Heap} {es es':List (AV × AV × Nat)} (hp:es.Perm es'):∀ {D:List FEnt},des h es = some D→∃ D',des h es' = some D'∧D.Perm D':=by
  induction hp with
  | nil=>exact fun hd=>⟨_,hd,.refl _⟩
  | cons x _ ih =>
    intro D hd;obtain ⟨d,D1,h1,h2,rfl⟩:=des_cons hd;obtain ⟨D2,h3,h4⟩:=ih h2;exact ⟨d :: D2,by simp only [des,h1,h3],h4.cons d⟩
  | swap x y l =>
    intro D hd;obtain ⟨d,D1,h1,h2,rfl⟩:=des_cons hd;obtain ⟨d',D2,h3,h4,rfl⟩:=des_cons h2;exact ⟨d' :: d :: D2,by simp only [des,h1,h3,h4],.swap _ _ _⟩
  | trans _ _ ih1 ih2 =>
    intro D hd;obtain ⟨D1,h1,h2⟩:=ih1 hd;obtain ⟨D2,h3,h4⟩:=ih2 h1;exact ⟨D2,h3,h2.trans h4⟩

/-! ### clones -/
inductive ClR (ty:TypeId):List FEnt→List (List Nat × AV)→List (Pos × AObj)→Prop
  | nil:ClR ty [] [] []
  | no {n:List Nat} {D:List FEnt} {ps:List (List Nat × AV)} {L:List (Pos × AObj)} (h:ClR ty D ps L):ClR ty ((n,none) :: D) ((n,.nilslice) :: ps) L
  | some {n l:List Nat} {p:Pos} {D:List FEnt} {ps:List (List Nat × AV)} {L:List (Pos × AObj)} (h:ClR ty D ps L):ClR ty ((n,some l) :: D) ((n,cvOf p l) :: ps) ((p,rowOf ty l) :: L)
section
variable {ty:TypeId} {D:List FEnt} {ps:List (List Nat × AV)} {L:List (Pos × AObj)}
theorem ClR.snoc_no (h:ClR ty D ps L) (n:List Nat):ClR ty (D++[(n,none)]) (ps++[(n,.nilslice)]) L:=by
  induction h with
  | nil=>exact .no .nil
  | no _ ih=>exact .no ih
  | some _ ih=>exact .some ih
theorem ClR.snoc_some (h:ClR ty D ps L) (n l:List Nat) (p:Pos):ClR ty (D++[(n,Option.some l)]) (ps++[(n,cvOf p l)]) (L++[(p,rowOf ty l)]):=by
  induction h with
  | nil=>exact .some .nil
  | no _ ih=>exact .no ih
  | some _ ih=>exact .some ih
theorem ClR.length (h:ClR ty D ps L):ps.length = D.length:=by
  induction h with
  | nil=>rfl
  | no _ ih=>simp [ih]
  | some _ ih=>simp [ih]
theorem ClR.names (h:ClR ty D ps L):ps.map Prod.fst = D.map Prod.fst:=by
  induction h with
  | nil=>rfl
  | no _ ih=>simp [ih]
  | some _ ih=>simp [ih]
theorem ClR.ins_no (h:ClR ty D ps L) (n:List Nat):ClR ty (insF (n,none) D) (insF (n,.nilslice) ps) L:=by
  induction h with
  | nil=>exact .no .nil
  | @no m _ _ _ h ih =>
    simp only [insF]
    cases ltN n m with
    | true=>exact .no (.no h)
    | false=>exact .no ih
  | @some m _ _ _ _ _ h ih =>
    simp only [insF]
    cases ltN n m with
    | true=>exact .no (.some h)
    | false=>exact .some ih
theorem ClR.ins_some (h:ClR ty D ps L) (n l:List Nat) (p:Pos):∃ L',L'.Perm ((p,rowOf ty l) :: L)∧ClR ty (insF (n,Option.some l) D) (insF (n,cvOf p l) ps) L':=by
  induction h with
  | nil=>exact ⟨_,.refl _,.some .nil⟩
  | @no m _ _ _ h ih =>
    simp only [insF]
    cases ltN n m with
    | true=>exact ⟨_,.refl _,.some (.no h)⟩
    | false=>obtain ⟨L',h1,h2⟩:=ih;exact ⟨L',h1,.no h2⟩
  | @some m _ _ _ _ _ h ih =>
    simp only [insF]
    cases ltN n m with
    | true=>exact ⟨_,.refl _,.some (.some h)⟩
    | false=>obtain ⟨L',h1,h2⟩:=ih;exact ⟨_,(h1.cons _).trans (.swap _ _ _),.some h2⟩
theorem ClR.sort (h:ClR ty D ps L):∃ L',L'.Perm L∧ClR ty (sortF D) (sortF ps) L':=by
  induction h with
  | nil=>exact ⟨_,.refl _,.nil⟩
  | no _ ih =>
    obtain ⟨L',h1,h2⟩:=ih;exact ⟨L',h1,h2.ins_no _⟩
  | @some n l p _ _ _ _ ih =>
    obtain ⟨L',h1,h2⟩:=ih;obtain ⟨L2,h3,h4⟩:=h2.ins_some n l p;exact ⟨L2,h3.trans (h1.cons _),h4⟩
end
theorem flatP_app:∀ a b:List (List Nat × AV),flatP (a++b) = flatP a++flatP b
  | [],_=>rfl
  | (n,v) :: a,b=>by simp only [List.cons_append,flatP,flatP_app a b]
theorem pairsOf_flatP:∀ l:List (List Nat × AV),pairsOf (flatP l) = some l
  | []=>rfl
  | (n,v) :: l=>by simp only [flatP,pairsOf,pairsOf_flatP l]
end Go.X

/- The function that makes the files of a map: its parts in X,and what they come to. -/
namespace Go.X
open Go
structure DkN where
  tyD:Nat
  tyF:Nat
  tyB:Nat
  nClone:Nat
  nSort:Nat
  nCmp:Nat
section
variable (N:DkN)
def dkA:XCode:=.reg [⟨some (.lo .d0 .d2),none,.ins (.alloc N.tyD [.nilslice])⟩]
def dkB:XCode:=.reg [⟨some (.lo .d0 .d3),none,.ins (.alloc N.tyD [.nilslice])⟩]
def dkR:XCode:=.reg [⟨some (.lo .d0 .d6),none,.ins (.mv (.t (.lo .d0 .d0)))⟩,⟨some (.lo .d0 .d7),none,.ins (.range false (.t (.lo .d0 .d6)))⟩]
def dkX:List XOp:=[⟨some (.lo .d0 .d9),none,.ins (.extr (.t (.lo .d0 .d8)) 0)⟩]
def dkEntry:List XOp:=[⟨some (.lo .d0 .d10),none,.ins (.entry (.t (.lo .d0 .d7)))⟩,⟨some (.lo .d0 .d11),none,.ins (.extr (.t (.lo .d0 .d10)) 0)⟩,⟨some (.lo .d0 .d12),none,.ins (.extr (.t (.lo .d0 .d10)) 1)⟩,
  ⟨some (.lo .d0 .d4),none,.ins (.mv (.t (.lo .d0 .d11)))⟩,⟨some (.lo .d0 .d5),none,.ins (.mv (.t (.lo .d0 .d12)))⟩]
def dkQ1:List XOp:=[⟨some (.lo .d0 .d13),none,.ins (.faddr 0 (.t (.lo .d0 .d3)))⟩,⟨some (.lo .d0 .d14),none,.ins (.load none (.t (.lo .d0 .d13)))⟩,⟨some (.lo .d0 .d15),none,.ins (.mv (.t (.lo .d0 .d4)))⟩,⟨some (.lo .d1 .d0),none,.ins (.mv (.t (.lo .d0 .d5)))⟩]
def dkBuild:XOp:=⟨some (.lo .d1 .d2),none,.ins (.build [.str [],.nilslice] [(0,1,.t (.lo .d0 .d15)),(1,1,.t (.lo .d1 .d1))])⟩
def dkSl:XOp:=⟨some (.lo .d1 .d3),none,.ins (.bslice N.tyF 2 1 [.str [],.nilslice] [(0,2,.t (.lo .d1 .d2))])⟩
def dkAdd:XOp:=⟨some (.lo .d1 .d5),none,.ins (.faddr 0 (.t (.lo .d0 .d3)))⟩
def dkBody:XCode:=.seq (.reg dkEntry) (.phase dkQ1 dkQ1 ⟨some (.lo .d1 .d1),none,.call N.nClone [.t (.lo .d1 .d0)]⟩
  (.phase [dkBuild,dkSl N] [⟨some (.lo .d0 .d13),none,.ins (.faddr 0 (.t (.lo .d0 .d3)))⟩,⟨some (.lo .d0 .d14),none,.ins (.load none (.t (.lo .d0 .d13)))⟩,⟨some (.lo .d0 .d15),none,.ins (.mv (.t (.lo .d0 .d4)))⟩,dkBuild,dkSl N]
    ⟨some (.lo .d1 .d4),none,.ins (.append N.tyF 2 40 (.t (.lo .d0 .d14)) (.t (.lo .d1 .d3)))⟩
    (.phase [dkAdd] [dkAdd] ⟨none,none,.ins (.store 1 (.t (.lo .d1 .d5)) (.t (.lo .d1 .d4)))⟩ (.last [] []))))
def dkT:XCode:=.seq (.reg [⟨some (.lo .d1 .d6),none,.ins (.faddr 0 (.t (.lo .d0 .d3)))⟩,⟨some (.lo .d1 .d7),none,.ins (.load none (.t (.lo .d1 .d6)))⟩,⟨some (.lo .d1 .d8),none,.call N.nSort [.t (.lo .d1 .d7),.c (.func N.nCmp [] [])]⟩])
  (.seq (.reg [⟨some (.lo .d1 .d9),none,.ins (.load (some 1) (.t (.lo .d0 .d3)))⟩,⟨none,none,.ins (.store 1 (.t (.lo .d0 .d2)) (.t (.lo .d1 .d9)))⟩]) .ret)
def dkClone:XCode:=.seq (.reg [⟨some (.lo .d0 .d2),none,.ins (.mv (.c .nilslice))⟩]) (.seq (.seq (.reg [⟨some (.lo .d0 .d3),none,.ins (.mv (.t (.lo .d0 .d0)))⟩,⟨some (.lo .d0 .d4),none,.ins (.same false .slice (.t (.lo .d0 .d3)) (.c .nilslice))⟩])
  (.cond (.t (.lo .d0 .d4)) (.seq (.reg [⟨some (.lo .d0 .d2),none,.ins (.mv (.c .nilslice))⟩]) .ret) .skip))
  (.seq (.reg [⟨some (.lo .d0 .d5),none,.ins (.bslice N.tyB 1 0 [] [])⟩,⟨some (.lo .d0 .d6),none,.ins (.mv (.t (.lo .d0 .d0)))⟩,⟨some (.lo .d0 .d7),none,.ins (.append N.tyB 1 1 (.t (.lo .d0 .d5)) (.t (.lo .d0 .d6)))⟩,⟨some (.lo .d0 .d2),none,.ins (.mv (.t (.lo .d0 .d7)))⟩]) .ret))
end
section
variable {E:XEnv} {N:DkN} {h:Heap} {L:List (Pos × AObj)}
theorem CallT.con {f:FuncId} {F:List AV→Heap→Option (AV × Heap)} {args:List AV} {v:AV} {h':Heap} (hx:E.fn f = some (.con F)) (hv:F args h = some (v,h')):CallT E (.func f [] []) args h fun r h2=>r = v∧h2 = h':=by
  refine ⟨v,h',⟨rfl,rfl⟩,1,fun n hn k kp=>?_⟩;obtain ⟨m,rfl⟩:∃ m,n = m + 1:=⟨n - 1,by omega⟩;have e:callNF E (m + 1) (.func f [] []) args .off h k kp = Option.rec (motive:=fun _=>R) .bad (fun x=>appF [] args fun a=>appF a [] fun a=>enterF E x (callNF E m) m a .off h k kp) (E.fn f):=rfl;rw [e,hx];show appF [] args (fun a=>appF a [] fun a=>enterF E (.con F) (callNF E m) m a .off h k kp) = _;rw [appF_eq,appF_eq];show conF F ([]++args++[]) h (fun v h=>k v .off h) = _;simp only [List.nil_append,List.append_nil,conF,hv]
theorem clone_nil (C:E.fn N.nClone = some (.code (dkClone N) [.tmp (.lo .d0 .d2)])):CallT E (.func N.nClone [] []) [.nilslice] h fun r h'=>r = .nilslice∧h' = h:=by
  refine CallT.body C ?_;unfold BodyT dkClone;refine cS (cR ?_);refine oI rfl (oZ ?_);refine cS (cS (cR ?_));refine oI rfl (oI rfl (oZ ?_));refine ⟨true,rfl,fun _=>?_,fun e=>by simp at e⟩;refine cS (cR ?_);refine oI rfl (oZ (cT ?_));exact ⟨trivial,_,rfl,rfl,rfl⟩
def IsSl:AV→Prop
  | .slice .. | .imm ..=>True
  | _=>False
theorem clone_some (C:E.fn N.nClone = some (.code (dkClone N) [.tmp (.lo .d0 .d2)])) (H:Has h L) {u:AV} {l:List Nat} (hu:IsSl u) (hs:∀ h',Has h' L→srcOf 1 u h' = some (l.length,avBytes l)) (hl:l.length ≤ 100000000) :
    CallT E (.func N.nClone [] []) [u] h fun r h'=>∃ p,r = cvOf p l∧Has h' ((p,rowOf N.tyB l) :: L):=by
  refine CallT.body C ?_;unfold BodyT dkClone;refine cS (cR ?_);refine oI rfl (oZ ?_);refine cS (cS (cR ?_));refine oI rfl ?_;refine oI (v:=.bool false) (h':=h) (by cases u <;> first | exact hu.elim | rfl) (oZ ?_);refine ⟨false,rfl,fun e=>by simp at e,fun _=>cK ?_⟩;refine cS (cR ?_);refine wp_bslice (fun k=>rfl) H fun q h' H'=>?_
  refine oI rfl ?_;refine wp_app (L:=L) (v:=.slice q 0 0 (.ex 0)) (l:=[]) (m:=l) (.inr ⟨H'.tail,_,q,0,_,_,_,rfl,H',m0,by simp,rfl⟩) (hs h' H'.tail) (by simpa using hl) rfl rfl fun v' h2 hg hg1 h0=>?_
  refine oI rfl (oZ (cT ?_));refine ⟨trivial,_,rfl,?_⟩
  cases l with
  | nil =>
    obtain ⟨rfl,rfl⟩:=h0 rfl;exact ⟨q,rfl,H'⟩
  | cons b l =>
    obtain ⟨p,hp,Hp⟩:=hg1 (.inl (by simp));refine ⟨p,hp,Hp⟩
theorem sub_len {α:Type} {l r:List α} {o n:Nat} (h:sub l o n = some r):r.length = n:=by
  obtain ⟨h1,rfl⟩:=sub_some h;simp;omega
theorem takeE_len {α:Type} {l r:List α} {n:Nat} (h:takeE n l = some r):r.length = n:=by
  obtain ⟨h1,rfl⟩:=takeE_some h;simp;omega
theorem dk_bslice {d:Slot} {l:List XOp} {tm:Tm} {h:Heap} {ty:TypeId} {esz len:Nat} {zeros cs:List AV} {parts:List (Nat × Nat × XO)} {q:Pos} (hf:∀ k:List AV→Out AV,fillK .bad parts tm zeros k = k cs) (hg:tm.get d = some (.slice q 0 len (.ex len))) (hq:h.get q = .row ty cs false) (hl:wpK l tm h) :
    wpK (⟨some d,none,.ins (.bslice ty esz len zeros parts)⟩ :: l) tm h:=by
  refine ⟨fun k=>?_,hl⟩;have hs:(XI.bslice ty esz len zeros parts).sem tm h = .ok (.slice h.next 0 len (.ex len)) (h.push (.row ty cs false)):=by simp only [XI.sem,bsliceS,hf,Heap.pushK]
  have e1:chkF ⟨some d,none,.ins (.bslice ty esz len zeros parts)⟩ tm h k = semF (.bslice ty esz len zeros parts) tm h fun v h'=>getF tm d fun v'=>sameNew v h' v' h k:=rfl
  rw [e1,semF_eq,hs,viaOut_ok,getF_eq,hg,optR_some];have e2:sameNew (.slice h.next 0 len (.ex len)) (h.push (.row ty cs false)) (.slice q 0 len (.ex len)) h k = (match beqMod (.slice h.next 0 len (.ex len)) (.slice q 0 len (.ex len)) with | true=>yes? (beqObj ((h.push (.row ty cs false)).get h.next) (h.get q)) k .bad | false=>.bad):=by
    unfold sameNew AV.pos
    cases beqMod (.slice h.next 0 len (.ex len)) (.slice q 0 len (.ex len)) <;> rfl
  have e3:beqMod (.slice h.next 0 len (.ex len)) (.slice q 0 len (.ex len)) = true:=by simp [beqMod,beqCap]
  have e4:beqObj (.row ty cs false) (.row ty cs false) = true:=by simp [beqObj,AV.beqs_refl,beqB]
  rw [e2,e3,Heap.get_push_same,hq,e4];rfl
/-! ### the row of files -/
def FilesAt (N:DkN) (fv:AV) (ps:List (List Nat × AV)) (fl:List (Pos × AObj)):Prop:=(fv = .nilslice∧ps = []∧fl = [])∨(ps ≠ []∧∃ p,fv = .slice p 0 ps.length (.up 2)∧fl = [(p,.row N.tyF (flatP ps) true)])
theorem wp_file {d:Option Slot} {ops:List XOp} {Q:Tm→Heap→Prop} {tm:Tm} {x y:XO} {fv cv:AV} {n:List Nat} {ps:List (List Nat × AV)} {fl:List (Pos × AObj)} {pn:Pos}
    (hf:FilesAt N fv ps fl) (H:Has h ((pn,.row N.tyF [.str n,cv] false) :: (fl++L))) (hn:ps.length ≤ 1000000) (hx:x.val tm = some fv) (hy:y.val tm = some (.slice pn 0 1 (.ex 1)))
    (hq:∀ fv' h' fl',FilesAt N fv' (ps++[(n,cv)]) fl'→Has h' (fl'++L)→wpOps E ops Q (putT d fv' tm) h'):wpOps E (⟨d,none,.ins (.append N.tyF 2 40 x y)⟩ :: ops) Q tm h:=by
  have hgp:h.get pn = .row N.tyF [.str n,cv] false:=H.mem (x:=(pn,_)) m0;have hsrc:srcOf 2 (.slice pn 0 1 (.ex 1)) h = some (1,[.str n,cv]):=by simp only [srcOf,hgp];rfl
  have hsem:(XI.append N.tyF 2 40 x y).sem tm h = appendTo N.tyF 2 40 fv 1 [.str n,cv] h:=by simp only [XI.sem,appendS,withO_run hx,withO_run hy,hsrc]
  rcases hf with ⟨rfl,rfl,rfl⟩ | ⟨hne,p,rfl,rfl⟩
  · refine oI (v:=.slice h.next 0 1 (.up 2)) (h':=h.push (.row N.tyF [.str n,cv] true)) ?_ (hq _ _ _ (.inr ⟨by simp,h.next,rfl,rfl⟩) (H.tail.push _));rw [hsem];rfl
  · have hgf:h.get p = .row N.tyF (flatP ps) true:=H.mem (x:=(p,_)) (by simp);have hd:dropE (0 + (ps.length + 1) * 2) (flatP ps) = none:=dropE_gt (by rw [flatP_length];omega);have hsb:sub (flatP ps) 0 (ps.length * 2) = some (flatP ps):=by rw [sub_of (by rw [flatP_length];omega),List.drop_zero,List.take_of_length_le (by rw [flatP_length];omega)]
    have hs:small (ps.length + 1) 40 = true:=by unfold small;exact Nat.ble_eq_true_of_le (by omega)
    have hb1:Nat.beq N.tyF N.tyF = true:=Nat.beq_refl _;have hset:Has (h.set p .dead) L:=(H.tail.set (k:=0) rfl .dead).tail;have happ:flatP ps++[.str n,cv] = flatP (ps++[(n,cv)]):=by rw [flatP_app];rfl
    have hp:=hset.push (.row N.tyF (flatP (ps++[(n,cv)])) true);refine oI (h':=(h.set p .dead).push (.row N.tyF (flatP (ps++[(n,cv)])) true)) (v:=.slice (h.set p .dead).next 0 (ps.length + 1) (.up 2)) ?_ (hq _ _ _ (.inr ⟨by simp,_,by simp,rfl⟩) hp);rw [hsem];have hz:Nat.beq 2 2 = true:=rfl;have h0:Nat.beq 40 0 = false:=rfl;simp only [appendTo,hgf,hz,hd,hs,h0,hb1,hsb,Heap.setK,Heap.pushK,happ]
end
end Go.X

/- One round of the range over the map. -/
namespace Go.X
open Go
/-! ### all that lay before -/
def posAt:Nat→Pos
  | 0=>.first
  | n + 1=>(posAt n).succ
theorem posAt_toNat:∀ n,(posAt n).toNat = n
  | 0=>rfl
  | n + 1=>by rw [posAt,Pos.toNat_succ,posAt_toNat n]
def oldL (h:Heap):List (Pos × AObj):=(List.range h.next.toNat).map fun i=>(posAt i,h.get (posAt i))
theorem oldL_mem {h:Heap} {p:Pos} (hp:p.toNat < h.next.toNat):(p,h.get p) ∈ oldL h:=by
  have:posAt p.toNat = p:=Pos.toNat_inj (posAt_toNat _);exact List.mem_map.2 ⟨p.toNat,List.mem_range.2 hp,by rw [this]⟩
theorem oldL_has (h:Heap):Has h (oldL h):=by
  refine ⟨fun x hx=>?_,?_⟩
  · obtain ⟨i,hi,rfl⟩:=List.mem_map.1 hx;exact ⟨rfl,by rw [posAt_toNat];exact List.mem_range.1 hi⟩
  · refine List.pairwise_map.2 (List.Pairwise.imp_of_mem (fun {a b} _ _ hab e=>?_) List.nodup_range);have e:posAt a = posAt b:=e;exact hab (by rw [← posAt_toNat a,← posAt_toNat b,e])
section
variable {h h0:Heap} {L:List (Pos × AObj)}
theorem Has.mv {A B:List (Pos × AObj)} {x:Pos × AObj} (H:Has h (A++x :: B)):Has h (x :: (A++B)):=H.perm List.perm_middle
theorem Has.vm {A B:List (Pos × AObj)} {x:Pos × AObj} (H:Has h (x :: (A++B))):Has h (A++x :: B):=H.perm List.perm_middle.symm
theorem srcOf_old (hcl:∀ p,h0.next.toNat ≤ p.toNat→h0.get p = .dead) {u:AV} {m:Nat} {cs:List AV} (hu:IsSl u) (hs:srcOf 1 u h0 = some (m,cs)):cs.length = m∧∀ h',Has h' (oldL h0)→srcOf 1 u h' = some (m,cs):=by
  cases u <;> first | exact hu.elim | skip
  case slice p o len cap =>
    cases len with
    | zero=>simp only [srcOf,sJ,Prod.mk.injEq] at hs;obtain ⟨rfl,rfl⟩:=hs;exact ⟨rfl,fun _ _=>rfl⟩
    | succ len =>
      simp only [srcOf] at hs
      cases hg:h0.get p with
      | row ty rs sp =>
        rw [hg] at hs;simp only at hs;have hp:p.toNat < h0.next.toNat:=Nat.lt_of_not_le fun hle=>by rw [hcl p hle] at hg;simp at hg
        cases hsb:sub rs o ((len + 1) * 1) with
        | none=>rw [hsb] at hs;simp at hs
        | some l =>
          rw [hsb] at hs;simp only [sJ,Prod.mk.injEq] at hs;obtain ⟨rfl,rfl⟩:=hs;refine ⟨?_,fun h' H'=>?_⟩
          · have:=sub_len hsb;omega
          · have:=H'.mem (oldL_mem hp);simp only at this;simp only [srcOf,this,hg,hsb]
      | _=>rw [hg] at hs;simp at hs
  case imm cs' len fu =>
    simp only [srcOf] at hs
    cases ht:takeE (len * 1) cs' with
    | none=>rw [ht] at hs;simp at hs
    | some l =>
      rw [ht] at hs;simp only [sJ,Prod.mk.injEq] at hs;obtain ⟨rfl,rfl⟩:=hs;exact ⟨by have:=takeE_len ht;omega,fun h' _=>by simp only [srcOf,ht]⟩
def CntOK (h0:Heap) (u:AV):Option (List Nat)→Prop
  | none=>u = .nilslice
  | some l=>IsSl u∧∀ h',Has h' (oldL h0)→srcOf 1 u h' = some (l.length,avBytes l)
theorem deOf_ok (hcl:∀ p,h0.next.toNat ≤ p.toNat→h0.get p = .dead) {e:AV × AV × Nat} {d:FEnt} (hd:deOf h0 e = some d):e.1 = .str d.1∧CntOK h0 e.2.1 d.2:=by
  obtain ⟨k,u,b⟩:=e;simp only [deOf] at hd
  split at hd
  case h_2=>simp at hd
  rename_i n c hc
  simp only [sJ] at hd;subst hd;refine ⟨rfl,?_⟩;have key:∀ {u:AV},IsSl u→(match srcOf 1 u h0 with | some (_,cs)=>(match bytesX cs with | some l=>some (some l) | none=>none) | none=>none) = some c→CntOK h0 u c:=by
    intro u hu hc
    cases hs:srcOf 1 u h0 with
    | none=>rw [hs] at hc;simp at hc
    | some mc =>
      obtain ⟨m,cs⟩:=mc;rw [hs] at hc;simp only at hc
      cases hb:bytesX cs with
      | none=>rw [hb] at hc;simp at hc
      | some l =>
        rw [hb] at hc;simp only [sJ] at hc;subst hc;have hcs:=bytesX_eq hb;subst hcs;obtain ⟨h1,h2⟩:=srcOf_old hcl hu hs;rw [avB_len] at h1;subst h1;exact ⟨hu,h2⟩
  cases u
  case nilslice=>simp only [contentOf,sJ] at hc;subst hc;rfl
  case slice p o len cap=>exact key (u:=.slice p o len cap) trivial hc
  case imm cs len fu=>exact key (u:=.imm cs len fu) trivial hc
  all_goals simp [contentOf] at hc
end
section
variable {E:XEnv} {N:DkN} {h h0:Heap} {tm:Tm}
def dkHas (N:DkN) (h0 h:Heap) (q it r p:Pos) (fv:AV) (cl:Nat) (seen:List Nat) (fl Lc:List (Pos × AObj)):Prop :=
  Has h (fl++(q,.row N.tyD [fv] false) :: (it,.mIter (some p) cl seen cl) :: (r,.row N.tyD [.nilslice] false) :: (Lc++oldL h0))
def dkTm (tm:Tm) (q it r:Pos):Prop:=tm.get (.lo .d0 .d2) = some (.ptr r 0)∧tm.get (.lo .d0 .d3) = some (.ptr q 0)∧tm.get (.lo .d0 .d7) = some (.ptr it 0)
theorem dk_round (C:E.fn N.nClone = some (.code (dkClone N) [.tmp (.lo .d0 .d2)])) {q it r p:Pos} {fv:AV} {cl b:Nat} {seen:List Nat} {fl Lc:List (Pos × AObj)} {es:List (AV × AV × Nat)} {n:List Nat} {c:Option (List Nat)} {k u:AV}
    {D:List FEnt} {ps:List (List Nat × AV)} (hT:dkTm tm q it r) (H:dkHas N h0 h q it r p fv cl (seen++[b]) fl Lc) (hf:FilesAt N fv ps fl) (hD:ClR N.tyB D ps Lc) (hn:ps.length ≤ 1000000)
    (hp:(p,AObj.map es cl) ∈ oldL h0) (hes:es.Pairwise fun x y=>x.2.2 ≠ y.2.2) (hm:(k,u,b) ∈ es) (hk:k = .str n) (hc:CntOK h0 u c) (hlen:∀ l,c = some l→l.length ≤ 1000000)
    {QE:XExit→Tm→Heap→Prop} (hQ:∀ tm' h' fv' fl' Lc' ps',dkTm tm' q it r→FilesAt N fv' ps' fl'→ClR N.tyB (D++[(n,c)]) ps' Lc'→dkHas N h0 h' q it r p fv' cl (seen++[b]) fl' Lc'→QE .normal tm' h'):wpC E (dkBody N) QE tm h:=by
  subst hk;obtain ⟨t2,t3,t7⟩:=hT;obtain ⟨s,rfl⟩:=sets3 t2 t3 t7;unfold dkHas at H;have hit:h.get it = .mIter (some p) cl (seen++[b]) cl:=H.mem (x:=(it,_)) (by simp);have hgp:h.get p = .map es cl:=H.mem (x:=(p,_)) (by simp [hp]);obtain ⟨j,hj1,hj2⟩:=findBorn_at 0 hes hm;simp only [Nat.zero_add] at hj1;have hent:(XI.entry (.t (.lo .d0 .d7))).sem (((s.set (.lo .d0 .d2) (.ptr r 0)).set (.lo .d0 .d3) (.ptr q 0)).set (.lo .d0 .d7) (.ptr it 0)) h = .ok (.tuple [.str n,u]) h:=by
    have e1:(XO.t (.lo .d0 .d7)).val (((s.set (.lo .d0 .d2) (.ptr r 0)).set (.lo .d0 .d3) (.ptr q 0)).set (.lo .d0 .d7) (.ptr it 0)) = some (.ptr it 0):=rfl;have e2:Nat.beq cl cl = true:=Nat.beq_refl _;simp only [XI.sem,entryS,withO_run e1,entryAt,hit,hgp,lastN_snoc,hj1,hj2,e2]
  unfold dkBody;refine cS (cR ?_);unfold dkEntry;refine oI hent (oI rfl (oI rfl (oI rfl (oI rfl (oZ ?_)))));have hq:h.get q = .row N.tyD [fv] false:=H.mem (x:=(q,_)) (by simp);have hpart:∀ h:Heap,partOf [fv] (0 + 0) none h = .ok fv h:=fun h=>by
    have:fv ≠ .any:=by
      rcases hf with ⟨rfl,_⟩ | ⟨_,_,rfl,_⟩ <;> simp
    cases fv <;> first | rfl | exact absurd rfl this
  refine wpC_phase rfl ?_;unfold dkQ1;refine oI rfl (wp_load rfl hq hpart ?_);refine oI rfl (oI rfl (oZ ⟨?_,?_⟩))
  · refine kI rfl rfl rfl (wpK_load rfl hq hpart rfl ?_);exact kI rfl rfl rfl (kI rfl rfl rfl kZ)
  -- the clone
  have hclone:CallT E (.func N.nClone [] []) [u] h fun cv h'=>∃ Lx,(∀ {D ps Lc},ClR N.tyB D ps Lc→ClR N.tyB (D++[(n,c)]) (ps++[(n,cv)]) (Lc++Lx)) ∧
      Has h' (Lx++(fl++(q,.row N.tyD [fv] false) :: (it,.mIter (some p) cl (seen++[b]) cl) :: (r,.row N.tyD [.nilslice] false) :: (Lc++oldL h0))):=by
    cases c with
    | none =>
      have hu:u = .nilslice:=hc;subst hu;refine CallT.mono ?_ (clone_nil C);rintro _ _ ⟨rfl,rfl⟩;exact ⟨[],fun hD=>by rw [List.append_nil];exact hD.snoc_no n,H⟩
    | some l =>
      obtain ⟨hc1,hc2⟩:=hc;refine CallT.mono ?_ (clone_some C H hc1 (fun h' H'=>hc2 h' (H'.sub ?_)) (by have:=hlen l rfl;omega))
      · rintro cv h' ⟨pc,rfl,H'⟩;exact ⟨[(pc,rowOf N.tyB l)],fun hD=>hD.snoc_some n l pc,H'⟩
      · have e:fl++(q,.row N.tyD [fv] false) :: (it,.mIter (some p) cl (seen++[b]) cl) :: (r,.row N.tyD [.nilslice] false) :: (Lc++oldL h0) = (fl++(q,AObj.row N.tyD [fv] false) :: (it,.mIter (some p) cl (seen++[b]) cl) :: (r,.row N.tyD [.nilslice] false) :: Lc)++oldL h0:=by simp
        rw [e];exact List.sublist_append_right _ _
  refine wp_call rfl hclone ?_;rintro cv h1 ⟨Lx,hLx,H1⟩;refine oZ ?_;have hcell:∃ cs,AV.cellsO cv = some cs∧cs = [cv]∧cv ≠ .any:=by
    cases c with
    | none=>have:=hLx ClR.nil;cases this;exact ⟨_,rfl,rfl,by simp⟩
    | some l =>
      have:=hLx ClR.nil
      cases this
      cases l <;> exact ⟨_,rfl,rfl,by simp [cvOf]⟩
  obtain ⟨cs,hcell,rfl,hany⟩:=hcell
  -- the element
  refine wpC_phase rfl ?_;unfold dkBuild dkSl;have hfill:∀ (k:List AV→Out AV) {tm:Tm},tm.get (.lo .d0 .d15) = some (.str n)→tm.get (.lo .d1 .d1) = some cv→fillK .bad [(0,1,.t (.lo .d0 .d15)),(1,1,.t (.lo .d1 .d1))] tm [.str [],.nilslice] k = k [.str n,cv]:=by
    intro k tm h15 h11;have e1:(XO.t (.lo .d0 .d15)).val tm = some (.str n):=h15;have e2:(XO.t (.lo .d1 .d1)).val tm = some cv:=h11;simp only [fillK,withO_run e1,withO_run e2,hcell];rfl
  have hfill2:∀ (k:List AV→Out AV) {tm:Tm},tm.get (.lo .d1 .d2) = some (.agg [.str n,cv])→fillK .bad [(0,2,.t (.lo .d1 .d2))] tm [.str [],.nilslice] k = k [.str n,cv]:=by
    intro k tm h12;have e1:(XO.t (.lo .d1 .d2)).val tm = some (.agg [.str n,cv]):=h12;simp only [fillK,withO_run e1];rfl
  refine oI (v:=.agg [.str n,cv]) (h':=h1) (by simp only [XI.sem,buildS];exact hfill _ rfl rfl) ?_;refine wp_bslice (fun k=>hfill2 k rfl) H1 fun pn h2 H2=>?_
  have hq2:h2.get q = .row N.tyD [fv] false:=H2.mem (x:=(q,_)) (by simp);have hpn2:h2.get pn = .row N.tyF [.str n,cv] false:=H2.mem (x:=(pn,_)) (by simp);refine oZ ⟨?_,?_⟩
  · refine kI rfl rfl rfl (wpK_load rfl hq2 hpart rfl (kI rfl rfl rfl ?_));refine kI (v:=.agg [.str n,cv]) (h':=h2) (by simp only [XI.sem,buildS];exact hfill _ rfl rfl) rfl rfl ?_;exact dk_bslice (fun k=>hfill2 k rfl) rfl hpn2 kZ
  have H3:Has h2 ((pn,.row N.tyF [.str n,cv] false) :: (fl++(Lx++(q,.row N.tyD [fv] false) :: (it,.mIter (some p) cl (seen++[b]) cl) :: (r,.row N.tyD [.nilslice] false) :: (Lc++oldL h0)))):=by
    refine H2.perm (List.Perm.cons _ ?_);rw [← List.append_assoc,← List.append_assoc];exact List.Perm.append_right _ List.perm_append_comm
  refine wp_file hf H3 hn rfl rfl fun fv' h3 fl' hf' H4=>oZ ?_
  -- stored
  have H5:Has h3 ((q,.row N.tyD [fv] false) :: (fl'++(it,.mIter (some p) cl (seen++[b]) cl) :: (r,.row N.tyD [.nilslice] false) :: ((Lc++Lx)++oldL h0))):=by
    refine H4.perm ?_;refine (List.Perm.append_left fl' (List.perm_middle (l₁:=Lx))).trans (List.perm_middle.trans (List.Perm.cons _ (List.Perm.append_left _ ?_)));refine (List.perm_middle (l₁:=Lx)).trans (List.Perm.cons _ ((List.perm_middle (l₁:=Lx)).trans (List.Perm.cons _ ?_)));rw [← List.append_assoc];exact List.Perm.append_right _ List.perm_append_comm
  have hfc:AV.cellsO fv' = some [fv']:=by
    rcases hf' with ⟨rfl,_⟩ | ⟨_,_,rfl,_⟩ <;> rfl
  refine wpC_phase rfl ?_;unfold dkAdd;refine oI rfl (oZ ⟨kI rfl rfl rfl kZ,?_⟩);refine wp_store (k:=0) rfl rfl hfc rfl H5 rfl (fun kk=>rfl) fun h4 H6=>oZ ?_
  exact cL rfl (oZ ⟨kZ,hQ _ _ fv' fl' (Lc++Lx) _ ⟨rfl,rfl,rfl⟩ hf' (hLx hD) (Has.vm H6)⟩)
end
end Go.X

/- The range over the map,and the whole function: what it comes to,whichever way it goes. -/
namespace Go.X
open Go
section
variable {P:Program} {E:XEnv} {N:DkN} {h h0:Heap} {tm:Tm}
structure DkIs (P:Program) (N:DkN) (f:FuncId):Prop where
  is:∃ fn a b r bd t ops o x xop i,P.funcs[f]? = some fn∧fn.name ≠ "runtime.NumGoroutine" ∧ fn.ntmps = 26 ∧
    fn.body = some (.seq a (.seq b (.seq (.seq r (.block 0 (.loop (.seq (.region i ops false) (.seq (.cond x .skip (.exit 0)) (.block 1 bd)))))) t))) ∧
    ops[0]? = some o∧o.op = .next xop false∧o.guard = none∧o.dst = some 8∧opnd xop = some (.t (.lo .d0 .d7))∧opnd x = some (.t (.lo .d0 .d9)) ∧
    cop P 26 false a = dkA N∧cop P 26 false b = dkB N∧cop P 26 false r = dkR∧cop P 26 false (.block 1 bd) = .block 1 (dkBody N) ∧
    (ops.toList.drop 1).map (copOper P 26 false ops) = dkX∧cop P 26 false t = dkT N∧fn.results.toList.mapM (copRes P) = some [.cell (.lo .d0 .d2) (some 1)]
def dkInv (N:DkN) (h0:Heap) (q it r p:Pos) (es:List (AV × AV × Nat)) (cl:Nat) (D0:List FEnt) (seen:List Nat) (tm:Tm) (h:Heap):Prop :=
  dkTm tm q it r∧∃ D Dl ps fv fl Lc,des h0 (leftE seen es) = some Dl∧(D++Dl).Perm D0∧FilesAt N fv ps fl∧ClR N.tyB D ps Lc∧dkHas N h0 h q it r p fv cl seen fl Lc
theorem lenOK_mem:∀ {D:List FEnt},lenOK D = true→∀ d ∈ D,∀ l,d.2 = some l→l.length ≤ 1000000
  | [],_,d,hd=>by simp at hd
  | (n,none) :: D,h,d,hd=>by
    rcases List.mem_cons.1 hd with rfl | hd
    · intro l e;simp at e
    · exact lenOK_mem (D:=D) (by simpa only [lenOK] using h) d hd
  | (n,some b) :: D,h,d,hd=>by
    simp only [lenOK] at h
    cases hb:Nat.ble b.length 1000000 with
    | false=>rw [hb] at h;simp at h
    | true =>
      rw [hb] at h
      rcases List.mem_cons.1 hd with rfl | hd
      · intro l e;simp only [sJ] at e;subst e;exact Nat.le_of_ble_eq_true hb
      · exact lenOK_mem (D:=D) h d hd
variable {q it r p:Pos} {es:List (AV × AV × Nat)} {cl:Nat} {D0:List FEnt}
theorem dk_loop (hmix:P.follows .mixedOrders = true) (hE:EnvOK P E) (C:E.fn N.nClone = some (.code (dkClone N) [.tmp (.lo .d0 .d2)])) (hcl:∀ p,h0.next.toNat ≤ p.toNat→h0.get p = .dead)
    (hp:(p,AObj.map es cl) ∈ oldL h0) (hb:∀ e ∈ es,e.2.2 < cl) (hes:es.Pairwise fun x y=>x.2.2 ≠ y.2.2) (hlen:D0.length ≤ 10000) (hlk:lenOK D0 = true)
    {ops:Array Oper} {o:Oper} {x xop:Operand} {i:Nat} {bd:Code} (o0:ops[0]? = some o) (o1:o.op = .next xop false) (o2:o.guard = none) (o3:o.dst = some 8) (o4:opnd xop = some (.t (.lo .d0 .d7))) (o5:opnd x = some (.t (.lo .d0 .d9)))
    (o6:(ops.toList.drop 1).map (copOper P 26 false ops) = dkX) (o7:cop P 26 false (.block 1 bd) = .block 1 (dkBody N)) :
    ∀ (k:Nat) (seen:List Nat) (tm:Tm) (h:Heap),(leftE seen es).length = k→dkInv N h0 q it r p es cl D0 seen tm h →
      MayL P 26 (.seq (.region i ops false) (.seq (.cond x .skip (.exit 0)) (.block 1 bd))) (fun e tm' h'=>e = .exit 0∧∃ seen',leftE seen' es = []∧dkInv N h0 q it r p es cl D0 seen' tm' h') tm h:=by
  intro k
  induction k with
  | zero =>
    intro seen tm h hk hI;have hnil:leftE seen es = []:=List.eq_nil_of_length_eq_zero hk;obtain ⟨hT,D,Dl,ps,fv,fl,Lc,i1,i2,i3,i4,i5⟩:=hI;obtain ⟨t2,t3,t7⟩:=hT;obtain ⟨s,rfl⟩:=sets3 t2 t3 t7;have hit:h.get it = .mIter (some p) cl seen cl:=Has.mem (x:=(it,_)) i5 (by simp);have hgp:h.get p = .map es cl:=Has.mem (x:=(p,_)) i5 (by simp [hp]);refine May_round (May_seq (May_next hmix hE o0 o1 o2 (by rw [o3];rintro y ⟨⟩;decide) o4 rfl hit hgp (fun e he=>⟨hb e he,hb e he⟩) (fun _=>?_) fun k u b hmem=>by rw [hnil] at hmem;simp at hmem));rw [o6,o3];refine ops_of ?_;unfold dkX;refine oI (v:=.bool false) (h':=h) rfl (oZ ?_);refine May_seq (May_cond (b:=false) o5 rfl (May_exit ⟨rfl,seen,hnil,⟨rfl,rfl,rfl⟩,D,Dl,ps,fv,fl,Lc,i1,i2,i3,i4,i5⟩))
  | succ k ih =>
    intro seen tm h hk hI;obtain ⟨hT,D,Dl,ps,fv,fl,Lc,i1,i2,i3,i4,i5⟩:=hI;obtain ⟨t2,t3,t7⟩:=hT;obtain ⟨s,rfl⟩:=sets3 t2 t3 t7;have hit:h.get it = .mIter (some p) cl seen cl:=Has.mem (x:=(it,_)) i5 (by simp);have hgp:h.get p = .map es cl:=Has.mem (x:=(p,_)) i5 (by simp [hp]);refine May_round (May_seq (May_next hmix hE o0 o1 o2 (by rw [o3];rintro y ⟨⟩;decide) o4 rfl hit hgp (fun e he=>⟨hb e he,hb e he⟩) (fun hnil=>by rw [hnil] at hk;simp at hk) fun k' u b hmem=>?_));rw [o6,o3];refine ops_of ?_;unfold dkX;refine oI (v:=.bool true) rfl (oZ ?_);refine May_seq (May_cond (b:=true) o5 rfl (May_skip ?_))
    -- the entry
    have hperm:=leftE_snoc (seen:=seen) (e:=(k',u,b)) hes hmem;have hes':(k',u,b) ∈ es:=by rw [leftE_filter] at hmem;exact (List.mem_filter.1 hmem).1
    obtain ⟨D2,hd2,hp2⟩:=des_perm hperm i1;obtain ⟨d,Dl',hd,hdl,rfl⟩:=des_cons hd2;obtain ⟨hkey,hcnt⟩:=deOf_ok hcl hd;have hdD:d ∈ D0:=(i2.mem_iff).1 (List.mem_append_right _ (hp2.mem_iff.2 m0));have hps:ps.length ≤ 1000000:=by
      have h1:=i4.length;have h2:=i2.length_eq;simp at h2;omega
    have H1:dkHas N h0 (h.set it (.mIter (some p) cl (seen++[b]) cl)) q it r p fv cl (seen++[b]) fl Lc:=by
      unfold dkHas at i5 ⊢;have e1:=i5.mv;have e2:=(Has.perm e1 (List.Perm.cons _ (List.perm_middle (l₁:=fl)))).swap;have e3:=e2.set (k:=0) rfl (.mIter (some p) cl (seen++[b]) cl);have e4:Has (h.set it (.mIter (some p) cl (seen++[b]) cl)) ((it,.mIter (some p) cl (seen++[b]) cl) :: (q,.row N.tyD [fv] false) :: (fl++(r,.row N.tyD [.nilslice] false) :: (Lc++oldL h0))):=e3;exact Has.vm (e4.swap.perm (List.Perm.cons _ (List.perm_middle (l₁:=fl)).symm))
    refine May_code hmix hE ?_;rw [o7];refine wp_of (cB ?_);refine dk_round (k:=k') (u:=u) (n:=d.1) (c:=d.2) C ⟨rfl,rfl,rfl⟩ H1 i3 i4 hps hp hes hes' hkey hcnt (fun l e=>lenOK_mem hlk d hdD l e) fun tm' h' fv' fl' Lc' ps' hT' f1 f2 f3=>?_
    refine ih (seen++[b]) tm' h' ?_ ⟨hT',D++[(d.1,d.2)],Dl',ps',fv',fl',Lc',hdl,?_,f1,f2,f3⟩
    · have:=hperm.length_eq;simp at this;omega
    · have:(D++[(d.1,d.2)]++Dl').Perm (D++Dl):=by
        rw [List.append_assoc];exact List.Perm.append_left D hp2.symm
      exact this.trans i2
def DkR (N:DkN) (h0:Heap) (D0:List FEnt) (v:AV) (h':Heap):Prop:=∃ D ps Lc,D.Perm D0∧ClR N.tyB D ps Lc∧((ps = []∧v = .agg [.nilslice]∧Has h' (Lc++oldL h0)) ∨
  (ps ≠ []∧∃ pf,v = .agg [.slice pf 0 ps.length (.up 2)]∧Has h' ((pf,.row N.tyF (flatP (sortF ps)) true) :: (Lc++oldL h0))))
theorem dk_tail (CS:E.fn N.nSort = some (.con (sortFilesV N.nCmp))) (hal:aloneF D0 = true) (hlen:D0.length ≤ 10000) {seen:List Nat} (hs:leftE seen es = []) (hI:dkInv N h0 q it r p es cl D0 seen tm h)
    {QE:XExit→Tm→Heap→Prop} (hQ:∀ tm' h' v,resV [.cell (.lo .d0 .d2) (some 1)] tm' h' = some [v]→DkR N h0 D0 v h'→QE .ret tm' h'):wpC E (dkT N) QE tm h:=by
  obtain ⟨⟨t2,t3,t7⟩,D,Dl,ps,fv,fl,Lc,i1,i2,i3,i4,i5⟩:=hI;obtain ⟨s,rfl⟩:=sets3 t2 t3 t7;rw [hs] at i1;simp only [des,sJ] at i1;subst i1;rw [List.append_nil] at i2;unfold dkHas at i5;have H1:=i5.mv;have hq:h.get q = .row N.tyD [fv] false:=H1.mem (x:=(q,_)) (by simp);have hfc:AV.cellsO fv = some [fv]∧fv ≠ .any:=by
    rcases i3 with ⟨rfl,_⟩ | ⟨_,_,rfl,_⟩ <;> exact ⟨rfl,by simp⟩
  have hpart:∀ h:Heap,partOf [fv] (0 + 0) none h = .ok fv h:=fun h=>by
    have:=hfc.2
    cases fv <;> first | rfl | exact absurd rfl this
  unfold dkT;refine cS (cR ?_);refine oI rfl (wp_load rfl hq hpart ?_)
  -- sorted
  have hsort:∃ h1 fl',sortFilesV N.nCmp [fv,.func N.nCmp [] []] h = some (unit,h1)∧Has h1 (fl'++(q,.row N.tyD [fv] false) :: (it,.mIter (some p) cl seen cl) :: (r,.row N.tyD [.nilslice] false) :: (Lc++oldL h0)) ∧
      ((ps = []∧fv = .nilslice∧fl' = [])∨(ps ≠ []∧∃ pf,fv = .slice pf 0 ps.length (.up 2)∧fl' = [(pf,.row N.tyF (flatP (sortF ps)) true)])):=by
    rcases i3 with ⟨rfl,rfl,rfl⟩ | ⟨hne,pf,rfl,rfl⟩
    · refine ⟨h,[],?_,i5,.inl ⟨rfl,rfl,rfl⟩⟩;simp only [sortFilesV,Nat.beq_refl]
    · have hpf:h.get pf = .row N.tyF (flatP ps) true:=i5.mem (x:=(pf,_)) (by simp);have hpos:0 < ps.length:=by cases ps with | nil=>exact absurd rfl hne | cons _ _=>simp
      have hal':aloneF ps = true:=by
        rw [aloneF_iff] at hal ⊢;have h1:D.Pairwise fun x y=>x.1 ≠ y.1:=(i2.pairwise_iff fun e=>Ne.symm e).2 hal
        have h2:=List.pairwise_map.2 h1;rw [← i4.names] at h2;exact List.pairwise_map.1 h2
      have h1:Nat.beq N.nCmp N.nCmp = true:=Nat.beq_refl _;have h2:Nat.beq ps.length ps.length = true:=Nat.beq_refl _;have h3:Nat.blt 0 ps.length = true:=by rw [Nat.blt_eq];exact hpos
      have h4:Nat.ble ps.length 1000000 = true:=Nat.ble_eq_true_of_le (by have:=i4.length;have:=i2.length_eq;omega);refine ⟨h.set pf (.row N.tyF (flatP (sortF ps)) true),_,?_,i5.set (k:=0) rfl _,.inr ⟨hne,pf,rfl,rfl⟩⟩;simp only [sortFilesV,h1,hpf,pairsOf_flatP,hal',h2,h3,h4]
  obtain ⟨h1,fl',hv,H2,hfl⟩:=hsort;refine wp_call rfl (CallT.con CS hv) ?_;rintro _ h1 ⟨rfl,rfl⟩;refine oZ (cS (cR ?_));have hq2:h1.get q = .row N.tyD [fv] false:=H2.mem (x:=(q,_)) (by simp);refine wp_load (v:=.agg [fv]) rfl hq2 (fun h=>rfl) ?_;have e:Has h1 ((r,.row N.tyD [.nilslice] false) :: (fl'++(Lc++oldL h0))):=(H2.mv.tail.mv.tail).mv;refine wp_store (k:=0) (w:=.agg [fv]) (xs:=[fv]) rfl rfl rfl rfl e rfl (fun kk=>rfl) fun h2 H4=>oZ (cT ?_)
  have H4:Has h2 ((r,.row N.tyD [fv] false) :: (fl'++(Lc++oldL h0))):=H4;have hr2:h2.get r = .row N.tyD [fv] false:=H4.mem (x:=(r,_)) m0;refine hQ _ _ (.agg [fv]) ?_ ⟨D,ps,Lc,i2,i4,?_⟩
  · have hl:∀ h:Heap,h.get r = .row N.tyD [fv] false→loadAV (some 1) (.ptr r 0) h = .ok (.agg [fv]) h:=fun h e=>by simp only [loadAV,e];rfl
    show (match (some (AV.ptr r 0)) with | some y=>(match loadAV (some 1) y h2,resV [] _ h2 with | .ok v _,some vs=>some (v :: vs) | _,_=>none) | none=>none) = some [AV.agg [fv]];simp only [hl h2 hr2,resV]
  · rcases hfl with ⟨rfl,rfl,rfl⟩ | ⟨hne,pf,rfl,rfl⟩
    · exact .inl ⟨rfl,rfl,H4.tail⟩
    · exact .inr ⟨hne,pf,rfl,H4.tail⟩
theorem dk_calls (hmix:P.follows .mixedOrders = true) (hE:EnvOK P E) (C:E.fn N.nClone = some (.code (dkClone N) [.tmp (.lo .d0 .d2)])) (CS:E.fn N.nSort = some (.con (sortFilesV N.nCmp))) {f:FuncId} (hf:DkIs P N f)
    (hcl:∀ p,h0.next.toNat ≤ p.toNat→h0.get p = .dead) (hg:h0.get p = .map es cl) (hd:des h0 es = some D0) (hal:aloneF D0 = true) (hbo:bornOK cl es = true) (hlen:D0.length ≤ 10000) (hlk:lenOK D0 = true)
    {κ:Kp} {w:World} (hr:HR P κ h0 w) {A:Array Value} (hA:VRl κ [.map p] A.toList):(∃ fn c,P.funcs[f]? = some fn∧fn.body = some c∧fn.name ≠ "runtime.NumGoroutine")∧Calls P f A w fun e w'=>∃ v h' κ',DkR N h0 D0 v h'∧ResE κ' (.ret v) e∧Ext P κ h0 w κ' h' w':=by
  obtain ⟨fn,a,b,rr,bd,t,ops,o,x,xop,i,f1,f2,f3,f4,o0,o1,o2,o3,o4,o5,ca,cb,cr,o7,o6,ct,f5⟩:=hf.is;obtain ⟨hb,hes⟩:=bornOK_iff.1 hbo;have hplt:p.toNat < h0.next.toNat:=Nat.lt_of_not_le fun hle=>by rw [hcl p hle] at hg;simp at hg
  have hp:(p,AObj.map es cl) ∈ oldL h0:=by have:=oldL_mem hplt;rw [hg] at this;exact this
  refine ⟨⟨fn,_,f1,f4,f2⟩,fn_any f1 f4 f5 ?_ hr hA⟩;rw [f3];refine May_seq (May_code hmix hE ?_);rw [ca];refine wp_of (cR ?_);refine wp_alloc (oldL_has h0) fun r h1 H1=>oZ ?_
  refine May_seq (May_code hmix hE ?_);rw [cb];refine wp_of (cR ?_);refine wp_alloc H1 fun q h2 H2=>oZ ?_
  refine May_seq (May_seq (May_code hmix hE ?_));rw [cr];refine wp_of (cR ?_);refine oI (v:=.map p) (h':=h2) rfl ?_;have hg2:h2.get p = .map es cl:=H2.mem (x:=(p,_)) (by simp [hp]);refine oI (v:=.ptr h2.next 0) (h':=h2.push (.mIter (some p) cl [] cl)) ?_ (oZ ?_)
  · have e1:(XO.t (.lo .d0 .d6)).val (putT (some (.lo .d0 .d6)) (.map p) (putT (some (.lo .d0 .d3)) (.ptr q 0) (putT (some (.lo .d0 .d2)) (.ptr r 0) (initT [.map p] 0 .leaf)))) = some (.map p):=rfl;simp only [XI.sem,rangeS,rangeMapS,withO_run e1,hg2,Heap.pushK]
  have H3:=H2.push (.mIter (some p) cl [] cl);refine May_block (May_loop (MayL.mono ?_ (dk_loop hmix hE C hcl hp hb hes hlen hlk o0 o1 o2 o3 o4 o5 o6 o7 _ [] _ _ rfl ⟨⟨rfl,rfl,rfl⟩,[],D0,[],.nilslice,[],[],?_,?_,.inl ⟨rfl,rfl,rfl⟩,.nil,H3.swap⟩)))
  · rintro e tm' h' ⟨rfl,seen,hs,hI⟩;dsimp only;rw [if_pos rfl];refine May_code hmix hE ?_;rw [ct];refine wp_of (dk_tail CS hal hlen hs hI fun tm' h' v hv hR=>⟨.inr rfl,v,fun k=>?_,hR⟩);rw [resF_of hv,oneF_of];rfl
  · rw [leftE_nil];exact hd
  · exact .refl _
end
end Go.X

/- The function that makes the files of a map has its contract: what a run made,in whatever order,seen in the order of the names. -/
namespace Go.X
open Go
section
variable {P:Program} {κ0 κ':Kp} {h0 h':Heap} {w w':World} {ty:TypeId}
inductive PsR (κ κf:Kp):List (List Nat × AV)→List (List Nat × AV)→Prop
  | nil:PsR κ κf [] []
  | cons {n:List Nat} {v vf:AV} {ps pf:List (List Nat × AV)} (hv:∀ v',VR κ v v'→VR κf vf v') (h1:v.one = true→vf.one = true) (t:PsR κ κf ps pf):PsR κ κf ((n,v) :: ps) ((n,vf) :: pf)
theorem PsR.mono {κ κf κg:Kp} (hk:κf.le κg) {ps pf:List (List Nat × AV)} (h:PsR κ κf ps pf):PsR κ κg ps pf:=by
  induction h with
  | nil=>exact .nil
  | cons hv h1 _ ih=>exact .cons (fun v' q=>VR.mono hk _ _ (hv v' q)) h1 ih
theorem PsR.length {κ κf:Kp} {ps pf:List (List Nat × AV)} (h:PsR κ κf ps pf):pf.length = ps.length:=by
  induction h with
  | nil=>rfl
  | cons _ _ _ ih=>simp [ih]
theorem PsR.VRm {κ κf:Kp} {ps pf:List (List Nat × AV)} (h:PsR κ κf ps pf):∀ {f:Nat→Option Value},Go.X.VRm κ (flatP ps) f→Go.X.VRm κf (flatP pf) f:=by
  induction h with
  | nil=>intro f _;simp only [flatP,Go.X.VRm]
  | cons hv h1 _ ih =>
    intro f hf;simp only [flatP,Go.X.VRm] at hf ⊢;obtain ⟨⟨x,a1,a2,a3⟩,⟨y,b1,b2,b3⟩,c⟩:=hf;refine ⟨⟨x,a1,a2,?_⟩,⟨y,b1,h1 b2,hv _ b3⟩,ih c⟩;simp only [VR] at a3 ⊢;exact a3
theorem VRm_bytes {κ κf:Kp}:∀ {l:List Nat} {f:Nat→Option Value},VRm κ (avBytes l) f→VRm κf (avBytes l) f
  | [],_,_=>by simp only [avBytes,VRm]
  | b :: l,f,h=>by
    simp only [avBytes,VRm] at h ⊢;obtain ⟨⟨x,a1,a2,a3⟩,c⟩:=h;refine ⟨⟨x,a1,a2,?_⟩,VRm_bytes c⟩;simp only [VR] at a3 ⊢;exact a3
theorem OR_rowOf {κ κf:Kp} {s:Spot} {l:List Nat} (h:OR P κ s w' (rowOf ty l)):OR P κf s w' (rowOf ty l):=by
  cases l with
  | nil =>
    obtain ⟨arr,fr,h1,h2,h3,_,h5⟩:=h;exact ⟨arr,fr,h1,h2,h3,by simp only [VRm],h5⟩
  | cons b l =>
    obtain ⟨arr,fr,h1,h2,h3,h4,h5⟩:=h;exact ⟨arr,fr,h1,h2,h3,VRm_bytes h4,h5⟩
theorem rowOf_live (l:List Nat):rowOf ty l ≠ .dead:=by cases l <;> simp [rowOf]
theorem ClR.live {D:List FEnt} {ps:List (List Nat × AV)} {L:List (Pos × AObj)} (h:ClR ty D ps L):∀ x ∈ L,x.2 ≠ .dead:=by
  induction h with
  | nil=>simp
  | no _ ih=>exact ih
  | some _ ih=>exact fJ.2 ⟨rowOf_live _,ih⟩
theorem live_push {κ:Kp} {h:Heap} (hr:HR P κ h w) {x:Spot} {o:AObj} {q:Pos} {y:Spot} (hl:Live (κ.at h.next x) (h.push o) q y):y = x∨Live κ h q y:=by
  obtain ⟨h1,h2⟩:=hl
  by_cases hq:q = h.next
  · subst hq;rw [Kp.at_same] at h1;exact .inl (Option.some.inj h1).symm
  · rw [Kp.at_ne _ _ hq] at h1;rw [Heap.get_push_lt o (hr.top q y h1)] at h2;exact .inr ⟨h1,h2⟩
theorem cvOf_pos {κ:Kp} {p:Pos} {l:List Nat} {v:Value} (h:VR κ (cvOf p l) v):∃ s,κ.ρ p = some s:=by
  cases l <;> (simp only [cvOf,VR] at h;obtain ⟨s,_,_,h,_⟩:=h;exact ⟨s,h⟩)
theorem cvOf_to {κ κf:Kp} {p q:Pos} {l:List Nat} {s:Spot} (hp:κ.ρ p = some s) (hq:κf.ρ q = some s) {v:Value} (h:VR κ (cvOf p l) v):VR κf (cvOf q l) v:=by
  cases l <;> (simp only [cvOf,VR] at h ⊢;obtain ⟨s',a,c,h1,h2⟩:=h;rw [hp,sJ] at h1;subst h1;exact ⟨_,a,c,hq,h2⟩)
theorem cvOf_one {p q:Pos} {l:List Nat} (h:(cvOf p l).one = true):(cvOf q l).one = true:=by
  cases l <;> exact h
theorem adopt (hr:HR P κ0 h0 w) (e:Ext P κ0 h0 w κ' h' w') (hs:∀ p x,Live κ0 h0 p x→h'.get p = h0.get p) {D:List FEnt} {ps:List (List Nat × AV)} {L:List (Pos × AObj)} (hc:ClR ty D ps L) :
    ∀ {κi:Kp} {hi:Heap},Ext P κ0 h0 w κi hi w'→(∀ x ∈ L,h'.get x.1 = x.2)→(L.Pairwise fun x y=>x.1 ≠ y.1)→(∀ x ∈ L,κ0.ρ x.1 = none)→(∀ y ∈ ps,∃ v',VR κ' y.2 v') →
      (∀ x ∈ L,∀ s,κ'.ρ x.1 = some s→∀ q y,Live κi hi q y→y.b ≠ s.b) →
      ∃ κf pf hf,clonesV ty D hi = (pf,hf)∧Ext P κ0 h0 w κf hf w'∧κi.le κf∧PsR κ' κf ps pf∧∀ q y,Live κf hf q y→Live κi hi q y∨∃ x ∈ L,κ'.ρ x.1 = some y:=by
  induction hc with
  | nil=>exact fun ei _ _ _ _ _=>⟨_,_,_,rfl,ei,.refl _,.nil,fun q y hl=>.inl hl⟩
  | no _ ih =>
    intro κi hi ei hL hpw hnew hv hfree;obtain ⟨κf,pf,hf,e1,e2,e3,e4,e5⟩:=ih ei hL hpw hnew (fun y hy=>hv y (mS _ hy)) hfree;exact ⟨κf,_,hf,by simp only [clonesV,e1],e2,e3,.cons (fun v' q=>by simp only [VR] at q ⊢;exact q) id e4,e5⟩
  | @some n l p D ps L hcl ih =>
    intro κi hi ei hL hpw hnew hv hfree;rw [List.pairwise_cons] at hpw;obtain ⟨v',hv'⟩:=hv _ m0;obtain ⟨s,hp⟩:=cvOf_pos hv';have hgp:h'.get p = rowOf ty l:=hL (p,rowOf ty l) m0;have hlive:Live κ' h' p s:=⟨hp,by rw [hgp];exact rowOf_live l⟩;have hg:w.heap.size ≤ s.b:=Ext.new_of hr e hs hlive (hnew _ m0);have hM:κi.M s.b = none:=by rw [ei.M,← e.M];exact e.hr.off p s hlive
    have hob:=e.hr.obj p s hp;rw [hgp] at hob;have e1:=Ext.adoptB ei (x:=s) hg (fun q y hq=>hfree _ m0 s hp q y hq) hM (rowOf ty l) (OR_rowOf hob);obtain ⟨κf,pf,hf,f1,f2,f3,f4,f5⟩:=ih e1 (fun x hx=>hL x (mS _ hx)) hpw.2 (fun x hx=>hnew x (mS _ hx)) (fun y hy=>hv y (mS _ hy)) (fun x hx s' hs' q y hq=>by
      rcases live_push ei.hr hq with rfl | hq
      · have hx':Live κ' h' x.1 s':=⟨hs',by rw [hL x (mS _ hx)];exact hcl.live x hx⟩;exact e.hr.apart p x.1 y s' hlive hx' (hpw.1 x hx)
      · exact hfree x (mS _ hx) s' hs' q y hq)
    have hnx:κf.ρ hi.next = some s:=f3.ρ _ _ (Kp.at_same _ _ _);refine ⟨κf,_,hf,by simp only [clonesV,f1],f2,(Kp.at_le ei.hr.next_none).trans f3,.cons (fun v' q=>cvOf_to hp hnx q) cvOf_one f4,fun q y hq=>?_⟩
    rcases f5 q y hq with hq | ⟨x,hx,hy⟩
    · rcases live_push ei.hr hq with rfl | hq
      · exact .inr ⟨_,m0,hp⟩
      · exact .inl hq
    · exact .inr ⟨x,mS _ hx,hy⟩
end
theorem VRm_vals {κ:Kp}:∀ {ps:List (List Nat × AV)} {f:Nat→Option Value},VRm κ (flatP ps) f→∀ y ∈ ps,∃ v',VR κ y.2 v'
  | [],_,_,y,hy=>by simp at hy
  | (n,v) :: ps,f,h,y,hy=>by
    simp only [flatP,VRm] at h;obtain ⟨_,⟨x,_,_,h3⟩,h4⟩:=h
    rcases List.mem_cons.1 hy with rfl | hy
    · exact ⟨x,h3⟩
    · exact VRm_vals h4 y hy
theorem conOK_disk {P:Program} {E:XEnv} {N:DkN} (hmix:P.follows .mixedOrders = true) (hE:EnvOK P E) (C:E.fn N.nClone = some (.code (dkClone N) [.tmp (.lo .d0 .d2)])) (CS:E.fn N.nSort = some (.con (sortFilesV N.nCmp))) {f:FuncId} (hf:DkIs P N f) :
    ConOK P f (diskV N.tyF N.tyB):=by
  refine ⟨fun κ h w args v hF hv hr A hA=>?_⟩;unfold diskV at hv
  split at hv
  case h_2=>simp at hv
  rename_i p
  split at hv
  case h_2=>simp at hv
  rename_i es cl hg
  split at hv
  case h_2=>simp at hv
  rename_i D0 hd
  split at hv
  case h_2=>simp at hv
  rename_i q1 q2 q3 q4
  simp only [sJ] at hv;obtain ⟨his,hcalls⟩:=dk_calls hmix hE C CS hf hr.clean hg hd q1 q2 (Nat.le_of_ble_eq_true q3) q4 hr hA;refine ⟨his,fun _=>hcalls.mono ?_,fun hD=>by simp [oneFn,AV.isFn] at hD⟩;rintro e w1 ⟨v1,h1,κ1,⟨D,ps,Lc,g1,g2,g3⟩,hres,hext⟩
  cases e with
  | panicked c=>exact hres.elim
  | outgrown=>exact hres.elim
  | returned v' =>
  have hres:VR κ1 v1 v':=hres
  -- the same files,by name
  have hal:∀ {M:List FEnt},M.Perm D0→M.Pairwise fun x y=>x.1 ≠ y.1:=fun hM=>(hM.pairwise_iff fun e=>Ne.symm e).2 (aloneF_iff.1 q1)
  have hDs:sortF D = sortF D0:=sortF_of_perm ((sortF_perm D).trans g1) (sortF_sorted (hal g1));obtain ⟨L',hL',hcl⟩:=g2.sort;rw [hDs] at hcl
  -- memory
  have hH:Has h1 (Lc++oldL h):=by
    rcases g3 with ⟨_,_,H⟩ | ⟨_,_,_,H⟩
    · exact H
    · exact H.tail
  have hs:∀ p x,Live κ h p x→h1.get p = h.get p:=fun p x hl=>hH.mem (x:=(p,_)) (List.mem_append_right _ (oldL_mem (hr.top p x hl.1)))
  have e0:Ext P κ h w κ h w1:=Ext.shrink hr hext hs;have hHL:Has h1 L':=(hH.sub (List.sublist_append_left _ _)).perm hL'.symm;have hold:∀ x ∈ Lc,∀ y,κ.ρ x.1 ≠ some y:=fun x hx y hy=>by
    have hpw:=List.pairwise_append.1 hH.2;exact hpw.2.2 x hx (x.1,h.get x.1) (oldL_mem (hr.top _ _ hy)) rfl
  have hnew:∀ x ∈ L',κ.ρ x.1 = none:=fun x hx=>by
    cases hy:κ.ρ x.1 with
    | none=>rfl
    | some y=>exact absurd hy (hold x (hL'.mem_iff.1 hx) y)
  have hfree0:∀ (pz:Pos) (s:Spot),Live κ1 h1 pz s→κ.ρ pz = none→∀ q y,Live κ h q y→y.b ≠ s.b:=fun pz s hl hn q y hq=>by
    have hq':Live κ1 h1 q y:=⟨hext.le.ρ _ _ hq.1,by rw [hs q y hq];exact hq.2⟩;exact hext.hr.apart q pz y s hq' hl fun heq=>by have h2:=hq.1;rw [heq,hn] at h2;simp at h2
  have hfree:∀ x ∈ L',∀ s,κ1.ρ x.1 = some s→∀ q y,Live κ h q y→y.b ≠ s.b:=fun x hx s hsx=>hfree0 x.1 s ⟨hsx,by rw [hHL.mem hx];exact hcl.live x hx⟩ (hnew x hx)
  rcases g3 with ⟨rfl,rfl,_⟩ | ⟨hne,pf,rfl,H⟩
  · -- none
    have hD:D = []:=by cases g2;rfl
    subst hD;have hD0:D0 = []:=g1.symm.eq_nil;subst hD0;simp only [sortF,filesV,clonesV,Prod.mk.injEq] at hv;obtain ⟨rfl,rfl⟩:=hv;refine .inr ⟨κ,?_,e0⟩;show VR κ (.agg [.nilslice]) v';simp only [VR,VRl] at hres ⊢;exact hres
  · have hpf:h1.get pf = .row N.tyF (flatP (sortF ps)) true:=H.mem (x:=(pf,_)) m0;simp only [VR,VRl] at hres;obtain ⟨vs,rfl,hone,sv,rr,hvs,⟨s,a,c,hρ,rfl,k1,k2,k3⟩,rfl⟩:=hres;have hlf:Live κ1 h1 pf s:=⟨hρ,by rw [hpf];simp⟩;have hob:=hext.hr.obj pf s hρ;rw [hpf] at hob;obtain ⟨arr,fr,o1,o2,o3,o4,o5,o6⟩:=hob;obtain ⟨κf,pfs,hf',c1,c2,c3,c4,c5⟩:=adopt (w':=w1) hr hext hs hcl e0 (fun x hx=>hHL.mem hx) hHL.2 hnew (VRm_vals o4) hfree;have hpn:κ.ρ pf = none:=by
      cases hy:κ.ρ pf with
      | none=>rfl
      | some y =>
        have hpw:=List.pairwise_cons.1 H.2;exact absurd rfl (hpw.1 (pf,h.get pf) (List.mem_append_right _ (oldL_mem (hr.top _ _ hy))))
    have hlen:=c4.length;have hsl:=(sortF_perm ps).length_eq;have e2:=Ext.adoptB c2 (x:=s) (Ext.new_of hr hext hs hlf hpn) (fun q y hq=>by
      rcases c5 q y hq with hq | ⟨x,hx,hy⟩
      · exact hfree0 pf s hlf hpn q y hq
      · have hxl:Live κ1 h1 x.1 y:=⟨hy,by rw [hHL.mem hx];exact hcl.live x hx⟩;refine hext.hr.apart x.1 pf y s hxl hlf fun heq=>?_
        have hpw:=List.pairwise_cons.1 H.2;exact hpw.1 x (List.mem_append_left _ (hL'.mem_iff.1 hx)) heq.symm) (by rw [c2.M,← hext.M];exact hext.hr.off pf s hlf) (.row N.tyF (flatP pfs) true)
      ⟨arr,fr,o1,o2,by rw [flatP_length] at o3 ⊢;omega,(c4.mono (Kp.at_le c2.hr.next_none)).VRm o4,fun hsp=>by simp at hsp,o6⟩
    have hpos:pfs ≠ []:=by
      intro hnil;rw [hnil] at hlen;have h0:ps.length = 0:=by rw [← hsl,← hlen];rfl
      exact hne (List.eq_nil_of_length_eq_zero h0)
    have hv':(v,hF) = (.agg [.slice hf'.next 0 pfs.length (.up 2)],hf'.push (.row N.tyF (flatP pfs) true)):=by
      rw [← hv];unfold filesV;rw [c1]
      cases pfs with
      | nil=>exact absurd rfl hpos
      | cons y ys=>rfl
    simp only [Prod.mk.injEq] at hv';obtain ⟨rfl,rfl⟩:=hv';refine .inr ⟨_,?_,e2⟩;show VR _ (.agg [.slice hf'.next 0 pfs.length (.up 2)]) (.agg vs);simp only [VR,VRl];refine ⟨vs,rfl,rfl,_,[],hvs,⟨s,a,c,Kp.at_same _ _ _,?_,?_,k2,k3⟩,rfl⟩
    · rw [hlen,hsl]
    · omega
end Go.X
