/- Lists sorted by name, names being lists of bytes. No program in sight. -/
import Derived.Test.YtkmffbmgpnndcaaGreatDoorXxTab
import Derived.Shelf.GgSortFunc.RowK
import Derived.Sort.Statements
import Derived.Sort.Grow
import Derived.Below
import Derived.Lib.Bytealg
import Derived.Shelf.GgSortFunc.InsertionK
import Derived.Shelf.SlSortCmp.WholeK
import Derived.Lib.ConvBytes
namespace Go.X
open Go
theorem ltN_irr:∀ l:List Nat,ltN l l = false
  | []=>rfl
  | a :: l=>by
    have h1:Nat.blt a a = false:=by rw [Bool.eq_false_iff];intro h;simp [Nat.blt_eq] at h
    show (match Nat.blt a a with | true=>true | false=>match Nat.beq a a with | true=>ltN l l | false=>false) = false;rw [h1,Nat.beq_refl];exact ltN_irr l
theorem ltN_step (a b:Nat) (x y:List Nat):ltN (a :: x) (b :: y) = true ↔ a < b∨(a = b∧ltN x y = true):=by
  show (match Nat.blt a b with | true=>true | false=>match Nat.beq a b with | true=>ltN x y | false=>false) = true ↔ _
  cases h1:Nat.blt a b with
  | true =>
    have:a < b:=by rw [Nat.blt_eq] at h1;exact h1
    simp [this]
  | false =>
    have hn : ¬ a < b:=fun h=>by rw [← Nat.blt_eq,h1] at h;simp at h
    cases h2:Nat.beq a b with
    | true=>have:=Nat.eq_of_beq_eq_true h2;simp [this]
    | false => have:a ≠ b:=fun e=>by subst e;simp at h2
               simp [hn,this]
theorem ltN_tr:∀ {a b c:List Nat},ltN a b = true→ltN b c = true→ltN a c = true
  | _,[],c,h,_=>by cases ‹List Nat› <;> simp [ltN] at h
  | _,_ :: _,[],_,h=>by simp [ltN] at h
  | [],b :: y,c :: z,_,_=>rfl
  | a :: x,b :: y,c :: z,h1,h2=>by
    rw [ltN_step] at *
    rcases h1 with h1 | ⟨rfl,h1⟩ <;> rcases h2 with h2 | ⟨rfl,h2⟩
    · exact .inl (by omega)
    · exact .inl h1
    · exact .inl h2
    · exact .inr ⟨rfl,ltN_tr h1 h2⟩
theorem ltN_tot:∀ (a b:List Nat),ltN a b = true∨a = b∨ltN b a = true
  | [],[]=>.inr (.inl rfl)
  | [],_ :: _=>.inl rfl
  | _ :: _,[]=>.inr (.inr rfl)
  | a :: x,b :: y=>by
    rw [ltN_step,ltN_step]
    rcases Nat.lt_trichotomy a b with h | rfl | h
    · exact .inl (.inl h)
    · rcases ltN_tot x y with h | rfl | h
      · exact .inl (.inr ⟨rfl,h⟩)
      · exact .inr (.inl rfl)
      · exact .inr (.inr (.inr ⟨rfl,h⟩))
    · exact .inr (.inr (.inl h))
section
variable {α:Type}
def insF (x:List Nat × α):List (List Nat × α)→List (List Nat × α)
  | []=>[x]
  | y :: l=>match ltN x.1 y.1 with | true=>x :: y :: l | false=>y :: insF x l
def sortF:List (List Nat × α)→List (List Nat × α)
  | []=>[]
  | x :: l=>insF x (sortF l)
def hasNm (n:List Nat):List (List Nat × α)→Bool
  | []=>false
  | y :: l=>match beqN n y.1 with | true=>true | false=>hasNm n l
def aloneF:List (List Nat × α)→Bool
  | []=>true
  | x :: l=>match hasNm x.1 l with | true=>false | false=>aloneF l
theorem insF_perm (x:List Nat × α):∀ l:List (List Nat × α),(insF x l).Perm (x :: l)
  | []=>.refl _
  | y :: l=>by
    simp only [insF]
    cases ltN x.1 y.1 with
    | true=>exact .refl _
    | false=>exact ((insF_perm x l).cons y).trans (.swap x y l)
theorem sortF_perm:∀ l:List (List Nat × α),(sortF l).Perm l
  | []=>.refl _
  | x :: l=>(insF_perm x _).trans ((sortF_perm l).cons x)
theorem hasNm_iff {n:List Nat}:∀ {l:List (List Nat × α)},hasNm n l = true ↔ ∃ y ∈ l,y.1 = n
  | []=>by simp [hasNm]
  | y :: l=>by
    simp only [hasNm]
    cases hb:beqN n y.1 with
    | true=>have:=(beqN_iff _ _).1 hb;simp [this]
    | false =>
      have:y.1 ≠ n:=fun e=>by have:=(beqN_iff n y.1).2 e.symm;rw [hb] at this;simp at this
      simp [this,hasNm_iff (l:=l)]
theorem aloneF_iff:∀ {l:List (List Nat × α)},aloneF l = true ↔ l.Pairwise fun x y=>x.1 ≠ y.1
  | []=>by simp [aloneF]
  | x :: l=>by
    simp only [aloneF,List.pairwise_cons]
    cases hb:hasNm x.1 l with
    | true =>
      obtain ⟨y,hy,e⟩:=hasNm_iff.1 hb;simp only [Bool.false_eq_true,false_iff];exact fun h=>h.1 y hy e.symm
    | false =>
      simp only [aloneF_iff (l:=l)];refine ⟨fun h=>⟨fun y hy e=>?_,h⟩,fun h=>h.2⟩;have:=hasNm_iff.2 ⟨y,hy,e.symm⟩;rw [hb] at this;simp at this
theorem insF_sorted (x:List Nat × α):∀ {l:List (List Nat × α)},(∀ y ∈ l,x.1 ≠ y.1)→(l.Pairwise fun a b=>ltN a.1 b.1 = true)→(insF x l).Pairwise fun a b=>ltN a.1 b.1 = true
  | [],_,_=>by simp [insF]
  | y :: l,hne,h=>by
    have h':=h;rw [List.pairwise_cons] at h;simp only [insF]
    cases hxy:ltN x.1 y.1 with
    | true =>
      dsimp only;rw [List.pairwise_cons];refine ⟨fun z hz=>?_,h'⟩
      rcases List.mem_cons.1 hz with rfl | hz
      · exact hxy
      · exact ltN_tr hxy (h.1 z hz)
    | false =>
      dsimp only;have hyx:ltN y.1 x.1 = true:=by
        rcases ltN_tot x.1 y.1 with e | e | e
        · rw [hxy] at e;simp at e
        · exact absurd e (hne y m0)
        · exact e
      rw [List.pairwise_cons];refine ⟨fun z hz=>?_,insF_sorted x (fun z hz=>hne z (mS _ hz)) h.2⟩
      rcases List.mem_cons.1 ((insF_perm x l).mem_iff.1 hz) with rfl | hz
      · exact hyx
      · exact h.1 z hz
theorem sortF_sorted:∀ {l:List (List Nat × α)},(l.Pairwise fun x y=>x.1 ≠ y.1)→(sortF l).Pairwise fun a b=>ltN a.1 b.1 = true
  | [],_=>.nil
  | x :: l,h=>by
    rw [List.pairwise_cons] at h;exact insF_sorted x (fun y hy=>h.1 y ((sortF_perm l).mem_iff.1 hy)) (sortF_sorted h.2)
theorem sortF_of_perm {l m:List (List Nat × α)} (hp:m.Perm l) (hs:m.Pairwise fun a b=>ltN a.1 b.1 = true):m = sortF l:=by
  have hne:m.Pairwise fun x y=>x.1 ≠ y.1:=hs.imp fun h e=>by rw [e,ltN_irr] at h;simp at h
  have hnel:l.Pairwise fun x y=>x.1 ≠ y.1:=(hp.pairwise_iff fun e=>Ne.symm e).1 hne
  refine List.Perm.eq_of_pairwise (le:=fun a b=>ltN a.1 b.1 = true) (fun a b _ _ h1 h2=>?_) hs (sortF_sorted hnel) (hp.trans (sortF_perm l).symm);have:=ltN_tr h1 h2;rw [ltN_irr] at this;exact absurd this (by simp)
end
end Go.X

/- Rows of elements of two cells,a name and something: as lists of pairs;sorted. No program in sight. -/
namespace Go.X
open Go
def pairsOf:List AV→Option (List (List Nat × AV))
  | []=>some []
  | .str n :: v :: cs=>(match pairsOf cs with | some l=>some ((n,v) :: l) | none=>none)
  | _=>none
def flatP:List (List Nat × AV)→List AV
  | []=>[]
  | (n,v) :: l=>.str n :: v :: flatP l
theorem flatP_length:∀ l:List (List Nat × AV),(flatP l).length = 2 * l.length
  | []=>rfl
  | _ :: l=>by simp only [flatP,List.length_cons,flatP_length l];omega
theorem pairsOf_eq:∀ {cs:List AV} {l:List (List Nat × AV)},pairsOf cs = some l→cs = flatP l
  | [],l,h=>by simp only [pairsOf,sJ] at h;subst h;rfl
  | [c],l,h=>by cases c <;> simp [pairsOf] at h
  | c :: v :: cs,l,h=>by
    cases c <;> first | (simp [pairsOf] at h;done) | skip
    rename_i n
    simp only [pairsOf] at h
    cases hp:pairsOf cs with
    | none=>rw [hp] at h;simp at h
    | some m =>
      rw [hp] at h;simp only [sJ] at h;subst h;rw [pairsOf_eq hp];rfl
abbrev Fe:=ByteArray × { v:Value // v.oneCell' = true }
instance:Inhabited Fe:=⟨(⟨#[]⟩,⟨.bool false,rfl⟩)⟩
def encF (x:Fe):List Value:=[.string x.1,x.2.1]
def FeR (κ:Kp) (a:List Nat × AV) (b:Fe):Prop:=b.1.data.toList.map UInt8.toNat = a.1∧a.2.one = true∧VR κ a.2 b.2.1
inductive FeRl (κ:Kp):List (List Nat × AV)→List Fe→Prop
  | nil:FeRl κ [] []
  | cons {a:List Nat × AV} {b:Fe} {l:List (List Nat × AV)} {d:List Fe} (h:FeR κ a b) (t:FeRl κ l d):FeRl κ (a :: l) (b :: d)
theorem FeRl.length {κ:Kp} {l:List (List Nat × AV)} {d:List Fe} (h:FeRl κ l d):l.length = d.length:=by
  induction h with
  | nil=>rfl
  | cons _ _ ih=>simp [ih]
theorem FeRl.perm {κ:Kp} {d d':List Fe} (hp:d.Perm d'):∀ {l:List (List Nat × AV)},FeRl κ l d→∃ l',l'.Perm l∧FeRl κ l' d':=by
  induction hp with
  | nil=>exact fun {l} h=>⟨l,.refl _,h⟩
  | cons x _ ih =>
    intro l h
    cases h with
    | cons h t =>
      obtain ⟨l',h1,h2⟩:=ih t;exact ⟨_,h1.cons _,.cons h h2⟩
  | swap x y _ =>
    intro l h
    cases h with
    | cons h t=>cases t with | cons h' t'=>exact ⟨_,.swap _ _ _,.cons h' (.cons h t')⟩
  | trans _ _ ih1 ih2 =>
    intro l h;obtain ⟨l1,h1,h2⟩:=ih1 h;obtain ⟨l2,h3,h4⟩:=ih2 h2;exact ⟨l2,h3.trans h1,h4⟩
theorem FeRl.get {κ:Kp} {l:List (List Nat × AV)} {d:List Fe} (h:FeRl κ l d):∀ (i:Nat) (a:List Nat × AV),l[i]? = some a→∃ b,d[i]? = some b∧FeR κ a b:=by
  induction h with
  | nil=>intro i a e;simp at e
  | cons h t ih =>
    intro i a e
    cases i with
    | zero=>simp at e;subst e;exact ⟨_,rfl,h⟩
    | succ i=>simp at e;simpa using ih i a e
theorem FeRl.read {κ:Kp}:∀ {l:List (List Nat × AV)} {f:Nat→Option Value},VRm κ (flatP l) f→∃ d:List Fe,FeRl κ l d∧∀ j,j < 2 * l.length→f j = (d.flatMap encF)[j]?
  | [],f,_=>⟨[],.nil,fun j hj=>by simp at hj⟩
  | (n,v) :: l,f,h=>by
    simp only [flatP,VRm,VR] at h;obtain ⟨⟨v0,e0,_,s,rfl,hs⟩,⟨v1,e1,h1,hv⟩,hr⟩:=h;obtain ⟨d,hd,hf⟩:=FeRl.read (l:=l) hr;refine ⟨(s,⟨v1,hv.oneCell h1⟩) :: d,.cons ⟨hs,h1,hv⟩ hd,fun j hj=>?_⟩
    match j with
    | 0=>simpa [encF] using e0
    | 1=>simpa [encF] using e1
    | j + 2 =>
      have:=hf j (by simp at hj;omega)
      simpa [encF] using this
theorem FeRl.write {κ:Kp} {l:List (List Nat × AV)} {d:List Fe} (h:FeRl κ l d):∀ {f:Nat→Option Value},(∀ j,j < 2 * l.length→f j = (d.flatMap encF)[j]?)→VRm κ (flatP l) f:=by
  induction h with
  | nil=>intro f _;simp only [flatP,VRm]
  | @cons a b l d h t ih =>
    intro f hf;obtain ⟨n,v⟩:=a;simp only [flatP,VRm,VR];refine ⟨⟨_,by rw [hf 0 (by simp)];rfl,rfl,b.1,rfl,h.1⟩,⟨_,by rw [hf 1 (by simp;omega)];rfl,h.2.1,h.2.2⟩,ih fun j hj=>?_⟩;rw [hf (j + 1 + 1) (by simp;omega)];simp [encF]
open Go.Sort in
theorem flatK_list:∀ (d:List Fe) (j:Nat),j < 2 * d.length→(d.flatMap encF)[j]? = some ((encF d.toArray[j / 2]!)[j % 2]!)
  | [],j,h=>by simp at h
  | x :: d,j,h=>by
    match j with
    | 0=>simp [encF]
    | 1=>simp [encF]
    | j + 2 =>
      have ih:=flatK_list d j (by simp at h;omega);have h1:(j + 2) / 2 = j / 2 + 1:=by omega
      have h2:(j + 2) % 2 = j % 2:=by omega
      rw [h1,h2]
      simpa [encF] using ih
open Go.Sort in
theorem get_flat (d:Array Fe) {j:Nat} (h:j < d.size * 2):(d.toList.flatMap encF)[j]? = some (flatK encF 2 d)[j]!:=by
  rw [get_flatK _ _ _ _ h];have:=flatK_list d.toList j (by simp;omega)
  simpa using this
end Go.X

/- slices.SortFunc over a row of elements with names,by name: X's meaning against the library's contract. -/
namespace Go.X
open Go
def sortFilesV (g:FuncId):List AV→Heap→Option (AV × Heap)
  | [.nilslice,.func g' [] []],h=>(match Nat.beq g' g with | true=>some (unit,h) | false=>none)
  | [.slice p o len _,.func g' [] []],h=>(match Nat.beq g' g,o,h.get p with
    | true,0,.row ty cs sp=>(match pairsOf cs with
      | some l=>(match aloneF l,Nat.beq l.length len,Nat.blt 0 len,Nat.ble len 1000000 with
        | true,true,true,true=>some (unit,h.set p (.row ty (flatP (sortF l)) sp))
        | _,_,_,_=>none)
      | none=>none)
    | _,_,_=>none)
  | _,_=>none
theorem Ext.grow {P:Program} {κ:Kp} {h:Heap} {w:World} (hr:HR P κ h w) (os:Array Obj):Ext P κ h w κ h (Sort.grow w os):=by
  have hold:∀ b,b < w.heap.size→(Sort.grow w os).heap[b]? = w.heap[b]?:=fun b hb=>by
    simp only [Sort.grow];rw [Array.getElem?_append_left hb]
  refine ⟨.refl κ,rfl,⟨fun p x e=>?_,hr.apart,fun b o e=>by rw [hold b (hr.frozen_lt e)];exact hr.frozen b o e,hr.off,hr.top,hr.clean⟩,Nat.le_refl _,by simp [Sort.grow],fun b hb _=>hold b hb,fun p x hl _=>⟨p,x,hl,rfl⟩,fun p _ hp=>⟨hp,rfl⟩,rfl,rfl,rfl⟩
  by_cases hd:h.get p = .dead
  · rw [hd];trivial
  · exact OR.mono (.refl κ) (hold _ (hr.live_lt ⟨e,hd⟩)) (hr.obj p x e)
open Go.Sort in
theorem putRow_put {w:World} {b off:Nat} {F arr:Array Value} {ty:TypeId} {fr:Nat × Nat} (hb:w.heap[b]? = some (.cells arr ty fr)):putRow id w b off F = World.put w b (.cells (putCells id off F arr) ty fr):=by
  unfold putRow mapBlock World.put
  congr 1
  apply Array.ext_getElem?
  intro k;have hlt:b < w.heap.size:=(Array.getElem?_eq_some_iff.1 hb).1;rw [Array.getElem?_modify,Array.getElem?_setIfInBounds]
  by_cases hk:b = k
  · subst hk;rw [if_pos rfl,if_pos rfl,if_pos hlt,hb];rfl
  · rw [if_neg hk,if_neg hk]
theorem getB {α:Type} [Inhabited α] {d:Array α} {i:Nat} {b:α} (h:d.toList[i]? = some b):d[i]! = b:=by
  rw [Array.getElem?_toList] at h;obtain ⟨hi,e⟩:=Array.getElem?_eq_some_iff.1 h;rw [getElem!_pos d i hi];exact e
def cfF (x y:Fe):Int:=Lib.compareBytes x.1.data.toList y.1.data.toList
open Go.Sort Go.Proofs in
structure SortsF (P:Program) (f g:FuncId):Prop where
  is:∃ fn c,P.funcs[f]? = some fn∧fn.body = some c∧fn.name ≠ "runtime.NumGoroutine"
  empty:∀ w,Calls P f #[.slice none 0 0,.func (.func g) #[] #[]] w fun e w'=>e = .returned (.tuple #[])∧w' = w
  row:∀ (blk off cap:Nat) (d:Array Fe) (w:World),HoldsK encF 2 w blk off d→blk < w.heap.size→d.size < 4611686018427387904 →
    Calls P f #[.slice (some ⟨blk,off,none⟩) d.size cap,.func (.func g) #[] #[]] w fun e w'=>e = .returned (.tuple #[])∧∃ d' n os,PermIn 0 d.size d d'∧SortedIn (fun x y=>decide (cfF x y < 0)) 0 d.size d'∧w' = sortWorldK encF 2 w blk off n d' os

open Go.Sort Go.Proofs in
theorem conOK_sort {P:Program} {f g:FuncId} (S:SortsF P f g):ConOK P f (sortFilesV g):=by
  refine ⟨fun κ h w args v h' hv hr A hA=>?_⟩;unfold sortFilesV at hv
  split at hv
  case h_3=>simp at hv
  case h_1 g' =>
    split at hv
    case h_2=>simp at hv
    rename_i hg
    have hg:=Nat.eq_of_beq_eq_true hg;subst hg;simp only [sJ,Prod.mk.injEq] at hv;obtain ⟨rfl,rfl⟩:=hv;simp only [VRl,VR] at hA;obtain ⟨_,_,hA,rfl,_,_,rfl,⟨F,C,rfl,hF,hC⟩,rfl⟩:=hA;have hF:F = #[]:=by simpa using hF
    have hC:C = #[]:=by simpa using hC
    subst hF hC;have hA:A = #[.slice none 0 0,.func (.func g') #[] #[]]:=Array.toList_inj.1 hA;subst hA;refine ⟨S.is,fun _=>(S.empty w).mono ?_,fun hD=>by simp [oneFn,AV.isFn] at hD⟩;rintro e w' ⟨rfl,rfl⟩;exact .inr ⟨κ,VR_unit,.refl hr⟩
  case h_2 p o len cap g' =>
    split at hv
    case h_2=>simp at hv
    rename_i ty cs sp hg hp
    have hg:=Nat.eq_of_beq_eq_true hg;subst hg
    split at hv
    case h_2=>simp at hv
    rename_i l hl
    split at hv
    case h_2=>simp at hv
    rename_i q1 q2 q3 q4
    simp only [sJ,Prod.mk.injEq] at hv;obtain ⟨rfl,rfl⟩:=hv;have q1:=aloneF_iff.1 q1;have q2:=Nat.eq_of_beq_eq_true q2;have q3:0 < len:=by rw [Nat.blt_eq] at q3;exact q3
    have q4:=Nat.le_of_ble_eq_true q4;simp only [VRl,VR] at hA;obtain ⟨_,_,hA,⟨x,a,c,hρ,rfl,hc1,hc2,hc3⟩,_,_,rfl,⟨F,C,rfl,hF,hC⟩,rfl⟩:=hA;have hF:F = #[]:=by simpa using hF
    have hC:C = #[]:=by simpa using hC
    subst hF hC;have ha:a = ⟨x.b,x.d,none⟩:=by
      rcases hc2 with h0 | h0
      · omega
      · simpa using h0
    subst ha;have hA:A = #[.slice (some ⟨x.b,x.d,none⟩) len c,.func (.func g') #[] #[]]:=Array.toList_inj.1 hA;subst hA;have hob:=hr.obj p x hρ;rw [hp] at hob;obtain ⟨arr,fr,o1,o2,o3,o4,o5,o6⟩:=hob;have hcs:=pairsOf_eq hl;subst hcs;have hfl:=flatP_length l;obtain ⟨d,hd,hread⟩:=FeRl.read o4;have hdl:=hd.length;have hlt:x.b < w.heap.size:=(Array.getElem?_eq_some_iff.1 o1).1;have hsz:d.toArray.size = len:=by simp;omega
    have hH:HoldsK encF 2 w x.b x.d d.toArray:=by
      intro j hj;simp only [size_flatK] at hj;have h1:=get_flat d.toArray hj;have h2:=hread j (by simp at hj;omega);simp only at h1;rw [h1] at h2;refine ⟨?_,?_⟩
      · simp only [World.cell?,o1];simpa using h2
      · have hjn:x.d + j < x.n:=by simp at hj;omega
        have:=unfrozen o6 (x.d + j) hjn;simp only [World.frozen?,o1]
        simpa using this
    have hcall:=S.row x.b x.d c d.toArray w hH hlt (by omega);rw [hsz] at hcall;refine ⟨S.is,fun _=>hcall.mono ?_,fun hD=>by simp [oneFn,AV.isFn] at hD⟩;rintro e w' ⟨rfl,d',m,os,⟨hs1,_,hs3⟩,hsorted,rfl⟩
    -- the sorted list
    have hperm:d.Perm d'.toList:=by
      have e1:(d'.extract 0 len).toList = d'.toList:=by simp;rw [List.take_of_length_le];simp;omega
      have e2:(d.toArray.extract 0 len).toList = d:=by simp;rw [List.take_of_length_le];omega
      rw [e1,e2] at hs3;exact hs3.symm
    obtain ⟨l',hp1,hp2⟩:=hd.perm hperm;have hl'len:=hp2.length;have hsz':d'.size = len:=by omega
    have hdl':d'.toList.length = d'.size:=Array.length_toList;have hl'sort:l'.Pairwise fun a b=>ltN a.1 b.1 = true:=by
      rw [List.pairwise_iff_getElem];intro i j hi hj hij;obtain ⟨bi,hbi,ri⟩:=hp2.get i l'[i] (List.getElem?_eq_getElem hi);obtain ⟨bj,hbj,rj⟩:=hp2.get j l'[j] (List.getElem?_eq_getElem hj);have hs:=hsorted i j (Nat.zero_le _) hij (by simp at hl'len;omega);rw [getB hbi,getB hbj] at hs;have hs:=of_decide_eq_false hs;unfold cfF at hs;rw [compareBytes_eq,rj.1,ri.1] at hs;have hne:l'[i].1 ≠ l'[j].1:=by
        have:=(hp1.symm.pairwise_iff (fun e=>Ne.symm e)).1 q1;exact List.pairwise_iff_getElem.1 this i j hi hj hij
      rcases ltN_tot l'[i].1 l'[j].1 with h1 | h1 | h1
      · exact h1
      · exact absurd h1 hne
      · rw [h1] at hs;simp at hs
    have hl':l' = sortF l:=sortF_of_perm hp1 hl'sort;subst hl'
    -- the world
    have e1:Ext P κ h w κ h (Sort.ahead w m):=Ext.same hr rfl rfl rfl rfl;have o1':(Sort.ahead w m).heap[x.b]? = some (.cells arr ty fr):=o1;have hput:putRowK encF 2 (Sort.ahead w m) x.b x.d d' = World.put (Sort.ahead w m) x.b (.cells (putCells id x.d (flatK encF 2 d') arr) ty fr):=putRow_put o1';have e2:=Ext.update e1.hr (p:=p) (x:=x) ⟨hρ,by rw [hp];simp⟩ (.row ty (flatP (sortF l)) sp) (.cells (putCells id x.d (flatK encF 2 d') arr) ty fr)
      ⟨_,fr,put_heap_same _ _ _ hlt,by simpa [putCells] using o2,by rw [flatP_length];omega,hp2.write fun j hj=>?_,fun hsp=>by rw [flatP_length];have:=o5 hsp;rw [hfl] at this;omega,o6⟩
    · have e3:=Ext.grow (e1.trans e2).hr os;have hw:sortWorldK encF 2 w x.b x.d m d' os = Sort.grow (World.put (Sort.ahead w m) x.b (.cells (putCells id x.d (flatK encF 2 d') arr) ty fr)) os:=by
        unfold sortWorldK;rw [hput]
      rw [hw];exact .inr ⟨κ,VR_unit,(e1.trans e2).trans e3⟩
    · have hjf:j < d'.size * 2:=by omega
      have h1:=get_flat d' hjf;rw [h1];have hja:x.d + j < arr.size:=by omega
      simp only [putCells,Array.getElem?_mapIdx,Array.getElem?_eq_getElem hja,Option.map_some,size_flatK,id];rw [if_pos ⟨by omega,by omega⟩];simp
end Go.X

/- New blocks renamed: what a run that laid blocks in some order comes to,seen with the blocks that matter in another order. -/
namespace Go.X
open Go

mutual
theorem VR.back {κ₀ κ:Kp} (hk:κ₀.le κ) (hM:κ.M = κ₀.M):∀ (a:AV) (v v':Value),VR κ₀ a v→VR κ a v'→VR κ₀ a v'
  | .any,v,v',_,h=>by simp only [VR] at h ⊢;exact h
  | .bool b,v,v',_,h=>by simp only [VR] at h ⊢;exact h
  | .int k n,v,v',_,h=>by simp only [VR] at h ⊢;exact h
  | .str l,v,v',_,h=>by simp only [VR] at h ⊢;exact h
  | .nilptr,v,v',_,h=>by simp only [VR] at h ⊢;exact h
  | .ptr p o,v,v',h0,h=>by
    simp only [VR] at h0 h ⊢;obtain ⟨x,h1,_⟩:=h0;obtain ⟨y,h2,h3⟩:=h;have:=hk.ρ _ _ h1;rw [h2,sJ] at this;subst this;exact ⟨_,h1,h3⟩
  | .gptr g o,v,v',_,h=>by simp only [VR] at h ⊢;exact h
  | .iptr cs,v,v',h0,h=>by
    simp only [VR] at h0 h ⊢;obtain ⟨a0,arr0,e0,fr0,_,_,_,k4⟩:=h0;obtain ⟨a,arr,e,fr,h1,h2,h3,h4⟩:=h;exact ⟨a,arr,e,fr,h1,h2,by rw [← hM];exact h3,VRm.back hk hM cs _ _ k4 h4⟩
  | .nilslice,v,v',_,h=>by simp only [VR] at h ⊢;exact h
  | .slice p o len cap,v,v',h0,h=>by
    simp only [VR] at h0 h ⊢;obtain ⟨x,a0,c0,h1,_⟩:=h0;obtain ⟨y,a,c,h2,h3⟩:=h;have:=hk.ρ _ _ h1;rw [h2,sJ] at this;subst this;exact ⟨_,a,c,h1,h3⟩
  | .imm cs len full,v,v',h0,h=>by
    simp only [VR] at h0 h ⊢;obtain ⟨a0,c0,_,_,_,k4⟩:=h0;obtain ⟨a,c,h1,h2,h3,h4⟩:=h;refine ⟨a,c,h1,h2,h3,?_⟩
    rcases h4 with h4 | h4 | ⟨h4,arr,e,fr,h5,h6⟩
    · exact .inl h4
    · exact .inr (.inl h4)
    · rcases k4 with k4 | k4 | ⟨_,_,_,_,_,k6⟩
      · exact .inl k4
      · exact .inr (.inl k4)
      · exact .inr (.inr ⟨h4,arr,e,fr,by rw [← hM];exact h5,VRm.back hk hM cs _ _ k6 h6⟩)
  | .nilmap,v,v',_,h=>by simp only [VR] at h ⊢;exact h
  | .map p,v,v',h0,h=>by
    simp only [VR] at h0 h ⊢;obtain ⟨x,h1,_⟩:=h0;obtain ⟨y,h2,h3⟩:=h;have:=hk.ρ _ _ h1;rw [h2,sJ] at this;subst this;exact ⟨_,h1,h3⟩
  | .nilfunc,v,v',_,h=>by simp only [VR] at h ⊢;exact h
  | .func f a c,v,v',h0,h=>by
    simp only [VR] at h0 h ⊢;obtain ⟨A0,C0,_,k1,k2⟩:=h0;obtain ⟨A,C,h1,h2,h3⟩:=h;exact ⟨A,C,h1,VRl.back hk hM a _ _ k1 h2,VRl.back hk hM c _ _ k2 h3⟩
  | .yield l,v,v',h0,h=>by
    simp only [VR] at h0 h ⊢;obtain ⟨x,h1,_⟩:=h0;obtain ⟨y,h2,h3⟩:=h;have:=hk.ρ _ _ h1;rw [h2,sJ] at this;subst this;exact ⟨_,h1,h3⟩
  | .niliface,v,v',_,h=>by simp only [VR] at h ⊢;exact h
  | .iface t a,v,v',h0,h=>by
    simp only [VR] at h0 h ⊢;obtain ⟨w0,_,k⟩:=h0;obtain ⟨w,h1,h2⟩:=h;exact ⟨w,h1,VR.back hk hM a _ _ k h2⟩
  | .agg cs,v,v',h0,h=>by
    simp only [VR] at h0 h ⊢;obtain ⟨_,_,_,k⟩:=h0;obtain ⟨vs,h1,h2,h3⟩:=h;exact ⟨vs,h1,h2,VRl.back hk hM cs _ _ k h3⟩
  | .tuple cs,v,v',h0,h=>by
    simp only [VR] at h0 h ⊢;obtain ⟨_,_,k⟩:=h0;obtain ⟨vs,h1,h3⟩:=h;exact ⟨vs,h1,VRl.back hk hM cs _ _ k h3⟩
theorem VRl.back {κ₀ κ:Kp} (hk:κ₀.le κ) (hM:κ.M = κ₀.M):∀ (a:List AV) (v v':List Value),VRl κ₀ a v→VRl κ a v'→VRl κ₀ a v'
  | [],v,v',_,h=>by simp only [VRl] at h ⊢;exact h
  | c :: cs,v,v',h0,h=>by
    simp only [VRl] at h0 h ⊢;obtain ⟨_,_,_,k1,k2⟩:=h0;obtain ⟨x,r,h1,h2,h3⟩:=h;exact ⟨x,r,h1,VR.back hk hM c _ _ k1 h2,VRl.back hk hM cs _ _ k2 h3⟩
theorem VRm.back {κ₀ κ:Kp} (hk:κ₀.le κ) (hM:κ.M = κ₀.M):∀ (a:List AV) (f f':Nat→Option Value),VRm κ₀ a f→VRm κ a f'→VRm κ₀ a f'
  | [],_,_,_,_=>by simp only [VRm]
  | c :: cs,f,f',h0,h=>by
    simp only [VRm] at h0 h ⊢;obtain ⟨⟨_,_,_,k1⟩,k2⟩:=h0;obtain ⟨⟨x,h1,h2,h3⟩,h4⟩:=h;exact ⟨⟨x,h1,h2,VR.back hk hM c _ _ k1 h3⟩,VRm.back hk hM cs _ _ k2 h4⟩
end
theorem VRe.back {κ₀ κ:Kp} (hk:κ₀.le κ) (hM:κ.M = κ₀.M):∀ (a:List (AV × AV × Nat)) (l l':List MapEntry),VRe κ₀ a l→VRe κ a l'→VRe κ₀ a l'
  | [],_,_,_,h=>h
  | (_k,_v,_b) :: es,_,_,⟨_,_,_,k1,k2,_,k3⟩,⟨e,r,h1,h2,h3,h4,h5⟩=>⟨e,r,h1,VR.back hk hM _ _ _ k1 h2,VR.back hk hM _ _ _ k2 h3,h4,VRe.back hk hM es _ _ k3 h5⟩
theorem OR.back {P:Program} {κ₀ κ:Kp} (hk:κ₀.le κ) (hM:κ.M = κ₀.M) {x:Spot} {w w':World}:∀ {o:AObj},OR P κ₀ x w o→OR P κ x w' o→OR P κ₀ x w' o
  | .dead,_,_=>trivial
  | .row _ty _cs _sp,⟨_,_,_,_,_,k4,_⟩,⟨arr,fr,h1,h2,h3,h4,h5⟩=>⟨arr,fr,h1,h2,h3,VRm.back hk hM _ _ _ k4 h4,h5⟩
  | .map _es _cl,⟨_,_,k2⟩,⟨arr,h1,h2⟩=>⟨arr,h1,VRe.back hk hM _ _ _ k2 h2⟩
  | .sIter _l _pos,_,⟨h0,s,h1,h2⟩=>⟨h0,s,h1,h2⟩
  | .mIter none _since _seen _last,_,⟨h0,m',h1,h2,h3⟩=>⟨h0,m',h1,h2,h3⟩
  | .mIter (some _q) _since _seen _last,⟨_,_,_,_,y0,k3,_⟩,⟨h0,m',h1,h2,y,h3,h4⟩=>by
    have:=hk.ρ _ _ k3;rw [h3,sJ] at this;subst this;exact ⟨h0,m',h1,h2,_,k3,h4⟩
  | .loop ..,⟨L0,_,_,_,_,_,_,_,k7,_⟩,⟨L,h1,h2,h3,h4,h4',h5,h6,h7,h8⟩=>⟨L,h1,h2,h3,h4,h4',h5,h6,⟨h7.size,fun t v e=>VR.back hk hM _ _ _ (k7.val t v e) (h7.val t v e)⟩,h8⟩

section
variable {P:Program} {κ₀ κ:Kp} {h₀ h:Heap} {w₀ w:World}
theorem Ext.shrink (hr:HR P κ₀ h₀ w₀) (e:Ext P κ₀ h₀ w₀ κ h w) (hs:∀ p x,Live κ₀ h₀ p x→h.get p = h₀.get p):Ext P κ₀ h₀ w₀ κ₀ h₀ w:=by
  refine ⟨.refl κ₀,rfl,⟨fun p x hp=>?_,hr.apart,fun b o hb=>e.hr.frozen b o (by rw [e.M];exact hb),hr.off,hr.top,hr.clean⟩,Nat.le_refl _,e.size,e.fc,fun p x hl _=>⟨p,x,hl,rfl⟩,fun p _ hp=>⟨hp,rfl⟩,e.os,e.output,e.tape⟩
  by_cases hd:h₀.get p = .dead
  · rw [hd];trivial
  · have h1:=e.hr.obj p x (e.le.ρ _ _ hp);rw [hs p x ⟨hp,hd⟩] at h1;exact OR.back e.le e.M (hr.obj p x hp) h1
theorem Ext.new_of (_hr:HR P κ₀ h₀ w₀) (e:Ext P κ₀ h₀ w₀ κ h w) (hs:∀ p x,Live κ₀ h₀ p x→h.get p = h₀.get p) {p:Pos} {x:Spot} (hl:Live κ h p x) (hp:κ₀.ρ p = none):w₀.heap.size ≤ x.b:=by
  apply Nat.le_of_not_lt
  intro hlt;obtain ⟨q,y,hq,hy⟩:=e.lr p x hl hlt;have hq':Live κ h q y:=⟨e.le.ρ _ _ hq.1,by rw [hs q y hq];exact hq.2⟩;exact e.hr.apart p q x y hl hq' (fun heq=>by rw [heq,hq.1] at hp;cases hp) hy.symm
theorem Ext.adoptB (e:Ext P κ₀ h₀ w₀ κ h w) {x:Spot} (hg:w₀.heap.size ≤ x.b) (hfree:∀ q y,Live κ h q y→y.b ≠ x.b) (hM:κ.M x.b = none) (o:AObj) (ho:OR P (κ.at h.next x) x w o) :
    Ext P κ₀ h₀ w₀ (κ.at h.next x) (h.push o) w:=by
  have hr:=e.hr;have hle:=Kp.at_le (x:=x) hr.next_none;have hcase:∀ q y,(κ.at h.next x).ρ q = some y→(q = h.next∧y = x)∨(q ≠ h.next∧κ.ρ q = some y):=by
    intro q y e
    by_cases hq:q = h.next
    · subst hq;rw [Kp.at_same] at e;exact .inl ⟨rfl,(Option.some.inj e).symm⟩
    · rw [Kp.at_ne _ _ hq] at e;exact .inr ⟨hq,e⟩
  have hlive:∀ q y,Live (κ.at h.next x) (h.push o) q y→(q = h.next∧y = x)∨(q ≠ h.next∧Live κ h q y):=by
    intro q y ⟨h1,h2⟩
    rcases hcase q y h1 with h3 | ⟨h3,h4⟩
    · exact .inl h3
    · refine .inr ⟨h3,h4,?_⟩;rw [Heap.get_push_lt o (hr.top q y h4)] at h2;exact h2
  have hn:h₀.next.toNat ≤ h.next.toNat:=e.next;refine ⟨e.le.trans hle,e.M,⟨?_,?_,hr.frozen,?_,?_,fun q hq=>by rw [Heap.next_push] at hq;rw [Heap.get_push_ne h o (fun e=>by rw [e] at hq;omega)];exact hr.clean q (by omega)⟩,by rw [Heap.next_push];omega,e.size,e.fc,?_,?_,e.os,e.output,e.tape⟩
  · intro q y e
    rcases hcase q y e with ⟨rfl,rfl⟩ | ⟨h3,h4⟩
    · rw [Heap.get_push_same];exact ho
    · rw [Heap.get_push_lt o (hr.top q y h4)];exact OR.mono hle rfl (hr.obj q y h4)
  · intro q r y z h1 h2 hne
    rcases hlive q y h1 with ⟨rfl,rfl⟩ | ⟨h3,h4⟩ <;> rcases hlive r z h2 with ⟨rfl,rfl⟩ | ⟨h5,h6⟩
    · exact absurd rfl hne
    · exact fun e=>hfree r z h6 e.symm
    · exact hfree q y h4
    · exact hr.apart q r y z h4 h6 hne
  · intro q y h1
    rcases hlive q y h1 with ⟨rfl,rfl⟩ | ⟨h3,h4⟩
    · exact hM
    · exact hr.off q y h4
  · intro q y e;rw [Heap.next_push]
    rcases hcase q y e with ⟨rfl,rfl⟩ | ⟨h3,h4⟩
    · omega
    · have:=hr.top q y h4;omega
  · intro q y h1 hy
    rcases hlive q y h1 with ⟨rfl,rfl⟩ | ⟨h3,h4⟩
    · omega
    · exact e.lr q y h4 hy
  · intro q hq hnn;have hne:q ≠ h.next:=fun e=>by rw [e] at hq;omega
    obtain ⟨g1,g2⟩:=e.gc q hq hnn;exact ⟨by rw [Kp.at_ne _ _ hne];exact g1,by rw [Heap.get_push_lt o (by omega)];exact g2⟩
end
end Go.X

/- slices.SortFunc at files,by name: what is known of it,of the library's contract. -/
namespace Go.X
open Go Go.Sort Go.Proofs Go.Shelf Go.Lib
theorem cfF_lt (x y:Fe):ltOf cfF x y = ltN (x.1.data.toList.map UInt8.toNat) (y.1.data.toList.map UInt8.toNat):=by
  unfold ltOf cfF;rw [compareBytes_eq]
  cases ltN (x.1.data.toList.map UInt8.toNat) (y.1.data.toList.map UInt8.toNat) with
  | true=>rfl
  | false=>cases beqN (x.1.data.toList.map UInt8.toNat) (y.1.data.toList.map UInt8.toNat) <;> rfl
theorem cfF_swo:SWO (ltOf cfF) where
  irrefl x:=by rw [cfF_lt];exact ltN_irr _
  trans x y z h1 h2:=by rw [cfF_lt] at *;exact ltN_tr h1 h2
  ntrans x y z h1 h2:=by
    rw [cfF_lt] at *
    generalize x.1.data.toList.map UInt8.toNat = a at *
    generalize y.1.data.toList.map UInt8.toNat = b at *
    generalize z.1.data.toList.map UInt8.toNat = c at *
    cases h:ltN a c with
    | false=>rfl
    | true =>
      rcases ltN_tot b c with h3 | h3 | h3
      · rw [h2] at h3;simp at h3
      · subst h3;rw [h] at h1;simp at h1
      · have:=ltN_tr h h3;rw [h1] at this;simp at this
theorem bytesWorld_grow (w:World) (e:TypeId) (s:ByteArray):∃ o,bytesWorld w e s = grow (w.drewN 1) #[o]:=by
  refine ⟨.cells (bytesCells w e s) e ((bytesCells w e s).size,(bytesCells w e s).size + 1),?_⟩;have hh:(bytesWorld w e s).heap = w.heap++#[.cells (bytesCells w e s) e ((bytesCells w e s).size,(bytesCells w e s).size + 1)]:=by
    apply Array.ext_getElem?
    intro k
    rcases Nat.lt_trichotomy k w.heap.size with h | h | h
    · rw [bytesWorld_at_old w e s k h,Array.getElem?_append_left h]
    · subst h;rw [bytesWorld_at_new,Array.getElem?_append_right (Nat.le_refl _)];simp
    · have h1:(bytesWorld w e s).heap.size ≤ k:=by rw [bytesWorld_size];omega
      rw [Array.getElem?_eq_none h1,Array.getElem?_eq_none (by simp;omega)]
  have hw:bytesWorld w e s = { w with heap:=(bytesWorld w e s).heap,drawn:=w.drawn + 1 }:=rfl;rw [hw,hh];rfl
theorem encF_one (x:Fe):∀ v ∈ encF x,v.oneCell' = true:=by
  intro v hv
  rcases List.mem_cons.1 hv with rfl | hv
  · rfl
  · have:=List.mem_singleton.1 hv;subst this;exact x.2.2
theorem sortsF_of {P:Program} {ρ:Ren} (L:SlLaysF0.n6 P ρ) (aE:∀ w,(isAgg (ρ.t 24)).run P w = .ok true w) (zE:∀ w,(Go.sizeOf (ρ.t 24)).run P w = .ok 2 w) {g:FuncId} (eg:∀ args w,(callFunc g args).run P w = .ok (.enter g args) w)
    (hcmp:∀ (va vb:Value) (s t:ByteArray) (w:World),Calls P g #[.agg #[.string s,va],.agg #[.string t,vb]] w fun e w'=>e = .returned (.int .i64 (Lib.compareBytes s.data.toList t.data.toList))∧∃ q os,w' = grow (w.drewN q) os)
    (hnone:∀ w,Calls P (ρ.f 6) #[.slice none 0 0,.func (.func g) #[] #[]] w fun e w'=>e = .returned (.tuple #[])∧w' = w)
    (his:∃ fn c,P.funcs[ρ.f 6]? = some fn∧fn.body = some c∧fn.name ≠ "runtime.NumGoroutine"):SortsF P (ρ.f 6) g:=by
  refine ⟨his,hnone,fun blk off cap d w hH hblk hsz=>?_⟩;have h:=AnyQ.slices_SortFunc L 2 aE zE encF (fun _=>rfl) encF_one cfF cfF_swo g #[] blk off cap d w eg (fun m os dk _ x y=>?_) hH hblk hsz
  · exact h
  · have:=hcmp x.2.1 y.2.1 x.1 y.1 (sortWorldK encF 2 w blk off m dk os);exact this
end Go.X
