/- Reading a formula out of memory: whatever reads as data of its type lies there as a tree. -/
import Derived.Test.YtkmffbmgpnndcaaGreatDoorCpWp
import Derived.ChangeArms
import Derived.Deep.Slices
import Derived.Test.YtkmffbmgpnndcaaGreatDoorXxMain
import Derived.Test.YtkmffbmgpnndcaaGreatDoorDv9
import Derived.ChangeShapes
namespace Go.X
open Go
def Kp.all (w:World):Kp:=⟨fun _=>none,fun b=>w.heap[b]?⟩
theorem VRl.app {κ:Kp}:∀ {a:List AV} {x:List Value} {b:List AV} {y:List Value},VRl κ a x→VRl κ b y→VRl κ (a++b) (x++y)
  | [],x,b,y,h,h'=>by simp only [VRl] at h;subst h;exact h'
  | c :: a,x,b,y,h,h'=>by
    simp only [VRl] at h;obtain ⟨v,r,rfl,h1,h2⟩:=h;simp only [List.cons_append,VRl];exact ⟨v,r++y,rfl,h1,VRl.app h2 h'⟩
theorem VRl.one {κ:Kp} {a:AV} {v:Value} (h:VR κ a v):VRl κ [a] [v]:=by simp only [VRl];exact ⟨v,[],rfl,h,rfl⟩
theorem VRl.lens {κ:Kp}:∀ {a:List AV} {x:List Value},VRl κ a x→a.length = x.length
  | [],x,h=>by simp only [VRl] at h;subst h;rfl
  | c :: a,x,h=>by
    simp only [VRl] at h;obtain ⟨v,r,rfl,h1,h2⟩:=h;simp [VRl.lens h2]
theorem VRm.append {κ:Kp}:∀ {a b:List AV} {g:Nat→Option Value},VRm κ a g→VRm κ b (fun i=>g (a.length + i))→VRm κ (a++b) g
  | [],b,g,_,h'=>by simpa using h'
  | c :: a,b,g,h,h'=>by
    simp only [VRm,List.cons_append] at h ⊢;refine ⟨h.1,VRm.append h.2 ?_⟩;have:(fun i=>g ((c :: a).length + i)) = fun i=>g (a.length + i + 1):=by funext i;congr 1;simp;omega
    rw [this] at h';exact h'
theorem VRm.of {κ:Kp}:∀ {a:List AV} {x:List Value} {g:Nat→Option Value},VRl κ a x→a.all AV.one = true→(∀ i,i < x.length→g i = x[i]?)→VRm κ a g
  | [],x,g,_,_,_=>by simp only [VRm]
  | c :: a,x,g,h,ho,hg=>by
    simp only [VRl] at h;obtain ⟨v,r,rfl,h1,h2⟩:=h;simp only [List.all_cons,Bool.and_eq_true] at ho;simp only [VRm];refine ⟨⟨v,by rw [hg 0 (by simp)];rfl,ho.1,h1⟩,VRm.of h2 ho.2 fun i hi=>?_⟩;rw [hg (i + 1) (by simpa using hi)];rfl
theorem list_of {α:Type} {q:Nat→α→Prop}:∀ (n:Nat),(∀ i,i < n→∃ t,q i t)→∃ l:List α,l.length = n∧∀ i (h:i < l.length),q i l[i]
  | 0,_=>⟨[],rfl,fun i h=>absurd h (Nat.not_lt_zero _)⟩
  | n + 1,h=>by
    obtain ⟨l,hl,hq⟩:=list_of n fun i hi=>h i (by omega)
    obtain ⟨t,ht⟩:=h n (by omega);refine ⟨l++[t],by simp [hl],fun i hi=>?_⟩;simp only [List.length_append,List.length_cons,List.length_nil] at hi
    rcases Nat.lt_or_ge i l.length with h1 | h1
    · rw [List.getElem_append_left h1];exact hq i h1
    · have:i = n:=by omega
      subst this;rw [List.getElem_append_right h1];simp [hl,ht]
section
variable {H:Type} {enc:TypeId × Value→H} {P:Program} {W:World} {sp:Nat→Bool} {held:Bool}
theorem cells_of {base:Nat} {a:Addr} {n:Nat} {cs:List Value} (h:W.cells? base a n = some cs):cs.length = n∧∀ i,i < n→W.cell? (a.add i) = cs[i]?:=by
  unfold World.cells? at h
  split at h
  · refine ⟨by simpa using mapM_some_length h,fun i hi=>?_⟩;exact mapM_some_get h i i (by simp [hi])
  · simp at h
theorem VRm_flat {κ:Kp} {α:Type} {f:α→List AV} {k:Nat} (hf:∀ t,(f t).length = k):∀ (l:List α) (g:Nat→Option Value),(∀ i (h:i < l.length),VRm κ (f l[i]) (fun j=>g (i * k + j)))→VRm κ (l.flatMap f) g
  | [],g,_=>by simp only [List.flatMap_nil,VRm]
  | t :: l,g,h=>by
    rw [List.flatMap_cons];have h0:=h 0 (by simp);simp only [Nat.zero_mul,Nat.zero_add] at h0;refine VRm.append h0 (VRm_flat hf l _ fun i hi=>?_);have:=h (i + 1) (by simpa using hi);simp only [List.getElem_cons_succ] at this;rw [hf];have e:(fun j=>g (k + (i * k + j))) = fun j=>g ((i + 1) * k + j):=by funext j;congr 1;rw [Nat.succ_mul];omega
    rw [e];exact this
theorem one_int {k:IntKind} {n:Int}:(AV.int k n).one = true:=rfl
theorem one_str {l:List Nat}:(AV.str l).one = true:=rfl
/-! ### the types -/
structure Types (P:Program) (tI tB tS tIs tSs tZ tV tVs tE tEs tT tTs:TypeId):Prop where
  i:P.underlying tI = some (.int .i64)
  b:P.underlying tB = some .bool
  s:P.underlying tS = some .string
  is:P.underlying tIs = some (.slice tI)
  ss:P.underlying tSs = some (.slice tS)
  vs:P.underlying tVs = some (.slice tV)
  es:P.underlying tEs = some (.slice tE)
  ts:P.underlying tTs = some (.slice tT)
  z:∃ fs,P.underlying tZ = some (.struct fs)∧fs.toList.map (fun f=>(f.type,f.offset)) = [(tB,0),(tIs,1)]
  v:∃ fs,P.underlying tV = some (.struct fs)∧fs.toList.map (fun f=>(f.type,f.offset)) = [(tI,0),(tI,1),(tZ,2),(tS,4),(tVs,5),(tVs,6)]
  e:∃ fs,P.underlying tE = some (.struct fs)∧fs.toList.map (fun f=>(f.type,f.offset)) = [(tI,0),(tI,1),(tSs,2),(tV,3),(tEs,10)]
  t:∃ fs,P.underlying tT = some (.struct fs)∧fs.toList.map (fun f=>(f.type,f.offset)) = [(tI,0),(tE,1),(tE,12),(tTs,23)]
  ci:P.cellsOf tI = 1
  cb:P.cellsOf tB = 1
  cs:P.cellsOf tS = 1
  cis:P.cellsOf tIs = 1
  css:P.cellsOf tSs = 1
  cvs:P.cellsOf tVs = 1
  ces:P.cellsOf tEs = 1
  cts:P.cellsOf tTs = 1
  cz:P.cellsOf tZ = 2
  cv:P.cellsOf tV = 7
  ce:P.cellsOf tE = 11
  ct:P.cellsOf tT = 24
variable {tI tB tS tIs tSs tZ tV tVs tE tEs tT tTs:TypeId} (T:Types P tI tB tS tIs tSs tZ tV tVs tE tEs tT tTs)
include T
end
end Go.X

/- Reading CkptSynced's arguments out of memory: volumes and operations of bounded size;from a run of X to the model. -/
namespace Go.X
open Go
structure Meas {H:Type} (P:Program) (Q:TypeId→DataW H→Prop) (B:Nat):Prop where
  s:∀ t l,Q t (.lit (.string l))→l.length ≤ B
  sl:∀ t e a b,P.underlying t = some (.slice e)→0 < P.bytesOf e→Q t (.slice a b)→a.length ≤ B∧∀ d ∈ a,Q e d
  ag:∀ t fs a (i:Nat) f d,P.underlying t = some (.struct fs)→Q t (.agg a)→fs[i]? = some f→a[i]? = some d→Q f.type d
section
variable {H:Type} {P:Program} {B:Nat}
def wtB (P:Program) (B:Nat) (t:TypeId) (d:DataW H):Prop:=∀ x ∈ d.weights P t,x ≤ B
theorem weightsAll_mem {e:TypeId} {d:DataW H} {x:Nat}:∀ {a:List (DataW H)},d ∈ a→x ∈ d.weights P e→x ∈ DataW.weightsAll P e a
  | [],m,_=>absurd m List.not_mem_nil
  | c :: a,m,hx=>by
    simp only [DataW.weightsAll,List.mem_append]
    rcases List.mem_cons.1 m with rfl | m
    · exact .inl hx
    · exact .inr (weightsAll_mem m hx)
theorem weightsEach_mem {x:Nat} {t:TypeId} {d:DataW H}:∀ {ts:List TypeId} {a:List (DataW H)} {i:Nat},ts[i]? = some t→a[i]? = some d→x ∈ d.weights P t→x ∈ DataW.weightsEach P ts a
  | [],_,_,h,_,_=>by simp at h
  | _ :: _,[],_,_,h,_=>by simp at h
  | u :: ts,c :: a,0,h1,h2,hx=>by
    simp only [List.getElem?_cons_zero,sJ] at h1 h2;subst h1;subst h2;simp only [DataW.weightsEach,List.mem_append];exact .inl hx
  | u :: ts,c :: a,i + 1,h1,h2,hx=>by
    simp only [List.getElem?_cons_succ] at h1 h2;simp only [DataW.weightsEach,List.mem_append];exact .inr (weightsEach_mem h1 h2 hx)
theorem measW:Meas (H:=H) P (wtB P B) B where
  s t l h:=h _ (by simp only [DataW.weights,List.mem_singleton])
  sl t e a b ht h0 h:=by
    unfold wtB at h;simp only [DataW.weights,ht] at h;refine ⟨?_,fun d m x hx=>h x (mS _ (List.mem_append_left _ (weightsAll_mem m hx)))⟩;have h1:=h _ m0;have h2:a.length + b.length ≤ (a.length + b.length) * P.bytesOf e:=Nat.le_mul_of_pos_right _ h0;omega
  ag t fs a i f d ht h hf hd x hx:=by
    unfold wtB at h;simp only [DataW.weights,ht] at h;refine h x (weightsEach_mem (i:=i) ?_ hd hx);rw [List.getElem?_map];have:fs.toList[i]? = some f:=by simpa using hf
    rw [this];rfl
end
def byteC (b:Nat):List AV:=[.int .u8 (.ofNat b)]
theorem flat_byteC:∀ l:List Nat,l.flatMap byteC = avBytes l
  | []=>rfl
  | b :: l=>by rw [List.flatMap_cons,flat_byteC l];rfl
structure OpW where
  op:OpV
  nl:Bool
  fu:Bool
def OpW.sl (o:OpW):AV:=slAV o.nl o.fu o.op.b.length (avBytes o.op.b)
def OpW.cells (o:OpW):List AV:=[.int .i64 o.op.kind,.str o.op.name,.str o.op.to,o.sl]
section
variable {H:Type} {enc:TypeId × Value→H} {P:Program} {W:World} {sp:Nat→Bool} {held:Bool} {Q:TypeId→DataW H→Prop} {B:Nat} (K:Meas P Q B)
include K
theorem open_slB {α:Type} {f:α→List AV} {k:Nat} {okA:α→Prop} (hf:∀ t,(f t).length = k) (hk:0 < k) (h1:∀ t,(f t).all AV.one = true) {t e:TypeId} {fuel:Nat} {cs:List Value} {x:DataW H × List MemPlace} (ht:P.underlying t = some (.slice e)) (hc:P.cellsOf e = k) (hb:0 < P.bytesOf e)
    (hel:∀ n cs x,DataW.trod enc P W 0 sp held n e cs = some x→Q e x.1→∃ τ:α,okA τ∧VRl (Kp.all W) (f τ) cs) (h:DataW.trod enc P W 0 sp held fuel t cs = some x) (hB:Q t x.1) :
    ∃ (nl fu:Bool) (l:List α),l.length ≤ B∧(∀ τ ∈ l,okA τ)∧VRl (Kp.all W) [slAV nl fu l.length (l.flatMap f)] cs:=by
  rcases DataW.trod_slice ht h with ⟨rfl,_⟩ | ⟨a,len,cap,elems,rest,n,rfl,rfl,rfl,_,hl,hm,hlen,hx,_,_⟩
  · refine ⟨true,true,[],Nat.zero_le _,by simp,VRl.one ?_⟩;show VR _ .nilslice _;simp only [VR]
  · rw [hc] at hx;obtain ⟨hlB,hall⟩:=K.sl _ _ _ _ ht hb hB;rw [List.length_map] at hlB;have key:∀ i,i < len→∃ τ:α,okA τ∧∃ cs',W.cells? 0 (a.add (i * k)) k = some cs'∧VRl (Kp.all W) (f τ) cs':=by
      intro i hi;have:=hx i hi;rw [List.getElem?_eq_getElem (by omega),bJ] at this;obtain ⟨cs',h2,h3⟩:=this;obtain ⟨τ,h4,h5⟩:=hel n cs' _ h3 (hall _ (List.mem_map_of_mem (List.getElem_mem _)));exact ⟨τ,h4,cs',h2,h5⟩
    obtain ⟨l,hll,hq⟩:=list_of len key;have hlb:l.length ≤ B:=by omega
    refine ⟨false,decide (cap = len),l,hlb,fun τ m=>?_,VRl.one ?_⟩
    · obtain ⟨i,hi,rfl⟩:=List.mem_iff_getElem.1 m;exact (hq i hi).1
    · have e:slAV false (decide (cap = len)) l.length (l.flatMap f) = .imm (l.flatMap f) l.length (decide (cap = len)):=by cases l.length <;> rfl
      rw [e];simp only [VR];refine ⟨a,cap,by rw [hll],by omega,fun hd=>by rw [hll];exact of_decide_eq_true hd,?_⟩
      rcases Nat.eq_zero_or_pos l.length with h0 | h0
      · exact .inr (.inl h0)
      · right;right
        obtain ⟨_,cs0,hcs0,hv0⟩:=hq 0 h0;obtain ⟨hn0,hcell0⟩:=cells_of hcs0;have hc0:=hcell0 0 hk;rw [List.getElem?_eq_getElem (by omega)] at hc0;have ea:((a.add (0 * k)).add 0) = a:=by simp [Addr.add]
        rw [ea] at hc0;unfold World.cell? at hc0
        split at hc0
        · rename_i arr ty fr hh
          by_cases hsp:a.spot.isSome
          · simp [hsp] at hc0
          · have hspn:a.spot = none:=by cases hs:a.spot with | none=>rfl | some _=>simp [hs] at hsp
            refine ⟨hspn,arr,ty,fr,hh,VRm_flat hf l _ fun i hi=>?_⟩;obtain ⟨_,cs',hcs,hv⟩:=hq i hi;obtain ⟨hn,hcell⟩:=cells_of hcs;refine VRm.of hv (h1 _) fun j hj=>?_
            rw [← hcell j (by omega)];have eb:(a.add (i * k)).add j = a.add (i * k + j):=Deep.add_add a _ _;rw [eb]
            by_cases hz:i * k + j = 0
            · rw [hz];simp [World.cell?,Addr.add,hh,hspn]
            · rw [Addr.add,if_neg hz];simp only [World.cell?,hh];rfl
        · simp at hc0
theorem fieldsB {t:TypeId} {fs:Array Field} {l:List (TypeId × Nat)} {fuel:Nat} {cs:List Value} {x:DataW H × List MemPlace} (ht:P.underlying t = some (.struct fs)) (hl:fs.toList.map (fun f=>(f.type,f.offset)) = l) (h:DataW.trod enc P W 0 sp held fuel t cs = some x) (hB:Q t x.1) :
    cs.length = P.cellsOf t∧∀ (i:Nat) (u:TypeId) (o:Nat),l[i]? = some (u,o)→∃ n y,DataW.trod enc P W 0 sp held n u ((cs.drop o).take (P.cellsOf u)) = some y∧Q u y.1:=by
  obtain ⟨xs,n,h1,rfl,h2,h3,h4⟩:=DataW.trod_struct ht h;refine ⟨h2,fun i u o hi=>?_⟩;subst hl;rw [List.getElem?_map,Option.map_eq_some_iff] at hi;obtain ⟨f,hf,e⟩:=hi;have hf':fs[i]? = some f:=by simpa using hf
  have hlt:i < fs.size:=by
    have:=List.getElem?_eq_some_iff.1 hf
    simpa using this.1
  have:=h4 i f hf';rw [List.getElem?_eq_getElem (by omega)] at this
  cases e
  refine ⟨n,_,this,K.ag t fs _ i f _ ht hB hf' ?_⟩;rw [List.getElem?_map,List.getElem?_eq_getElem (by omega)];rfl
theorem open_bytesB {t e:TypeId} {fuel:Nat} {cs:List Value} {x:DataW H × List MemPlace} (ht:P.underlying t = some (.slice e)) (he:P.underlying e = some (.int .u8)) (hc:P.cellsOf e = 1) (hb:0 < P.bytesOf e) (h:DataW.trod enc P W 0 sp held fuel t cs = some x) (hB:Q t x.1) :
    ∃ (nl fu:Bool) (l:List Nat),l.length ≤ B∧VRl (Kp.all W) [slAV nl fu l.length (avBytes l)] cs:=by
  obtain ⟨nl,fu,l,h1,_,h3⟩:=open_slB K (f:=byteC) (okA:=fun _=>True) (fun _=>rfl) (Nat.le_refl 1) (fun _=>rfl) ht hc hb (fun n cs x h _=>by
    obtain ⟨k,rfl,_,hw⟩:=DataW.trod_int he h;simp only [Lit.wf,Bool.and_eq_true,decide_eq_true_eq] at hw;have e1:IntKind.u8.min = 0:=by decide
    rw [e1] at hw;refine ⟨k.toNat,trivial,VRl.one ?_⟩;simp only [VR];rw [ofNat_cast,Int.toNat_of_nonneg hw.1]) h hB
  rw [flat_byteC] at h3;exact ⟨nl,fu,l,h1,h3⟩
theorem open_nameB {t:TypeId} (ht:P.underlying t = some .string) {n:Nat} {cs:List Value} {x:DataW H × List MemPlace} (h:DataW.trod enc P W 0 sp held n t cs = some x) (hB:Q t x.1):∃ s:List Nat,s.length ≤ B∧VRl (Kp.all W) [.str s] cs:=by
  obtain ⟨s,rfl,rfl,_⟩:=DataW.trod_string ht h;refine ⟨s.data.toList.map UInt8.toNat,by rw [List.length_map];exact K.s _ _ hB,VRl.one (by simp only [VR];exact ⟨s,rfl,rfl⟩)⟩
end
structure TypesV (P:Program) (tS tU tBs tF tFs tD tO tOs tV:TypeId):Prop where
  i:P.underlying 3 = some (.int .i64)
  s:P.underlying tS = some .string
  u:P.underlying tU = some (.int .u8)
  b:P.underlying tBs = some (.slice tU)
  f:∃ fs,P.underlying tF = some (.struct fs)∧fs.toList.map (fun f=>(f.type,f.offset)) = [(tS,0),(tBs,1)]
  fs:P.underlying tFs = some (.slice tF)
  d:∃ fs,P.underlying tD = some (.struct fs)∧fs.toList.map (fun f=>(f.type,f.offset)) = [(tFs,0)]
  o:∃ fs,P.underlying tO = some (.struct fs)∧fs.toList.map (fun f=>(f.type,f.offset)) = [(3,0),(tS,1),(tS,2),(tBs,3)]
  os:P.underlying tOs = some (.slice tO)
  v:∃ fs,P.underlying tV = some (.struct fs)∧fs.toList.map (fun f=>(f.type,f.offset)) = [(tD,0),(tOs,1)]
  ci:P.cellsOf 3 = 1
  cs:P.cellsOf tS = 1
  cu:P.cellsOf tU = 1
  cb:P.cellsOf tBs = 1
  cf:P.cellsOf tF = 2
  cfs:P.cellsOf tFs = 1
  cd:P.cellsOf tD = 1
  co:P.cellsOf tO = 4
  cos:P.cellsOf tOs = 1
  cv:P.cellsOf tV = 2
  bu:0 < P.bytesOf tU
  bf:0 < P.bytesOf tF
  bo:0 < P.bytesOf tO
def okFV (B:Nat) (f:FV):Prop:=f.name.length ≤ B∧f.b.length ≤ B
def okOW (B:Nat) (o:OpW):Prop:=o.op.name.length ≤ B∧o.op.to.length ≤ B∧o.op.b.length ≤ B
section
variable {H:Type} {enc:TypeId × Value→H} {P:Program} {W:World} {sp:Nat→Bool} {held:Bool} {Q:TypeId→DataW H→Prop} {B:Nat} (K:Meas P Q B) {tS tU tBs tF tFs tD tO tOs tV:TypeId} (T:TypesV P tS tU tBs tF tFs tD tO tOs tV)
include K T
theorem open_fileB {n:Nat} {cs:List Value} {x:DataW H × List MemPlace} (h:DataW.trod enc P W 0 sp held n tF cs = some x) (hB:Q tF x.1):∃ f:FV,okFV B f∧VRl (Kp.all W) f.cells cs:=by
  obtain ⟨fs,hs,hl⟩:=T.f;obtain ⟨hlen,hf⟩:=fieldsB K hs hl h hB;obtain ⟨n0,y0,f0,b0⟩:=hf 0 _ _ rfl;obtain ⟨n1,y1,f1,b1⟩:=hf 1 _ _ rfl;rw [T.cs] at f0;rw [T.cb] at f1;obtain ⟨nm,hn1,v0⟩:=open_nameB K T.s f0 b0;obtain ⟨nl,fu,l,hl1,v1⟩:=open_bytesB K T.b T.u T.cu T.bu f1 b1;refine ⟨⟨nm,l,nl,fu⟩,⟨hn1,hl1⟩,?_⟩;rw [T.cf] at hlen;have e:cs = (cs.drop 0).take 1++(cs.drop 1).take 1:=by
    match cs,hlen with
    | [c0,c1],_=>rfl
  rw [e];exact VRl.app v0 v1
theorem open_opB {n:Nat} {cs:List Value} {x:DataW H × List MemPlace} (h:DataW.trod enc P W 0 sp held n tO cs = some x) (hB:Q tO x.1):∃ o:OpW,okOW B o∧VRl (Kp.all W) o.cells cs:=by
  obtain ⟨fs,hs,hl⟩:=T.o;obtain ⟨hlen,hf⟩:=fieldsB K hs hl h hB;obtain ⟨n0,y0,f0,b0⟩:=hf 0 _ _ rfl;obtain ⟨n1,y1,f1,b1⟩:=hf 1 _ _ rfl;obtain ⟨n2,y2,f2,b2⟩:=hf 2 _ _ rfl;obtain ⟨n3,y3,f3,b3⟩:=hf 3 _ _ rfl;rw [T.ci] at f0;rw [T.cs] at f1 f2;rw [T.cb] at f3;obtain ⟨k,e0,_,_⟩:=DataW.trod_int T.i f0;obtain ⟨nm,hn1,v1⟩:=open_nameB K T.s f1 b1;obtain ⟨nt,hn2,v2⟩:=open_nameB K T.s f2 b2;obtain ⟨nl,fu,l,hl1,v3⟩:=open_bytesB K T.b T.u T.cu T.bu f3 b3;refine ⟨⟨⟨k,nm,nt,l⟩,nl,fu⟩,⟨hn1,hn2,hl1⟩,?_⟩;rw [T.co] at hlen;have e:cs = (cs.drop 0).take 1++((cs.drop 1).take 1++((cs.drop 2).take 1++(cs.drop 3).take 1)):=by
    match cs,hlen with
    | [c0,c1,c2,c3],_=>rfl
  rw [e,e0];exact VRl.app (VRl.one (by simp only [VR])) (VRl.app v1 (VRl.app v2 v3))
theorem open_volB {n:Nat} {cs:List Value} {x:DataW H × List MemPlace} (h:DataW.trod enc P W 0 sp held n tV cs = some x) (hB:Q tV x.1) :
    ∃ (nl fu nl2 fu2:Bool) (fs:List FV) (os:List OpW),fs.length ≤ B∧os.length ≤ B∧(∀ f ∈ fs,okFV B f)∧(∀ o ∈ os,okOW B o)∧VRl (Kp.all W) [slAV nl fu fs.length (fs.flatMap FV.cells),slAV nl2 fu2 os.length (os.flatMap OpW.cells)] cs:=by
  obtain ⟨gs,hs,hl⟩:=T.v;obtain ⟨hlen,hf⟩:=fieldsB K hs hl h hB;obtain ⟨n0,y0,f0,b0⟩:=hf 0 _ _ rfl;obtain ⟨n1,y1,f1,b1⟩:=hf 1 _ _ rfl;rw [T.cd] at f0;rw [T.cos] at f1;obtain ⟨ds,hds,hld⟩:=T.d;obtain ⟨hlend,hfd⟩:=fieldsB K hds hld f0 b0;obtain ⟨m0,z0,d0,c0⟩:=hfd 0 _ _ rfl;rw [T.cfs] at d0;obtain ⟨nl,fu,l,h1,h2,h3⟩:=open_slB K (f:=FV.cells) (okA:=okFV B) FV.len (by omega) (fun t=>by simp only [FV.cells,FV.sl,List.all_cons,List.all_nil,sl_one,one_str,Bool.and_true]) T.fs T.cf T.bf (fun n cs x h hb=>open_fileB K T h hb) d0 c0;obtain ⟨nl2,fu2,l2,h4,h5,h6⟩:=open_slB K (f:=OpW.cells) (okA:=okOW B) (fun _=>rfl) (by omega) (fun t=>by simp only [OpW.cells,OpW.sl,List.all_cons,List.all_nil,sl_one,one_str,one_int,Bool.and_true]) T.os T.co T.bo (fun n cs x h hb=>open_opB K T h hb) f1 b1;refine ⟨nl,fu,nl2,fu2,l,l2,h1,h4,h2,h5,?_⟩;rw [T.cv] at hlen
  match cs,hlen,h3,h6 with
  | [c0,c1],_,h3,h6=>exact VRl.app h3 h6
end
/-! ### what was read,as the law's arguments -/
theorem psB_of:∀ fs:List FV,PsB [] (fs.map fun f=>(f.name,f.sl)) (fs.map fun f=>(f.name,f.b))∧flatP (fs.map fun f=>(f.name,f.sl)) = fs.flatMap FV.cells
  | []=>⟨.nil,rfl⟩
  | f :: fs=>⟨.cons BV.sl (psB_of fs).1,by rw [List.flatMap_cons,← (psB_of fs).2];rfl⟩
theorem opB_of:∀ os:List OpW,OpB [] (os.flatMap OpW.cells) (os.map OpW.op)
  | []=>.nil
  | o :: os=>by rw [List.flatMap_cons];exact .cons BV.sl (opB_of os)
theorem fsV_of {nl fu:Bool} (fs:List FV):FsV [] (slAV nl fu fs.length (fs.flatMap FV.cells)) (fs.map fun f=>(f.name,f.b)):=by
  refine ⟨_,(psB_of fs).1,?_,?_⟩
  · rw [(psB_of fs).2,List.length_map];clear nl fu
    induction fs with
    | nil=>rfl
    | cons f fs ih=>rw [List.flatMap_cons,List.length_append,ih,FV.len,List.length_cons];omega
  · rw [(psB_of fs).2,List.length_map]
    rcases slAV_cases nl fu fs.length (fs.flatMap FV.cells) with ⟨h0,e⟩ | e
    · exact .inl ⟨e,h0⟩
    · exact .inr (.inl ⟨fu,e⟩)
theorem opsV_of {nl fu:Bool} (os:List OpW):OpsV [] (slAV nl fu os.length (os.flatMap OpW.cells)) (os.map OpW.op):=by
  refine ⟨_,opB_of os,by rw [(opB_of os).length],?_⟩;rw [List.length_map]
  rcases slAV_cases nl fu os.length (os.flatMap OpW.cells) with ⟨h0,e⟩ | e
  · exact .inl ⟨e,h0⟩
  · exact .inr (.inl ⟨fu,e⟩)
theorem hr_all {P:Program} (w:World):HR P (Kp.all w) ⟨.first,.leaf⟩ w :=
  ⟨fun p x h=>by simp [Kp.all] at h,fun p q x y h=>by simp [Live,Kp.all] at h,fun b o h=>h,fun p x h=>by simp [Live,Kp.all] at h,fun p x h=>by simp [Kp.all] at h,fun p _=>leaf_get _ _⟩
theorem calls_of_callT {P:Program} {E:XEnv} (hmix:P.follows .mixedOrders = true) (hE:EnvOK P E) {f:FuncId} {args:List AV} {R:AV→Heap→Prop} (hc:CallT E (.func f [] []) args ⟨.first,.leaf⟩ R) (w:World) (A:Array Value) (hA:VRl (Kp.all w) args A.toList) :
    Calls P f A w fun e w'=>∃ v h' κ' v',e = .returned v'∧VR κ' v v'∧R v h'∧Ext P (Kp.all w) ⟨.first,.leaf⟩ w κ' h' w':=by
  obtain ⟨v,h',hR,N,hrun⟩:=hc;have hok:=run_sound hmix hE (m:=N) (pan':=.off) (fun k kp=>hrun N (Nat.le_refl _) k kp);refine Calls.mono ((hok.func (Kp.all w) w (hr_all w) f [] [] rfl A (by simpa using hA)).calls rfl) fun e w' hq=>?_
  rcases hq with hq | ⟨κ',h1,h2⟩
  · exact hq.elim
  · cases e with
    | outgrown=>exact h1.elim
    | panicked c=>exact h1.elim
    | returned v'=>exact ⟨v,h',κ',v',rfl,h1,hR,h2⟩
theorem law_calls {P:Program} {E:XEnv} (hmix:P.follows .mixedOrders = true) (hE:EnvOK P E) (C:Code E) (CD:E.fn n_disk = some (.con (diskV tyF tyB))) (hsane:∀ h,CallT E (.func n_sane [] []) [] h fun r h'=>r = .bool true∧h' = h) {nl fu nl2 fu2:Bool} {fs:List FV} {os:List OpW} {o:OpW} {B:Nat}
    (hB:B ≤ big47) (h1:fs.length ≤ B) (h2:os.length ≤ B) (h3:∀ f ∈ fs,okFV B f) (h4:∀ o ∈ os,okOW B o) (h5:okOW B o) (w:World) (A:Array Value)
    (hA:VRl (Kp.all w) [.agg [slAV nl fu fs.length (fs.flatMap FV.cells),slAV nl2 fu2 os.length (os.flatMap OpW.cells)],.agg o.cells] A.toList) :
    Calls P n_law A w fun e w'=>e = .returned (.bool true)∧∃ κ' h',Ext P (Kp.all w) ⟨.first,.leaf⟩ w κ' h' w':=by
  have ok:∀ {o:OpW},okOW B o→o.op.name.length ≤ big47∧o.op.to.length ≤ big47∧o.op.b.length ≤ big47:=fun h=>⟨Nat.le_trans h.1 hB,Nat.le_trans h.2.1 hB,Nat.le_trans h.2.2 hB⟩
  refine Calls.mono (calls_of_callT hmix hE (law_ok C CD hsane (L:=[]) Has.nil (fsV_of fs) (opsV_of os) (fun p q m c e=>?_) (w:=o.sl) BV.sl (fun f m=>?_) (fun q m=>?_) (fun q m=>?_) (by rw [List.length_map];omega) (by rw [List.length_map];omega)) w A hA) ?_
  · rcases slAV_cases nl2 fu2 os.length (os.flatMap OpW.cells) with ⟨_,e'⟩ | e' <;> rw [e'] at e <;> simp at e
  · obtain ⟨g,m',rfl⟩:=List.mem_map.1 m;exact ⟨Nat.le_trans (h3 g m').1 hB,Nat.le_trans (h3 g m').2 hB⟩
  · obtain ⟨g,m',rfl⟩:=List.mem_map.1 m;exact ok (h4 g m')
  · rw [List.mem_singleton.1 m];exact ok h5
  · rintro e w' ⟨v,h',κ',v',rfl,hv,rfl,hx⟩;simp only [VR] at hv;exact ⟨by rw [hv],κ',h',hx⟩
end Go.X
