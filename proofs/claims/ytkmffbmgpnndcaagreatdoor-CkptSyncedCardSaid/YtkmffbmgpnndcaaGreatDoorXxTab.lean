/- Rows of tables of what functions come to: a run from a heap that has but the blocks that it looks at says what it comes to from every heap that has these. -/
import Derived.Test.YtkmffbmgpnndcaaGreatDoorXxMain
namespace Go.X
open Go

/-! ### values below a place -/
mutual
def AV.low (n:Nat):AV→Bool
  | .ptr p _=>Nat.blt p.toNat n
  | .iptr cs=>AV.lows n cs
  | .slice p _ _ _=>Nat.blt p.toNat n
  | .imm cs _ _=>AV.lows n cs
  | .map p=>Nat.blt p.toNat n
  | .func _ a c=>(match AV.lows n a with | true=>AV.lows n c | false=>false)
  | .yield p=>Nat.blt p.toNat n
  | .iface _ v=>AV.low n v
  | .agg cs=>AV.lows n cs
  | .tuple cs=>AV.lows n cs
  | _=>true
def AV.lows (n:Nat):List AV→Bool
  | []=>true
  | a :: as=>match AV.low n a with | true=>AV.lows n as | false=>false
end
theorem blt_lt {a b:Nat} (h:Nat.blt a b = true):a < b:=by simpa [Nat.blt_eq] using h
structure Kp.on (n:Nat) (κ κ':Kp):Prop where
  ρ:∀ p x,p.toNat < n→κ.ρ p = some x→κ'.ρ p = some x
  M:∀ b o,κ.M b = some o→κ'.M b = some o
mutual
theorem VR.on {n:Nat} {κ κ':Kp} (hk:κ.on n κ'):∀ (a:AV) (v:Value),a.low n = true→VR κ a v→VR κ' a v
  | .any,v,_,h=>by simp only [VR] at h ⊢;exact h
  | .bool b,v,_,h=>by simp only [VR] at h ⊢;exact h
  | .int k n,v,_,h=>by simp only [VR] at h ⊢;exact h
  | .str l,v,_,h=>by simp only [VR] at h ⊢;exact h
  | .nilptr,v,_,h=>by simp only [VR] at h ⊢;exact h
  | .ptr p o,v,hb,h=>by simp only [VR] at h ⊢;obtain ⟨x,h1,h2⟩:=h;exact ⟨x,hk.ρ _ _ (blt_lt hb) h1,h2⟩
  | .gptr g o,v,_,h=>by simp only [VR] at h ⊢;exact h
  | .iptr cs,v,hb,h=>by simp only [VR] at h ⊢;obtain ⟨a,arr,e,fr,h1,h2,h3,h4⟩:=h;exact ⟨a,arr,e,fr,h1,h2,hk.M _ _ h3,VRm.on hk cs _ hb h4⟩
  | .nilslice,v,_,h=>by simp only [VR] at h ⊢;exact h
  | .slice p o len cap,v,hb,h=>by simp only [VR] at h ⊢;obtain ⟨x,a,c,h1,h2⟩:=h;exact ⟨x,a,c,hk.ρ _ _ (blt_lt hb) h1,h2⟩
  | .imm cs len full,v,hb,h=>by
    simp only [VR] at h ⊢;obtain ⟨a,c,h1,h2,h3,h4⟩:=h;refine ⟨a,c,h1,h2,h3,?_⟩
    rcases h4 with h4 | h4 | ⟨h4,arr,e,fr,h5,h6⟩
    · exact .inl h4
    · exact .inr (.inl h4)
    · exact .inr (.inr ⟨h4,arr,e,fr,hk.M _ _ h5,VRm.on hk cs _ hb h6⟩)
  | .nilmap,v,_,h=>by simp only [VR] at h ⊢;exact h
  | .map p,v,hb,h=>by simp only [VR] at h ⊢;obtain ⟨x,h1,h2⟩:=h;exact ⟨x,hk.ρ _ _ (blt_lt hb) h1,h2⟩
  | .nilfunc,v,_,h=>by simp only [VR] at h ⊢;exact h
  | .func f a c,v,hb,h=>by
    simp only [VR] at h ⊢;obtain ⟨A,C,h1,h2,h3⟩:=h;simp only [AV.low] at hb
    cases h4:AV.lows n a with
    | false=>rw [h4] at hb;simp at hb
    | true=>rw [h4] at hb;exact ⟨A,C,h1,VRl.on hk a _ h4 h2,VRl.on hk c _ hb h3⟩
  | .yield l,v,hb,h=>by simp only [VR] at h ⊢;obtain ⟨x,h1,h2⟩:=h;exact ⟨x,hk.ρ _ _ (blt_lt hb) h1,h2⟩
  | .niliface,v,_,h=>by simp only [VR] at h ⊢;exact h
  | .iface t a,v,hb,h=>by simp only [VR] at h ⊢;obtain ⟨w,h1,h2⟩:=h;exact ⟨w,h1,VR.on hk a _ hb h2⟩
  | .agg cs,v,hb,h=>by simp only [VR] at h ⊢;obtain ⟨vs,h1,h2,h3⟩:=h;exact ⟨vs,h1,h2,VRl.on hk cs _ hb h3⟩
  | .tuple cs,v,hb,h=>by simp only [VR] at h ⊢;obtain ⟨vs,h1,h3⟩:=h;exact ⟨vs,h1,VRl.on hk cs _ hb h3⟩
theorem VRl.on {n:Nat} {κ κ':Kp} (hk:κ.on n κ'):∀ (a:List AV) (v:List Value),AV.lows n a = true→VRl κ a v→VRl κ' a v
  | [],v,_,h=>by simp only [VRl] at h ⊢;exact h
  | c :: cs,v,hb,h=>by
    simp only [VRl] at h ⊢;obtain ⟨x,r,h1,h2,h3⟩:=h;simp only [AV.lows] at hb
    cases h4:AV.low n c with
    | false=>rw [h4] at hb;simp at hb
    | true=>rw [h4] at hb;exact ⟨x,r,h1,VR.on hk c _ h4 h2,VRl.on hk cs _ hb h3⟩
theorem VRm.on {n:Nat} {κ κ':Kp} (hk:κ.on n κ'):∀ (a:List AV) (f:Nat→Option Value),AV.lows n a = true→VRm κ a f→VRm κ' a f
  | [],v,_,h=>by simp only [VRm]
  | c :: cs,v,hb,h=>by
    simp only [VRm] at h ⊢;obtain ⟨⟨x,h1,h2,h3⟩,h4⟩:=h;simp only [AV.lows] at hb
    cases h5:AV.low n c with
    | false=>rw [h5] at hb;simp at hb
    | true=>rw [h5] at hb;exact ⟨⟨x,h1,h2,VR.on hk c _ h5 h3⟩,VRm.on hk cs _ hb h4⟩
end
def belowEs (n:Nat):List (AV × AV × Nat)→Bool
  | []=>true
  | e :: es=>match AV.low n e.1,AV.low n e.2.1 with | true,true=>belowEs n es | _,_=>false
theorem VRe.on {n:Nat} {κ κ':Kp} (hk:κ.on n κ'):∀ (a:List (AV × AV × Nat)) (l:List MapEntry),belowEs n a = true→VRe κ a l→VRe κ' a l
  | [],_,_,h=>h
  | (k,v,b) :: es,l,hb,⟨e,r,h1,h2,h3,h4,h5⟩=>by
    simp only [belowEs] at hb
    cases h6:AV.low n k <;> cases h7:AV.low n v <;> rw [h6,h7] at hb <;> simp only [Bool.false_eq_true] at hb
    exact ⟨e,r,h1,VR.on hk _ _ h6 h2,VR.on hk _ _ h7 h3,h4,VRe.on hk es r hb h5⟩
def AObj.plain:AObj→Bool
  | .row ..=>true
  | .map ..=>true
  | _=>false
def AObj.low (n:Nat):AObj→Bool
  | .row _ cs _=>AV.lows n cs
  | .map es _=>belowEs n es
  | _=>false
theorem AObj.plain_ne {o:AObj} (h:o.plain = true):o ≠ .dead:=by rintro rfl;simp [AObj.plain] at h
theorem OR.on {P:Program} {n:Nat} {κ κ':Kp} (hk:κ.on n κ') {x:Spot} {w:World}:∀ {o:AObj},o.low n = true→OR P κ x w o→OR P κ' x w o
  | .row ty cs sp,hb,⟨arr,fr,h1,h2,h3,h4,h5⟩=>⟨arr,fr,h1,h2,h3,VRm.on hk _ _ hb h4,h5⟩
  | .map es cl,hb,⟨arr,h1,h2⟩=>⟨arr,h1,VRe.on hk _ _ hb h2⟩
  | .dead,hb,_=>by simp [AObj.low] at hb
  | .sIter ..,hb,_=>by simp [AObj.low] at hb
  | .mIter ..,hb,_=>by simp [AObj.low] at hb
  | .loop ..,hb,_=>by simp [AObj.low] at hb

/-! ### heaps of listed blocks -/
def Keys (l:List (Pos × AObj)) (p:Pos):Prop:=∃ o,(p,o) ∈ l
theorem sets_next (l:List (Pos × AObj)):∀ h:Heap,(h.sets l).next = h.next:=by
  induction l with
  | nil=>intro h;rfl
  | cons q l ih=>intro h;exact (ih _).trans rfl
theorem sets_get_not {p:Pos}:∀ {l:List (Pos × AObj)} {h:Heap},¬ Keys l p→(h.sets l).get p = h.get p
  | [],_,_=>rfl
  | (q,o) :: l,h,hn=>by
    have h1:(h.sets ((q,o) :: l)).get p = ((h.set q o).sets l).get p:=rfl;rw [h1,sets_get_not (fun ⟨o',ho⟩=>hn ⟨o',mS _ ho⟩)];exact Heap.get_set_ne _ _ (fun e=>hn ⟨o,by rw [e];exact m0⟩)
theorem sets_get {φ:Pos→AObj} {p:Pos}:∀ {l:List (Pos × AObj)} {h:Heap},(∀ q ∈ l,φ q.1 = q.2)→Keys l p→(h.sets l).get p = φ p
  | [],_,_,⟨o,ho⟩=>by simp at ho
  | (q,o) :: l,h,hφ,hk=>by
    have h1:(h.sets ((q,o) :: l)).get p = ((h.set q o).sets l).get p:=rfl;rw [h1]
    by_cases hl:Keys l p
    · exact sets_get (fun q' hq'=>hφ q' (mS _ hq')) hl
    · rw [sets_get_not hl];obtain ⟨o',ho⟩:=hk
      rcases List.mem_cons.1 ho with e | ho
      · simp only [Prod.mk.injEq] at e;obtain ⟨rfl,rfl⟩:=e;rw [Heap.get_set_same];exact (hφ (p,o') m0).symm
      · exact absurd ⟨o',ho⟩ hl
def Ent.heap (e:Ent):Heap:=Heap.sets e.pre ⟨e.n0,.leaf⟩
theorem leaf_get (n p:Pos):(⟨n,.leaf⟩:Heap).get p = .dead:=by simp [Heap.get,HT.get_leaf]
theorem Ent.heap_get {e:Ent} {h:Heap} (hp:∀ q ∈ e.pre,h.get q.1 = q.2) {p:Pos} (hk:Keys e.pre p):e.heap.get p = h.get p:=sets_get (φ:=h.get) hp hk
theorem Ent.heap_get_not {e:Ent} {p:Pos} (hk : ¬ Keys e.pre p):e.heap.get p = .dead:=(sets_get_not hk).trans (leaf_get _ _)
theorem Ent.heap_next (e:Ent):e.heap.next = e.n0:=sets_next _ _

structure Ent.Fine (e:Ent):Prop where
  pre:∀ q ∈ e.pre,q.1.toNat < e.n0.toNat∧q.2 ≠ .dead
  post:∀ q ∈ e.post,Keys e.pre q.1∨(e.exact = true∧e.n0.toNat ≤ q.1.toNat)
  low:e.exact = false→AV.lows e.n0.toNat e.args = true∧AV.low e.n0.toNat e.v = true∧(∀ q ∈ e.pre,q.2.low e.n0.toNat = true)∧∀ q ∈ e.post,q.2.low e.n0.toNat = true
structure Ent.Ends (e:Ent) (h':Heap):Prop where
  next:e.exact = true→h'.next = e.n1
  post:∀ q ∈ e.post,h'.get q.1 = q.2
  pre:∀ q ∈ e.pre,h'.get q.1 = q.2∨Keys e.post q.1

section
variable {P:Program} {e:Ent} {κ κ':Kp} {h h':Heap} {w w':World}

theorem Ent.post_get (he:e.Ends h') {p:Pos} (hk:Keys e.post p):(h.sets e.post).get p = h'.get p:=sets_get he.post hk
theorem Ent.pre_end (hp:∀ q ∈ e.pre,h.get q.1 = q.2) (he:e.Ends h') {p:Pos} (hk:Keys e.pre p) (hn : ¬ Keys e.post p):h'.get p = h.get p:=by
  obtain ⟨o,ho⟩:=hk
  rcases he.pre _ ho with h1 | h1
  · exact h1.trans (hp _ ho).symm
  · exact absurd h1 hn
theorem Ent.heap_live (hp:∀ q ∈ e.pre,h.get q.1 = q.2) {p:Pos} {x:Spot} (hρ:∀ p x,κ'.ρ p = some x→κ.ρ p = some x) (hl:Live κ' e.heap p x):Keys e.pre p∧Live κ h p x:=by
  by_cases hk:Keys e.pre p
  · exact ⟨hk,hρ _ _ hl.1,by rw [← Ent.heap_get hp hk];exact hl.2⟩
  · exact absurd (Ent.heap_get_not hk) hl.2

/-! ### rows for one place of the next block -/
theorem Ent.hr_exact (hf:e.Fine) (hr:HR P κ h w) (hn:h.next = e.n0) (hp:∀ q ∈ e.pre,h.get q.1 = q.2):HR P κ e.heap w:=by
  have hl:=fun {p x}=>Ent.heap_live (κ:=κ) (κ':=κ) (p:=p) (x:=x) hp (fun _ _ h=>h)
  refine ⟨fun p x hx=>?_,fun p q x y h1 h2=>hr.apart p q x y (hl h1).2 (hl h2).2,hr.frozen,fun p x h1=>hr.off p x (hl h1).2,fun p x hx=>?_,fun p hq=>?_⟩
  · by_cases hk:Keys e.pre p
    · rw [Ent.heap_get hp hk];exact hr.obj p x hx
    · rw [Ent.heap_get_not hk];trivial
  · rw [Ent.heap_next,← hn];exact hr.top p x hx
  · by_cases hk:Keys e.pre p
    · obtain ⟨o,ho⟩:=hk;have:=(hf.pre _ ho).1;rw [Ent.heap_next] at hq;simp only at this;omega
    · exact Ent.heap_get_not hk
theorem Ent.ext_exact (hf:e.Fine) (hx:e.exact = true) (hr:HR P κ h w) (hn:h.next = e.n0) (hp:∀ q ∈ e.pre,h.get q.1 = q.2) (he:e.Ends h') (ex:Ext P κ e.heap w κ' h' w'):Ext P κ h w κ' (e.upd h) w':=by
  have hu:e.upd h = ⟨e.n1,(h.sets e.post).mem⟩:=by unfold Ent.upd;rw [hx]
  have hg:∀ p,(e.upd h).get p = (h.sets e.post).get p:=fun p=>by rw [hu];rfl
  have hl:=fun {p x}=>Ent.heap_live (κ:=κ) (κ':=κ) (p:=p) (x:=x) hp (fun _ _ h=>h)
  have hnx:(e.upd h).next = h'.next:=by rw [hu];exact (he.next hx).symm
  -- a block that the run did not look at
  have still:∀ {p x},Live κ h p x→¬ Keys e.pre p→w'.heap[x.b]? = w.heap[x.b]?:=fun {p x} hlv hk =>
    ex.fc _ (hr.live_lt hlv) fun q y hq=>hr.apart q p y x (hl hq).2 hlv (fun e=>hk (e ▸ (hl hq).1))
  have old:∀ {p x},κ'.ρ p = some x→h.get p ≠ .dead→p.toNat < e.n0.toNat∧κ.ρ p = some x:=by
    intro p x hρ hd;have hlt:p.toNat < e.n0.toNat:=by
      rw [← hn]
      by_cases hlt:p.toNat < h.next.toNat
      · exact hlt
      · exact absurd (hr.clean p (by omega)) hd
    refine ⟨hlt,?_⟩
    cases hκ:κ.ρ p with
    | none=>rw [(ex.gc p (by rw [Ent.heap_next];exact hlt) hκ).1] at hρ;simp at hρ
    | some y=>rw [ex.le.ρ _ _ hκ] at hρ;exact hρ
  have hlive:∀ {p x},Live κ' (e.upd h) p x→(Live κ' h' p x∧(Keys e.post p∨Keys e.pre p))∨(¬ Keys e.pre p∧Live κ h p x):=by
    intro p x ⟨h1,h2⟩;rw [hg] at h2
    by_cases hq:Keys e.post p
    · rw [Ent.post_get he hq] at h2;exact .inl ⟨⟨h1,h2⟩,.inl hq⟩
    · rw [sets_get_not hq] at h2
      by_cases hk:Keys e.pre p
      · exact .inl ⟨⟨h1,by rw [Ent.pre_end hp he hk hq];exact h2⟩,.inr hk⟩
      · exact .inr ⟨hk,(old h1 h2).2,h2⟩
  have cross:∀ {p x q y},Live κ' h' p x→¬ Keys e.pre q→Live κ h q y→x.b ≠ y.b:=by
    intro p x q y h1 h2 h3;have hy:=hr.live_lt h3
    by_cases hb:x.b < w.heap.size
    · obtain ⟨r,z,hz,hzb⟩:=ex.lr p x h1 hb;have:=hr.apart r q z y (hl hz).2 h3 (fun e=>h2 (e ▸ (hl hz).1));rw [← hzb];exact this
    · omega
  refine ⟨ex.le,ex.M,⟨fun p x hρ=>?_,fun p q x y h1 h2 hne=>?_,ex.hr.frozen,fun p x h1=>?_,fun p x hρ=>by rw [hnx];exact ex.hr.top p x hρ,fun p hq=>?_⟩,?_,ex.size,fun b hb hno=>ex.fc b hb fun q y hq=>hno q y (hl hq).2,fun p x h1 hb=>?_,fun p hq hno=>?_,ex.os,ex.output,ex.tape⟩
  · rw [hg]
    by_cases hq:Keys e.post p
    · rw [Ent.post_get he hq];exact ex.hr.obj p x hρ
    · rw [sets_get_not hq]
      by_cases hd:h.get p = .dead
      · rw [hd];trivial
      · by_cases hk:Keys e.pre p
        · rw [← Ent.pre_end hp he hk hq];exact ex.hr.obj p x hρ
        · have ho:=(old hρ hd).2;exact OR.mono ex.le (still ⟨ho,hd⟩ hk) (hr.obj p x ho)
  · rcases hlive h1 with ⟨h1,_⟩ | ⟨h1,h1'⟩ <;> rcases hlive h2 with ⟨h2,_⟩ | ⟨h2,h2'⟩
    · exact ex.hr.apart p q x y h1 h2 hne
    · exact cross h1 h2 h2'
    · exact fun e=>cross h2 h1 h1' e.symm
    · exact hr.apart p q x y h1' h2' hne
  · rcases hlive h1 with ⟨h1,_⟩ | ⟨h1,h1'⟩
    · exact ex.hr.off p x h1
    · rw [ex.M];exact hr.off p x h1'
  · rw [hnx] at hq;have hle:e.n0.toNat ≤ h'.next.toNat:=by have:=ex.next;rw [Ent.heap_next] at this;exact this
    rw [hg]
    by_cases hk:Keys e.post p
    · rw [Ent.post_get he hk];exact ex.hr.clean p hq
    · rw [sets_get_not hk];exact hr.clean p (by rw [hn];omega)
  · rw [hnx,hn,← Ent.heap_next];exact ex.next
  · rcases hlive h1 with ⟨h1,_⟩ | ⟨h1,h1'⟩
    · obtain ⟨q,y,hq,hy⟩:=ex.lr p x h1 hb;exact ⟨q,y,(hl hq).2,hy⟩
    · exact ⟨p,x,h1',rfl⟩
  · rw [hn] at hq;obtain ⟨g1,g2⟩:=ex.gc p (by rw [Ent.heap_next];exact hq) hno;refine ⟨g1,?_⟩;rw [hg]
    by_cases hk:Keys e.post p
    · rw [Ent.post_get he hk,g2];obtain ⟨o,ho⟩:=hk
      rcases hf.post _ ho with h1 | ⟨_,h1⟩
      · exact Ent.heap_get hp h1
      · simp only at h1;omega
    · exact sets_get_not hk

/-! ### rows for all places of the next block -/
def Kp.cut (n:Nat) (κ:Kp):Kp:=⟨fun p=>if p.toNat < n then κ.ρ p else none,κ.M⟩
theorem Kp.cut_some {n:Nat} {p:Pos} {x:Spot} (hx:(κ.cut n).ρ p = some x):p.toNat < n∧κ.ρ p = some x:=by
  simp only [Kp.cut] at hx
  split at hx
  · exact ⟨‹_›,hx⟩
  · simp at hx
theorem Kp.cut_lt {n:Nat} {p:Pos} (h:p.toNat < n):(κ.cut n).ρ p = κ.ρ p:=by simp [Kp.cut,h]
theorem Kp.cut_on (n:Nat):κ.on n (κ.cut n):=⟨fun p x hp hx=>by rw [Kp.cut_lt hp];exact hx,fun _ _ h=>h⟩
theorem Ent.hr_low (hf:e.Fine) (hx:e.exact = false) (hr:HR P κ h w) (hp:∀ q ∈ e.pre,h.get q.1 = q.2):HR P (κ.cut e.n0.toNat) e.heap w:=by
  have hl:=fun {p x}=>Ent.heap_live (κ:=κ) (κ':=κ.cut e.n0.toNat) (p:=p) (x:=x) hp (fun _ _ h=>(Kp.cut_some h).2)
  refine ⟨fun p x hx'=>?_,fun p q x y h1 h2=>hr.apart p q x y (hl h1).2 (hl h2).2,hr.frozen,fun p x h1=>hr.off p x (hl h1).2,fun p x hx'=>?_,fun p hq=>?_⟩
  · by_cases hk:Keys e.pre p
    · rw [Ent.heap_get hp hk];obtain ⟨o,ho⟩:=hk;have h1:=(hf.low hx).2.2.1 _ ho;have h2:=hr.obj p x (Kp.cut_some hx').2;rw [hp _ ho] at h2 ⊢;exact OR.on (Kp.cut_on _) h1 h2
    · rw [Ent.heap_get_not hk];trivial
  · rw [Ent.heap_next];exact (Kp.cut_some hx').1
  · by_cases hk:Keys e.pre p
    · obtain ⟨o,ho⟩:=hk;have:=(hf.pre _ ho).1;rw [Ent.heap_next] at hq;simp only at this;omega
    · exact Ent.heap_get_not hk
theorem Ent.on_back (ex:Ext P (κ.cut e.n0.toNat) e.heap w κ' h' w'):κ'.on e.n0.toNat κ:=by
  refine ⟨fun p x hlt hx=>?_,fun b o hb=>?_⟩
  · cases hκ:(κ.cut e.n0.toNat).ρ p with
    | none=>rw [(ex.gc p (by rw [Ent.heap_next];exact hlt) hκ).1] at hx;simp at hx
    | some y =>
      have:=ex.le.ρ _ _ hκ;rw [this] at hx;rw [← hx];exact (Kp.cut_some hκ).2
  · rw [ex.M] at hb;exact hb
theorem Ent.ext_low (hf:e.Fine) (hx:e.exact = false) (hr:HR P κ h w) (hp:∀ q ∈ e.pre,h.get q.1 = q.2) (he:e.Ends h') (ex:Ext P (κ.cut e.n0.toNat) e.heap w κ' h' w'):Ext P κ h w κ (e.upd h) w':=by
  have hu:e.upd h = h.sets e.post:=by unfold Ent.upd;rw [hx]
  rw [hu];have hon:=Ent.on_back ex;have hl:=fun {p x}=>Ent.heap_live (κ:=κ) (κ':=κ.cut e.n0.toNat) (p:=p) (x:=x) hp (fun _ _ h=>(Kp.cut_some h).2)
  have inPre:∀ {p},Keys e.post p→Keys e.pre p:=fun {p} ⟨o,ho⟩=>by
    rcases hf.post _ ho with h1 | ⟨h1,_⟩
    · exact h1
    · rw [hx] at h1;simp at h1
  have preLt:∀ {p},Keys e.pre p→p.toNat < e.n0.toNat∧h.get p ≠ .dead:=fun {p} ⟨o,ho⟩=>⟨(hf.pre _ ho).1,by rw [hp _ ho];exact (hf.pre _ ho).2⟩
  have hlive:∀ {p x},Live κ (h.sets e.post) p x→Live κ h p x:=by
    intro p x ⟨h1,h2⟩
    by_cases hq:Keys e.post p
    · exact ⟨h1,(preLt (inPre hq)).2⟩
    · rw [sets_get_not hq] at h2;exact ⟨h1,h2⟩
  have still:∀ {p x},Live κ h p x→¬ Keys e.pre p→w'.heap[x.b]? = w.heap[x.b]?:=fun {p x} hlv hk =>
    ex.fc _ (hr.live_lt hlv) fun q y hq=>hr.apart q p y x (hl hq).2 hlv (fun e=>hk (e ▸ (hl hq).1))
  have sub:∀ {p x},p.toNat < e.n0.toNat→κ.ρ p = some x→κ'.ρ p = some x:=fun {p x} hlt hρ=>ex.le.ρ _ _ (by rw [Kp.cut_lt hlt];exact hρ)
  refine ⟨.refl κ,rfl,⟨fun p x hρ=>?_,fun p q x y h1 h2 hne=>hr.apart p q x y (hlive h1) (hlive h2) hne,fun b o hb=>ex.hr.frozen b o (by rw [ex.M];exact hb),fun p x h1=>hr.off p x (hlive h1),fun p x hρ=>by rw [sets_next];exact hr.top p x hρ,fun p hq=>?_⟩,
    by rw [sets_next];exact Nat.le_refl _,ex.size,fun b hb hno=>ex.fc b hb fun q y hq=>hno q y (hl hq).2,fun p x h1 hb=>⟨p,x,hlive h1,rfl⟩,fun p hq hno=>⟨hno,?_⟩,ex.os,ex.output,ex.tape⟩
  · by_cases hq:Keys e.post p
    · have hlt:=(preLt (inPre hq)).1;have ho:=ex.hr.obj p x (sub hlt hρ);rw [Ent.post_get he hq];obtain ⟨o,hm⟩:=hq;have hb:=(hf.low hx).2.2.2 _ hm;rw [he.post _ hm] at ho ⊢;exact OR.on hon hb ho
    · rw [sets_get_not hq]
      by_cases hd:h.get p = .dead
      · rw [hd];trivial
      · by_cases hk:Keys e.pre p
        · have hlt:=(preLt hk).1;have ho:=ex.hr.obj p x (sub hlt hρ);rw [Ent.pre_end hp he hk hq] at ho;obtain ⟨o,hm⟩:=hk;have hb:=(hf.low hx).2.2.1 _ hm;rw [hp _ hm] at ho ⊢;exact OR.on hon hb ho
        · exact OR.mono (.refl κ) (still ⟨hρ,hd⟩ hk) (hr.obj p x hρ)
  · rw [sets_next] at hq
    by_cases hk:Keys e.post p
    · exact absurd (hr.clean p hq) (preLt (inPre hk)).2
    · rw [sets_get_not hk];exact hr.clean p hq
  · by_cases hk:Keys e.post p
    · have hk':=inPre hk;have hlt:=(preLt hk').1;obtain ⟨_,g2⟩:=ex.gc p (by rw [Ent.heap_next];exact hlt) (by rw [Kp.cut_lt hlt];exact hno);rw [Ent.post_get he hk,g2];exact Ent.heap_get hp hk'
    · exact sets_get_not hk

/-! ### rows,by their runs -/
theorem ent_of_run {f:FuncId} (hf:e.Fine) (he:e.Ends h') (hc:CallOK P (.func f [] []) e.args .off e.heap (.ret e.v) .off h'):EntOK P f e:=by
  refine ⟨fun κ h w hr hn hp A hA=>?_⟩
  cases hx:e.exact with
  | true =>
    have hn:=hn hx;have hF:=hc.func κ w (Ent.hr_exact hf hr hn hp) f [] [] rfl A (by simpa using hA);refine ⟨hF.is,fun hpan=>Calls.mono (hF.calls hpan) fun en w' hq=>?_,fun hD u hu=>CallsD.mono (hF.callsD (by simpa using hD) u hu) fun en u' w' hq=>?_⟩
    · rcases hq with hq | ⟨κ',h1,h2⟩
      · exact .inl hq
      · exact .inr ⟨κ',h1,Ent.ext_exact hf hx hr hn hp he h2⟩
    · rcases hq with hq | ⟨κ',h1,h2,h3⟩
      · exact .inl hq
      · exact .inr ⟨κ',h1,Ent.ext_exact hf hx hr hn hp he h2,h3⟩
  | false =>
    have hA':VRl (κ.cut e.n0.toNat) e.args A.toList:=VRl.on (Kp.cut_on _) _ _ (hf.low hx).1 hA;have hF:=hc.func _ w (Ent.hr_low hf hx hr hp) f [] [] rfl A (by simpa using hA');have hres:∀ {κ':Kp} {w':World} {en:Ending},Ext P (κ.cut e.n0.toNat) e.heap w κ' h' w'→ResE κ' (.ret e.v) en→ResE κ (.ret e.v) en:=by
      intro κ' w' en hx' hr'
      cases en with
      | returned v=>exact VR.on (Ent.on_back hx') _ _ (hf.low hx).2.1 hr'
      | panicked c=>exact hr'.elim
      | outgrown=>exact hr'.elim
    refine ⟨hF.is,fun hpan=>Calls.mono (hF.calls hpan) fun en w' hq=>?_,fun hD u hu=>CallsD.mono (hF.callsD (by simpa using hD) u hu) fun en u' w' hq=>?_⟩
    · rcases hq with hq | ⟨κ',h1,h2⟩
      · exact .inl hq
      · exact .inr ⟨κ,hres h2 h1,Ent.ext_low hf hx hr hp he h2⟩
    · rcases hq with hq | ⟨κ',h1,h2,h3⟩
      · exact .inl hq
      · exact .inr ⟨κ,hres h2 h1,Ent.ext_low hf hx hr hp he h2,h3⟩
end
end Go.X

/- Rows of tables,checked by running them. -/
namespace Go.X
open Go
def vi (n:Nat):AV:=.int .i64 (.ofNat n)
def vu (n:Nat):AV:=.int .u64 (.ofNat n)
def vb (n:Nat):AV:=.int .u8 (.ofNat n)
noncomputable def hpF (k:Nat):Nat→BP:=Nat.rec (motive:=fun _=>Nat→BP) (fun _=>.u) (fun _ ih n=>Bool.rec (motive:=fun _=>BP) (Bool.rec (motive:=fun _=>BP) (.i (ih (n / 2))) (.o (ih (n / 2))) (Nat.beq (n % 2) 0)) .u (Nat.ble n 1)) k
noncomputable def hp (n:Nat):Pos:=.hi (hpF 16 (n - 4095))
def ro (args:List AV) (v:AV):Ent:=⟨args,false,.first,[],[],.first,v⟩
def hasKey (p:Pos):List (Pos × AObj)→Bool
  | []=>false
  | q :: l=>match q.1.beq p with | true=>true | false=>hasKey p l
def allB {α:Type} (f:α→Bool):List α→Bool
  | []=>true
  | a :: l=>match f a with | true=>allB f l | false=>false
def andB (a b:Bool):Bool:=match a with | true=>b | false=>false
def orB (a b:Bool):Bool:=match a with | true=>true | false=>b
theorem andB_iff {a b:Bool}:andB a b = true ↔ a = true∧b = true:=by cases a <;> cases b <;> simp [andB]
theorem orB_iff {a b:Bool}:orB a b = true ↔ a = true∨b = true:=by cases a <;> cases b <;> simp [orB]
theorem allB_iff {α:Type} {f:α→Bool}:∀ {l:List α},allB f l = true ↔ ∀ a ∈ l,f a = true
  | []=>by simp [allB]
  | a :: l=>by
    simp only [allB]
    cases h:f a with
    | false=>simp [h]
    | true=>simp only [fJ,h,true_and];exact allB_iff
theorem hasKey_keys {p:Pos}:∀ {l:List (Pos × AObj)},hasKey p l = true→Keys l p
  | [],h=>by simp [hasKey] at h
  | (q,o) :: l,h=>by
    simp only [hasKey] at h
    cases hb:q.beq p with
    | true=>exact ⟨o,by rw [Pos.beq_iff.1 hb];exact m0⟩
    | false =>
      rw [hb] at h;obtain ⟨o',ho⟩:=hasKey_keys (l:=l) h;exact ⟨o',mS _ ho⟩
def Ent.fineB (e:Ent):Bool :=
  andB (allB (fun q=>andB (Nat.blt q.1.toNat e.n0.toNat) q.2.plain) e.pre) (andB (allB (fun q=>orB (andB e.exact (Nat.ble e.n0.toNat q.1.toNat)) (hasKey q.1 e.pre)) e.post)
    (orB e.exact (andB (AV.lows e.n0.toNat e.args) (andB (AV.low e.n0.toNat e.v) (andB (allB (fun q=>q.2.low e.n0.toNat) e.pre) (allB (fun q=>q.2.low e.n0.toNat) e.post))))))
theorem Ent.fine_of {e:Ent} (h:e.fineB = true):e.Fine:=by
  simp only [Ent.fineB,andB_iff,orB_iff,allB_iff] at h;obtain ⟨h1,h2,h3⟩:=h;refine ⟨fun q hq=>⟨blt_lt (h1 q hq).1,AObj.plain_ne (h1 q hq).2⟩,fun q hq=>?_,fun hx=>?_⟩
  · rcases h2 q hq with ⟨a,b⟩ | a
    · exact .inr ⟨a,Nat.le_of_ble_eq_true b⟩
    · exact .inl (hasKey_keys a)
  · rcases h3 with h3 | h3
    · rw [hx] at h3;simp at h3
    · exact h3
noncomputable section
def okR:R:=.ok unit .empty
def andR (r k:R):R:=R.rec (motive:=fun _=>R) (fun _ _=>k) .bad r
def keptF (post l:List (Pos × AObj)):Heap→R→R:=List.rec (motive:=fun _=>Heap→R→R) (fun _ y=>y)
  (fun q _ ih h y=>Prod.rec (motive:=fun _=>R) (fun p o=>hget h p fun o'=>yes? (beqObj o o') (ih h y) (yes? (hasKey p post) (ih h y) .bad)) q) l
def endF (exact:Bool) (pre post:List (Pos × AObj)) (n1:Pos) (h:Heap):R:=Bool.rec (motive:=fun _=>R) (preF post h (keptF post pre h okR) .bad) (posF n1 h (preF post h (keptF post pre h okR) .bad) .bad) exact
def rowE (E:XEnv) (m:Nat) (f:FuncId) (e:Ent):R:=yes? e.fineB (Ent.rec (motive:=fun _=>R) (fun args exact n0 pre post n1 v=>updF pre ⟨n0,.leaf⟩ fun h =>
  callNF E m (.func f [] []) args .off h (fun u p h'=>Pan.rec (motive:=fun _=>R) (yes? (AV.beq v u) (endF exact pre post n1 h') .bad) (fun _=>.bad) p) (fun _ _ _=>.bad)) e) .bad
def rowL (E:XEnv) (m:Nat) (f:FuncId) (l:List Ent):R→R:=List.rec (motive:=fun _=>R→R) (fun k=>k) (fun e _ ih k=>andR (rowE E m f e) (ih k)) l
def rowT (E:XEnv) (m:Nat) (f:FuncId) (t:Tab):R→R:=Tab.rec (motive:=fun _=>R→R) (fun k=>k) (fun _ es _ _ ihl ihr k=>rowL E m f es (ihl (ihr k))) t
end
theorem okR_ne:okR ≠ .bad:=by simp [okR]
theorem andR_val {r k:R} (h:andR r k = okR):r ≠ .bad∧k = okR:=by
  cases r with
  | ok v h'=>exact ⟨by simp,h⟩
  | bad=>exact absurd h.symm okR_ne
theorem preF_ok {l:List (Pos × AObj)} {h:Heap} {y:R} (he:preF l h y .bad ≠ .bad):preF l h y .bad = y∧∀ q ∈ l,h.get q.1 = q.2:=by
  rcases preF_val (y:=y) (n:=.bad) (h:=h) (l:=l) with h1 | h1
  · exact h1
  · exact absurd h1 he
theorem keptF_ok {post:List (Pos × AObj)} {h:Heap} {y:R}:∀ {l:List (Pos × AObj)},keptF post l h y ≠ .bad→∀ q ∈ l,h.get q.1 = q.2∨Keys post q.1
  | [],_=>by simp
  | (p, o) :: l,he=>by
    have e:keptF post ((p,o) :: l) h y = hget h p fun o'=>yes? (beqObj o o') (keptF post l h y) (yes? (hasKey p post) (keptF post l h y) .bad):=rfl
    rw [e,hget_eq] at he;intro q hq
    cases hb:beqObj o (h.get p) with
    | true =>
      rw [hb] at he;have he:keptF post l h y ≠ .bad:=he
      rcases List.mem_cons.1 hq with rfl | hq
      · exact .inl (beqObj_eq hb).symm
      · exact keptF_ok he q hq
    | false =>
      rw [hb] at he
      cases hk:hasKey p post with
      | false=>rw [hk] at he;exact absurd rfl he
      | true =>
        rw [hk] at he;have he:keptF post l h y ≠ .bad:=he
        rcases List.mem_cons.1 hq with rfl | hq
        · exact .inr (hasKey_keys hk)
        · exact keptF_ok he q hq
theorem endF_ok {e:Ent} {h:Heap} (he:endF e.exact e.pre e.post e.n1 h ≠ .bad):e.Ends h:=by
  have key:preF e.post h (keptF e.post e.pre h okR) .bad ≠ .bad→(∀ q ∈ e.post,h.get q.1 = q.2)∧∀ q ∈ e.pre,h.get q.1 = q.2∨Keys e.post q.1:=by
    intro h1;obtain ⟨h2,h3⟩:=preF_ok h1;rw [h2] at h1;exact ⟨h3,keptF_ok h1⟩
  cases hx:e.exact with
  | false =>
    rw [hx] at he;obtain ⟨h1,h2⟩:=key he;exact ⟨fun h=>by rw [hx] at h;simp at h,h1,h2⟩
  | true =>
    rw [hx] at he;have he:yes? (e.n1.beq h.next) (preF e.post h (keptF e.post e.pre h okR) .bad) .bad ≠ .bad:=he
    cases hp:e.n1.beq h.next with
    | false=>rw [hp] at he;exact absurd rfl he
    | true =>
      rw [hp] at he;obtain ⟨h1,h2⟩:=key he;exact ⟨fun _=>(Pos.beq_iff.1 hp).symm,h1,h2⟩
theorem ent_of_rowE {P:Program} {E:XEnv} (hmix:P.follows .mixedOrders = true) (hE:EnvOK P E) {m:Nat} {f:FuncId} {e:Ent} (hrun:rowE E m f e ≠ .bad):EntOK P f e:=by
  cases hf:e.fineB with
  | false=>unfold rowE at hrun;rw [hf] at hrun;exact absurd rfl hrun
  | true =>
    have e1:rowE E m f e = updF e.pre ⟨e.n0,.leaf⟩ fun h=>callNF E m (.func f [] []) e.args .off h (fun u p h'=>Pan.rec (motive:=fun _=>R) (yes? (AV.beq e.v u) (endF e.exact e.pre e.post e.n1 h') .bad) (fun _=>.bad) p) (fun _ _ _=>.bad):=by
      unfold rowE;rw [hf];rfl
    rw [e1,hset_sets] at hrun;obtain ⟨res,p1,h1,e2,hok⟩:=calls_sound hmix hE m (.func f [] []) e.args .off e.heap _ _ _ rfl hrun;rw [show callNF E m (.func f [] []) e.args .off (Heap.sets e.pre ⟨e.n0,.leaf⟩) _ _ = _ from e2.symm] at hrun
    cases res with
    | pan u=>exact absurd rfl hrun
    | ret u =>
      cases p1 with
      | on v=>exact absurd rfl hrun
      | off =>
        have hrun:yes? (AV.beq e.v u) (endF e.exact e.pre e.post e.n1 h1) .bad ≠ .bad:=hrun
        cases hv:AV.beq e.v u with
        | false=>rw [hv] at hrun;exact absurd rfl hrun
        | true =>
          rw [hv] at hrun;have hrun:endF e.exact e.pre e.post e.n1 h1 ≠ .bad:=hrun;rw [← AV.beq_eq hv] at hok;exact ent_of_run (Ent.fine_of hf) (endF_ok hrun) hok
theorem ents_of_rowL {P:Program} {E:XEnv} (hmix:P.follows .mixedOrders = true) (hE:EnvOK P E) {m:Nat} {f:FuncId}:∀ {l:List Ent} {k:R},rowL E m f l k = okR→(∀ e ∈ l,EntOK P f e)∧k = okR
  | [],k,h=>⟨by simp,h⟩
  | e :: l,k,h=>by
    have h:andR (rowE E m f e) (rowL E m f l k) = okR:=h;obtain ⟨h1,h2⟩:=andR_val h;obtain ⟨h3,h4⟩:=ents_of_rowL hmix hE h2;exact ⟨fun x hx=>(List.mem_cons.1 hx).elim (fun q=>by rw [q];exact ent_of_rowE hmix hE h1) (fun q=>h3 x q),h4⟩
theorem orc_of_rowT {P:Program} {E:XEnv} (hmix:P.follows .mixedOrders = true) (hE:EnvOK P E) {m:Nat} {f:FuncId}:∀ {t:Tab} {k:R},rowT E m f t k = okR→OrcOK P f t∧k = okR
  | .leaf,k,h=>⟨fun e he=>by simp [Tab.ents] at he,h⟩
  | .node key es l r,k,h=>by
    have h:rowL E m f es (rowT E m f l (rowT E m f r k)) = okR:=h;obtain ⟨h1,h2⟩:=ents_of_rowL hmix hE h;obtain ⟨h3,h4⟩:=orc_of_rowT hmix hE h2;obtain ⟨h5,h6⟩:=orc_of_rowT hmix hE h4;refine ⟨fun e he=>?_,h6⟩;simp only [Tab.ents,List.mem_append] at he
    rcases he with he | he | he
    · exact h1 e he
    · exact h3 e he
    · exact h5 e he
theorem orc_node {P:Program} {f:FuncId} {key:Nat} {es:List Ent} {l r:Tab} (h:OrcOK P f (.node key es .leaf .leaf)) (hl:OrcOK P f l) (hr:OrcOK P f r):OrcOK P f (.node key es l r):=by
  intro e he;simp only [Tab.ents,List.mem_append] at he
  rcases he with he | he | he
  · exact h e (by simp [Tab.ents,he])
  · exact hl e he
  · exact hr e he
theorem orc_two {P:Program} {f:FuncId} {key:Nat} {es es':List Ent} (h:OrcOK P f (.node key es .leaf .leaf)) (h':OrcOK P f (.node key es' .leaf .leaf)):OrcOK P f (.node key (es++es') .leaf .leaf):=by
  intro e he;simp only [Tab.ents,List.append_nil,List.mem_append] at he
  rcases he with he | he
  · exact h e (by simp [Tab.ents,he])
  · exact h' e (by simp [Tab.ents,he])
def tabOf:List (FuncId × Tab)→FuncId→Option Tab
  | [],_=>none
  | q :: l,f=>match Nat.beq f q.1 with | true=>some q.2 | false=>tabOf l f
theorem tabOf_ok {P:Program}:∀ {l:List (FuncId × Tab)},(∀ q ∈ l,OrcOK P q.1 q.2)→∀ f t,tabOf l f = some t→OrcOK P f t
  | [],_,f,t,h=>by simp [tabOf] at h
  | q :: l,hl,f,t,h=>by
    simp only [tabOf] at h
    cases hb:Nat.beq f q.1 with
    | true =>
      rw [hb] at h;simp only [sJ] at h;rw [Nat.eq_of_beq_eq_true hb,← h];exact hl q m0
    | false =>
      rw [hb] at h;exact tabOf_ok (fun q hq=>hl q (mS _ hq)) f t h
end Go.X

/- Environments of X for a program: its functions in a trie. -/
namespace Go.X
open Go
def trieFrom:List Func→Pos→HT Func→HT Func
  | [],_,t=>t
  | f :: l,p,t=>trieFrom l p.succ (t.set p f)
theorem get_trieFrom {q:Pos} {x:Func}:∀ {l:List Func} {p:Pos} {t:HT Func},(trieFrom l p t).get q = some x→(∃ i,q.toNat = p.toNat + i∧l[i]? = some x)∨t.get q = some x
  | [],_,_,h=>.inr h
  | f :: l,p,t,h=>by
    rcases get_trieFrom (l:=l) h with ⟨i,h1,h2⟩ | h
    · exact .inl ⟨i + 1,by rw [h1,Pos.toNat_succ];omega,by simpa using h2⟩
    · by_cases hq:p = q
      · subst hq;rw [HT.get_set_same,sJ] at h;exact .inl ⟨0,rfl,by simp [h]⟩
      · rw [HT.get_set_ne _ _ hq] at h;exact .inr h
def fnPos (n:Nat):Pos:=.lo (.dig (n / 256)) (.dig (n / 16 % 16)) (.dig (n % 16))
abbrev fp (n:Nat):Pos:=fnPos n
theorem toNat_fnPos {n:Nat} (h:n < 4096):(fnPos n).toNat = n:=by
  simp only [fnPos,Pos.toNat,D16.toNat_dig (show n / 256 < 16 by omega),D16.toNat_dig (show n / 16 % 16 < 16 by omega),D16.toNat_dig (show n % 16 < 16 by omega)];omega
def fnOf (P:Program) (t:HT Func) (f:FuncId):Option XFun:=match Nat.blt f 4096 with
  | true=>(match t.get (fnPos f) with | some fn=>copFun P fn | none=>none)
  | false=>none
def trieOf (P:Program):HT Func:=trieFrom P.funcs.toList .first .leaf
theorem fnOf_some {P:Program} {f:FuncId} {x:XFun} (h:fnOf P (trieOf P) f = some x):∃ fn,P.funcs[f]? = some fn∧copFun P fn = some x:=by
  unfold fnOf at h
  cases hb:Nat.blt f 4096 with
  | false=>rw [hb] at h;simp at h
  | true =>
    rw [hb] at h;dsimp only at h;have hlt:f < 4096:=Nat.le_of_ble_eq_true hb
    cases hg:(trieOf P).get (fnPos f) with
    | none=>rw [hg] at h;simp at h
    | some fn =>
      rw [hg] at h
      rcases get_trieFrom hg with ⟨i,h1,h2⟩ | h1
      · rw [toNat_fnPos hlt] at h1;have:i = f:=by simp [Pos.first,Pos.toNat,D16.toNat] at h1;omega
        subst this;exact ⟨fn,by simpa using h2,h⟩
      · simp [HT.get_leaf] at h1
theorem copFun_code {P:Program} {fn:Func} {x:XFun} (h:copFun P fn = some x):∃ b r,x = .code b r:=by
  unfold copFun at h
  split at h
  · simp at h
  · split at h
    · simp only [sJ] at h;exact ⟨_,_,h.symm⟩
    · simp at h
def withOrc (g:Tab):XFun→XFun
  | .code b r=>.orc g b r
  | .orc g' b r=>.orc g' b r
  | .con F=>.con F
def methOf (P:Program) (t:TypeId) (name:String):Option FuncId:=match P.info? t with
  | none=>none
  | some i=>match i.methods.find? (·.name == name) with
    | none=>none
    | some m=>match m.path.toList,m.func,P.underlying t with
      | [],some (f,true),some (.pointer _)=>some f
      | [],some (_,false),some (.pointer _)=>none
      | [],some (f,false),some _=>some f
      | _,_,_=>none
theorem methOf_ok {P:Program} {t:TypeId} {name:String} {f:FuncId} (h:methOf P t name = some f) (k:Nat) (v:Value) (w:World):(method (k + 1) t v name).run P w = .ok (f,v) w:=by
  unfold methOf at h
  cases hi:P.info? t with
  | none=>rw [hi] at h;simp at h
  | some i =>
    rw [hi] at h;dsimp only at h
    cases hm:i.methods.find? (·.name == name) with
    | none=>rw [hm] at h;simp at h
    | some m =>
      rw [hm] at h;dsimp only at h
      split at h
      · rename_i e hp hf hu
        simp only [sJ] at h;subst h;simp only [method,typeInfo,Sem.run_bind,run_program,Result.andThen_ok,hi,hm,hp,hf,follow,Sem.run_pure,receiverAt,run_underlyingT hu];rfl
      · simp at h
      · rename_i u hne hp hf hu
        simp only [sJ] at h;subst h;simp only [method,typeInfo,Sem.run_bind,run_program,Result.andThen_ok,hi,hm,hp,hf,follow,Sem.run_pure,receiverAt,run_underlyingT hu]
        cases u <;> first | rfl | exact absurd rfl (hne _)
      · simp at h
abbrev Con:=List AV→Heap→Option (AV × Heap)
def envOf (P:Program) (meths:TypeId→String→Option FuncId) (srt:FuncId→Option Con) (orcs:FuncId→Option Tab):XEnv where
  fn f:=match fnOf P (trieOf P) f with
    | none=>none
    | some x=>match srt f with
      | some F=>some (.con F)
      | none=>match orcs f with
        | none=>some x
        | some g=>some (withOrc g x)
  cop n c:=cop P n true c
  meth:=meths
def SrtOK (P:Program) (srt:FuncId→Option Con):Prop:=∀ f F,srt f = some F→ConOK P f F
theorem envOf_ok {P:Program} {meths:TypeId→String→Option FuncId} {srt:FuncId→Option Con} {orcs:FuncId→Option Tab} (hm:∀ t name f,meths t name = some f→∀ v w,(method (P.types.size + Made.depth) t v name).run P w = .ok (f,v) w)
    (hs:SrtOK P srt) (ho:∀ f g,orcs f = some g→OrcOK P f g):EnvOK P (envOf P meths srt orcs):=by
  refine ⟨fun f x h=>?_,fun _ _=>rfl,hm⟩;simp only [envOf] at h
  cases hf:fnOf P (trieOf P) f with
  | none=>rw [hf] at h;simp at h
  | some y =>
    rw [hf] at h;dsimp only at h;obtain ⟨fn,h1,h2⟩:=fnOf_some hf;obtain ⟨b,r,rfl⟩:=copFun_code h2;refine ⟨fn,h1,?_⟩
    cases hsr:srt f with
    | some F =>
      rw [hsr] at h;simp only [sJ] at h;subst h;exact hs f F hsr
    | none =>
      rw [hsr] at h;dsimp only at h
      cases hg:orcs f with
      | none =>
        rw [hg] at h;simp only [sJ] at h;subst h;exact h2
      | some g =>
        rw [hg] at h;simp only [withOrc,sJ] at h;subst h;exact ⟨h2,ho f g hg⟩
theorem depth_succ (P:Program):P.types.size + Made.depth = (P.types.size + (Made.depth - 1)) + 1:=by
  have h:0 < Made.depth:=by decide
  omega
theorem envP_ok {P:Program} {srt:FuncId→Option Con} {orcs:FuncId→Option Tab} (hs:SrtOK P srt) (ho:∀ f g,orcs f = some g→OrcOK P f g):EnvOK P (envOf P (methOf P) srt orcs):=by
  refine envOf_ok (fun t name f h v w=>?_) hs ho;rw [depth_succ];exact methOf_ok h _ v w
theorem srtOK_none {P:Program}:SrtOK P fun _=>none:=fun _ _ h=>by simp at h
end Go.X
