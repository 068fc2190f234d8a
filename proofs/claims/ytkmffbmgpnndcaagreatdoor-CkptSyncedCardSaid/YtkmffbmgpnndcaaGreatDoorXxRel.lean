/- The relation between the abstract machine X and the model: values, memory, temporaries; what a step may change. -/
import Derived.Test.YtkmffbmgpnndcaaGreatDoorXxRun
import GoSem.Step
import Derived.Laws.Cells
namespace Go.X
open Go

structure Spot where
  b:Nat
  d:Nat
  n:Nat

structure Kp where
  ρ:Pos→Option Spot
  M:Nat→Option Obj

mutual
def VR (κ:Kp):AV→Value→Prop
  | .any,v=>(∀ cs,v ≠ .agg cs)∧(∀ cs,v ≠ .tuple cs)
  | .bool b,v=>v = .bool b
  | .int k n,v=>v = .int k n
  | .str l,v=>∃ s:ByteArray,v = .string s∧s.data.toList.map UInt8.toNat = l
  | .nilptr,v=>v = .pointer none
  | .ptr p o,v=>∃ x,κ.ρ p = some x∧v = .pointer (some ⟨x.b,x.d + o,none⟩)
  | .gptr g o,v=>v = .pointer (some ⟨g,o,none⟩)
  | .iptr cs,v=>∃ a arr e fr,v = .pointer (some a)∧a.spot = none∧κ.M a.block = some (.cells arr e fr)∧VRm κ cs (fun i=>arr[a.off + i]?)
  | .nilslice,v=>v = .slice none 0 0
  | .slice p o len cap,v=>∃ x a c,κ.ρ p = some x∧v = .slice (some a) len c∧len ≤ c∧(c = 0∨a = ⟨x.b,x.d + o,none⟩) ∧
      (match cap with | .ex m=>c = m | .up z=>x.d + o + c * z = x.n∧0 < z)
  | .imm cs len full,v=>∃ a c,v = .slice (some a) len c∧len ≤ c∧(full = true→c = len) ∧
      (cs = []∨len = 0∨(a.spot = none∧∃ arr e fr,κ.M a.block = some (.cells arr e fr)∧VRm κ cs (fun i=>arr[a.off + i]?)))
  | .nilmap,v=>v = .map none
  | .map p,v=>∃ x,κ.ρ p = some x∧v = .map (some x.b)
  | .nilfunc,v=>v = .nilFunc
  | .func f a c,v=>∃ A C:Array Value,v = .func (.func f) A C∧VRl κ a A.toList∧VRl κ c C.toList
  | .yield l,v=>∃ x,κ.ρ l = some x∧v = .func (.yield x.b) #[] #[]
  | .niliface,v=>v = .nilIface
  | .iface t a,v=>∃ w,v = .iface t w∧VR κ a w
  | .agg cs,v=>∃ vs:Array Value,v = .agg vs∧cs.all AV.one = true∧VRl κ cs vs.toList
  | .tuple cs,v=>∃ vs:Array Value,v = .tuple vs∧VRl κ cs vs.toList
def VRl (κ:Kp):List AV→List Value→Prop
  | [],vs=>vs = []
  | c :: cs,vs=>∃ v r,vs = v :: r∧VR κ c v∧VRl κ cs r
def VRm (κ:Kp):List AV→(Nat→Option Value)→Prop
  | [],_=>True
  | c :: cs,f=>(∃ v,f 0 = some v∧c.one = true∧VR κ c v)∧VRm κ cs (fun i=>f (i + 1))
end

structure Kp.le (κ κ':Kp):Prop where
  ρ:∀ p x,κ.ρ p = some x→κ'.ρ p = some x
  M:∀ b o,κ.M b = some o→κ'.M b = some o
theorem Kp.le.refl (κ:Kp):κ.le κ:=⟨fun _ _ h=>h,fun _ _ h=>h⟩
theorem Kp.le.trans {a b c:Kp} (h:a.le b) (h':b.le c):a.le c:=⟨fun p x e=>h'.ρ p x (h.ρ p x e),fun p x e=>h'.M p x (h.M p x e)⟩

mutual
theorem VR.mono {κ κ':Kp} (hk:κ.le κ'):∀ (a:AV) (v:Value),VR κ a v→VR κ' a v
  | .any,v,h=>by simp only [VR] at h ⊢;exact h
  | .bool b,v,h=>by simp only [VR] at h ⊢;exact h
  | .int k n,v,h=>by simp only [VR] at h ⊢;exact h
  | .str l,v,h=>by simp only [VR] at h ⊢;exact h
  | .nilptr,v,h=>by simp only [VR] at h ⊢;exact h
  | .ptr p o,v,h=>by simp only [VR] at h ⊢;obtain ⟨x,h1,h2⟩:=h;exact ⟨x,hk.ρ _ _ h1,h2⟩
  | .gptr g o,v,h=>by simp only [VR] at h ⊢;exact h
  | .iptr cs,v,h=>by simp only [VR] at h ⊢;obtain ⟨a,arr,e,fr,h1,h2,h3,h4⟩:=h;exact ⟨a,arr,e,fr,h1,h2,hk.M _ _ h3,VRm.mono hk cs _ h4⟩
  | .nilslice,v,h=>by simp only [VR] at h ⊢;exact h
  | .slice p o len cap,v,h=>by simp only [VR] at h ⊢;obtain ⟨x,a,c,h1,h2⟩:=h;exact ⟨x,a,c,hk.ρ _ _ h1,h2⟩
  | .imm cs len full,v,h=>by
    simp only [VR] at h ⊢;obtain ⟨a,c,h1,h2,h3,h4⟩:=h;refine ⟨a,c,h1,h2,h3,?_⟩
    rcases h4 with h4 | h4 | ⟨h4,arr,e,fr,h5,h6⟩
    · exact .inl h4
    · exact .inr (.inl h4)
    · exact .inr (.inr ⟨h4,arr,e,fr,hk.M _ _ h5,VRm.mono hk cs _ h6⟩)
  | .nilmap,v,h=>by simp only [VR] at h ⊢;exact h
  | .map p,v,h=>by simp only [VR] at h ⊢;obtain ⟨x,h1,h2⟩:=h;exact ⟨x,hk.ρ _ _ h1,h2⟩
  | .nilfunc,v,h=>by simp only [VR] at h ⊢;exact h
  | .func f a c,v,h=>by simp only [VR] at h ⊢;obtain ⟨A,C,h1,h2,h3⟩:=h;exact ⟨A,C,h1,VRl.mono hk a _ h2,VRl.mono hk c _ h3⟩
  | .yield l,v,h=>by simp only [VR] at h ⊢;obtain ⟨x,h1,h2⟩:=h;exact ⟨x,hk.ρ _ _ h1,h2⟩
  | .niliface,v,h=>by simp only [VR] at h ⊢;exact h
  | .iface t a,v,h=>by simp only [VR] at h ⊢;obtain ⟨w,h1,h2⟩:=h;exact ⟨w,h1,VR.mono hk a _ h2⟩
  | .agg cs,v,h=>by simp only [VR] at h ⊢;obtain ⟨vs,h1,h2,h3⟩:=h;exact ⟨vs,h1,h2,VRl.mono hk cs _ h3⟩
  | .tuple cs,v,h=>by simp only [VR] at h ⊢;obtain ⟨vs,h1,h3⟩:=h;exact ⟨vs,h1,VRl.mono hk cs _ h3⟩
theorem VRl.mono {κ κ':Kp} (hk:κ.le κ'):∀ (a:List AV) (v:List Value),VRl κ a v→VRl κ' a v
  | [],v,h=>by simp only [VRl] at h ⊢;exact h
  | c :: cs,v,h=>by simp only [VRl] at h ⊢;obtain ⟨x,r,h1,h2,h3⟩:=h;exact ⟨x,r,h1,VR.mono hk c _ h2,VRl.mono hk cs _ h3⟩
theorem VRm.mono {κ κ':Kp} (hk:κ.le κ'):∀ (a:List AV) (f:Nat→Option Value),VRm κ a f→VRm κ' a f
  | [],v,h=>by simp only [VRm]
  | c :: cs,v,h=>by simp only [VRm] at h ⊢;obtain ⟨⟨x,h1,h2,h3⟩,h4⟩:=h;exact ⟨⟨x,h1,h2,VR.mono hk c _ h3⟩,VRm.mono hk cs _ h4⟩
end

def VRe (κ:Kp):List (AV × AV × Nat)→List MapEntry→Prop
  | [],l=>l = []
  | (k,v,b) :: es,l=>∃ e r,l = e :: r∧VR κ k e.key∧VR κ v e.val∧e.born = b∧VRe κ es r
theorem VRe.mono {κ κ':Kp} (hk:κ.le κ'):∀ (a:List (AV × AV × Nat)) (l:List MapEntry),VRe κ a l→VRe κ' a l
  | [],_,h=>h
  | (_k,_v,_b) :: es,_l,⟨e,r,h1,h2,h3,h4,h5⟩=>⟨e,r,h1,VR.mono hk _ _ h2,VR.mono hk _ _ h3,h4,VRe.mono hk es r h5⟩

structure TR (κ:Kp) (n:Nat) (tm:Tm) (tmps:Array Value):Prop where
  size:n ≤ tmps.size
  val:∀ t v,tm.get (.slot t) = some v→VR κ v (tmps.getD t undef)
theorem TR.mono {κ κ':Kp} (hk:κ.le κ') {n:Nat} {tm:Tm} {tmps:Array Value} (h:TR κ n tm tmps):TR κ' n tm tmps:=⟨h.size,fun t v e=>VR.mono hk _ _ (h.val t v e)⟩

def exitCode:XExit→Option Code
  | .normal=>none
  | .exit id=>some (.exit id)
  | .ret=>some .ret

def OR (P:Program) (κ:Kp) (x:Spot) (w:World):AObj→Prop
  | .dead=>True
  | .row ty cs sp=>∃ (arr:Array Value) (fr:Nat × Nat),w.heap[x.b]? = some (.cells arr ty fr)∧arr.size = x.n∧x.d + cs.length ≤ x.n∧VRm κ cs (fun i=>arr[x.d + i]?) ∧
      (sp = false→x.d = 0∧cs.length = x.n)∧(fr.1 = fr.2∨x.n ≤ fr.1)
  | .map es cl=>∃ arr:Array MapEntry,w.heap[x.b]? = some (.map arr cl)∧VRe κ es arr.toList
  | .sIter l pos=>x.d = 0∧∃ s:ByteArray,w.heap[x.b]? = some (.stringIter s pos)∧s.data.toList.map UInt8.toNat = l
  | .mIter m since seen last=>x.d = 0∧∃ m',w.heap[x.b]? = some (.mapIter m' since seen.toArray last)∧(∀ b ∈ seen,b < last) ∧
      (match m with | none=>m' = none | some q=>∃ y,κ.ρ q = some y∧m' = some y.b)
  | .loop st e tm ps n as bd=>∃ (L:Loop),w.heap[x.b]? = some (.loop L)∧L.state = st∧L.pending = exitCode e∧L.params.toList.map Slot.slot = ps∧(∀ t ∈ L.params.toList,t < n) ∧
      L.assign = as∧L.body = bd∧TR κ n tm L.tmps∧∃ fn,P.funcs[L.fn]? = some fn

theorem OR.mono {P:Program} {κ κ':Kp} (hk:κ.le κ') {x:Spot} {w w':World} (hw:w'.heap[x.b]? = w.heap[x.b]?):∀ {o:AObj},OR P κ x w o→OR P κ' x w' o
  | .dead,_=>trivial
  | .row _ty _cs _sp,⟨arr,fr,h1,h2,h3,h4,h5⟩=>⟨arr,fr,hw.trans h1,h2,h3,VRm.mono hk _ _ h4,h5⟩
  | .map _es _cl,⟨arr,h1,h2⟩=>⟨arr,hw.trans h1,VRe.mono hk _ _ h2⟩
  | .sIter _l _pos,⟨h0,s,h1,h2⟩=>⟨h0,s,hw.trans h1,h2⟩
  | .mIter none _since _seen _last,⟨h0,m',h1,h2,h3⟩=>⟨h0,m',hw.trans h1,h2,h3⟩
  | .mIter (some _q) _since _seen _last,⟨h0,m',h1,h2,y,h3,h4⟩=>⟨h0,m',hw.trans h1,h2,y,hk.ρ _ _ h3,h4⟩
  | .loop ..,⟨L,h1,h2,h3,h4,h4',h5,h6,h7,h8⟩=>⟨L,hw.trans h1,h2,h3,h4,h4',h5,h6,h7.mono hk,h8⟩

theorem unfrozen {fr:Nat × Nat} {n:Nat} (h:fr.1 = fr.2∨n ≤ fr.1):∀ i,i < n→¬ (fr.1 ≤ i∧i < fr.2):=fun i hi ⟨h1,h2⟩=>by rcases h with h | h <;> omega
def Live (κ:Kp) (h:Heap) (p:Pos) (x:Spot):Prop:=κ.ρ p = some x∧h.get p ≠ .dead

structure HR (P:Program) (κ:Kp) (h:Heap) (w:World):Prop where
  obj:∀ p x,κ.ρ p = some x→OR P κ x w (h.get p)
  apart:∀ p q x y,Live κ h p x→Live κ h q y→p ≠ q→x.b ≠ y.b
  frozen:∀ b o,κ.M b = some o→w.heap[b]? = some o
  off:∀ p x,Live κ h p x→κ.M x.b = none
  top:∀ p x,κ.ρ p = some x→p.toNat < h.next.toNat
  clean:∀ p,h.next.toNat ≤ p.toNat→h.get p = .dead

structure Ext (P:Program) (κ:Kp) (h:Heap) (w:World) (κ':Kp) (h':Heap) (w':World):Prop where
  le:κ.le κ'
  M:κ'.M = κ.M
  hr:HR P κ' h' w'
  next:h.next.toNat ≤ h'.next.toNat
  size:w.heap.size ≤ w'.heap.size
  fc:∀ b,b < w.heap.size→(∀ p x,Live κ h p x→x.b ≠ b)→w'.heap[b]? = w.heap[b]?
  lr:∀ p x,Live κ' h' p x→x.b < w.heap.size→∃ q y,Live κ h q y∧y.b = x.b
  gc:∀ p,p.toNat < h.next.toNat→κ.ρ p = none→κ'.ρ p = none∧h'.get p = h.get p
  os:w'.os = w.os
  output:w'.output = w.output
  tape:w'.tape = w.tape

theorem Ext.refl {P:Program} {κ:Kp} {h:Heap} {w:World} (hr:HR P κ h w):Ext P κ h w κ h w :=
  ⟨.refl κ,rfl,hr,Nat.le_refl _,Nat.le_refl _,fun _ _ _=>rfl,fun p x hl _=>⟨p,x,hl,rfl⟩,fun _ _ hp=>⟨hp,rfl⟩,rfl,rfl,rfl⟩
theorem Ext.trans {P:Program} {κ κ₁ κ₂:Kp} {h h₁ h₂:Heap} {w w₁ w₂:World} (a:Ext P κ h w κ₁ h₁ w₁) (b:Ext P κ₁ h₁ w₁ κ₂ h₂ w₂):Ext P κ h w κ₂ h₂ w₂:=by
  refine ⟨a.le.trans b.le,b.M.trans a.M,b.hr,Nat.le_trans a.next b.next,Nat.le_trans a.size b.size,?_,?_,?_,b.os.trans a.os,b.output.trans a.output,b.tape.trans a.tape⟩
  · intro i hi hl;rw [b.fc i (Nat.lt_of_lt_of_le hi a.size) ?_,a.fc i hi hl];intro p x hp hx;obtain ⟨q,y,hq,hy⟩:=a.lr p x hp (by omega);exact hl q y hq (hy.trans hx)
  · intro p x hp hx;obtain ⟨q,y,hq,hy⟩:=b.lr p x hp (Nat.lt_of_lt_of_le hx a.size);obtain ⟨r,z,hr,hz⟩:=a.lr q y hq (by omega);exact ⟨r,z,hr,hz.trans hy⟩
  · intro p hp hn;obtain ⟨h1,h2⟩:=a.gc p hp hn;obtain ⟨h3,h4⟩:=b.gc p (Nat.lt_of_lt_of_le hp a.next) h1;exact ⟨h3,h4.trans h2⟩

end Go.X

/- What single changes of memory do to the relation: a new block,a block turned,a block given up,a draw. -/
namespace Go.X
open Go

/-! ### the abstract heap -/
theorem Heap.next_ne {h:Heap} {p:Pos} (hp:p.toNat < h.next.toNat):h.next ≠ p:=fun e=>by rw [e] at hp;omega
theorem Heap.get_push_lt {h:Heap} {p:Pos} (o:AObj) (hp:p.toNat < h.next.toNat):(h.push o).get p = h.get p:=Heap.get_push_ne h o (Heap.next_ne hp)
theorem Heap.next_push (h:Heap) (o:AObj):(h.push o).next.toNat = h.next.toNat + 1:=by simp [Heap.push,Pos.toNat_succ]

def World.new (w:World) (o:Obj):World:={ w with heap:=w.heap.push o }
def World.put (w:World) (b:Nat) (o:Obj):World:={ w with heap:=w.heap.setIfInBounds b o }
def World.draw (w:World):World:={ w with drawn:=w.drawn + 1 }

def Kp.at (κ:Kp) (p:Pos) (x:Spot):Kp:={ κ with ρ:=fun q=>if q = p then some x else κ.ρ q }
theorem Kp.at_same (κ:Kp) (p:Pos) (x:Spot):(κ.at p x).ρ p = some x:=by simp [Kp.at]
theorem Kp.at_ne (κ:Kp) {p q:Pos} (x:Spot) (h:q ≠ p):(κ.at p x).ρ q = κ.ρ q:=by simp [Kp.at,h]
theorem Kp.at_le {κ:Kp} {p:Pos} {x:Spot} (h:κ.ρ p = none):κ.le (κ.at p x):=by
  refine ⟨fun q y e=>?_,fun b o e=>e⟩
  by_cases hq:q = p
  · subst hq;rw [h] at e;exact absurd e (by simp)
  · rw [Kp.at_ne _ _ hq];exact e

theorem HR.live_lt {P:Program} {κ:Kp} {h:Heap} {w:World} (hr:HR P κ h w) {p:Pos} {x:Spot} (hl:Live κ h p x):x.b < w.heap.size:=by
  have ho:=hr.obj p x hl.1;have hn:=hl.2
  cases hg:h.get p with
  | dead=>exact absurd hg hn
  | row ty cs sp=>rw [hg] at ho;obtain ⟨arr,fr,h1,_⟩:=ho;exact (Array.getElem?_eq_some_iff.1 h1).1
  | map es cl=>rw [hg] at ho;obtain ⟨arr,h1,_⟩:=ho;exact (Array.getElem?_eq_some_iff.1 h1).1
  | sIter l pos=>rw [hg] at ho;obtain ⟨_,arr,h1,_⟩:=ho;exact (Array.getElem?_eq_some_iff.1 h1).1
  | mIter m since seen last=>rw [hg] at ho;obtain ⟨_,arr,h1,_⟩:=ho;exact (Array.getElem?_eq_some_iff.1 h1).1
  | loop st e tm ps n as bd=>rw [hg] at ho;obtain ⟨L,h1,_⟩:=ho;exact (Array.getElem?_eq_some_iff.1 h1).1

theorem HR.next_none {P:Program} {κ:Kp} {h:Heap} {w:World} (hr:HR P κ h w):κ.ρ h.next = none:=by
  cases e:κ.ρ h.next with
  | none=>rfl
  | some x=>exact absurd (hr.top _ _ e) (by omega)
theorem HR.frozen_lt {P:Program} {κ:Kp} {h:Heap} {w:World} (hr:HR P κ h w) {b:Nat} {o:Obj} (hm:κ.M b = some o):b < w.heap.size :=
  (Array.getElem?_eq_some_iff.1 (hr.frozen b o hm)).1

theorem Ext.same {P:Program} {κ:Kp} {h:Heap} {w w':World} (hr:HR P κ h w) (hh:w'.heap = w.heap) (ho:w'.os = w.os) (hu:w'.output = w.output) (ht:w'.tape = w.tape):Ext P κ h w κ h w':=by
  refine ⟨.refl κ,rfl,⟨fun p x e=>OR.mono (.refl κ) (by rw [hh]) (hr.obj p x e),hr.apart,fun b o e=>by rw [hh];exact hr.frozen b o e,hr.off,hr.top,hr.clean⟩,Nat.le_refl _,by rw [hh];exact Nat.le_refl _,
    fun b _ _=>by rw [hh],fun p x hl _=>⟨p,x,hl,rfl⟩,fun _ _ hp=>⟨hp,rfl⟩,ho,hu,ht⟩
theorem Ext.draw {P:Program} {κ:Kp} {h:Heap} {w:World} (hr:HR P κ h w):Ext P κ h w κ h (World.draw w):=Ext.same hr rfl rfl rfl rfl

theorem Ext.kill {P:Program} {κ:Kp} {h:Heap} {w:World} (hr:HR P κ h w) {p:Pos} {x:Spot} (hp:κ.ρ p = some x):Ext P κ h w κ (h.set p .dead) w:=by
  have hg:∀ q,q ≠ p→(h.set p .dead).get q = h.get q:=fun q hq=>Heap.get_set_ne h _ (fun e=>hq e.symm)
  have hl:∀ q y,Live κ (h.set p .dead) q y→q ≠ p∧Live κ h q y:=by
    intro q y ⟨h1,h2⟩;have hq:q ≠ p:=fun e=>h2 (by rw [e,Heap.get_set_same])
    exact ⟨hq,h1,by rw [hg q hq] at h2;exact h2⟩
  refine ⟨.refl κ,rfl,⟨fun q y e=>?_,fun q r y z h1 h2=>hr.apart q r y z (hl _ _ h1).2 (hl _ _ h2).2,hr.frozen,fun q y h1=>hr.off q y (hl _ _ h1).2,hr.top,fun q hq=>(Decidable.em (q = p)).elim (fun e=>by rw [e,Heap.get_set_same]) (fun e=>by rw [hg q e];exact hr.clean q hq)⟩,Nat.le_refl _,Nat.le_refl _,
    fun b _ _=>rfl,fun q y h1 _=>⟨q,y,(hl _ _ h1).2,rfl⟩,fun q _ hn=>⟨hn,hg q (fun e=>by rw [e] at hn;rw [hn] at hp;simp at hp)⟩,rfl,rfl,rfl⟩
  by_cases hq:q = p
  · subst hq;rw [Heap.get_set_same];trivial
  · rw [hg q hq];exact hr.obj q y e

theorem Ext.alloc {P:Program} {κ:Kp} {h:Heap} {w:World} (hr:HR P κ h w) (o:AObj) (ob:Obj) (n:Nat)
    (ho:OR P (κ.at h.next ⟨w.heap.size,0,n⟩) ⟨w.heap.size,0,n⟩ (World.new w ob) o):Ext P κ h w (κ.at h.next ⟨w.heap.size,0,n⟩) (h.push o) (World.new w ob):=by
  have hn:=hr.next_none;have hle:=Kp.at_le (x:=⟨w.heap.size,0,n⟩) hn;have hold:∀ b,b < w.heap.size→(World.new w ob).heap[b]? = w.heap[b]?:=fun b hb=>by
    simp only [World.new];rw [Array.getElem?_push,if_neg (by omega)]
  have hcase:∀ q y,(κ.at h.next ⟨w.heap.size,0,n⟩).ρ q = some y→(q = h.next∧y = ⟨w.heap.size,0,n⟩)∨(q ≠ h.next∧κ.ρ q = some y):=by
    intro q y e
    by_cases hq:q = h.next
    · subst hq;rw [Kp.at_same] at e;exact .inl ⟨rfl,(Option.some.inj e).symm⟩
    · rw [Kp.at_ne _ _ hq] at e;exact .inr ⟨hq,e⟩
  have hlive:∀ q y,Live (κ.at h.next ⟨w.heap.size,0,n⟩) (h.push o) q y→(q = h.next∧y = ⟨w.heap.size,0,n⟩)∨(q ≠ h.next∧Live κ h q y):=by
    intro q y ⟨h1,h2⟩
    rcases hcase q y h1 with h3 | ⟨h3,h4⟩
    · exact .inl h3
    · refine .inr ⟨h3,h4,?_⟩;rw [Heap.get_push_lt o (hr.top q y h4)] at h2;exact h2
  refine ⟨hle,rfl,⟨?_,?_,?_,?_,?_,fun q hq=>by rw [Heap.next_push] at hq;rw [Heap.get_push_ne h o (fun e=>by rw [e] at hq;omega)];exact hr.clean q (by omega)⟩,by rw [Heap.next_push];omega,by simp [World.new],fun b hb _=>hold b hb,?_,?_,rfl,rfl,rfl⟩
  · intro q y e
    rcases hcase q y e with ⟨rfl,rfl⟩ | ⟨h3,h4⟩
    · rw [Heap.get_push_same];exact ho
    · rw [Heap.get_push_lt o (hr.top q y h4)]
      by_cases hd:h.get q = .dead
      · rw [hd];trivial
      · exact OR.mono hle (hold _ (hr.live_lt ⟨h4,hd⟩)) (hr.obj q y h4)
  · intro q r y z h1 h2 hne
    rcases hlive q y h1 with ⟨rfl,rfl⟩ | ⟨h3,h4⟩ <;> rcases hlive r z h2 with ⟨rfl,rfl⟩ | ⟨h5,h6⟩
    · exact absurd rfl hne
    · have:=hr.live_lt h6;simp only;omega
    · have:=hr.live_lt h4;simp only;omega
    · exact hr.apart q r y z h4 h6 hne
  · intro b ob' hm;rw [hold b (hr.frozen_lt hm)];exact hr.frozen b ob' hm
  · intro q y h1
    rcases hlive q y h1 with ⟨rfl,rfl⟩ | ⟨h3,h4⟩
    · cases hm:κ.M w.heap.size with
      | none=>exact hm
      | some o'=>exact absurd (hr.frozen_lt hm) (by omega)
    · exact hr.off q y h4
  · intro q y e;rw [Heap.next_push]
    rcases hcase q y e with ⟨rfl,rfl⟩ | ⟨h3,h4⟩
    · omega
    · have:=hr.top q y h4;omega
  · intro q y h1 hy
    rcases hlive q y h1 with ⟨rfl,rfl⟩ | ⟨h3,h4⟩
    · simp only at hy;omega
    · exact ⟨q,y,h4,rfl⟩
  · intro q hq hnn;have hne:q ≠ h.next:=fun e=>by rw [e] at hq;omega
    exact ⟨by rw [Kp.at_ne _ _ hne];exact hnn,Heap.get_push_lt o hq⟩

theorem Ext.update {P:Program} {κ:Kp} {h:Heap} {w:World} (hr:HR P κ h w) {p:Pos} {x:Spot} (hp:Live κ h p x) (o:AObj) (ob:Obj)
    (ho:OR P κ x (World.put w x.b ob) o):Ext P κ h w κ (h.set p o) (World.put w x.b ob):=by
  have hold:∀ b,b ≠ x.b→(World.put w x.b ob).heap[b]? = w.heap[b]?:=fun b hb=>by
    simp only [World.put];rw [Array.getElem?_setIfInBounds_ne (fun e=>hb e.symm)]
  have hg:∀ q,q ≠ p→(h.set p o).get q = h.get q:=fun q hq=>Heap.get_set_ne h _ (fun e=>hq e.symm)
  have hl:∀ q y,Live κ (h.set p o) q y→Live κ h q y:=by
    intro q y ⟨h1,h2⟩
    by_cases hq:q = p
    · subst hq;exact ⟨h1,hp.2⟩
    · exact ⟨h1,by rw [hg q hq] at h2;exact h2⟩
  refine ⟨.refl κ,rfl,⟨?_,fun q r y z h1 h2=>hr.apart q r y z (hl _ _ h1) (hl _ _ h2),?_,fun q y h1=>hr.off q y (hl _ _ h1),hr.top,fun q hq=>by rw [hg q (fun e=>by have:=hr.top p x hp.1;rw [e] at hq;exact absurd hq (by simp only [Heap.set];omega))];exact hr.clean q hq⟩,Nat.le_refl _,by simp [World.put],?_,fun q y h1 _=>⟨q,y,hl _ _ h1,rfl⟩,?_,rfl,rfl,rfl⟩
  · intro q y e
    by_cases hq:q = p
    · subst hq;rw [Heap.get_set_same,show y = x from Option.some.inj (e.symm.trans hp.1)];exact ho
    · rw [hg q hq]
      by_cases hd:h.get q = .dead
      · rw [hd];trivial
      · exact OR.mono (.refl κ) (hold _ (hr.apart q p y x ⟨e,hd⟩ hp hq)) (hr.obj q y e)
  · intro b ob' hm;rw [hold b (fun e=>by rw [e,hr.off p x hp] at hm;simp at hm)];exact hr.frozen b ob' hm
  · intro b hb hn;exact hold b (fun e=>hn p x hp e.symm)
  · intro q _ hn;exact ⟨hn,hg q (fun e=>by rw [e,hp.1] at hn;simp at hn)⟩

theorem Ext.takeOn {P:Program} {κ:Kp} {h:Heap} {w:World} (hr:HR P κ h w) {p:Pos} {x:Spot} (hp:Live κ h p x) (d:Nat) (o:AObj) (ob:Obj)
    (ho:OR P (κ.at h.next ⟨x.b,d,x.n⟩) ⟨x.b,d,x.n⟩ (World.put w x.b ob) o):Ext P κ h w (κ.at h.next ⟨x.b,d,x.n⟩) ((h.set p .dead).push o) (World.put w x.b ob):=by
  have hn:=hr.next_none;have hle:=Kp.at_le (x:=⟨x.b,d,x.n⟩) hn;have hpn:p ≠ h.next:=fun e=>by have:=hr.top p x hp.1;rw [e] at this;omega
  have hold:∀ b,b ≠ x.b→(World.put w x.b ob).heap[b]? = w.heap[b]?:=fun b hb=>by
    simp only [World.put];rw [Array.getElem?_setIfInBounds_ne (fun e=>hb e.symm)]
  have hcase:∀ q y,(κ.at h.next ⟨x.b,d,x.n⟩).ρ q = some y→(q = h.next∧y = ⟨x.b,d,x.n⟩)∨(q ≠ h.next∧κ.ρ q = some y):=by
    intro q y e
    by_cases hq:q = h.next
    · subst hq;rw [Kp.at_same] at e;exact .inl ⟨rfl,(Option.some.inj e).symm⟩
    · rw [Kp.at_ne _ _ hq] at e;exact .inr ⟨hq,e⟩
  have hnx:(h.set p .dead).next = h.next:=rfl;have hgp:∀ q,q ≠ h.next→((h.set p .dead).push o).get q = (h.set p .dead).get q:=fun q hq=>Heap.get_push_ne _ o (fun e=>hq e.symm)
  have hlive:∀ q y,Live (κ.at h.next ⟨x.b,d,x.n⟩) ((h.set p .dead).push o) q y→(q = h.next∧y = ⟨x.b,d,x.n⟩)∨(q ≠ h.next∧q ≠ p∧Live κ h q y):=by
    intro q y ⟨h1,h2⟩
    rcases hcase q y h1 with h3 | ⟨h3,h4⟩
    · exact .inl h3
    · rw [hgp q h3] at h2;have hq:q ≠ p:=fun e=>h2 (by rw [e,Heap.get_set_same])
      rw [Heap.get_set_ne h _ (fun e=>hq e.symm)] at h2;exact .inr ⟨h3,hq,h4,h2⟩
  refine ⟨hle,rfl,⟨?_,?_,?_,?_,?_,fun q hq=>by
      rw [Heap.next_push,hnx] at hq;have h1:=hr.top p x hp.1;rw [hgp q (fun e=>by rw [e] at hq;omega),Heap.get_set_ne h _ (fun e=>by rw [← e] at hq;omega)];exact hr.clean q (by omega)⟩,by rw [Heap.next_push];simp [Heap.set],by simp [World.put],?_,?_,?_,rfl,rfl,rfl⟩
  · intro q y e
    rcases hcase q y e with ⟨rfl,rfl⟩ | ⟨h3,h4⟩
    · rw [← hnx,Heap.get_push_same];exact ho
    · rw [hgp q h3]
      by_cases hq:q = p
      · rw [hq,Heap.get_set_same];trivial
      · rw [Heap.get_set_ne h _ (fun e=>hq e.symm)]
        by_cases hd:h.get q = .dead
        · rw [hd];trivial
        · exact OR.mono hle (hold _ (hr.apart q p y x ⟨h4,hd⟩ hp hq)) (hr.obj q y h4)
  · intro q r y z h1 h2 hne
    rcases hlive q y h1 with ⟨rfl,rfl⟩ | ⟨h3,h3',h4⟩ <;> rcases hlive r z h2 with ⟨rfl,rfl⟩ | ⟨h5,h5',h6⟩
    · exact absurd rfl hne
    · exact fun e=>hr.apart r p z x h6 hp h5' e.symm
    · exact fun e=>hr.apart q p y x h4 hp h3' e
    · exact hr.apart q r y z h4 h6 hne
  · intro b ob' hm;have hm:κ.M b = some ob':=hm;rw [hold b (fun e=>by rw [e,hr.off p x hp] at hm;simp at hm)];exact hr.frozen b ob' hm
  · intro q y h1
    rcases hlive q y h1 with ⟨rfl,rfl⟩ | ⟨h3,_,h4⟩
    · exact hr.off p x hp
    · exact hr.off q y h4
  · intro q y e;rw [Heap.next_push]
    rcases hcase q y e with ⟨rfl,rfl⟩ | ⟨h3,h4⟩
    · rw [hnx];omega
    · have:=hr.top q y h4;rw [hnx];omega
  · intro b hb hnn;exact hold b (fun e=>hnn p x hp e.symm)
  · intro q y h1 hy
    rcases hlive q y h1 with ⟨rfl,rfl⟩ | ⟨h3,_,h4⟩
    · exact ⟨p,x,hp,rfl⟩
    · exact ⟨q,y,h4,rfl⟩
  · intro q hq hnn;have hne:q ≠ h.next:=fun e=>by rw [e] at hq;omega
    have hqp:q ≠ p:=fun e=>by rw [e,hp.1] at hnn;simp at hnn
    exact ⟨by rw [Kp.at_ne _ _ hne];exact hnn,by rw [hgp q hne,Heap.get_set_ne h _ (fun e=>hqp e.symm)]⟩

end Go.X

/- Lists,cells and memory: the small lemmas under the instructions. -/
namespace Go.X
open Go

/-! ### lists -/
theorem nth_eq {α:Type}:∀ (l:List α) (n:Nat),nth l n = l[n]?
  | [],_=>rfl
  | x :: xs,0=>rfl
  | x :: xs,n + 1=>by simp only [nth,List.getElem?_cons_succ];exact nth_eq xs n
theorem takeE_some {α:Type}:∀ {n:Nat} {l r:List α},takeE n l = some r→n ≤ l.length∧r = l.take n
  | 0,l,r,h=>by simp only [takeE,sJ] at h;subst h;simp
  | n + 1,[],r,h=>by simp [takeE] at h
  | n + 1,x :: xs,r,h=>by
    simp only [takeE] at h
    cases e:takeE n xs with
    | none=>rw [e] at h;simp at h
    | some l =>
      rw [e] at h;simp only [sJ] at h;obtain ⟨h1,h2⟩:=takeE_some e;subst h;subst h2;simp;exact h1
theorem dropE_some {α:Type}:∀ {n:Nat} {l r:List α},dropE n l = some r→n ≤ l.length∧r = l.drop n
  | 0,l,r,h=>by simp only [dropE,sJ] at h;subst h;simp
  | n + 1,[],r,h=>by simp [dropE] at h
  | n + 1,x :: xs,r,h=>by
    simp only [dropE] at h;obtain ⟨h1,h2⟩:=dropE_some h;subst h2;simp;exact h1
theorem dropE_none {α:Type}:∀ {n:Nat} {l:List α},dropE n l = none→l.length < n
  | 0,l,h=>by simp [dropE] at h
  | n + 1,[],_=>by simp
  | n + 1,x :: xs,h=>by simp only [dropE] at h;have:=dropE_none h;simp;omega
theorem sub_some {α:Type} {l r:List α} {off n:Nat} (h:sub l off n = some r):off + n ≤ l.length∧r = (l.drop off).take n:=by
  simp only [sub] at h
  cases e:dropE off l with
  | none=>rw [e] at h;simp at h
  | some d =>
    rw [e] at h;obtain ⟨h1,h2⟩:=dropE_some e;obtain ⟨h3,h4⟩:=takeE_some h;subst h2;simp at h3;exact ⟨by omega,h4⟩
theorem overK_eq {α β:Type} (no:β):∀ (xs cs:List α) (k:List α→β),overK no xs cs k = if xs.length ≤ cs.length then k (xs++cs.drop xs.length) else no
  | [],cs,k=>by simp [overK]
  | x :: xs,[],k=>by simp [overK]
  | x :: xs,c :: cs,k=>by simp only [overK,overK_eq no xs cs,List.length_cons,Nat.add_le_add_iff_right,List.drop_succ_cons,List.cons_append]
theorem spliceK_eq {α β:Type} (no:β):∀ (o:Nat) (xs cs:List α) (k:List α→β),spliceK no o xs cs k = if o + xs.length ≤ cs.length∧o ≤ cs.length then k (cs.take o++(xs++cs.drop (o + xs.length))) else no
  | 0,xs,cs,k=>by simp [spliceK,overK_eq]
  | o + 1,xs,[],k=>by simp [spliceK]
  | o + 1,xs,c :: cs,k=>by
    simp only [spliceK,spliceK_eq no o xs cs,List.length_cons,List.take_succ_cons,List.cons_append];have e:o + 1 + xs.length = (o + xs.length) + 1:=by omega
    rw [e,List.drop_succ_cons]
    by_cases hc:o + xs.length ≤ cs.length∧o ≤ cs.length
    · rw [if_pos hc,if_pos (by omega)]
    · rw [if_neg hc,if_neg (by omega)]
theorem lengthIs_iff {α:Type}:∀ (l:List α) (n:Nat),lengthIs l n = true ↔ l.length = n
  | [],0=>by simp [lengthIs]
  | [],n + 1=>by simp [lengthIs]
  | x :: xs,0=>by simp [lengthIs]
  | x :: xs,n + 1=>by simp only [lengthIs,lengthIs_iff xs n,List.length_cons,Nat.add_right_cancel_iff]
theorem lenN_eq {α:Type}:∀ (l:List α) (n:Nat),lenN l n = l.length + n
  | [],n=>by simp [lenN]
  | x :: xs,n=>by simp only [lenN,lenN_eq xs,List.length_cons];omega
theorem beqN_iff:∀ (a b:List Nat),beqN a b = true ↔ a = b
  | [],[]=>by simp [beqN]
  | [],_ :: _=>by simp [beqN]
  | _ :: _,[]=>by simp [beqN]
  | x :: a,y :: b=>by
    simp only [beqN]
    cases e:Nat.beq x y with
    | false => have:x ≠ y:=fun h=>by rw [h,Nat.beq_refl] at e;simp at e
               simp [this]
    | true=>rw [beqN_iff a b];simp [Nat.eq_of_beq_eq_true e]

/-! ### values,cells -/
theorem VR.oneCell {κ:Kp} {a:AV} {v:Value} (h:VR κ a v) (h1:a.one = true):v.oneCell' = true:=by
  cases a <;> simp only [VR] at h
  case any=>cases v <;> simp [Value.oneCell'] <;> first | exact h.1 _ rfl | exact h.2 _ rfl
  case agg=>simp [AV.one] at h1
  case tuple=>simp [AV.one] at h1
  case bool=>subst h;rfl
  case int=>subst h;rfl
  case str=>obtain ⟨s,h,_⟩:=h;subst h;rfl
  case nilptr=>subst h;rfl
  case ptr=>obtain ⟨x,_,h⟩:=h;subst h;rfl
  case gptr=>subst h;rfl
  case iptr=>obtain ⟨x,_,_,_,h,_⟩:=h;subst h;rfl
  case nilslice=>subst h;rfl
  case slice=>obtain ⟨x,_,_,_,h,_⟩:=h;subst h;rfl
  case imm=>obtain ⟨x,_,h,_⟩:=h;subst h;rfl
  case nilmap=>subst h;rfl
  case map=>obtain ⟨x,_,h⟩:=h;subst h;rfl
  case nilfunc=>subst h;rfl
  case func=>obtain ⟨x,_,h,_⟩:=h;subst h;rfl
  case yield=>obtain ⟨x,_,h⟩:=h;subst h;rfl
  case niliface=>subst h;rfl
  case iface=>obtain ⟨x,h,_⟩:=h;subst h;rfl

theorem VRl_iff {κ:Kp}:∀ {cs:List AV} {vs:List Value},VRl κ cs vs ↔ cs.length = vs.length∧∀ (i:Nat) (c:AV) (v:Value),cs[i]? = some c→vs[i]? = some v→VR κ c v
  | [],vs=>by
    simp only [VRl]
    constructor
    · rintro rfl;simp
    · rintro ⟨h,_⟩;exact (List.length_eq_zero_iff.1 h.symm)
  | c :: cs,vs=>by
    simp only [VRl]
    constructor
    · rintro ⟨v,r,rfl,h1,h2⟩;obtain ⟨h3,h4⟩:=VRl_iff.1 h2;refine ⟨by simp [h3],fun i a b ha hb=>?_⟩
      cases i with
      | zero=>simp at ha hb;subst ha;subst hb;exact h1
      | succ i=>simp at ha hb;exact h4 i a b ha hb
    · rintro ⟨h1,h2⟩
      cases vs with
      | nil=>simp at h1
      | cons v r =>
        refine ⟨v,r,rfl,h2 0 c v (by simp) (by simp),VRl_iff.2 ⟨by simpa using h1,fun i a b ha hb=>h2 (i + 1) a b (by simpa using ha) (by simpa using hb)⟩⟩
theorem VRm_iff {κ:Kp}:∀ {cs:List AV} {f:Nat→Option Value},VRm κ cs f ↔ ∀ (i:Nat) (c:AV),cs[i]? = some c→∃ v,f i = some v∧c.one = true∧VR κ c v
  | [],f=>by simp [VRm]
  | c :: cs,f=>by
    simp only [VRm]
    constructor
    · rintro ⟨h1,h2⟩ i a ha
      cases i with
      | zero=>simp at ha;subst ha;exact h1
      | succ i=>simp at ha;exact VRm_iff.1 h2 i a ha
    · intro h;exact ⟨h 0 c (by simp),VRm_iff.2 fun i a ha=>h (i + 1) a (by simpa using ha)⟩
theorem VRl.append {κ:Kp} {a b:List AV} {v w:List Value} (h:VRl κ a v) (h':VRl κ b w):VRl κ (a++b) (v++w):=by
  obtain ⟨h1,h2⟩:=VRl_iff.1 h;obtain ⟨h3,h4⟩:=VRl_iff.1 h';refine VRl_iff.2 ⟨by simp [h1,h3],fun i c x hc hx=>?_⟩
  by_cases hi:i < a.length
  · rw [List.getElem?_append_left hi] at hc;rw [List.getElem?_append_left (by omega)] at hx;exact h2 i c x hc hx
  · rw [List.getElem?_append_right (by omega)] at hc;rw [List.getElem?_append_right (by omega),← h1] at hx;exact h4 _ c x hc hx
theorem VRl.length {κ:Kp} {a:List AV} {v:List Value} (h:VRl κ a v):a.length = v.length:=(VRl_iff.1 h).1
theorem VRl.toArray {κ:Kp} {a:List AV} {v:List Value} (h:VRl κ a v):VRl κ a v.toArray.toList:=by simpa using h

theorem VRm.read {κ:Kp} {cs:List AV} {f:Nat→Option Value} (h:VRm κ cs f) (o n:Nat) (hn:o + n ≤ cs.length) :
    ∃ vs:List Value,vs.length = n∧VRl κ ((cs.drop o).take n) vs∧((cs.drop o).take n).all AV.one = true∧(∀ v ∈ vs,v.oneCell' = true)∧∀ j,j < n→f (o + j) = vs[j]?:=by
  induction n with
  | zero=>exact ⟨[],rfl,by simp [VRl],by simp,by simp,by simp⟩
  | succ n ih =>
    obtain ⟨vs,h1,h2,h3,h4,h5⟩:=ih (by omega);have hlt:o + n < cs.length:=by omega
    obtain ⟨v,hv1,hv2,hv3⟩:=VRm_iff.1 h (o + n) cs[o + n] (List.getElem?_eq_getElem hlt);have e:(cs.drop o).take (n + 1) = (cs.drop o).take n++[cs[o + n]]:=by
      rw [List.take_succ_eq_append_getElem (by simp;omega)];simp
    refine ⟨vs++[v],by simp [h1],?_,?_,?_,?_⟩
    · rw [e];exact h2.append (by simp [VRl,hv3])
    · rw [e];simp only [List.all_append,h3,List.all_cons,hv2,List.all_nil,Bool.and_self]
    · intro x hx;simp only [List.mem_append,List.mem_singleton] at hx
      rcases hx with hx | rfl
      · exact h4 x hx
      · exact hv3.oneCell hv2
    · intro j hj
      by_cases hjn:j < n
      · rw [h5 j hjn,List.getElem?_append_left (by omega)]
      · have:j = n:=by omega
        subst this;rw [hv1,List.getElem?_append_right (by omega),h1];simp
theorem VRm.of_list {κ:Kp} {cs:List AV} {vs:List Value} (h:VRl κ cs vs) (h1:cs.all AV.one = true) {f:Nat→Option Value} (hf:∀ j,j < vs.length→f j = vs[j]?):VRm κ cs f:=by
  obtain ⟨h2,h3⟩:=VRl_iff.1 h;refine VRm_iff.2 fun i c hc=>?_
  have hi:i < cs.length:=(List.getElem?_eq_some_iff.1 hc).1;have hv:vs[i]? = some vs[i]:=List.getElem?_eq_getElem (by omega);exact ⟨vs[i],by rw [hf i (by omega),hv],List.all_eq_true.1 h1 c (List.mem_of_getElem? hc),h3 i c _ hc hv⟩

theorem cellsO_some {κ:Kp} {a:AV} {v:Value} {cs:List AV} (h:VR κ a v) (hc:a.cellsO = some cs):VRl κ cs v.cells.toList∧cs.all AV.one = true:=by
  cases a <;> simp only [AV.cellsO,sJ] at hc <;> first | (simp at hc;done) | skip
  case agg l =>
    simp only [VR] at h;obtain ⟨vs,rfl,h1,h2⟩:=h;subst hc;exact ⟨h2,h1⟩
  all_goals
    subst hc;have h1:=h.oneCell rfl;refine ⟨?_,rfl⟩
    cases v <;> simp_all [Value.cells,Value.oneCell',VRl]

/-! ### memory -/
theorem put_heap_same (w:World) (b:Nat) (o:Obj) (h:b < w.heap.size):(World.put w b o).heap[b]? = some o:=by simp [World.put,h]
theorem put_put (w:World) (b:Nat) (o o':Obj):World.put (World.put w b o) b o' = World.put w b o':=by simp [World.put]

theorem cell_of {w:World} {b o:Nat} {arr:Array Value} {t:TypeId} {fr:Nat × Nat} (hg:w.heap[b]? = some (.cells arr t fr)):w.cell? ⟨b,o,none⟩ = arr[o]?:=by simp [World.cell?,hg]
theorem run_store_cell (P:Program) {w:World} {b o:Nat} {arr:Array Value} {t:TypeId} {fr:Nat × Nat} {v:Value} (hg:w.heap[b]? = some (.cells arr t fr)) (ho:o < arr.size)
    (hf : ¬ (fr.1 ≤ o∧o < fr.2)) (hv:v.oneCell' = true):(store ⟨b,o,none⟩ v).run P w = .ok () (World.put w b (.cells (arr.setIfInBounds o v) t fr)):=by
  obtain ⟨lo,hi⟩:=fr;have hb:b < w.heap.size:=(Array.getElem?_eq_some_iff.1 hg).1;rw [run_store P w _ v _ hv,cell_of hg,Array.getElem?_eq_getElem ho];have:w.frozen? ⟨b,o,none⟩ = false:=by
    simp only [World.frozen?,hg];simp only at hf
    by_cases h1:lo ≤ o
    · have : ¬ o < hi:=fun h2=>hf ⟨h1,h2⟩
      simp [this]
    · simp [h1]
  simp only [this,Bool.false_eq_true,if_false,Result.ok.injEq,true_and];simp only [World.setCell,World.put]
  congr 1
  apply Array.ext_getElem?
  intro i;rw [Array.getElem?_modify,Array.getElem?_setIfInBounds]
  by_cases hi':i = b
  · subst hi';have e:w.heap[i] = .cells arr t (lo,hi):=by
      rw [Array.getElem?_eq_getElem hb] at hg;exact Option.some.inj hg
    simp [hb,e]
  · have:b ≠ i:=fun e=>hi' e.symm
    simp [this]
def spliced (arr:Array Value) (o:Nat) (vs:List Value):Array Value:=(arr.toList.take o++(vs++arr.toList.drop (o + vs.length))).toArray
theorem size_spliced {arr:Array Value} {o:Nat} {vs:List Value} (h:o + vs.length ≤ arr.size):(spliced arr o vs).size = arr.size:=by simp [spliced];omega
theorem get_spliced {arr:Array Value} {o:Nat} {vs:List Value} (h:o + vs.length ≤ arr.size) (i:Nat) :
    (spliced arr o vs)[i]? = if o ≤ i∧i < o + vs.length then vs[i - o]? else arr[i]?:=by
  simp only [spliced,List.getElem?_toArray]
  by_cases h1:i < o
  · rw [List.getElem?_append_left (by simp;omega),if_neg (by omega),List.getElem?_take,if_pos h1];simp
  · rw [List.getElem?_append_right (by simp;omega)];have e:(List.take o arr.toList).length = o:=by simp;omega
    rw [e]
    by_cases h2:i - o < vs.length
    · rw [List.getElem?_append_left h2,if_pos (by omega)]
    · rw [List.getElem?_append_right (by omega),if_neg (by omega),List.getElem?_drop];simp only [Array.getElem?_toList]
      congr 1;omega
theorem run_storeCells_put (P:Program) {b:Nat} {t:TypeId} {fr:Nat × Nat} (o:Nat):∀ (vs:List Value) (i:Nat) (arr:Array Value) (w:World),w.heap[b]? = some (.cells arr t fr)→o + i + vs.length ≤ arr.size →
    (∀ j,o + i ≤ j→j < o + i + vs.length→¬ (fr.1 ≤ j∧j < fr.2))→(∀ v ∈ vs,v.oneCell' = true) →
    (storeCells ⟨b,o,none⟩ vs i).run P w = .ok () (World.put w b (.cells (spliced arr (o + i) vs) t fr))
  | [],i,arr,w,hg,_,_,_=>by
    have hb:b < w.heap.size:=(Array.getElem?_eq_some_iff.1 hg).1;simp only [storeCells,Sem.run_pure,Result.ok.injEq,true_and,spliced,List.nil_append,List.length_nil,Nat.add_zero,List.take_append_drop,Array.toArray_toList];simp only [World.put];have:w.heap.setIfInBounds b (.cells arr t fr) = w.heap:=by
      apply Array.ext_getElem?
      intro j;rw [Array.getElem?_setIfInBounds]
      by_cases hj:b = j
      · subst hj;rw [if_pos rfl,if_pos hb,hg]
      · simp [hj]
    rw [this]
  | v :: vs,i,arr,w,hg,hl,hf,h1=>by
    have hb:b < w.heap.size:=(Array.getElem?_eq_some_iff.1 hg).1;simp only [List.length_cons] at hl hf;have hadd:(⟨b,o,none⟩:Addr).add i = ⟨b,o + i,none⟩:=by unfold Addr.add;split <;> simp_all
    have hs:=run_store_cell P (v:=v) hg (o:=o + i) (by omega) (hf (o + i) (by omega) (by omega)) (h1 v (by simp));have ih:=run_storeCells_put P (b:=b) (t:=t) (fr:=fr) o vs (i + 1) (arr.setIfInBounds (o + i) v) (World.put w b (.cells (arr.setIfInBounds (o + i) v) t fr)) (put_heap_same _ _ _ hb) (by simp;omega)
      (fun j hj1 hj2=>hf j (by omega) (by omega)) (fun x hx=>h1 x (by simp [hx]))
    simp only [storeCells,Sem.run_bind,hadd,hs,Result.andThen_ok,ih,put_put]
    congr 3
    apply Array.ext_getElem?
    intro j;rw [get_spliced (by simp;omega),get_spliced (by simp;omega),Array.getElem?_setIfInBounds];simp only [List.length_cons]
    by_cases h2:o + i = j
    · subst h2;rw [if_neg (by omega),if_pos rfl,if_pos (by omega),if_pos (by omega)];simp
    · by_cases h3:o + (i + 1) ≤ j∧j < o + (i + 1) + vs.length
      · rw [if_pos h3,if_pos (by omega)];have:j - (o + i) = (j - (o + (i + 1))) + 1:=by omega
        rw [this];simp
      · rw [if_neg h3,if_neg h2,if_neg (by omega)]

theorem run_loadCells_of (P:Program) {w:World} {b o:Nat} {arr:Array Value} {t:TypeId} {fr:Nat × Nat} (hg:w.heap[b]? = some (.cells arr t fr)) (vs:List Value) (h:∀ j,j < vs.length→arr[o + j]? = vs[j]?) :
    (loadCells ⟨b,o,none⟩ vs.length).run P w = .ok vs.toArray w:=by
  refine run_loadCells_list w ⟨b,o,none⟩ vs fun j v hj=>?_
  have hlt:j < vs.length:=(List.getElem?_eq_some_iff.1 hj).1;have hadd:(⟨b,o,none⟩:Addr).add j = ⟨b,o + j,none⟩:=by unfold Addr.add;split <;> simp_all
  rw [hadd,cell_of hg,h j hlt,hj]

end Go.X
