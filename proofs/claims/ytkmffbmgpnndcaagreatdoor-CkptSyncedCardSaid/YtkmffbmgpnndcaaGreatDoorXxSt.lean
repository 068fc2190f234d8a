/- The relation between the states of frames: temporaries, deferred calls, what recover finds. -/
import Derived.Test.YtkmffbmgpnndcaaGreatDoorXxArr
import Derived.Test.YtkmffbmgpnndcaaGreatDoorXxWp
import Derived.Test.YtkmffbmgpnndcaaGreatDoorXxFastEq
namespace Go.X
open Go

def markD (r:Nat):Deferred:={ target:=.collected r,args:=#[] }
structure Mark (B:Nat) (κ:Kp) (h:Heap) (w:World) (r:Nat):Prop where
  old:B ≤ r
  obj:w.heap[r]? = some (.deferred (some []))
  fix:κ.M r = none
  off:∀ p x,Live κ h p x→x.b ≠ r
inductive DR (B:Nat) (κ:Kp) (h:Heap) (w:World):List Dfd→List Deferred→Prop
  | nil:DR B κ h w [] []
  | mark {ds:List Dfd} {l:List Deferred} {r:Nat} (hl:DR B κ h w ds l) (hm:Mark B κ h w r) (hne:markD r ∉ l):DR B κ h w ds (markD r :: l)
  | cons {ds:List Dfd} {l:List Deferred} {f:FuncId} {first cap args:List AV} {A C:Array Value} (hl:DR B κ h w ds l) (ha:VRl κ (first++args) A.toList) (hc:VRl κ cap C.toList) :
      DR B κ h w ((.func f first cap,args) :: ds) ({ target:=.fn (.func f) C,args:=A } :: l)

section
variable {P:Program} {κ κ':Kp} {h h':Heap} {w w':World} {B n:Nat}

theorem Mark.ext {r:Nat} (m:Mark B κ h w r) (e:Ext P κ h w κ' h' w'):Mark B κ' h' w' r:=by
  have hlt:r < w.heap.size:=(Array.getElem?_eq_some_iff.1 m.obj).1;refine ⟨m.old,(e.fc r hlt m.off).trans m.obj,by rw [e.M];exact m.fix,fun p x hl hx=>?_⟩;obtain ⟨q,y,hq,hy⟩:=e.lr p x hl (by omega);exact m.off q y hq (hy.trans hx)
theorem DR.ext {ds:List Dfd} {l:List Deferred} (d:DR B κ h w ds l) (e:Ext P κ h w κ' h' w'):DR B κ' h' w' ds l:=by
  induction d with
  | nil=>exact .nil
  | mark hl hm hne ih=>exact .mark ih (hm.ext e) hne
  | cons hl ha hc ih=>exact .cons ih (VRl.mono e.le _ _ ha) (VRl.mono e.le _ _ hc)

inductive CR (κ:Kp) (kd:CallKind):Pan→List Frame→List Frame→Prop
  | same {cs:List Frame} (hn:∀ fr:Frame,fr.kind = kd→tryRecover fr cs = none):CR κ kd .off cs cs
  | on {v:AV} {v':Value} {older:List PanicEntry} {c:Frame} {cs:List Frame} (hk:kd = .deferred) (hm:c.mode = .panicking ({ v:=v',recovered:=false } :: older)) (hv:VR κ v v') (hg:∀ x ∈ older,x.goexit = false) :
      CR κ kd (.on v) (c :: cs) (c :: cs)
  | done {v':Value} {older:List PanicEntry} {c:Frame} {cs:List Frame} (hk:kd = .deferred) (hm:c.mode = .panicking ({ v:=v',recovered:=false } :: older)) (hg:∀ x ∈ older,x.goexit = false) :
      CR κ kd .off (c :: cs) ({ c with mode:=.panicking ({ v:=v',recovered:=true } :: older) } :: cs)
theorem CR.mono {kd:CallKind} {p:Pan} {cs₀ cs:List Frame} (hk:κ.le κ') (c:CR κ kd p cs₀ cs):CR κ' kd p cs₀ cs:=by
  cases c with
  | same hn=>exact .same hn
  | on hkd hm hv hg=>exact .on hkd hm (VR.mono hk _ _ hv) hg
  | done hkd hm hg=>exact .done hkd hm hg

structure St (P:Program) (n B:Nat) (kd:CallKind) (κ:Kp) (tm:Tm) (ds:List Dfd) (pan:Pan) (h:Heap) (cs₀:List Frame) (a:Act) (cs:List Frame) (w:World):Prop where
  hr:HR P κ h w
  ht:TR κ n tm a.tmps
  hd:DR B κ h w ds a.defers
  hc:CR κ kd pan cs₀ cs
  hB:B ≤ w.heap.size

/-! ### temporaries -/
def putT (d:Option Slot) (v:AV) (tm:Tm):Tm:=match d with | none=>tm | some p=>tm.set p v
theorem putF_eq (d:Option Slot) (v:AV) (tm:Tm) (k:Tm→R):putF d v tm k = k (putT d v tm):=by
  cases d with
  | none=>rfl
  | some p=>exact setF_eq _ _ _ _
theorem TR.putT {tm:Tm} {a:Act} (t:TR κ n tm a.tmps) {d:Option Tmp} (hd:∀ x,d = some x→x < n) {v:AV} {v':Value} (hv:VR κ v v'):TR κ n (putT (d.map Slot.slot) v tm) (a.put d v').tmps:=by
  cases d with
  | none=>exact t
  | some x =>
    have hx:=hd x rfl;have hs:=t.size;refine ⟨by simpa [Act.put] using t.size,fun y u hy=>?_⟩;have hy:(tm.set (.slot x) v).get (.slot y) = some u:=hy
    by_cases hxy:y = x
    · subst hxy;rw [TT.get_set_same,sJ] at hy;subst hy;have hlt:y < a.tmps.size:=Nat.lt_of_lt_of_le hx hs
      simpa [Act.put,Array.getElem?_setIfInBounds_self,hlt] using hv
    · rw [TT.get_set_ne _ _ (fun e=>hxy (Slot.slot_inj e).symm)] at hy;have:=t.val y u hy
      simpa [Act.put,Array.getElem?_setIfInBounds_ne (fun e=>hxy e.symm)] using this
theorem VR_unit:VR κ unit undef:=by
  simp only [unit,VR];exact ⟨#[],rfl,by simp [VRl]⟩

/-! ### operands -/
theorem withF_val {x:XO} {tm:Tm} {k:AV→R} {r:R} (h:withF x tm k = r) (hr:r ≠ .bad):∃ v,x.val tm = some v∧k v = r:=by
  cases x with
  | c v=>exact ⟨v,rfl,h⟩
  | t p =>
    have:withF (.t p) tm k = getF tm p k:=rfl;rw [this,getF_eq] at h;simp only [XO.val]
    cases hg:tm.get p with
    | none=>rw [hg] at h;exact absurd h.symm hr
    | some v=>rw [hg] at h;exact ⟨v,rfl,h⟩
theorem withLF_val {k:List AV→R} {r:R}:∀ {xs:List XO} {tm:Tm},withLF xs tm k = r→r ≠ .bad→∃ vs,xs.mapM (XO.val · tm) = some vs∧k vs = r:=by
  intro xs
  induction xs generalizing k with
  | nil=>intro tm h _;exact ⟨[],rfl,h⟩
  | cons x xs ih =>
    intro tm h hr;have:withLF (x :: xs) tm k = withF x tm fun v=>withLF xs tm fun vs=>k (v :: vs):=rfl
    rw [this] at h;obtain ⟨v,h1,h2⟩:=withF_val h hr;obtain ⟨vs,h3,h4⟩:=ih h2 hr;exact ⟨v :: vs,by simp [h1,h3],h4⟩
theorem isFunc_val {v:AV} {k r:R} (h:isFunc v k = r) (hr:r ≠ .bad):(∃ f a b,v = .func f a b)∧k = r:=by
  cases v <;> first | exact absurd h.symm hr | exact ⟨⟨_,_,_,rfl⟩,h⟩
theorem isIface_val {v:AV} {k r:R} (h:isIface v k = r) (hr:r ≠ .bad):(∃ t u,v = .iface t u)∧k = r:=by
  cases v <;> first | exact absurd h.symm hr | exact ⟨⟨_,_,rfl⟩,h⟩
theorem kIface_val {v:AV} {k:TypeId→AV→R} {r:R} (h:kIface v k = r) (hr:r ≠ .bad):∃ t u,v = .iface t u∧k t u = r:=by
  cases v <;> first | exact absurd h.symm hr | exact ⟨_,_,rfl,h⟩
theorem kBool_val {v:AV} {k:Bool→R} {r:R} (h:kBool v k = r) (hr:r ≠ .bad):∃ b,v = .bool b∧k b = r:=by
  cases v <;> first | exact absurd h.symm hr | exact ⟨_,rfl,h⟩

/-! ### guards -/
theorem want_val {ops:Array Oper} {o:Oper} {tm:Tm} {g:Option (Slot × Bool)} (hg:guardOf ops o.guard = some g) {k:Bool→R} {r:R} (h:wantF g tm k = r) (hr:r ≠ .bad) :
    ∃ b,k b = r∧∀ (κ:Kp) (n:Nat) (a:Act),TR κ n tm a.tmps→Region.wanted o (yielded ops a.tmps) = b:=by
  cases ho:o.guard with
  | none =>
    rw [ho] at hg;simp only [guardOf,sJ] at hg;subst hg;exact ⟨true,h,fun κ n a _=>by simp only [Region.wanted,ho]⟩
  | some jb =>
    obtain ⟨j,b⟩:=jb;rw [ho] at hg;simp only [guardOf,Option.bind_eq_bind,bJ,sJ] at hg;obtain ⟨oj,hj,d,hd,rfl⟩:=hg;have h:getF tm (.slot d) (fun v=>wantV v b k) = r:=h;rw [getF_eq] at h
    cases hv:tm.get (.slot d) with
    | none=>rw [hv] at h;exact absurd h.symm hr
    | some v =>
      rw [hv] at h;replace h:wantV v b k = r:=h
      cases v <;> first | exact absurd h.symm hr | skip
      case bool c =>
        have h1:wantV (.bool c) b k = k (bif b then c else !c):=by cases b <;> cases c <;> rfl
        refine ⟨bif b then c else !c,h1.symm.trans h,fun κ n a ht=>?_⟩;have hV:=ht.val d _ hv;simp only [VR] at hV;have hy:yielded ops a.tmps j = some c:=by
          have hsz:a.tmps[d]? = some (.bool c):=by
            cases hq:a.tmps[d]? with
            | none=>simp [hq,undef] at hV
            | some u=>simp [hq] at hV;rw [hV]
          simp [yielded,hj,hd,hsz]
        simp only [Region.wanted,ho,hy]
        cases b <;> cases c <;> rfl
      case tuple vs =>
        cases vs with
        | cons u us=>exact absurd h.symm hr
        | nil =>
          refine ⟨false,h,fun κ n a ht=>?_⟩;have hV:=ht.val d _ hv;simp only [VR,VRl] at hV;obtain ⟨V,hV,hV'⟩:=hV;have hy:yielded ops a.tmps j = none:=by
            cases hq:a.tmps[d]? with
            | none=>simp [yielded,hj,hd,hq]
            | some u =>
              simp only [Array.getD_eq_getD_getElem?,hq,Option.getD_some] at hV;simp [yielded,hj,hd,hq,hV]
          simp only [Region.wanted,ho,hy];rfl
end
end Go.X
