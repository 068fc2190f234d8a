/- The bytes of checkpoints: what they are, and that torn ones are none. No program in sight. -/
import Derived.Test.YtkmffbmgpnndcaaGreatDoorCpWp
namespace Go.X
open Go
def be:Nat→Nat→List Nat
  | 0,_=>[]
  | n + 1,x=>x / 256 ^ n % 256 :: be n x
section
variable (fp:List Nat→Nat)
def fbody (g:Nat) (p:List Nat):List Nat:=[70,71,67]++be 8 g++be 8 p.length++p
def frame (g:Nat) (p:List Nat):List Nat:=fbody g p++be 8 (fp (fbody g p))
end
/-! ### the fingerprint -/
structure TblOK (tbl:List Nat):Prop where
  lt:∀ i,i < 256→tbl.getD i 0 < 2 ^ 63
  inj:∀ i j,i < 256→j < 256→tbl.getD i 0 % 256 = tbl.getD j 0 % 256→i = j
section
variable {tbl:List Nat} (T:TblOK tbl)
include T
end
/-! ### the table of the polynomial x^63 + x + 1 -/
end Go.X

/- Slices of bytes in memory: those of the caller,and those that are made;what appending,cutting and comparing them comes to. No program in sight. -/
namespace Go.X
open Go
theorem avB_len:∀ l:List Nat,(avBytes l).length = l.length
  | []=>rfl
  | _ :: l=>by simp [avBytes,avB_len l]
theorem avB_app:∀ a b:List Nat,avBytes (a++b) = avBytes a++avBytes b
  | [],_=>rfl
  | _ :: a,b=>by simp [avBytes,avB_app a b]
theorem avB_take:∀ (n:Nat) (l:List Nat),(avBytes l).take n = avBytes (l.take n)
  | 0,_=>by simp [avBytes]
  | _ + 1,[]=>by simp [avBytes]
  | n + 1,_ :: l=>by simp [avBytes,avB_take n l]
theorem avB_drop:∀ (n:Nat) (l:List Nat),(avBytes l).drop n = avBytes (l.drop n)
  | 0,_=>by simp
  | _ + 1,[]=>by simp [avBytes]
  | n + 1,_ :: l=>by simp [avBytes,avB_drop n l]
theorem avB_get:∀ {l:List Nat} {j:Nat} (hj:j < l.length),(avBytes l)[j]? = some (.int .u8 (.ofNat l[j]))
  | _ :: _,0,_=>rfl
  | _ :: l,j + 1,hj=>by simp only [avBytes,List.getElem?_cons_succ,List.getElem_cons_succ];exact avB_get (l:=l) (by simpa using hj)
theorem dropE_of {α:Type}:∀ {l:List α} {n:Nat},n ≤ l.length→dropE n l = some (l.drop n)
  | l,0,_=>by cases l <;> rfl
  | [],n + 1,h=>by simp at h
  | x :: l,n + 1,h=>by simp only [dropE,List.drop_succ_cons];exact dropE_of (by simpa using h)
theorem takeE_of {α:Type}:∀ {l:List α} {n:Nat},n ≤ l.length→takeE n l = some (l.take n)
  | l,0,_=>by cases l <;> rfl
  | [],n + 1,h=>by simp at h
  | x :: l,n + 1,h=>by simp only [takeE,takeE_of (l:=l) (n:=n) (by simpa using h),List.take_succ_cons]
theorem dropE_gt {α:Type}:∀ {l:List α} {n:Nat},l.length < n→dropE n l = none
  | _,0,h=>by omega
  | [],_ + 1,_=>rfl
  | _ :: l,n + 1,h=>by simp only [dropE];exact dropE_gt (by simpa using h)
theorem sub_of {α:Type} {l:List α} {o n:Nat} (h:o + n ≤ l.length):sub l o n = some ((l.drop o).take n):=by
  unfold sub;rw [dropE_of (by omega)];exact takeE_of (by simp;omega)
theorem beqN_eq:∀ a b:List Nat,beqN a b = decide (a = b)
  | [],[]=>by simp [beqN]
  | [],_ :: _=>by simp [beqN]
  | _ :: _,[]=>by simp [beqN]
  | a :: x,b :: y=>by
    simp only [beqN,beqN_eq x y]
    cases hb:Nat.beq a b with
    | true=>have:=Nat.eq_of_beq_eq_true hb;subst this;simp
    | false => have:a ≠ b:=fun e=>by subst e;simp at hb
               simp [this]
/-! ### slices -/
def capOK (n:Nat):Cap→Prop
  | .ex c=>n ≤ c
  | .up z=>z = 1
def SV (L:List (Pos × AObj)) (v:AV) (l:List Nat):Prop:=∃ p o cap ty cs sp,v = .slice p o l.length cap∧(p,AObj.row ty cs sp) ∈ L∧o + l.length ≤ cs.length∧(cs.drop o).take l.length = avBytes l∧capOK l.length cap
def BV (L:List (Pos × AObj)) (v:AV) (l:List Nat):Prop:=(v = .nilslice∧l = [])∨(∃ cs fu,v = .imm cs l.length fu∧l.length ≤ cs.length∧cs.take l.length = avBytes l)∨SV L v l
section
variable {E:XEnv} {d d1 d2:Option Slot} {ops:List XOp} {Q:Tm→Heap→Prop} {tm:Tm} {h:Heap} {L L':List (Pos × AObj)} {v w:AV} {l m:List Nat} {x y:XO}
theorem SV.mono (hs:SV L v l) (hm:∀ x ∈ L,x ∈ L'):SV L' v l:=by
  obtain ⟨p,o,cap,ty,cs,sp,h1,h2,h3⟩:=hs;exact ⟨p,o,cap,ty,cs,sp,h1,hm _ h2,h3⟩
theorem BV.mono (hs:BV L v l) (hm:∀ x ∈ L,x ∈ L'):BV L' v l:=hs.imp id (·.imp id (·.mono hm))
theorem BV.sl {nl fu:Bool}:BV L (slAV nl fu l.length (avBytes l)) l:=by
  rcases slAV_cases nl fu l.length (avBytes l) with ⟨h0,e⟩ | e
  · rw [e];exact .inl ⟨rfl,List.eq_nil_of_length_eq_zero h0⟩
  · rw [e];exact .inr (.inl ⟨_,_,rfl,by rw [avB_len];omega,List.take_of_length_le (by rw [avB_len];omega)⟩)
theorem SV.cons {x:Pos × AObj} (hs:SV L v l):SV (x :: L) v l:=hs.mono fun _ m=>mS _ m
theorem BV.cons {x:Pos × AObj} (hs:BV L v l):BV (x :: L) v l:=hs.mono fun _ m=>mS _ m
theorem SV.bv (hs:SV L v l):BV L v l:=.inr (.inr hs)
theorem BV.nil:BV L .nilslice []:=.inl ⟨rfl,rfl⟩
theorem srcOf_BV (H:Has h L) (hs:BV L v l):srcOf 1 v h = some (l.length,avBytes l):=by
  rcases hs with ⟨rfl,rfl⟩ | ⟨cs,fu,rfl,hle,e⟩ | ⟨p,o,cap,ty,cs,sp,rfl,hm,hle,e,_⟩
  · rfl
  · have:=takeE_of (l:=cs) (n:=l.length) hle;simp only [srcOf,Nat.mul_one,this,e]
  · cases l with
    | nil=>rfl
    | cons b l =>
      have hg:=H.mem hm;simp only [srcOf,List.length_cons];simp only at hg;rw [hg];simp only [Nat.mul_one];rw [sub_of (by simpa using hle)];simp only [List.length_cons] at e;rw [e]
theorem len_BV (hs:BV L v l) (hv:x.val tm = some v):(XI.len false x).sem tm h = .ok (.int .i64 (.ofNat l.length)) h:=by
  rcases hs with ⟨rfl,rfl⟩ | ⟨cs,fu,rfl,_⟩ | ⟨p,o,cap,ty,cs,sp,rfl,_⟩ <;> simp only [XI.sem,lenS,withO_run hv] <;> rfl
theorem strEq_sem {a b:List Nat} (hx:x.val tm = some (.str a)) (hy:y.val tm = some (.str b)):(XI.bin .eq x y).sem tm h = .ok (.bool (decide (a = b))) h:=by
  simp only [XI.sem,binS,withO_run hx,withO_run hy];show okB h (beqN a b) = _;rw [beqN_eq];rfl
theorem wp_byte {dp:Slot} {i:XO} {k:IntKind} {j:Nat} (H:Has h L) (hs:BV L v l) (hj:j < l.length) (hv:x.val tm = some v) (hi:i.val tm = some (.int k (.ofNat j))) (hq:∀ pv,wpOps E ops Q (putT d2 (.int .u8 (.ofNat l[j])) (putT (some dp) pv tm)) h) :
    wpOps E (⟨some dp,none,.ins (.iaddrS 1 x i)⟩ :: ⟨d2,none,.ins (.load none (.t dp))⟩ :: ops) Q tm h:=by
  have hget:∀ {pv:AV} {dp:Slot},(XO.t dp).val (putT (some dp) pv tm) = some pv:=fun {pv dp}=>by
    show (tm.set dp pv).get dp = _;exact TT.get_set_same ..
  rcases hs with ⟨rfl,rfl⟩ | ⟨cs,fu,rfl,hle,e⟩ | ⟨p,o,cap,ty,cs,sp,rfl,hm,hle,e,_⟩
  · simp at hj
  · have h1:j < cs.length:=by omega
    have h3:cs[j] = .int .u8 (.ofNat l[j]):=by
      have h2:=avB_get hj;rw [← e,List.getElem?_take_of_lt hj,List.getElem?_eq_getElem h1] at h2;exact Option.some.inj h2
    have hd:dropE (j * 1) cs = some (AV.int .u8 (.ofNat l[j]) :: cs.drop (j + 1)):=by
      rw [Nat.mul_one,dropE_of (by omega),List.drop_eq_getElem_cons h1,h3]
    have hb:Nat.blt j l.length = true:=blt_of hj;refine oI (v:=.iptr (AV.int .u8 (.ofNat l[j]) :: cs.drop (j + 1))) (h':=h) ?_ ?_
    · simp only [XI.sem,iaddrSS,withO_run hv,XO.withN,XO.withI,withO_run hi,hb,hd]
    refine oI (v:=.int .u8 (.ofNat l[j])) (h':=h) ?_ (hq _);simp only [XI.sem,loadS,withO_run hget];rfl
  · refine oI (v:=.ptr p (o + j * 1)) (h':=h) ?_ ?_
    · simp only [XI.sem,iaddrSS,withO_run hv,XO.withN,XO.withI,withO_run hi,blt_of hj]
    · refine oI (v:=.int .u8 (.ofNat l[j])) (h':=h) ?_ (hq _);have hg:=H.mem hm;simp only at hg;refine sem_load hget hg fun h=>?_
      have h1:nth cs (o + j * 1) = some (.int .u8 (.ofNat l[j])):=by
        rw [nth_eq,Nat.mul_one];have h2:=avB_get hj;rw [← e,List.getElem?_take_of_lt hj,List.getElem?_drop] at h2;exact h2
      simp only [partOf,h1]
/-! ### cutting -/
def cutV (v:AV) (b e:Nat):AV:=match v with
  | .slice p o _ (.ex c)=>.slice p (o + b * 1) (e - b) (.ex (c - b))
  | .slice p o _ (.up z)=>.slice p (o + b * 1) (e - b) (.up z)
  | v=>v
theorem cut_sem {lo hi:Option XO} {b e:Nat} (hs:SV L v l) (hv:x.val tm = some v) (hlo:∀ k,withNo lo 0 tm k = k b) (hhi:∀ k,withNo hi l.length tm k = k e) (hbe:b ≤ e) (he:e ≤ l.length):(XI.cutSl 1 x lo hi none).sem tm h = .ok (cutV v b e) h:=by
  obtain ⟨p,o,cap,ty,cs,sp,rfl,_,_,_,hc⟩:=hs;have h1:Nat.ble b e = true:=Nat.ble_eq_true_of_le hbe
  cases cap with
  | ex c =>
    have h2:Nat.ble e c = true:=Nat.ble_eq_true_of_le (Nat.le_trans he hc);have h3:Nat.ble c c = true:=Nat.ble_eq_true_of_le (Nat.le_refl _);have hmx:∀ k,withNo none c tm k = k c:=fun _=>rfl
    simp only [XI.sem,cutSlS,withO_run hv];rw [hmx,hhi,hlo];simp only [h1,h2,h3,cutV]
  | up z =>
    obtain rfl:z = 1:=hc;have h2:Nat.ble e l.length = true:=Nat.ble_eq_true_of_le he;simp only [XI.sem,cutSlS,withO_run hv];rw [hhi,hlo];simp only [h1,h2,cutV]
    try rfl
theorem SV.cut {b e:Nat} (hs:SV L v l) (hbe:b ≤ e) (he:e ≤ l.length):SV L (cutV v b e) ((l.take e).drop b):=by
  obtain ⟨p,o,cap,ty,cs,sp,rfl,hm,hle,hx,hc⟩:=hs;have hlen:((l.take e).drop b).length = e - b:=by simp;omega
  have hcs:(cs.drop (o + b * 1)).take ((l.take e).drop b).length = avBytes ((l.take e).drop b):=by
    rw [hlen,Nat.mul_one,← avB_drop,← avB_take,← hx];rw [List.take_take,Nat.min_eq_left he,List.drop_take,List.drop_drop]
  cases cap with
  | ex c =>
    refine ⟨p,o + b * 1,.ex (c - b),ty,cs,sp,by rw [hlen];rfl,hm,by rw [hlen];omega,hcs,?_⟩;have:l.length ≤ c:=hc;show _ ≤ c - b;rw [hlen];omega
  | up z=>exact ⟨p,o + b * 1,.up z,ty,cs,sp,by rw [hlen];rfl,hm,by rw [hlen];omega,hcs,hc⟩
def cutB (v:AV) (b e:Nat):AV:=match v with
  | .imm cs n full=>.imm (cs.drop b) (e - b) (match full with | true=>Nat.beq e n | false=>false)
  | v=>cutV v b e
theorem cutB_sem {lo hi:Option XO} {b e:Nat} (hs:BV L v l) (hv:x.val tm = some v) (hlo:∀ k,withNo lo 0 tm k = k b) (hhi:∀ k,withNo hi l.length tm k = k e) (hbe:b ≤ e) (he:e ≤ l.length):(XI.cutSl 1 x lo hi none).sem tm h = .ok (cutB v b e) h:=by
  rcases hs with ⟨rfl,rfl⟩ | ⟨cs,fu,rfl,hle,hx⟩ | hs
  · simp only [List.length_nil] at he hhi;obtain rfl:e = 0:=by omega
    obtain rfl:b = 0:=by omega
    have hmx:∀ k,withNo none 0 tm k = k 0:=fun _=>rfl
    simp only [XI.sem,cutSlS,withO_run hv];rw [hhi,hlo,hmx];rfl
  · have h1:Nat.ble b e = true:=Nat.ble_eq_true_of_le hbe;have h2:Nat.ble e l.length = true:=Nat.ble_eq_true_of_le he;have h3:dropE (b * 1) cs = some (cs.drop b):=by rw [Nat.mul_one];exact dropE_of (by omega)
    simp only [XI.sem,cutSlS,withO_run hv];rw [hhi,hlo];simp only [h1,h2,h3,cutB]
    cases fu <;> rfl
  · have hc:cutB v b e = cutV v b e:=by obtain ⟨p,o,cap,ty,cs,sp,rfl,_⟩:=hs;rfl
    rw [hc];exact cut_sem hs hv hlo hhi hbe he
theorem BV.cut {b e:Nat} (hs:BV L v l) (hbe:b ≤ e) (he:e ≤ l.length):BV L (cutB v b e) ((l.take e).drop b):=by
  rcases hs with ⟨rfl,rfl⟩ | ⟨cs,fu,rfl,hle,hx⟩ | hs
  · exact .inl ⟨rfl,by simp⟩
  · have hlen:((l.take e).drop b).length = e - b:=by simp;omega
    refine .inr (.inl ⟨cs.drop b,_,by rw [hlen];rfl,by rw [hlen,List.length_drop];omega,?_⟩);rw [hlen,← avB_drop,← avB_take,← hx,List.take_take,Nat.min_eq_left he,List.drop_take]
  · have hc:cutB v b e = cutV v b e:=by obtain ⟨p,o,cap,ty,cs,sp,rfl,_⟩:=hs;rfl
    rw [hc];exact (hs.cut hbe he).bv
/-! ### appending -/
def Gr1 (ty:TypeId) (h:Heap) (L:List (Pos × AObj)) (v:AV) (l:List Nat):Prop:=∃ p,v = .slice p 0 l.length (.up 1)∧Has h ((p,.row ty (avBytes l) true) :: L)
theorem Gr1.has {ty:TypeId} (hg:Gr1 ty h L v l):Has h L:=by obtain ⟨p,_,H⟩:=hg;exact H.tail
theorem Gr1.sub {ty:TypeId} (hg:Gr1 ty h L v l) (s:L'.Sublist L):Gr1 ty h L' v l:=by obtain ⟨p,e,H⟩:=hg;exact ⟨p,e,H.sub (s.cons_cons _)⟩
def Gr (ty:TypeId) (h:Heap) (L:List (Pos × AObj)) (v:AV) (l:List Nat):Prop :=
  Gr1 ty h L v l∨(Has h L∧∃ M p o ty' cs sp,v = .slice p o l.length (.ex l.length)∧Has h M∧(p,AObj.row ty' cs sp) ∈ M∧o + l.length ≤ cs.length∧(cs.drop o).take l.length = avBytes l)
theorem Gr.has {ty:TypeId} (hg:Gr ty h L v l):Has h L:=by
  rcases hg with ⟨p,_,H⟩ | ⟨H,_⟩
  · exact H.tail
  · exact H
theorem Gr.sub {ty:TypeId} (hg:Gr ty h L v l) (s:L'.Sublist L):Gr ty h L' v l:=by
  rcases hg with ⟨p,e,H⟩ | ⟨H,h1⟩
  · exact .inl ⟨p,e,H.sub (s.cons_cons _)⟩
  · exact .inr ⟨H.sub s,h1⟩
theorem Gr.push {ty:TypeId} (hg:Gr ty h L v l) (o:AObj):Gr ty (h.push o) ((h.next,o) :: L) v l:=by
  rcases hg with ⟨p,e,H⟩ | ⟨H,M,p,o',ty',cs,sp,e,HM,hm,h1⟩
  · exact .inl ⟨p,e,(H.push o).swap⟩
  · exact .inr ⟨H.push o,_,p,o',ty',cs,sp,e,HM.push o,mS _ hm,h1⟩
theorem small1 {n:Nat} (h:n ≤ 100000000):small n 1 = true:=by unfold small;exact Nat.ble_eq_true_of_le (by omega)
theorem wp_app {ty:TypeId} (hg:Gr ty h L v l) (hw:srcOf 1 w h = some (m.length,avBytes m)) (hn:l.length + m.length ≤ 100000000) (hv:x.val tm = some v) (hy:y.val tm = some w) (hq:∀ v' h',Gr ty h' L v' (l++m)→(m ≠ []∨Gr1 ty h L v l→Gr1 ty h' L v' (l++m))→(m = []→v' = v∧h' = h)→wpOps E ops Q (putT d v' tm) h') :
    wpOps E (⟨d,none,.ins (.append ty 1 1 x y)⟩ :: ops) Q tm h:=by
  have hsem:(XI.append ty 1 1 x y).sem tm h = appendTo ty 1 1 v m.length (avBytes m) h:=by simp only [XI.sem,appendS,withO_run hv,withO_run hy,hw]
  have hs:=small1 hn
  cases m with
  | nil =>
    refine oI (v:=v) (h':=h) ?_ (hq v h (by rw [List.append_nil];exact hg) (fun e=>by rw [List.append_nil];exact e.elim (fun e=>(e rfl).elim) id) fun _=>⟨rfl,rfl⟩);rw [hsem]
    rcases hg with ⟨p,rfl,H⟩ | ⟨H,M,p,o,ty',cs,sp,rfl,_⟩
    · rfl
    · have h2:Nat.ble (l.length + 0) l.length = true:=Nat.ble_eq_true_of_le (Nat.le_refl _);simp only [appendTo,List.length_nil,h2]
  | cons b m =>
    have fin:∀ (h0:Heap),Has h0 L→wpOps E ops Q (putT d (.slice h0.next 0 (l.length + (b :: m).length) (.up 1)) tm) (h0.push (.row ty (avBytes l++avBytes (b :: m)) true)):=fun h0 H0=>by
      have hp:=H0.push (.row ty (avBytes l++avBytes (b :: m)) true);rw [← avB_app] at hp ⊢;rw [← List.length_append];exact hq _ _ (.inl ⟨_,rfl,hp⟩) (fun _=>⟨_,rfl,hp⟩) fun e=>by simp at e
    rcases hg with ⟨p,rfl,H⟩ | ⟨H,M,p,o,ty',cs,sp,rfl,HM,hm,h1,h2⟩
    · have hgp:h.get p = .row ty (avBytes l) true:=H.mem (x:=(p,_)) (by simp);have hd:dropE (0 + (l.length + (b :: m).length) * 1) (avBytes l) = none:=dropE_gt (by rw [avB_len];simp);have hsb:sub (avBytes l) 0 (l.length * 1) = some (avBytes l):=by rw [sub_of (by rw [avB_len];omega),List.drop_zero,List.take_of_length_le (by rw [avB_len];omega)]
      have hset:Has (h.set p .dead) L:=by
        have:=(H.set (k:=0) rfl .dead).tail;exact this
      have hb1:Nat.beq ty ty = true:=Nat.beq_refl _;refine oI (h':=(h.set p .dead).push (.row ty (avBytes l++avBytes (b :: m)) true)) (v:=.slice (h.set p .dead).next 0 (l.length + (b :: m).length) (.up 1)) ?_ (fin _ hset);rw [hsem];have hz:Nat.beq 1 1 = true:=rfl;have h0:Nat.beq 1 0 = false:=rfl;simp only [List.length_cons] at hd hs ⊢;simp only [appendTo,hgp,hz,hd,hs,h0,hb1,hsb,Heap.setK,Heap.pushK]
    · have hb:Nat.ble (l.length + (b :: m).length) l.length = false:=by
        cases hc:Nat.ble (l.length + (b :: m).length) l.length with
        | false=>rfl
        | true=>have:=Nat.le_of_ble_eq_true hc;simp at this;omega
      have hsv:BV M (.slice p o l.length (.ex l.length)) l:=.inr <| .inr ⟨p,o,_,ty',cs,sp,rfl,hm,h1,h2,Nat.le_refl _⟩;have hsr:=srcOf_BV HM hsv;refine oI (h':=h.push (.row ty (avBytes l++avBytes (b :: m)) true)) (v:=.slice h.next 0 (l.length + (b :: m).length) (.up 1)) ?_ (fin _ H);rw [hsem];simp only [appendTo,hb,hs,hsr];rfl
theorem Gr.sv {ty:TypeId} (hg:Gr ty h L v l):∃ M,Has h M∧SV M v l∧Has h L∧((∃ x,M = x :: L)∨True):=by
  rcases hg with ⟨p,rfl,H⟩ | ⟨H,M,p,o,ty',cs,sp,rfl,HM,hm,h1,h2⟩
  · exact ⟨_,H,⟨p,0,.up 1,ty,avBytes l,true,rfl,by simp,by rw [avB_len];omega,by rw [List.drop_zero,List.take_of_length_le (by rw [avB_len];omega)],rfl⟩,H.tail,.inr trivial⟩
  · exact ⟨M,HM,⟨p,o,.ex l.length,ty',cs,sp,rfl,hm,h1,h2,Nat.le_refl _⟩,H,.inr trivial⟩
/-! ### numbers of 64 bits -/
end
theorem leI_le {a b:Int} (h:leI a b = true):a ≤ b:=by rw [leI_eq] at h;exact of_decide_eq_true h
theorem leI_gt {a b:Int} (h:leI a b = false):b < a:=by rw [leI_eq] at h;have:=of_decide_eq_false h;omega
theorem leI_T {a b:Int} (h:a ≤ b):leI a b = true:=by rw [leI_eq];exact decide_eq_true h
theorem ltI_T {a b:Int} (h:a < b):ltI a b = true:=by rw [ltI_eq];exact decide_eq_true h
theorem ltI_F {a b:Int} (h:b ≤ a):ltI a b = false:=by rw [ltI_eq];exact decide_eq_false (by omega)
/-! ### what tables say,for many arguments at once -/
end Go.X

/- Fingerprints made bit by bit are those made byte by byte;what bytes are the bytes of a checkpoint. No program in sight. -/
namespace Go.X
open Go
end Go.X

/- What bytes are the bytes of a checkpoint;disks,and what is loaded from them. No program in sight. -/
namespace Go.X
open Go
def beN (l:List Nat):Nat:=l.foldl (fun n b=>n * 256 + b) 0
/-! ### checkpoints -/
def okG (g:Nat) (p:List Nat):Prop:=1 ≤ g∧g ≤ 1000000000∧p.length ≤ 90000
instance (g:Nat) (p:List Nat):Decidable (okG g p):=by unfold okG;infer_instance
def unG (l:List Nat):Nat:=beN ((l.drop 3).take 8)
def unL (l:List Nat):List Nat:=(l.take (l.length - 8)).drop 19
def isF (fp:List Nat→Nat) (l:List Nat):Prop:=27 ≤ l.length∧okG (unG l) (unL l)∧l = frame fp (unG l) (unL l)
instance (fp:List Nat→Nat) (l:List Nat):Decidable (isF fp l):=by unfold isF;infer_instance
section
variable {fp:List Nat→Nat} {l p:List Nat} {g:Nat}
end
def okF (z:Int) (p:List Nat):Prop:=1 ≤ z∧z ≤ 1000000000∧p.length ≤ 90000
instance (z:Int) (p:List Nat):Decidable (okF z p):=by unfold okF;infer_instance
/-! ### disks -/
structure FV where
  name:List Nat
  b:List Nat
  nl:Bool
  fu:Bool
def FV.sl (f:FV):AV:=slAV f.nl f.fu f.b.length (avBytes f.b)
def FV.cells (f:FV):List AV:=[.str f.name,f.sl]
theorem FV.len (f:FV):f.cells.length = 2:=rfl
def FV.ok (f:FV):Prop:=(∀ c ∈ f.name,c < 256)∧(∀ c ∈ f.b,c < 256)∧f.name.length ≤ maxN∧f.b.length ≤ maxN
def okC (c:Nat):Bool:=Nat.ble 33 c && Nat.ble c 126
def isNm (s:List Nat):Prop:=1 ≤ s.length∧s.length ≤ 40∧s.all okC = true
instance (s:List Nat):Decidable (isNm s):=by unfold isNm;infer_instance
/-! ### loading -/
def c0:List Nat:=[99,107,112,116,45,48]
def c1:List Nat:=[99,107,112,116,45,49]
def named (nm:List Nat) (f:FV):Bool:=beqN nm f.name
/-! What Load returns. -/
/-! ### a disk as a map -/
def ents:List FV→Nat→List (AV × AV × Nat)
  | [],_=>[]
  | f :: fs,c=>(.str f.name,f.sl,c) :: ents fs (c + 1)
end Go.X
