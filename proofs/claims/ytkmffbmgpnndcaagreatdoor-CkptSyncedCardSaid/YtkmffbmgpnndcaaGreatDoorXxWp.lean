/- What code must achieve, the frames below it at hand ('recover' turns the one below): rules. -/
import Derived.Test.YtkmffbmgpnndcaaGreatDoorXxRel
import Derived.CallsIn
import Derived.Defers
import Derived.Orders
namespace Go.X
open Go

abbrev ST (P:Program):Machine→Machine→Prop:=StepsIn (fun _=>True) P
theorem ST.one {P:Program} {m m':Machine} (h:step P m = .next m'):ST P m m':=StepsIn.one trivial h
theorem ST.steps {P:Program} {m m':Machine} (h:ST P m m'):Steps P m m':=StepsIn.steps h
theorem ST.of {P:Program} {m m':Machine} (h:Steps P m m'):ST P m m':=StepsIn.of_steps h

abbrev PostS:=Exit→Act→List Frame→World→Prop
def Arr (P:Program) (m:Machine) (b:Frame) (k:List Item) (cs:List Frame) (e:Exit) (a:Act) (w:World):Prop:=ArrivesIn (fun _=>True) P m b k cs e a w
def Fr (P:Program) (rd:Option Nat) (b:Frame):Prop:=b.roundOf = rd∧∃ fn,P.funcs[b.fn]? = some fn
def XW (P:Program) (rd:Option Nat) (kd:CallKind) (c:Code) (Q:PostS) (a:Act) (cs:List Frame) (w:World):Prop :=
  ∀ (b:Frame) (k:List Item),Fr P rd b→b.kind = kd→∃ e a' cs' w',Q e a' cs' w'∧Arr P (lone (b.atR a (.code c :: k)) cs w) b k cs' e a' w'
def thenX (next:Act→List Frame→World→Prop) (Q:PostS):PostS
  | .normal,a,cs,w=>next a cs w
  | e,a,cs,w=>Q e a cs w
def blockX (id:Nat) (Q:PostS):PostS
  | .exit i,a,cs,w=>if i = id then Q .normal a cs w else Q (.exit i) a cs w
  | e,a,cs,w=>Q e a cs w

section
variable {P:Program} {rd:Option Nat} {kd:CallKind} {Q:PostS} {a:Act} {cs:List Frame} {w:World}
theorem XW.mono {c:Code} {Q':PostS} (h:XW P rd kd c Q a cs w) (hq:∀ e a cs w,Q e a cs w→Q' e a cs w):XW P rd kd c Q' a cs w :=
  fun b k hb hk=>let ⟨e,a',cs',w',q,r⟩:=h b k hb hk;⟨e,a',cs',w',hq _ _ _ _ q,r⟩
theorem xw_skip (h:Q .normal a cs w):XW P rd kd .skip Q a cs w:=fun _ _ _ _=>⟨.normal,a,cs,w,h,ST.one stepR_skip⟩
theorem xw_exit {id:Nat} (h:Q (.exit id) a cs w):XW P rd kd (.exit id) Q a cs w :=
  fun _ k _ _=>⟨.exit id,a,cs,w,h,fun _ hk=>ST.one (stepR_exit hk),fun _ hk=>⟨k,hk,.refl _⟩⟩
theorem xw_ret (h:Q .ret a cs w):XW P rd kd .ret Q a cs w :=
  fun _ k _ _=>⟨.ret,a,cs,w,h,fun hn=>⟨_,ST.one (stepR_ret hn)⟩,fun _=>⟨k,.refl _⟩⟩
theorem Arr.of {m m₁:Machine} {b:Frame} {k:List Item} {e:Exit} (h:ST P m m₁) (h':Arr P m₁ b k cs e a w):Arr P m b k cs e a w:=ArrivesIn.of_steps h h'
theorem xw_seq {x y:Code} (h:XW P rd kd x (thenX (XW P rd kd y Q) Q) a cs w):XW P rd kd (.seq x y) Q a cs w:=by
  intro b k hb hk;obtain ⟨e,a₁,cs₁,w₁,hq,harr⟩:=h b (.code y :: k) hb hk
  cases e with
  | normal =>
    obtain ⟨e₂,a₂,cs₂,w₂,hq₂,harr₂⟩:=hq b k hb hk;exact ⟨e₂,a₂,cs₂,w₂,hq₂,.of (.head trivial stepR_seq harr) harr₂⟩
  | exit id=>exact ⟨_,a₁,cs₁,w₁,hq,.of (ST.one stepR_seq) (.pass (x:=.code y) rfl (fun _ _=>.inl (by simp)) harr)⟩
  | goto l=>exact ⟨_,a₁,cs₁,w₁,hq,.of (ST.one stepR_seq) (.pass (x:=.code y) rfl (fun _ _=>.inl (by simp)) harr)⟩
  | ret=>exact ⟨_,a₁,cs₁,w₁,hq,.of (ST.one stepR_seq) (.pass (x:=.code y) rfl (fun _ _=>.inl (by simp)) harr)⟩
  | panic ch=>exact ⟨_,a₁,cs₁,w₁,hq,.of (ST.one stepR_seq) (.pass (x:=.code y) rfl (fun _ _=>.inl (by simp)) harr)⟩
  | outgrown=>exact ⟨_,a₁,cs₁,w₁,hq,.of (ST.one stepR_seq) (.pass (x:=.code y) rfl (fun _ _=>.inl (by simp)) harr)⟩
theorem xw_cond {c:Operand} {x y:Code} {t:Bool} (hc:a.eval c = .bool t) (h:XW P rd kd (if t then x else y) Q a cs w):XW P rd kd (.cond c x y) Q a cs w :=
  fun b k hb hk=>let ⟨e,a',cs',w',q,r⟩:=h b k hb hk;⟨e,a',cs',w',q,.of (ST.one (stepR_cond hc)) r⟩
theorem xw_block {id:Nat} {c:Code} (h:XW P rd kd c (blockX id Q) a cs w):XW P rd kd (.block id c) Q a cs w:=by
  intro b k hb hk;obtain ⟨e,a₁,cs₁,w₁,hq,harr⟩:=h b (.inBlock id :: k) hb hk
  cases e with
  | normal=>exact ⟨.normal,a₁,cs₁,w₁,hq,.head trivial stepR_block (StepsIn.trans harr (ST.one stepR_inBlock))⟩
  | exit id' =>
    by_cases hid:id' = id
    · simp only [blockX,hid,if_true] at hq;exact ⟨.normal,a₁,cs₁,w₁,hq,.head trivial stepR_block (harr.1 k (by simp [exitTo,hid]))⟩
    · simp only [blockX,hid,if_false] at hq;have this:(id == id') = false:=by simp;exact fun h=>hid h.symm
      have hx:exitTo id' (.inBlock id :: k) = exitTo id' k:=by simp [exitTo,this]
      exact ⟨.exit id',a₁,cs₁,w₁,hq,fun k' hk=>.head trivial stepR_block (harr.1 k' (by rw [hx];exact hk)),
        fun hr' hk=>let ⟨k₁,h1,h2⟩:=harr.2 hr' (by rw [hx];exact hk);⟨k₁,h1,.head trivial stepR_block h2⟩⟩
  | goto l =>
    have hx:gotoIn l (.inBlock id :: k) = gotoIn l k:=by simp [gotoIn]
    exact ⟨_,a₁,cs₁,w₁,hq,fun k' hk=>.head trivial stepR_block (harr.1 k' (by rw [hx];exact hk)),
      fun hr' hk=>let ⟨k₁,h1,h2⟩:=harr.2 hr' (by rw [hx];exact hk);⟨k₁,h1,.head trivial stepR_block h2⟩⟩
  | ret=>exact ⟨_,a₁,cs₁,w₁,hq,.of (ST.one stepR_block) harr⟩
  | panic ch=>exact ⟨_,a₁,cs₁,w₁,hq,.of (ST.one stepR_block) harr⟩
  | outgrown=>exact ⟨_,a₁,cs₁,w₁,hq,.of (ST.one stepR_block) harr⟩
theorem stepR_scope' {b:Frame} {c:Code} {k:List Item}:step P (lone (b.atR a (.code (.scope c) :: k)) cs w) = .next (lone (b.atR a (.code c :: .inScope c :: k)) cs w) :=
  step_lone_go (by simp [stepG,stepG.exec,Frame.atR])
theorem stepR_inScope' {b:Frame} {c:Code} {k:List Item}:step P (lone (b.atR a (.inScope c :: k)) cs w) = .next (lone (b.atR a k) cs w) :=
  step_lone_go (by simp [stepG,stepG.exec,Frame.atR])
theorem stepR_label' {b:Frame} {l:Nat} {k:List Item}:step P (lone (b.atR a (.code (.label l) :: k)) cs w) = .next (lone (b.atR a k) cs w) :=
  step_lone_go (by simp [stepG,stepG.exec,Frame.atR])
theorem xw_label {l:Nat} (h:Q .normal a cs w):XW P rd kd (.label l) Q a cs w:=fun _ _ _ _=>⟨.normal,a,cs,w,h,ST.one stepR_label'⟩
theorem xw_scope {c:Code} (hg:∀ l a cs w,¬ Q (.goto l) a cs w) (h:XW P rd kd c Q a cs w):XW P rd kd (.scope c) Q a cs w:=by
  intro b k hb hk;obtain ⟨e,a₁,cs₁,w₁,hq,harr⟩:=h b (.inScope c :: k) hb hk
  cases e with
  | normal=>exact ⟨.normal,a₁,cs₁,w₁,hq,.head trivial stepR_scope' (StepsIn.trans harr (ST.one stepR_inScope'))⟩
  | exit id =>
    have hx:exitTo id (.inScope c :: k) = exitTo id k:=by simp [exitTo]
    exact ⟨.exit id,a₁,cs₁,w₁,hq,fun k' hk=>.head trivial stepR_scope' (harr.1 k' (by rw [hx];exact hk)),
      fun hr' hk=>let ⟨k₁,h1,h2⟩:=harr.2 hr' (by rw [hx];exact hk);⟨k₁,h1,.head trivial stepR_scope' h2⟩⟩
  | goto l=>exact absurd hq (hg _ _ _ _)
  | ret=>exact ⟨_,a₁,cs₁,w₁,hq,.of (ST.one stepR_scope') harr⟩
  | panic ch=>exact ⟨_,a₁,cs₁,w₁,hq,.of (ST.one stepR_scope') harr⟩
  | outgrown=>exact ⟨_,a₁,cs₁,w₁,hq,.of (ST.one stepR_scope') harr⟩
def XL (P:Program) (rd:Option Nat) (kd:CallKind) (c:Code) (Q:PostS) (a:Act) (cs:List Frame) (w:World):Prop :=
  ∀ (b:Frame) (k:List Item),Fr P rd b→b.kind = kd→∃ e a' cs' w',Q e a' cs' w'∧Arr P (lone (b.atR a (.code c :: .inLoop c :: k)) cs w) b k cs' e a' w'
theorem xl_round {c:Code} (h:XW P rd kd c (thenX (XL P rd kd c Q) Q) a cs w):XL P rd kd c Q a cs w:=by
  intro b k hb hk;obtain ⟨e,a₁,cs₁,w₁,hq,harr⟩:=h b (.inLoop c :: k) hb hk
  cases e with
  | normal =>
    obtain ⟨e₂,a₂,cs₂,w₂,hq₂,harr₂⟩:=hq b k hb hk;exact ⟨e₂,a₂,cs₂,w₂,hq₂,.of (StepsIn.trans harr (ST.one stepR_inLoop)) harr₂⟩
  | exit id=>exact ⟨_,a₁,cs₁,w₁,hq,.pass (x:=.inLoop c) rfl (fun _ _=>.inl (by simp)) harr⟩
  | goto l=>exact ⟨_,a₁,cs₁,w₁,hq,.pass (x:=.inLoop c) rfl (fun _ _=>.inl (by simp)) harr⟩
  | ret=>exact ⟨_,a₁,cs₁,w₁,hq,.pass (x:=.inLoop c) rfl (fun _ _=>.inl (by simp)) harr⟩
  | panic ch=>exact ⟨_,a₁,cs₁,w₁,hq,.pass (x:=.inLoop c) rfl (fun _ _=>.inl (by simp)) harr⟩
  | outgrown=>exact ⟨_,a₁,cs₁,w₁,hq,.pass (x:=.inLoop c) rfl (fun _ _=>.inl (by simp)) harr⟩
theorem xw_loop {c:Code} (h:XL P rd kd c Q a cs w):XW P rd kd (.loop c) Q a cs w :=
  fun b k hb hk=>let ⟨e,a',cs',w',q,r⟩:=h b k hb hk;⟨e,a',cs',w',q,.of (ST.one stepR_loop) r⟩
end

/-! ### regions -/
def OpTo (P:Program) (rd:Option Nat) (kd:CallKind) (ops:Array Oper) (i:Nat) (a:Act) (cs:List Frame) (w:World) (next:Act→List Frame→World→Prop) (pan:List PanicEntry→List Frame→World→Prop):Prop :=
  ∀ (b:Frame) (rest:List Nat) (k:List Item),b.roundOf = rd→b.kind = kd →
    (∃ a' cs' w',next a' cs' w'∧ST P (lone (b.atR a (.inRegion ops (i :: rest) :: k)) cs w) (lone (b.atR a' (.inRegion ops rest :: k)) cs' w')) ∨
    (∃ chain cs' w' todo,pan chain cs' w'∧ST P (lone (b.atR a (.inRegion ops (i :: rest) :: k)) cs w) (lone { b.atR a todo with mode:=.panicking chain } cs' w')) ∨
    False
def XOps (P:Program) (rd:Option Nat) (kd:CallKind) (ops:Array Oper) (Q:PostS):List Nat→Act→List Frame→World→Prop
  | [],a,cs,w=>Q .normal a cs w
  | i :: l,a,cs,w=>OpTo P rd kd ops i a cs w (XOps P rd kd ops Q l) (fun chain cs' w'=>Q (.panic chain) a cs' w')
section
variable {P:Program} {rd:Option Nat} {kd:CallKind} {ops:Array Oper} {Q:PostS}
theorem OpTo.mono {i:Nat} {a:Act} {cs:List Frame} {w:World} {n n':Act→List Frame→World→Prop} {p p':List PanicEntry→List Frame→World→Prop} (h:OpTo P rd kd ops i a cs w n p) (hn:∀ a cs w,n a cs w→n' a cs w)
    (hp:∀ c cs w,p c cs w→p' c cs w):OpTo P rd kd ops i a cs w n' p':=by
  intro b rest k hb hk
  rcases h b rest k hb hk with ⟨a',cs',w',q,s⟩ | ⟨c,cs',w',t,q,s⟩ | h
  · exact .inl ⟨a',cs',w',hn _ _ _ q,s⟩
  · exact .inr (.inl ⟨c,cs',w',t,hp _ _ _ q,s⟩)
  · exact .inr (.inr h)
theorem xops_arrive:∀ (l:List Nat) (a:Act) (cs:List Frame) (w:World),XOps P rd kd ops Q l a cs w→∀ (b:Frame) (k:List Item),b.roundOf = rd→b.kind = kd →
    ∃ e a' cs' w',Q e a' cs' w'∧Arr P (lone (b.atR a (.inRegion ops l :: k)) cs w) b k cs' e a' w'
  | [],a,cs,w,h,b,k,_,_=>⟨.normal,a,cs,w,h,ST.one stepR_region_end⟩
  | i :: l,a,cs,w,h,b,k,hb,hk=>by
    rcases h b l k hb hk with ⟨a',cs',w',q,s⟩ | ⟨c,cs',w',t,q,s⟩ | h
    · obtain ⟨e,a₂,cs₂,w₂,q₂,r⟩:=xops_arrive l a' cs' w' q b k hb hk;exact ⟨e,a₂,cs₂,w₂,q₂,.of s r⟩
    · exact ⟨.panic c,a,cs',w',q,t,s⟩
    · exact h.elim
theorem xw_region {id:Nat} {a:Act} {cs:List Frame} {w:World} (h:XOps P rd kd ops Q (List.range ops.size) a cs w):XW P rd kd (.region id ops false) Q a cs w :=
  fun b k hb hk=>let ⟨e,a',cs',w',q,r⟩:=xops_arrive _ a cs w h b k hb.1 hk;⟨e,a',cs',w',q,.of (ST.one stepR_region) r⟩
theorem xw_region_draw {id:Nat} {a:Act} {cs:List Frame} {w:World} (h:∀ t,XOps P rd kd ops Q (Region.schedule (P.follows .mixedOrders) ops t) a cs { w with drawn:=w.drawn + 1 }):XW P rd kd (.region id ops true) Q a cs w :=
  fun b k hb hk=>let ⟨e,a',cs',w',q,r⟩:=xops_arrive _ a cs _ (h _) b k hb.1 hk;⟨e,a',cs',w',q,.of (ST.one stepR_region_draw) r⟩

/-! ### one operation,by what it comes to -/
variable {i:Nat} {o:Oper} {a:Act} {cs:List Frame} {w:World} {next:Act→List Frame→World→Prop} {pan:List PanicEntry→List Frame→World→Prop}
theorem finish_at {b:Frame} {rest:List Nat} {k:List Item} (ho:ops[i]? = some o) (v:Value):(b.atR a (.inRegion ops (i :: rest) :: k)).finish v = b.atR (a.put o.dst v) (.inRegion ops rest :: k):=by
  rw [Frame.finish_atR,ho];rfl
theorem opTo_skip (ho:ops[i]? = some o) (hw:Region.wanted o (yielded ops a.tmps) = false) (h:next (a.put o.dst undef) cs w):OpTo P rd kd ops i a cs w next pan:=by
  intro b rest k _ _;refine .inl ⟨_,cs,w,h,ST.one ?_⟩;have:=stepR_op_skip (P:=P) (b:=b) (a:=a) (k:=k) (cs:=cs) (w:=w) (ops:=ops) (i:=i) (rest:=rest) (by simp [ho,hw])
  simpa [ho] using this
theorem opTo_value (ho:ops[i]? = some o) (hw:Region.wanted o (yielded ops a.tmps) = true) (hs:∀ c,o.op ≠ .defer c) {v:Value} {w':World} (hr:(execOp a.eval o).run P w = .ok (.value v) w') (h:next (a.put o.dst v) cs w'):OpTo P rd kd ops i a cs w next pan:=by
  intro b rest k _ _;refine .inl ⟨_,cs,w',h,ST.one (step_lone_go ?_)⟩;rw [stepGR_op ho hw,Oper.semAt_eq _ _ _ hs,← finish_at ho];simp [stepG.apply,hr]
theorem opTo_unit (ho:ops[i]? = some o) (hw:Region.wanted o (yielded ops a.tmps) = true) (hs:∀ c,o.op ≠ .defer c) {w':World} (hr:(execOp a.eval o).run P w = .ok .skip w') (h:next (a.put o.dst undef) cs w'):OpTo P rd kd ops i a cs w next pan:=by
  intro b rest k _ _;refine .inl ⟨_,cs,w',h,ST.one (step_lone_go ?_)⟩;rw [stepGR_op ho hw,Oper.semAt_eq _ _ _ hs,← finish_at ho];simp [stepG.apply,hr]
theorem opTo_defer (ho:ops[i]? = some o) (hw:Region.wanted o (yielded ops a.tmps) = true) (hrd:rd = none) {d:Deferred} {w':World} (hr:(execOp a.eval o).run P w = .ok (.defer d) w') (h:next ({ a with defers:=d :: a.defers }.put o.dst undef) cs w'):OpTo P rd kd ops i a cs w next pan:=by
  intro b rest k hb _;refine .inl ⟨_,cs,w',h,ST.one (step_lone_go ?_)⟩;have hsem:o.semAt b.roundOf a.eval = execOp a.eval o:=by rw [hb,hrd];rfl
  rw [stepGR_op ho hw,hsem];have:({ b.atR a (.inRegion ops (i :: rest) :: k) with defers:=d :: a.defers }:Frame).finish undef = b.atR ({ a with defers:=d :: a.defers }.put o.dst undef) (.inRegion ops rest :: k):=by
    have:=Frame.finish_atR b { a with defers:=d :: a.defers } ops i rest k undef;rw [ho] at this;exact this
  simp only [stepG.apply,Sem.runT_eq,hr,GStep.bare_after];exact congrArg (fun fr=>GStep.go { frame:=fr,callers:=cs,status:=.running,dying:=none } w') this
theorem opTo_recoverNone (ho:ops[i]? = some o) (hw:Region.wanted o (yielded ops a.tmps) = true) (hs:∀ c,o.op ≠ .defer c) (hrd:rd = none) {w':World} (hr:(execOp a.eval o).run P w = .ok .recover w') (ht:∀ fr:Frame,fr.kind = kd→tryRecover fr cs = none) (h:next (a.put o.dst .nilIface) cs w') :
    OpTo P rd kd ops i a cs w next pan:=by
  intro b rest k hb hk;refine .inl ⟨_,cs,w',h,ST.one (step_lone_go ?_)⟩;have htr:=ht (b.atR a (.inRegion ops (i :: rest) :: k)) hk;have hro:(b.atR a (.inRegion ops (i :: rest) :: k)).roundOf = none:=hb.trans hrd;rw [stepGR_op ho hw,Oper.semAt_eq _ _ _ hs,← finish_at ho];simp [stepG.apply,hr,hro,htr]
theorem opTo_recoverSome (ho:ops[i]? = some o) (hw:Region.wanted o (yielded ops a.tmps) = true) (hs:∀ c,o.op ≠ .defer c) (hrd:rd = none) {w':World} (hr:(execOp a.eval o).run P w = .ok .recover w') {v:Value} {cs':List Frame} (ht:∀ fr:Frame,fr.kind = kd→tryRecover fr cs = some (v,cs')) (h:next (a.put o.dst v) cs' w') :
    OpTo P rd kd ops i a cs w next pan:=by
  intro b rest k hb hk;refine .inl ⟨_,cs',w',h,ST.one (step_lone_go ?_)⟩;have htr:=ht (b.atR a (.inRegion ops (i :: rest) :: k)) hk;have hro:(b.atR a (.inRegion ops (i :: rest) :: k)).roundOf = none:=hb.trans hrd;rw [stepGR_op ho hw,Oper.semAt_eq _ _ _ hs,← finish_at ho];simp [stepG.apply,hr,hro,htr]
theorem opTo_panic (ho:ops[i]? = some o) (hw:Region.wanted o (yielded ops a.tmps) = true) (hs:∀ c,o.op ≠ .defer c) {v:Value} {w':World} (hr:(execOp a.eval o).run P w = .halt (.panic v) w') (h:pan [{ v,recovered:=false }] cs w'):OpTo P rd kd ops i a cs w next pan:=by
  intro b rest k _ _;refine .inr (.inl ⟨_,cs,w',.inRegion ops (i :: rest) :: k,h,ST.one (step_lone_go ?_)⟩);rw [stepGR_op ho hw,Oper.semAt_eq _ _ _ hs,← Frame.raise_atR];simp [stepG.apply,hr]
theorem opTo_enter (ho:ops[i]? = some o) (hw:Region.wanted o (yielded ops a.tmps) = true) (hs:∀ c,o.op ≠ .defer c) {f:FuncId} {args:Array Value} {w':World} (hr:(execOp a.eval o).run P w = .ok (.enter f args) w')
    (h:Calls P f args w' fun | .returned v,w''=>next (a.put o.dst v) cs w'' | .panicked chain,w''=>pan chain cs w'' | .outgrown,_=>False):OpTo P rd kd ops i a cs w next pan:=by
  intro b rest k _ _;have hg:=stepGR_op (P:=P) (b:=b) (k:=k) (cs:=cs) (w:=w) (rest:=rest) ho hw;rw [Oper.semAt_eq _ _ _ hs] at hg;have henter:step P (lone (b.atR a (.inRegion ops (i :: rest) :: k)) cs w) = .next (lone (Frame.enter P f args .normal) (b.atR a (.inRegion ops (i :: rest) :: k) :: cs) w') :=
    step_lone_go (by rw [hg];simp [stepG.apply,hr,Frame.atR])
  obtain ⟨e,w'',fr,hR,hsteps,_,hleave⟩:=h (b.atR a (.inRegion ops (i :: rest) :: k) :: cs)
  cases e with
  | returned v =>
    refine .inl ⟨_,cs,w'',hR,.head trivial henter (StepsIn.trans (ST.of hsteps) (ST.one ?_))⟩;rw [← finish_at ho];exact step_leave_returned hleave
  | panicked chain =>
    refine .inr (.inl ⟨chain,cs,w'',.inRegion ops (i :: rest) :: k,hR,.head trivial henter (StepsIn.trans (ST.of hsteps) (ST.one ?_))⟩);rw [← Frame.raise_atR];exact step_leave_panicked hleave
  | outgrown=>exact hR.elim
def RoundX (P:Program) (l:Nat) (f:FuncId) (tmps:Array Value) (assign body:Code) (w:World) (R:Ending→World→Prop):Prop :=
  ∀ (c : Frame) (cs:List Frame),∃ e w',R e w'∧Comes P (lone (Frame.round l f tmps assign body .normal) (c :: cs) w)
      (match e with
       | .returned v=>lone (c.finish v) cs w'
       | .panicked chain=>lone (c.raise chain) cs w'
       | .outgrown=>lone c cs w') e
theorem opTo_round (ho:ops[i]? = some o) (hw:Region.wanted o (yielded ops a.tmps) = true) (hs:∀ c,o.op ≠ .defer c) {l:Nat} {f:FuncId} {tmps:Array Value} {assign body:Code} {w':World} (hr:(execOp a.eval o).run P w = .ok (.round l f tmps assign body) w')
    (h:RoundX P l f tmps assign body w' fun | .returned v,w''=>next (a.put o.dst v) cs w'' | .panicked chain,w''=>pan chain cs w'' | .outgrown,_=>False):OpTo P rd kd ops i a cs w next pan:=by
  intro b rest k _ _;have hg:=stepGR_op (P:=P) (b:=b) (k:=k) (cs:=cs) (w:=w) (rest:=rest) ho hw;rw [Oper.semAt_eq _ _ _ hs] at hg;have henter:step P (lone (b.atR a (.inRegion ops (i :: rest) :: k)) cs w) = .next (lone (Frame.round l f tmps assign body .normal) (b.atR a (.inRegion ops (i :: rest) :: k) :: cs) w') :=
    step_lone_go (by rw [hg];simp [stepG.apply,hr,Frame.atR])
  obtain ⟨e,w'',hR,hsteps⟩:=h (b.atR a (.inRegion ops (i :: rest) :: k)) cs
  cases e with
  | returned v =>
    refine .inl ⟨_,cs,w'',hR,.head trivial henter ?_⟩;rw [← finish_at ho];exact ST.of hsteps
  | panicked chain =>
    refine .inr (.inl ⟨chain,cs,w'',.inRegion ops (i :: rest) :: k,hR,.head trivial henter ?_⟩);rw [← Frame.raise_atR];exact ST.of hsteps
  | outgrown=>exact hR.elim
end
end Go.X
