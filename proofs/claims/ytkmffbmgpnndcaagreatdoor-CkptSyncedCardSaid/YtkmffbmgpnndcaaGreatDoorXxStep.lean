/- One operation of X, calls among them, against the model's. -/
import Derived.Test.YtkmffbmgpnndcaaGreatDoorXxSt
namespace Go.X
open Go

/-! ### calls -/
def PU (κ:Kp):Pan→FrameMode→Prop
  | .off,u=>u = .returning
  | .on v,u=>∃ v' older,u = .panicking ({ v:=v',recovered:=false } :: older)∧VR κ v v'∧∀ x ∈ older,x.goexit = false
def PU2 (κ:Kp):Pan→Pan→FrameMode→FrameMode→Prop
  | .off,.off,u,u'=>u' = u
  | .on _,.on w,u,u'=>u' = u∧PU κ (.on w) u
  | .on _,.off,u,u'=>∃ v' older,u = .panicking ({ v:=v',recovered:=false } :: older)∧u' = .panicking ({ v:=v',recovered:=true } :: older)∧∀ x ∈ older,x.goexit = false
  | .off,.on _,_,_=>False
def ChainOK (κ:Kp) (v:AV) (chain:List PanicEntry):Prop:=∃ v' older,chain = { v:=v',recovered:=false } :: older∧VR κ v v'∧∀ x ∈ older,x.goexit = false
theorem ChainOK.mono {κ κ':Kp} (hk:κ.le κ') {v:AV} {c:List PanicEntry} (h:ChainOK κ v c):ChainOK κ' v c:=let ⟨v',o,h1,h2,h3⟩:=h;⟨v',o,h1,VR.mono hk _ _ h2,h3⟩
inductive Res where
  | ret (v:AV) | pan (v:AV)
def ResE (κ:Kp):Res→Ending→Prop
  | .ret v,.returned v'=>VR κ v v'
  | .pan v,.panicked chain=>ChainOK κ v chain
  | _,_=>False
def EndQ (P:Program) (κ:Kp) (h:Heap) (w:World) (res:Res) (h':Heap) (e:Ending) (w':World):Prop:=False∨∃ κ',ResE κ' res e∧Ext P κ h w κ' h' w'
def EndD (P:Program) (κ:Kp) (h:Heap) (w:World) (pan:Pan) (res:Res) (pan':Pan) (h':Heap) (u:FrameMode) (e:Ending) (u':FrameMode) (w':World):Prop:=False∨∃ κ',ResE κ' res e∧Ext P κ h w κ' h' w'∧PU2 κ' pan pan' u u'
structure FnOK (P:Program) (f:FuncId) (A:Array Value) (κ:Kp) (h:Heap) (w:World) (pan:Pan) (res:Res) (pan':Pan) (h':Heap) (D:Prop):Prop where
  is:∃ fn c,P.funcs[f]? = some fn∧fn.body = some c∧fn.name ≠ "runtime.NumGoroutine"
  calls:pan = .off→Calls P f A w (EndQ P κ h w res h')
  callsD:D→∀ u,PU κ pan u→CallsD P f A u w (EndD P κ h w pan res pan' h' u)
def roundTmps (L:Loop) (A:Array Value):Array Value:=(L.params.zip A).foldl (fun tmps (t,a)=>tmps.setIfInBounds t a) L.tmps
def YieldOK (P:Program) (l:Nat) (A:Array Value) (κ:Kp) (h:Heap) (w:World) (res:Res) (h':Heap):Prop :=
  ∃ L:Loop,w.heap[l]? = some (.loop L)∧A.size = L.params.size∧RoundX P l L.fn (roundTmps L A) L.assign L.body w (EndQ P κ h w res h')
structure CallOK (P:Program) (fv:AV) (args:List AV) (pan:Pan) (h:Heap) (res:Res) (pan':Pan) (h':Heap):Prop where
  func:∀ κ w,HR P κ h w→∀ f first cap,fv = .func f first cap→∀ A:Array Value,VRl κ (first++args++cap) A.toList→FnOK P f A κ h w pan res pan' h' (oneFn (first++args++cap) = false)
  yield:∀ l,fv = .yield l→∀ κ w,HR P κ h w→∀ x,κ.ρ l = some x→∀ A:Array Value,VRl κ args A.toList→YieldOK P x.b A κ h w res h'
  is:(∃ f first cap,fv = .func f first cap)∨∃ l,fv = .yield l
def resK (k kp:KC) (res:Res) (pan:Pan) (h:Heap):R:=match res with | .ret v=>k v pan h | .pan v=>kp v pan h
def CallS (P:Program) (call:CallK):Prop:=∀ fv args pan h k kp r,call fv args pan h k kp = r→r ≠ .bad→∃ res pan' h',resK k kp res pan' h' = r∧CallOK P fv args pan h res pan' h'

/-! ### what is known of functions -/
def Heap.sets (l:List (Pos × AObj)) (h:Heap):Heap:=l.foldl (fun h q=>h.set q.1 q.2) h
def Ent.upd (e:Ent) (h:Heap):Heap:=match e.exact with
  | true=>⟨e.n1,(h.sets e.post).mem⟩
  | false=>h.sets e.post
structure EntOK (P:Program) (f:FuncId) (e:Ent):Prop where
  ok:∀ κ h w,HR P κ h w→(e.exact = true→h.next = e.n0)→(∀ q ∈ e.pre,h.get q.1 = q.2)→∀ A:Array Value,VRl κ e.args A.toList→FnOK P f A κ h w .off (.ret e.v) .off (e.upd h) (oneFn e.args = false)
def Tab.ents:Tab→List Ent
  | .leaf=>[]
  | .node _ es l r=>es++(l.ents++r.ents)
def OrcOK (P:Program) (f:FuncId) (t:Tab):Prop:=∀ e ∈ t.ents,EntOK P f e
structure ConOK (P:Program) (f:FuncId) (F:List AV→Heap→Option (AV × Heap)):Prop where
  ok:∀ κ h w args v h',F args h = some (v,h')→HR P κ h w→∀ A:Array Value,VRl κ args A.toList→FnOK P f A κ h w .off (.ret v) .off h' (oneFn args = false)
structure EnvOK (P:Program) (E:XEnv):Prop where
  fn:∀ f x,E.fn f = some x→∃ fn,P.funcs[f]? = some fn∧match x with
    | .code b r=>copFun P fn = some (.code b r)
    | .orc g b r=>copFun P fn = some (.code b r)∧OrcOK P f g
    | .con F=>ConOK P f F
  cop:∀ n c,E.cop n c = cop P n true c
  meth:∀ t name f,E.meth t name = some f→∀ v w,(method (P.types.size + Made.depth) t v name).run P w = .ok (f,v) w

section
variable {P:Program} {E:XEnv} {call:CallK} {n:Nat} {rnd:Bool} {kd:CallKind} {ops:Array Oper} {i:Nat} {o:Oper}

def TmpsBut (ops:Array Oper) (i:Nat) (a a':Act):Prop:=∀ o,ops[i]? = some o→∀ y,o.dst ≠ some y→a'.tmps.getD y undef = a.tmps.getD y undef
theorem put_but (ho:ops[i]? = some o) {a a₁:Act} (he:a₁.tmps = a.tmps) (v:Value):TmpsBut ops i a (a₁.put o.dst v):=by
  intro o' ho' y hy;rw [ho,sJ] at ho';subst ho'
  cases hd:o.dst with
  | none=>simp [Act.put,he]
  | some x =>
    have hxy:x ≠ y:=fun e=>hy (by rw [hd,e])
    simp [Act.put,he,Array.getElem?_setIfInBounds_ne hxy]
def OpOK (P:Program) (n:Nat) (rnd:Bool) (ops:Array Oper) (i:Nat) (tm:Tm) (ds:List Dfd) (pan:Pan) (h:Heap) (tm':Tm) (ds':List Dfd) (pan':Pan) (h':Heap):Prop :=
  ∀ (kd:CallKind) (rd:Option Nat),kd ≠ .early→(rd ≠ none→rnd = true)→∀ B κ cs₀ a cs w,St P n B kd κ tm ds pan h cs₀ a cs w→OpTo P rd kd ops i a cs w (fun a' cs' w'=>∃ κ',Ext P κ h w κ' h' w'∧St P n B kd κ' tm' ds' pan' h' cs₀ a' cs' w'∧TmpsBut ops i a a') (fun _ _ _=>False)
def OpPan (P:Program) (n:Nat) (rnd:Bool) (ops:Array Oper) (i:Nat) (tm:Tm) (ds:List Dfd) (pan:Pan) (h:Heap) (v:AV) (h':Heap):Prop :=
  ∀ (kd:CallKind) (rd:Option Nat),kd ≠ .early→(rd ≠ none→rnd = true)→∀ B κ cs₀ a cs w,St P n B kd κ tm ds pan h cs₀ a cs w→OpTo P rd kd ops i a cs w (fun _ _ _=>False) (fun chain cs' w'=>cs' = cs∧∃ κ',Ext P κ h w κ' h' w'∧ChainOK κ' v chain)

theorem St.ext {B:Nat} {κ κ':Kp} {tm:Tm} {ds:List Dfd} {pan:Pan} {h h':Heap} {cs₀ cs:List Frame} {a:Act} {w w':World} (s:St P n B kd κ tm ds pan h cs₀ a cs w) (e:Ext P κ h w κ' h' w'):St P n B kd κ' tm ds pan h' cs₀ a cs w' :=
  ⟨e.hr,s.ht.mono e.le,s.hd.ext e,s.hc.mono e.le,Nat.le_trans s.hB e.size⟩
theorem St.put {B:Nat} {κ:Kp} {tm:Tm} {ds:List Dfd} {pan:Pan} {h:Heap} {cs₀ cs:List Frame} {a:Act} {w:World} (s:St P n B kd κ tm ds pan h cs₀ a cs w) {d:Option Tmp} (hd:∀ x,d = some x→x < n) {v:AV} {v':Value} (hv:VR κ v v') :
    St P n B kd κ (putT (d.map Slot.slot) v tm) ds pan h cs₀ (a.put d v') cs w :=
  ⟨s.hr,s.ht.putT hd hv,by cases d <;> exact s.hd,s.hc,s.hB⟩

theorem invoke_func {g:FuncId} {_F _C args:Array Value} {fn:Func} {c:Code} (hf:P.funcs[g]? = some fn) (hb:fn.body = some c) (hn:fn.name ≠ "runtime.NumGoroutine") {w:World}:(callFunc g args).run P w = .ok (.enter g args) w:=by
  simp [callFunc,hf,hb,hn,Sem.run_bind,run_program]
theorem exec_func {c:Call} {f:Operand} {a:Act} (ho:o.op = .call c) (hc:c.callee = .value f) {g:FuncId} {F C:Array Value} (hv:a.eval f = .func (.func g) F C) {w:World}:(execOp a.eval o).run P w = (callFunc g (F++c.args.map a.eval++C)).run P w:=by
  simp [execOp,ho,resolve,hc,hv,Deferred.ofValue,invoke]
theorem exec_yield {c:Call} {f:Operand} {a:Act} (ho:o.op = .call c) (hc:c.callee = .value f) {l:Nat} (hv:a.eval f = .func (.yield l) #[] #[]) {w:World}:(execOp a.eval o).run P w = (Instr.yield l (c.args.map a.eval)).run P w:=by
  simp [execOp,ho,resolve,hc,hv,Deferred.ofValue,invoke]
theorem run_yield {l:Nat} {w:World} {L:Loop} (hl:w.heap[l]? = some (.loop L)) {A:Array Value} (hA:A.size = L.params.size):(Instr.yield l A).run P w = .ok (.round l L.fn (roundTmps L A) L.assign L.body) w:=by
  simp [Instr.yield,Instr.getLoop,getObj,Sem.run_bind,Sem.run,hl,hA,roundTmps,Result.andThen]
theorem callF_ok (hcall:CallS P call) (ho:ops[i]? = some o) (hnd:∀ c,o.op ≠ .defer c) (hdst:∀ x,o.dst = some x→x < n)
    {fv:AV} {vs:List AV} {tm:Tm} {ds:List Dfd} {pan:Pan} {h:Heap} {k:KS} {kp:KP} {r:R} (hrun:callF fv vs call (o.dst.map Slot.slot) tm ds pan h k kp = r) (hr:r ≠ .bad)
    (hw:∀ (κ:Kp) (a:Act),TR κ n tm a.tmps→Region.wanted o (yielded ops a.tmps) = true)
    (hexec:∀ (κ:Kp) (a:Act) (w:World),TR κ n tm a.tmps→HR P κ h w →
      (∃ f first cap A,fv = .func f first cap∧VRl κ (first++vs++cap) A.toList∧∀ fn c,P.funcs[f]? = some fn→fn.body = some c→fn.name ≠ "runtime.NumGoroutine" → (execOp a.eval o).run P w = .ok (.enter f A) w) ∨
      (∃ l x A,fv = .yield l∧κ.ρ l = some x∧VRl κ vs A.toList∧(execOp a.eval o).run P w = (Instr.yield x.b A).run P w)) :
    (∃ tm' ds' pan' h',k tm' ds' pan' h' = r∧(∃ v,tm' = putT (o.dst.map Slot.slot) v tm)∧OpOK P n rnd ops i tm ds pan h tm' ds' pan' h')∨(∃ v h',kp v tm ds pan h' = r∧OpPan P n rnd ops i tm ds pan h v h'):=by
  obtain ⟨res,pan',h',hk,hok⟩:=hcall fv vs .off h _ _ r hrun hr
  cases res with
  | ret v =>
    have hk:putF (o.dst.map Slot.slot) v tm (fun tm=>k tm ds pan h') = r:=hk;rw [putF_eq] at hk;refine .inl ⟨_,ds,pan,h',hk,⟨_,rfl⟩,fun kd rd hkd hrd B κ cs₀ a cs w s=>?_⟩
    rcases hexec κ a w s.ht s.hr with ⟨f,first,cap,A,rfl,hA,hx⟩ | ⟨l,x,A,rfl,hl,hA,hx⟩
    · have hf:=hok.func κ w s.hr f first cap rfl A hA;obtain ⟨fn,c,h1,h2,h3⟩:=hf.is;refine opTo_enter ho (hw κ a s.ht) hnd (hx fn c h1 h2 h3) ((hf.calls rfl).mono fun e w' he=>?_)
      rcases he with hno | ⟨κ',he,hE⟩
      · trivial
      · cases e with
        | returned v'=>exact ⟨κ',hE,(s.ext hE).put hdst he,put_but ho rfl _⟩
        | panicked c=>exact he.elim
        | outgrown=>exact he.elim
    · obtain ⟨L,hL,hAL,hR⟩:=hok.yield l rfl κ w s.hr x hl A hA;refine opTo_round ho (hw κ a s.ht) hnd (hx.trans (run_yield hL hAL)) fun c cs'=>?_
      obtain ⟨e,w',he,hs⟩:=hR c cs';refine ⟨e,w',?_,hs⟩
      rcases he with hno | ⟨κ',he,hE⟩
      · trivial
      · cases e with
        | returned v'=>exact ⟨κ',hE,(s.ext hE).put hdst he,put_but ho rfl _⟩
        | panicked c=>exact he.elim
        | outgrown=>exact he.elim
  | pan v =>
    have hk:kp v tm ds pan h' = r:=hk;refine .inr ⟨v,h',hk,fun kd rd hkd hrd B κ cs₀ a cs w s=>?_⟩
    rcases hexec κ a w s.ht s.hr with ⟨f,first,cap,A,rfl,hA,hx⟩ | ⟨l,x,A,rfl,hl,hA,hx⟩
    · have hf:=hok.func κ w s.hr f first cap rfl A hA;obtain ⟨fn,c,h1,h2,h3⟩:=hf.is;refine opTo_enter ho (hw κ a s.ht) hnd (hx fn c h1 h2 h3) ((hf.calls rfl).mono fun e w' he=>?_)
      rcases he with hno | ⟨κ',he,hE⟩
      · trivial
      · cases e with
        | returned v'=>exact he.elim
        | panicked c=>exact ⟨rfl,κ',hE,he⟩
        | outgrown=>exact he.elim
    · obtain ⟨L,hL,hAL,hR⟩:=hok.yield l rfl κ w s.hr x hl A hA;refine opTo_round ho (hw κ a s.ht) hnd (hx.trans (run_yield hL hAL)) fun c cs'=>?_
      obtain ⟨e,w',he,hs⟩:=hR c cs';refine ⟨e,w',?_,hs⟩
      rcases he with hno | ⟨κ',he,hE⟩
      · exact hno.elim
      · cases e with
        | returned v'=>exact he.elim
        | panicked c=>exact ⟨rfl,κ',hE,he⟩
        | outgrown=>exact he.elim
end
end Go.X

/- One operation of X against the model's: all kinds. -/
namespace Go.X
open Go
section
variable {P:Program} {E:XEnv} {call:CallK} {n:Nat} {rnd:Bool} {ops:Array Oper} {i:Nat} {o:Oper}

theorem run_panic_iface {t:TypeId} {v:Value} {w:World}:(Instr.panic (.iface t v)).run P w = .halt (.panic (.iface t v)) w:=rfl
theorem xop_ok (hE:EnvOK P E) (hcall:CallS P call) (ho:ops[i]? = some o) {tm:Tm} {ds:List Dfd} {pan:Pan} {h:Heap} {k:KS} {kp:KP} {r:R}
    (hrun:xopF E (copOper P n rnd ops o) call tm ds pan h k kp = r) (hr:r ≠ .bad) :
    (∃ tm' ds' pan' h',k tm' ds' pan' h' = r∧(∃ v,tm' = putT (o.dst.map Slot.slot) v tm)∧OpOK P n rnd ops i tm ds pan h tm' ds' pan' h')∨(∃ v h',kp v tm ds pan h' = r∧OpPan P n rnd ops i tm ds pan h v h'):=by
  have bad:∀ {k:KS} {kp:KP},xopF E badOp call tm ds pan h k kp = .bad:=rfl;unfold copOper at hrun
  cases hd0:dstBad n o.dst with
  | true=>rw [hd0] at hrun;have:=bad.symm.trans hrun;exact absurd this.symm hr
  | false =>
    rw [hd0] at hrun;have hdst:∀ x,o.dst = some x→x < n:=by
      intro x hx;rw [hx] at hd0;exact Nat.lt_of_not_le fun hle=>by rw [dstBad,Nat.ble_eq_true_of_le hle] at hd0;simp at hd0
    cases hg:guardOf ops o.guard with
    | none=>rw [hg] at hrun;have:=bad.symm.trans hrun;exact absurd this.symm hr
    | some g =>
      rw [hg] at hrun;have hrun:wantF g tm (fun b=>Bool.rec (motive:=fun _=>R) (putF (o.dst.map Slot.slot) unit tm fun tm=>k tm ds pan h) (opF E (copOp P rnd o) call (o.dst.map Slot.slot) tm ds pan h k kp) b) = r:=hrun;obtain ⟨b,hb,hwant⟩:=want_val hg hrun hr
      cases b with
      | false =>
        have hb:putF (o.dst.map Slot.slot) unit tm (fun tm=>k tm ds pan h) = r:=hb;rw [putF_eq] at hb;exact .inl ⟨_,ds,pan,h,hb,⟨_,rfl⟩,fun kd rd hkd hrd B κ cs₀ a cs w s=>opTo_skip ho (hwant κ n a s.ht) ⟨κ,.refl s.hr,s.put hdst VR_unit,put_but ho rfl _⟩⟩
      | true =>
        have hb:opF E (copOp P rnd o) call (o.dst.map Slot.slot) tm ds pan h k kp = r:=hb;have hw:∀ (κ:Kp) (a:Act),TR κ n tm a.tmps→Region.wanted o (yielded ops a.tmps) = true:=fun κ a ht=>hwant κ n a ht
        rcases (copOp_from (P:=P) (rnd:=rnd) (o:=o)).symm with hno | hfrom
        · rw [hno] at hb;have hb:R.bad = r:=hb;exact absurd hb.symm hr
        cases hx:copOp P rnd o with
        | ins j =>
          rw [hx] at hb hfrom
          have hnd:∀ c,o.op ≠ .defer c:=hfrom
          have hb:semF j tm h (fun v h=>putF (o.dst.map Slot.slot) v tm fun tm=>k tm ds pan h) = r:=hb;rw [semF_eq] at hb
          cases hsem:j.sem tm h with
          | bad=>rw [hsem] at hb;exact absurd hb.symm hr
          | panic v h'=>rw [hsem] at hb;exact absurd hb.symm hr
          | ok v h' =>
            rw [hsem,viaOut_ok,putF_eq] at hb;refine .inl ⟨_,ds,pan,h',hb,⟨_,rfl⟩,fun kd rd hkd hrd B κ cs₀ a cs w s=>?_⟩
            rcases copOp_ok s.hr s.ht hx hsem with ⟨nx,w',κ',hrun,hnx,hE'⟩ | hask
            · rcases hnx with ⟨v',rfl,hv⟩ | ⟨rfl,rfl⟩
              · exact opTo_value ho (hw κ a s.ht) hnd hrun ⟨κ',hE',(s.ext hE').put hdst hv,put_but ho rfl _⟩
              · exact opTo_unit ho (hw κ a s.ht) hnd hrun ⟨κ',hE',(s.ext hE').put hdst VR_unit,put_but ho rfl _⟩
            · exact hask.elim
        | call f xs =>
          rw [hx] at hb hfrom
          obtain ⟨c,hop,hcal,hargs⟩:=hfrom
          have hb:withLF xs tm (fun vs=>callF (.func f [] []) vs call (o.dst.map Slot.slot) tm ds pan h k kp) = r:=hb;obtain ⟨vs,hvs,hb⟩:=withLF_val hb hr;refine callF_ok hcall ho (by simp [hop]) hdst hb hr hw fun κ a w ht _=>.inl ⟨f,[],[],(c.args.map a.eval),rfl,?_,fun fn body h1 h2 h3=>?_⟩
          · simpa using opnds_ok ht hargs hvs
          · rw [exec_func hop hcal (F:=#[]) (C:=#[]) (by rfl)]
            simpa using invoke_func (_F:=#[]) (_C:=#[]) h1 h2 h3
        | callv fo xs =>
          rw [hx] at hb hfrom
          obtain ⟨c,x,hop,hcal,hfo,hargs⟩:=hfrom
          have hb:withF fo tm (fun fv=>withLF xs tm fun vs=>callF fv vs call (o.dst.map Slot.slot) tm ds pan h k kp) = r:=hb;obtain ⟨fv,hfv,hb⟩:=withF_val hb hr;obtain ⟨vs,hvs,hb⟩:=withLF_val hb hr;have his:(∃ f first cap,fv = .func f first cap)∨∃ l,fv = .yield l:=by
            obtain ⟨_,_,_,_,hok⟩:=hcall fv vs .off h _ _ r hb hr;exact hok.is
          refine callF_ok hcall ho (by simp [hop]) hdst hb hr hw fun κ a w ht hrw=>?_
          have hV:=opnd_ok ht hfo hfv;have hA:=opnds_ok ht hargs hvs
          rcases his with ⟨f,first,cap,rfl⟩ | ⟨l,rfl⟩
          · simp only [VR] at hV;obtain ⟨F,C,hV,hF,hC⟩:=hV;refine .inl ⟨f,first,cap,F++c.args.map a.eval++C,rfl,?_,fun fn body h1 h2 h3=>?_⟩
            · simpa using (hF.append hA).append hC
            · rw [exec_func hop hcal hV];exact invoke_func (_F:=#[]) (_C:=#[]) h1 h2 h3
          · simp only [VR] at hV;obtain ⟨y,hy,hV⟩:=hV;exact .inr ⟨l,y,c.args.map a.eval,rfl,hy,by simpa using hA,exec_yield hop hcal hV⟩
        | invoke ro s xs =>
          rw [hx] at hb hfrom
          obtain ⟨c,x,hop,hcal,hro,hargs⟩:=hfrom
          have hb:withF ro tm (fun rv=>withLF xs tm fun vs=>kIface rv fun t v=>Option.rec (motive:=fun _=>R) .bad (fun f=>callF (.func f [] []) (v :: vs) call (o.dst.map Slot.slot) tm ds pan h k kp) (E.meth t s)) = r:=hb;obtain ⟨rv,hrv,hb⟩:=withF_val hb hr;obtain ⟨vs,hvs,hb⟩:=withLF_val hb hr;obtain ⟨t,u,rfl,hb⟩:=kIface_val hb hr;have hb:Option.rec (motive:=fun _=>R) .bad (fun f=>callF (.func f [] []) (u :: vs) call (o.dst.map Slot.slot) tm ds pan h k kp) (E.meth t s) = r:=hb
          cases hm:E.meth t s with
          | none=>rw [hm] at hb;exact absurd hb.symm hr
          | some f =>
            rw [hm] at hb;have hb:callF (.func f [] []) (u :: vs) call (o.dst.map Slot.slot) tm ds pan h k kp = r:=hb;refine callF_ok hcall ho (by simp [hop]) hdst hb hr hw fun κ a w ht _=>?_
            have hV:=opnd_ok ht hro hrv;have hA:=opnds_ok ht hargs hvs;simp only [VR] at hV;obtain ⟨v',hV,hv'⟩:=hV;refine .inl ⟨f,[],[],#[v']++c.args.map a.eval,rfl,?_,fun fn body h1 h2 h3=>?_⟩
            · simp only [List.nil_append,List.append_nil];have:(#[v']++c.args.map a.eval).toList = v' :: (c.args.toList.map a.eval):=by simp
              rw [this];exact ⟨v',_,rfl,hv',hA⟩
            · have hinv:=invoke_func (_F:=#[]) (_C:=#[]) (args:=#[v']++c.args.map a.eval) h1 h2 h3 (w:=w);have hmm:=hE.meth t s f hm v' w;have hex:(#[a.eval x]++c.args.map a.eval).extract 1 (1 + c.args.size) = c.args.map a.eval:=by
                rw [Array.extract_append];simp
              simp only [execOp,hop,resolve,hcal,Sem.run_bind,Sem.run_pure,Result.andThen_ok,invoke];simp only [hV,Array.getElem?_append,List.size_toArray,List.length_singleton,Nat.lt_one_iff,if_true,List.getElem?_toArray,List.getElem?_cons_zero,callMethod,Sem.run_bind,run_program,Result.andThen_ok,Array.size_append,Array.size_map];rw [hV] at hex;rw [hex,hmm]
              simpa using hinv
        | defer fo xs =>
          rw [hx] at hb hfrom
          obtain ⟨hrnd,c,x,hop,hcal,hfo,hargs⟩:=hfrom
          have hb:withF fo tm (fun fv=>isFunc fv (withLF xs tm fun vs=>putF (o.dst.map Slot.slot) unit tm fun tm=>k tm ((fv,vs) :: ds) pan h)) = r:=hb;obtain ⟨fv,hfv,hb⟩:=withF_val hb hr;obtain ⟨⟨f,first,cap,rfl⟩,hb⟩:=isFunc_val hb hr;obtain ⟨vs,hvs,hb⟩:=withLF_val hb hr;rw [putF_eq] at hb;refine .inl ⟨_,_,pan,h,hb,⟨_,rfl⟩,fun kd rd hkd hrd B κ cs₀ a cs w s=>?_⟩;have hV:=opnd_ok s.ht hfo hfv;have hA:=opnds_ok s.ht hargs hvs;simp only [VR] at hV;obtain ⟨F,C,hV,hF,hC⟩:=hV;have hrd0:∀ {rd:Option Nat},(rd ≠ none→rnd = true)→rd = none:=fun hrd=>Classical.byContradiction fun hne=>by have:=hrd hne;rw [hrnd] at this;simp at this
          refine opTo_defer (d:={ target:=.fn (.func f) C,args:=F++c.args.map a.eval }) ho (hw κ a s.ht) (hrd0 hrd) (w':=w) (by simp [execOp,hop,resolve,hcal,hV,Deferred.ofValue]) ⟨κ,.refl s.hr,?_⟩;have s':St P n B kd κ tm ((.func f first cap,vs) :: ds) pan h cs₀ { a with defers:={ target:=.fn (.func f) C,args:=F++c.args.map a.eval } :: a.defers } cs w :=
            ⟨s.hr,s.ht,.cons s.hd (by simpa using hF.append hA) hC,s.hc,s.hB⟩
          exact ⟨s'.put hdst VR_unit,put_but ho rfl _⟩
        | recover =>
          rw [hx] at hb hfrom
          obtain ⟨hrnd,c,hop,hcal⟩:=hfrom
          have hrd0:∀ {rd:Option Nat},(rd ≠ none→rnd = true)→rd = none:=fun hrd=>Classical.byContradiction fun hne=>by have:=hrd hne;rw [hrnd] at this;simp at this
          have hex:∀ (a:Act) (w:World),(execOp a.eval o).run P w = .ok .recover w:=fun a w=>by
            simp [execOp,hop,resolve,hcal,invoke,builtin]
          cases pan with
          | off =>
            have hb:putF (o.dst.map Slot.slot) .niliface tm (fun tm=>k tm ds .off h) = r:=hb;rw [putF_eq] at hb;refine .inl ⟨_,ds,.off,h,hb,⟨_,rfl⟩,fun kd rd hkd hrd B κ cs₀ a cs w s=>?_⟩;have hn:∀ fr:Frame,fr.kind = kd→tryRecover fr cs = none:=by
              cases s.hc with
              | same hn=>exact hn
              | done hk hm hg=>intro fr hfr;simp [tryRecover,hfr.trans hk]
            exact opTo_recoverNone ho (hw κ a s.ht) (by simp [hop]) (hrd0 hrd) (hex a w) hn ⟨κ,.refl s.hr,s.put hdst (by simp only [VR]),put_but ho rfl _⟩
          | on v =>
            have hb:putF (o.dst.map Slot.slot) v tm (fun tm=>k tm ds .off h) = r:=hb;rw [putF_eq] at hb;refine .inl ⟨_,ds,.off,h,hb,⟨_,rfl⟩,fun kd rd hkd hrd B κ cs₀ a cs w s=>?_⟩;obtain ⟨hr,ht,hd,hc,hB⟩:=s
            cases hc with
            | @on v v' older c cs hk hm hv hg =>
              refine opTo_recoverSome ho (hw κ a ht) (by simp [hop]) (hrd0 hrd) (hex a w) (v:=v') (cs':={ c with mode:=.panicking ({ v:=v',recovered:=true } :: older) } :: cs) (fun fr hfr=>by simp [tryRecover,hfr.trans hk,hm]) ⟨κ,.refl hr,?_⟩;have s':St P n B kd κ tm ds .off h (c :: cs) a ({ c with mode:=.panicking ({ v:=v',recovered:=true } :: older) } :: cs) w:=⟨hr,ht,hd,.done hk hm hg,hB⟩;exact ⟨s'.put hdst hv,put_but ho rfl _⟩
        | panic xo =>
          rw [hx] at hb hfrom
          obtain ⟨x,hxo,hop⟩:=hfrom
          have hb:withF xo tm (fun v=>isIface v (kp v tm ds pan h)) = r:=hb;obtain ⟨v,hv,hb⟩:=withF_val hb hr;obtain ⟨⟨t,u,rfl⟩,hb⟩:=isIface_val hb hr;refine .inr ⟨_,h,hb,fun kd rd hkd hrd B κ cs₀ a cs w s=>?_⟩;have hV:=opnd_ok s.ht hxo hv;have hV':=hV;simp only [VR] at hV';obtain ⟨v',e,hv'⟩:=hV';have hex:(execOp a.eval o).run P w = .halt (.panic (a.eval x)) w:=by
            rcases hop with hop | ⟨c,hop,hcal,hl⟩
            · simp only [execOp,hop,e,Sem.run_bind,run_panic_iface];rfl
            · have ha:(c.args.map a.eval).getD 0 .nilIface = .iface t v':=by rw [args_eq hl];simp [e]
              simp only [execOp,hop,resolve,hcal,Sem.run_bind,Sem.run_pure,Result.andThen_ok,invoke,builtin,ha,e,run_panic_iface];rfl
          refine opTo_panic ho (hw κ a s.ht) (by rcases hop with hop | ⟨c,hop,_⟩ <;> simp [hop]) hex ⟨rfl,κ,.refl s.hr,a.eval x,[],rfl,hV,by simp⟩
end
end Go.X
