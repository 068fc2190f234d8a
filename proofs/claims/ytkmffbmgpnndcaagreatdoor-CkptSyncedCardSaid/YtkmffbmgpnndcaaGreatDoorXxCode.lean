/- Code of X against the model's. -/
import Derived.Test.YtkmffbmgpnndcaaGreatDoorXxStep
namespace Go.X
open Go
section
variable {P:Program} {E:XEnv} {call:CallK} {n:Nat} {kd:CallKind}

def exitX:XExit→Exit
  | .normal=>.normal
  | .exit id=>.exit id
  | .ret=>.ret
inductive CRes where
  | exit (e:XExit) | pan (v:AV)
def CRes.k (k:KE) (kp:KP):CRes→KS
  | .exit e=>k e
  | .pan v=>kp v
def CRes.is (κ:Kp):CRes→Exit→Prop
  | .exit x,e=>e = exitX x
  | .pan v,e=>∃ chain,e = .panic chain∧ChainOK κ v chain
def CQ (P:Program) (n B:Nat) (kd:CallKind) (κ:Kp) (h:Heap) (w:World) (cs₀:List Frame) (res:CRes) (tm':Tm) (ds':List Dfd) (pan':Pan) (h':Heap):PostS:=fun e a' cs' w' =>
  False∨∃ κ',Ext P κ h w κ' h' w'∧St P n B kd κ' tm' ds' pan' h' cs₀ a' cs' w'∧res.is κ' e
def RL (κ:Kp):Option Pos→Option Nat→Prop
  | none,none=>True
  | some l,some b=>∃ x,κ.ρ l = some x∧x.b = b
  | _,_=>False
theorem RL.mono {κ κ':Kp} (hk:κ.le κ') {rl:Option Pos} {rd:Option Nat} (h:RL κ rl rd):RL κ' rl rd:=by
  cases rl <;> cases rd <;> first | exact h | exact let ⟨x,h1,h2⟩:=h;⟨x,hk.ρ _ _ h1,h2⟩
def CodeOK (P:Program) (n:Nat) (rnd:Bool) (rl:Option Pos) (c:Code) (tm:Tm) (ds:List Dfd) (pan:Pan) (h:Heap) (res:CRes) (tm':Tm) (ds':List Dfd) (pan':Pan) (h':Heap):Prop :=
  ∀ (kd:CallKind) (rd:Option Nat),kd ≠ .early→(rd ≠ none→rnd = true)→∀ B κ cs₀ a cs w,RL κ rl rd→St P n B kd κ tm ds pan h cs₀ a cs w→XW P rd kd c (CQ P n B kd κ h w cs₀ res tm' ds' pan' h') a cs w
def OpsOK (P:Program) (n:Nat) (rnd:Bool) (ops:Array Oper) (l:List Nat) (tm:Tm) (ds:List Dfd) (pan:Pan) (h:Heap) (res:CRes) (tm':Tm) (ds':List Dfd) (pan':Pan) (h':Heap):Prop :=
  ∀ (kd:CallKind) (rd:Option Nat),kd ≠ .early→(rd ≠ none→rnd = true)→∀ B κ cs₀ a cs w,St P n B kd κ tm ds pan h cs₀ a cs w→XOps P rd kd ops (CQ P n B kd κ h w cs₀ res tm' ds' pan' h') l a cs w

theorem CQ.ext {B:Nat} {κ κ₁:Kp} {h h₁:Heap} {w w₁:World} {cs₀:List Frame} {res:CRes} {tm':Tm} {ds':List Dfd} {pan':Pan} {h':Heap} (e:Ext P κ h w κ₁ h₁ w₁) {x:Exit} {a:Act} {cs:List Frame} {w':World}
    (q:CQ P n B kd κ₁ h₁ w₁ cs₀ res tm' ds' pan' h' x a cs w'):CQ P n B kd κ h w cs₀ res tm' ds' pan' h' x a cs w':=by
  rcases q with hno | ⟨κ',e',s,r⟩
  · exact hno.elim
  · exact .inr ⟨κ',e.trans e',s,r⟩
theorem XOps.mono {rd:Option Nat} {ops:Array Oper} {Q Q':PostS} (hq:∀ e a cs w,Q e a cs w→Q' e a cs w):∀ {l:List Nat} {a:Act} {cs:List Frame} {w:World},XOps P rd kd ops Q l a cs w→XOps P rd kd ops Q' l a cs w
  | [],_,_,_,h=>hq _ _ _ _ h
  | _ :: _,_,_,_,h=>OpTo.mono h (fun _ _ _ h=>XOps.mono hq h) (fun _ _ _ h=>hq _ _ _ _ h)

theorem opsF_ok (hE:EnvOK P E) (hcall:CallS P call) {rnd:Bool} {ops:Array Oper}:∀ (m j:Nat),j + m = ops.size→∀ {tm:Tm} {ds:List Dfd} {pan:Pan} {h:Heap} {k:KS} {kp:KP} {r:R},
    opsF E ((ops.toList.drop j).map (copOper P n rnd ops)) call tm ds pan h k kp = r→r ≠ .bad →
    ∃ res tm' ds' pan' h',CRes.k (fun e=>match e with | .normal=>k | _=>fun _ _ _ _=>.bad) kp res tm' ds' pan' h' = r∧(∀ x,res = .exit x→x = .normal)∧OpsOK P n rnd ops (List.range' j m) tm ds pan h res tm' ds' pan' h'
  | 0,j,hj,tm,ds,pan,h,k,kp,r,hrun,hr=>by
    have:ops.toList.drop j = []:=List.drop_eq_nil_of_le (by simp;omega);rw [this] at hrun;exact ⟨.exit .normal,tm,ds,pan,h,hrun,fun x hx=>by simpa using hx.symm,fun kd rd hkd hrd B κ cs₀ a cs w s=>.inr ⟨κ,.refl s.hr,s,rfl⟩⟩
  | m + 1,j,hj,tm,ds,pan,h,k,kp,r,hrun,hr=>by
    have hlt:j < ops.size:=by omega
    have hdrop:ops.toList.drop j = ops[j] :: ops.toList.drop (j + 1):=by
      rw [List.drop_eq_getElem_cons (by simpa using hlt)];simp
    rw [hdrop] at hrun;have hrun:xopF E (copOper P n rnd ops ops[j]) call tm ds pan h (fun tm ds pan h=>opsF E ((ops.toList.drop (j + 1)).map (copOper P n rnd ops)) call tm ds pan h k kp) kp = r:=hrun
    rcases xop_ok hE hcall (Array.getElem?_eq_getElem hlt) hrun hr with ⟨tm₁,ds₁,pan₁,h₁,hk,_,hok⟩ | ⟨v,h₁,hk,hok⟩
    · obtain ⟨res,tm',ds',pan',h',e1,e2,e3⟩:=opsF_ok hE hcall m (j + 1) (by omega) hk hr;refine ⟨res,tm',ds',pan',h',e1,e2,fun kd rd hkd hrd B κ cs₀ a cs w s=>?_⟩;rw [List.range'_succ];refine OpTo.mono (hok kd rd hkd hrd B κ cs₀ a cs w s) (fun a' cs' w' ⟨κ',hx,s',_⟩=>XOps.mono (fun _ _ _ _ q=>q.ext hx) (e3 kd rd hkd hrd B κ' cs₀ a' cs' w' s')) (fun _ _ _ q=>q.elim)
    · refine ⟨.pan v,tm,ds,pan,h₁,hk,fun x hx=>by simp at hx,fun kd rd hkd hrd B κ cs₀ a cs w s=>?_⟩;rw [List.range'_succ];refine OpTo.mono (hok kd rd hkd hrd B κ cs₀ a cs w s) (fun _ _ _ q=>q.elim) (fun chain cs' w' ⟨hcs,κ',hx,hc⟩=>?_);subst hcs;exact .inr ⟨κ',hx,s.ext hx,chain,rfl,hc⟩

def DrawS (P:Program) (E:XEnv) (call:CallK) (n:Nat):Prop:=∀ (rnd:Bool) (ops:Array Oper) (lp:Nat) (rl:Option Pos) (tm:Tm) (ds:List Dfd) (pan:Pan) (h:Heap) (k:KE) (kp:KP) (r:R),
  codeF E (copDraw P n rnd ops) call lp rl tm ds pan h k kp = r→r ≠ .bad→∃ res tm' ds' pan' h',res.k k kp tm' ds' pan' h' = r∧∀ t,OpsOK P n rnd ops (Region.schedule (P.follows .mixedOrders) ops t) tm ds pan h res tm' ds' pan' h'

/-! ### ranges over functions -/
theorem DR.lt {B:Nat} {κ:Kp} {h:Heap} {w:World} {ds:List Dfd} {l:List Deferred} (d:DR B κ h w ds l):∀ r,markD r ∈ l→r < w.heap.size:=by
  induction d with
  | nil=>simp
  | @mark ds l r hl hm hne ih =>
    intro q hq
    rcases List.mem_cons.1 hq with hq | hq
    · have:q = r:=by simpa [markD] using hq
      subst this;exact (Array.getElem?_eq_some_iff.1 hm.obj).1
    · exact ih q hq
  | cons hl ha hc ih =>
    intro q hq
    rcases List.mem_cons.1 hq with hq | hq
    · simp [markD] at hq
    · exact ih q hq
theorem Ext.ghost {κ:Kp} {h:Heap} {w:World} (hr:HR P κ h w) (o:Obj):Ext P κ h w κ h (World.new w o):=by
  have hold:∀ b,b < w.heap.size→(World.new w o).heap[b]? = w.heap[b]?:=fun b hb=>by
    simp only [World.new];rw [Array.getElem?_push,if_neg (by omega)]
  refine ⟨.refl κ,rfl,⟨fun p x e=>?_,hr.apart,fun b o e=>by rw [hold b (hr.frozen_lt e)];exact hr.frozen b o e,hr.off,hr.top,hr.clean⟩,Nat.le_refl _,by simp [World.new],fun b hb _=>hold b hb,fun p x hl _=>⟨p,x,hl,rfl⟩,fun p _ hp=>⟨hp,rfl⟩,rfl,rfl,rfl⟩
  by_cases hd:h.get p = .dead
  · rw [hd];trivial
  · exact OR.mono (.refl κ) (hold _ (hr.live_lt ⟨e,hd⟩)) (hr.obj p x e)
def loopOf (fid:FuncId) (tmps:Array Value) (ps:Array Tmp) (assign body:Code) (r:Nat):Loop:={ state:=.ready,pending:=none,fn:=fid,tmps,params:=ps,assign,body,defers:=r }
def rangeW (fid:FuncId) (a:Act) (ps:Array Tmp) (assign body:Code) (w:World):World:=World.new (World.new w (.deferred (some []))) (.loop (loopOf fid a.tmps ps assign body w.heap.size))
def rangeWR (fid:FuncId) (a:Act) (ps:Array Tmp) (assign body:Code) (r:Nat) (w:World):World:=World.new w (.loop (loopOf fid a.tmps ps assign body r))
theorem xw_range {Q:PostS} {a:Act} {cs:List Frame} {w:World} {rd:Option Nat} {g:Operand} {ps:Array Tmp} {assign body:Code} {f:FuncId} {F C:Array Value} {lb:Nat} {ms:List Deferred} {W:FuncId→World} (hv:a.eval g = .func (.func f) F C)
    (hen:∀ fid,(Instr.enterLoop fid a.tmps ps assign body rd).run P w = .ok (lb,ms) (W fid))
    (h:∀ fid,(∃ fn,P.funcs[fid]? = some fn)→(∃ fn c,P.funcs[f]? = some fn∧fn.body = some c∧fn.name ≠ "runtime.NumGoroutine")∧Calls P f (F++#[.func (.yield lb) #[] #[]]++C) (W fid) fun
      | .returned _,w₃=>∃ jump w₄,(Instr.endLoop lb).run P w₃ = .ok jump w₄∧(match jump with
        | none=>Q .normal { a with defers:=ms++a.defers } cs w₄
        | some c=>XW P rd kd c Q { a with defers:=ms++a.defers } cs w₄)
      | .panicked chain,w₃=>Q (.panic chain) { a with defers:=ms++a.defers } cs w₃
      | .outgrown,_=>False):XW P rd kd (.rangeFunc g ps assign body) Q a cs w:=by
  intro b k hb hk;obtain ⟨⟨fn,c,h1,h2,h3⟩,hcall⟩:=h b.fn hb.2;have he:(Instr.enterLoop b.fn a.tmps ps assign body b.roundOf).run P w = .ok (lb,ms) (W b.fn):=by rw [hb.1];exact hen _
  have henter:step P (lone (b.atR a (.code (.rangeFunc g ps assign body) :: k)) cs w) =
      .next (lone (Frame.enter P f (F++#[.func (.yield lb) #[] #[]]++C) .normal) (b.atR { a with defers:=ms++a.defers } (.inRangeFunc lb :: k) :: cs) (W b.fn)) :=
    step_lone_go (by
      have hev:=Frame.eval_atR b { a with defers:=ms++a.defers } (.inRangeFunc lb :: k);simp only [Frame.atR] at hev;have hvv:({ tmps:=a.tmps,defers:=ms++a.defers }:Act).eval g = .func (.func f) F C:=hv;have hinv:=invoke_func (_F:=#[]) (_C:=#[]) (args:=F++#[.func (.yield lb) #[] #[]]++C) h1 h2 h3 (w:=W b.fn);have hinv2:(callFunc f (F.push (.func (.yield lb) #[] #[])++C)).run P (W b.fn) = .ok (.enter f (F.push (.func (.yield lb) #[] #[])++C)) (W b.fn):=by simpa using hinv
      have hc0:({ tmps:=a.tmps,defers:=ms++a.defers }:Act).eval (.const (.func (.yield lb) #[] #[])) = .func (.yield lb) #[] #[]:=rfl;simp [stepG,stepG.exec,Frame.atR,Sem.runT_eq,he,GStep.bare_after,stepG.apply,hev,resolve,hvv,hc0,Deferred.ofValue,invoke,hinv2])
  obtain ⟨e,w₃,fr,hR,hsteps,hfn,hleave⟩:=hcall (b.atR { a with defers:=ms++a.defers } (.inRangeFunc lb :: k) :: cs)
  cases e with
  | outgrown=>exact hR.elim
  | returned v =>
    obtain ⟨jump,w₄,hend,hj⟩:=hR;have sback:ST P (lone (b.atR a (.code (.rangeFunc g ps assign body) :: k)) cs w) (lone (b.atR { a with defers:=ms++a.defers } ((jump.map Item.code).toList++k)) cs w₄):=by
      have s1:step P (lone fr (b.atR { a with defers:=ms++a.defers } (.inRangeFunc lb :: k) :: cs) w₃) = .next (lone (b.atR { a with defers:=ms++a.defers } (.endRangeFunc lb :: k)) cs w₃):=by
        have:(b.atR { a with defers:=ms++a.defers } (.inRangeFunc lb :: k)).finish v = b.atR { a with defers:=ms++a.defers } (.endRangeFunc lb :: k):=by simp [Frame.finish,Frame.atR]
        rw [← this];exact step_leave_returned hleave
      have s2:step P (lone (b.atR { a with defers:=ms++a.defers } (.endRangeFunc lb :: k)) cs w₃) = .next (lone (b.atR { a with defers:=ms++a.defers } ((jump.map Item.code).toList++k)) cs w₄) :=
        step_lone_go (by simp [stepG,stepG.exec,Frame.atR,Sem.runT_eq,hend,GStep.bare_after])
      exact .head trivial henter (StepsIn.trans (ST.of hsteps) (.head trivial s1 (ST.one s2)))
    cases jump with
    | none=>exact ⟨.normal,_,cs,w₄,hj,sback⟩
    | some c =>
      obtain ⟨e',a'',cs'',w₅,hq,harr⟩:=hj b k hb hk;exact ⟨e',a'',cs'',w₅,hq,.of sback harr⟩
  | panicked chain =>
    refine ⟨.panic chain,_,cs,w₃,hR,.inRangeFunc lb :: k,.head trivial henter (StepsIn.trans (ST.of hsteps) (ST.one ?_))⟩;rw [← Frame.raise_atR];exact step_leave_panicked hleave
theorem run_enterLoop_none (fid:FuncId) (a:Act) (ps:Array Tmp) (assign body:Code) (w:World):(Instr.enterLoop fid a.tmps ps assign body none).run P w = .ok (w.heap.size + 1,[markD w.heap.size]) (rangeW fid a ps assign body w):=by
  simp [Instr.enterLoop,newObj,Sem.run_bind,Sem.run,rangeW,World.new,loopOf,markD,Result.andThen]
theorem run_enterLoop_some (fid:FuncId) (a:Act) (ps:Array Tmp) (assign body:Code) {w:World} {b:Nat} {L:Loop} (hl:w.heap[b]? = some (.loop L)):(Instr.enterLoop fid a.tmps ps assign body (some b)).run P w = .ok (w.heap.size,[]) (rangeWR fid a ps assign body L.defers w):=by
  simp [Instr.enterLoop,newObj,Instr.getLoop,getObj,hl,Sem.run_bind,Sem.run,rangeWR,World.new,loopOf,Result.andThen]
end
end Go.X

/- Code of X against the model's: all code. -/
namespace Go.X
open Go
section
variable {P:Program} {E:XEnv} {call:CallK} {n:Nat}

theorem badCode_run {lp:Nat} {rl:Option Pos} {tm:Tm} {ds:List Dfd} {pan:Pan} {h:Heap} {k:KE} {kp:KP}:codeF E badCode call lp rl tm ds pan h k kp = .bad:=rfl
theorem range'_all (ops:Array Oper):List.range ops.size = List.range' 0 ops.size:=List.range_eq_range'
theorem run_endLoop {l:Nat} {w:World} {L:Loop} (hl:w.heap[l]? = some (.loop L)) (hs:L.state ≠ .busy):(Instr.endLoop l).run P w = .ok L.pending (World.put w l (.loop { L with state:=.exhausted })):=by
  simp [Instr.endLoop,Instr.getLoop,getObj,setObj,Sem.run_bind,Sem.run,hl,hs,Result.andThen,World.put]
theorem loopF_val {ob:AObj} {k:LoopState→XExit→Tm→List Slot→Nat→Code→Code→R} {r:R} (h:loopF ob k = r) (hr:r ≠ .bad):∃ st e tm ps n as bd,ob = .loop st e tm ps n as bd∧k st e tm ps n as bd = r:=by
  cases ob <;> first | exact absurd h.symm hr | exact ⟨_,_,_,_,_,_,_,rfl,h⟩
theorem aroundF_val {rl:Option Pos} {h:Heap} {k r:R} (hrun:aroundF rl h k = r) (hr:r ≠ .bad):(∀ l,rl = some l→∃ st e tm ps n as bd,h.get l = .loop st e tm ps n as bd)∧k = r:=by
  cases rl with
  | none=>exact ⟨by simp,hrun⟩
  | some l =>
    have hrun:hget h l (fun ob=>loopF ob fun _ _ _ _ _ _ _=>k) = r:=hrun;rw [hget_eq] at hrun;obtain ⟨st,e,tm,ps,n,as,bd,hob,hk⟩:=loopF_val hrun hr;refine ⟨fun l' hl'=>?_,hk⟩;rw [sJ] at hl';subst hl';exact ⟨st,e,tm,ps,n,as,bd,hob⟩
theorem iter_ok {c:Code} {rnd:Bool} {lp:Nat} {rl:Option Pos} (ih:∀ (tm:Tm) (ds:List Dfd) (pan:Pan) (h:Heap) (k:KE) (kp:KP) (r:R),codeF E (cop P n rnd c) call lp rl tm ds pan h k kp = r→r ≠ .bad →
      ∃ res tm' ds' pan' h',res.k k kp tm' ds' pan' h' = r∧CodeOK P n rnd rl c tm ds pan h res tm' ds' pan' h'):∀ (m:Nat) (tm:Tm) (ds:List Dfd) (pan:Pan) (h:Heap) (k:KE) (kp:KP) (r:R),
    iterF (codeF E (cop P n rnd c) call lp rl) m tm ds pan h k kp = r→r ≠ .bad →
    ∃ res tm' ds' pan' h',res.k k kp tm' ds' pan' h' = r∧∀ (kd:CallKind) (rd:Option Nat),kd ≠ .early→(rd ≠ none→rnd = true)→∀ B κ cs₀ a cs w,RL κ rl rd→St P n B kd κ tm ds pan h cs₀ a cs w→XL P rd kd c (CQ P n B kd κ h w cs₀ res tm' ds' pan' h') a cs w
  | 0,tm,ds,pan,h,k,kp,r,hrun,hr=>absurd hrun.symm hr
  | m + 1,tm,ds,pan,h,k,kp,r,hrun,hr=>by
    have hrun:codeF E (cop P n rnd c) call lp rl tm ds pan h (seqE (fun tm ds pan h=>iterF (codeF E (cop P n rnd c) call lp rl) m tm ds pan h k kp) k) kp = r:=hrun;obtain ⟨res,tm₁,ds₁,pan₁,h₁,hk,hok⟩:=ih _ _ _ _ _ _ _ hrun hr
    cases res with
    | pan v =>
      refine ⟨.pan v,tm₁,ds₁,pan₁,h₁,hk,fun kd rd hkd hrd B κ cs₀ a cs w hl s=>xl_round ((hok kd rd hkd hrd B κ cs₀ a cs w hl s).mono fun e a' cs' w' q=>?_)⟩
      rcases q with hno | ⟨κ',hx,s',ch,rfl,hc⟩
      · exact hno.elim
      · exact .inr ⟨κ',hx,s',ch,rfl,hc⟩
    | exit x =>
      cases x with
      | normal =>
        obtain ⟨res,tm',ds',pan',h',hk',hok'⟩:=iter_ok ih m tm₁ ds₁ pan₁ h₁ k kp r hk hr;refine ⟨res,tm',ds',pan',h',hk',fun kd rd hkd hrd B κ cs₀ a cs w hl s=>xl_round ((hok kd rd hkd hrd B κ cs₀ a cs w hl s).mono fun e a' cs' w' q=>?_)⟩
        rcases q with hno | ⟨κ',hx,s',rfl⟩
        · exact hno.elim
        · show XL _ _ _ _ _ _ _ _;intro b kk hb hkk;obtain ⟨e,a₂,cs₂,w₂,q,r⟩:=hok' kd rd hkd hrd B κ' cs₀ a' cs' w' (hl.mono hx.le) s' b kk hb hkk;exact ⟨e,a₂,cs₂,w₂,q.ext hx,r⟩
      | exit id =>
        refine ⟨.exit (.exit id),tm₁,ds₁,pan₁,h₁,hk,fun kd rd hkd hrd B κ cs₀ a cs w hl s=>xl_round ((hok kd rd hkd hrd B κ cs₀ a cs w hl s).mono fun e a' cs' w' q=>?_)⟩
        rcases q with hno | ⟨κ',hx,s',rfl⟩
        · exact hno.elim
        · exact .inr ⟨κ',hx,s',rfl⟩
      | ret =>
        refine ⟨.exit .ret,tm₁,ds₁,pan₁,h₁,hk,fun kd rd hkd hrd B κ cs₀ a cs w hl s=>xl_round ((hok kd rd hkd hrd B κ cs₀ a cs w hl s).mono fun e a' cs' w' q=>?_)⟩
        rcases q with hno | ⟨κ',hx,s',rfl⟩
        · exact hno.elim
        · exact .inr ⟨κ',hx,s',rfl⟩

theorem range_ok (hcall:CallS P call) {g:Operand} {ps:Array Tmp} {as bd:Code} {rnd:Bool} {rl:Option Pos} {go:XO} (hg:opnd g = some go) (hps:ps.toList.any (Nat.ble n ·) = false) {tm:Tm} {ds:List Dfd} {pan:Pan} {h:Heap} {k:KE} {kp:KP} {r:R}
    (hrun:aroundF rl h (rangeF go (ps.toList.map .slot) n as bd call tm ds pan h k kp) = r) (hr:r ≠ .bad) :
    ∃ res tm' ds' pan' h',res.k k kp tm' ds' pan' h' = r∧CodeOK P n rnd rl (.rangeFunc g ps as bd) tm ds pan h res tm' ds' pan' h':=by
  obtain ⟨hloop,hrun⟩:=aroundF_val hrun hr;obtain ⟨fv,hfv,hrun⟩:=withF_val hrun hr;obtain ⟨⟨f,first,cap,rfl⟩,hrun⟩:=isFunc_val hrun hr;rw [hpush_eq] at hrun;obtain ⟨res,pan₁,h₁,hk,hok⟩:=hcall _ _ _ _ _ _ _ hrun hr
  -- the state behind the statement's begin
  have alloc_:∀ {kd:CallKind} {B:Nat} {κ κ₁:Kp} {cs₀:List Frame} {a:Act} {cs:List Frame} {w w₁:World},St P n B kd κ tm ds pan h cs₀ a cs w→Ext P κ h w κ₁ h w₁→∀ fid,(∃ fn,P.funcs[fid]? = some fn)→∀ r,
      Ext P κ₁ h w₁ (κ₁.at h.next ⟨w₁.heap.size,0,0⟩) (h.push (.loop .ready .normal tm (ps.toList.map .slot) n as bd)) (rangeWR fid a ps as bd r w₁):=by
    intro kd B κ κ₁ cs₀ a cs w w₁ s e1 fid hfid r;exact Ext.alloc e1.hr (.loop .ready .normal tm (ps.toList.map .slot) n as bd) (.loop (loopOf fid a.tmps ps as bd r)) 0
      ⟨loopOf fid a.tmps ps as bd r,by rw [new_heap_same],rfl,rfl,rfl,fun t ht=>by
        have:=List.any_eq_false.1 hps t ht;exact Nat.lt_of_not_le fun hle=>this (Nat.ble_eq_true_of_le hle),rfl,rfl,s.ht.mono (e1.le.trans (Kp.at_le e1.hr.next_none)),hfid⟩
  have begin_:∀ {kd:CallKind} {rd:Option Nat} {B:Nat} {κ:Kp} {cs₀:List Frame} {a:Act} {cs:List Frame} {w:World},RL κ rl rd→St P n B kd κ tm ds pan h cs₀ a cs w →
      ∃ F C lb ms,∃ W:FuncId→World,a.eval g = .func (.func f) F C∧(∀ fid,(Instr.enterLoop fid a.tmps ps as bd rd).run P w = .ok (lb,ms) (W fid))∧∀ fid,(∃ fn,P.funcs[fid]? = some fn) →
        VRl (κ.at h.next ⟨lb,0,0⟩) (first++[AV.yield h.next]++cap) (F++#[Value.func (.yield lb) #[] #[]]++C).toList ∧
        Ext P κ h w (κ.at h.next ⟨lb,0,0⟩) (h.push (.loop .ready .normal tm (ps.toList.map .slot) n as bd)) (W fid) ∧
        St P n B kd (κ.at h.next ⟨lb,0,0⟩) tm ds pan (h.push (.loop .ready .normal tm (ps.toList.map .slot) n as bd)) cs₀ { a with defers:=ms++a.defers } cs (W fid):=by
    intro kd rd B κ cs₀ a cs w hl s;have hV:=opnd_ok s.ht hg hfv;simp only [VR] at hV;obtain ⟨F,C,hV,hF,hC⟩:=hV;have args_:∀ lb,VRl (κ.at h.next ⟨lb,0,0⟩) (first++[AV.yield h.next]++cap) (F++#[Value.func (.yield lb) #[] #[]]++C).toList:=by
      intro lb;have hle:=Kp.at_le (x:=⟨lb,0,0⟩) s.hr.next_none;have hy:VR (κ.at h.next ⟨lb,0,0⟩) (.yield h.next) (.func (.yield lb) #[] #[]):=by
        simp only [VR];exact ⟨_,Kp.at_same _ _ _,rfl⟩
      have h1:VRl (κ.at h.next ⟨lb,0,0⟩) [AV.yield h.next] [.func (.yield lb) #[] #[]]:=by simp only [VRl];exact ⟨_,_,rfl,hy,rfl⟩
      simpa using ((VRl.mono hle _ _ hF).append h1).append (VRl.mono hle _ _ hC)
    cases rd with
    | none =>
      refine ⟨F,C,w.heap.size + 1,[markD w.heap.size],fun fid=>rangeW fid a ps as bd w,hV,fun fid=>run_enterLoop_none fid a ps as bd w,fun fid hfid=>?_⟩;have e1:=Ext.ghost s.hr (.deferred (some []));have hsz:(World.new w (.deferred (some []))).heap.size = w.heap.size + 1:=by simp [World.new]
      have e2:=alloc_ s e1 fid hfid w.heap.size;rw [hsz] at e2;have ee:=e1.trans e2;refine ⟨args_ _,ee,?_⟩;have hm:Mark B κ h (World.new w (.deferred (some []))) w.heap.size:=by
        refine ⟨s.hB,new_heap_same _ _,?_,fun p x hl hx=>?_⟩
        · cases hM:κ.M w.heap.size with
          | none=>rfl
          | some o=>have:=s.hr.frozen_lt hM;omega
        · have:=s.hr.live_lt hl;omega
      refine ⟨ee.hr,s.ht.mono ee.le,.mark (s.hd.ext ee) (hm.ext e2) fun hmem=>?_,s.hc.mono ee.le,Nat.le_trans s.hB ee.size⟩;have:=s.hd.lt _ hmem;omega
    | some b =>
      cases rl with
      | none=>exact hl.elim
      | some l =>
        obtain ⟨x,hx,rfl⟩:=hl;obtain ⟨L,hL⟩:∃ L:Loop,w.heap[x.b]? = some (.loop L):=by
          have ho:=s.hr.obj _ _ hx;obtain ⟨st,e,tm',ps',n',as',bd',hg'⟩:=hloop l rfl;rw [hg'] at ho;obtain ⟨L,o1,_⟩:=ho;exact ⟨L,o1⟩
        refine ⟨F,C,w.heap.size,[],fun fid=>rangeWR fid a ps as bd L.defers w,hV,fun fid=>run_enterLoop_some fid a ps as bd hL,fun fid hfid=>?_⟩;have e2:=alloc_ s (.refl s.hr) fid hfid L.defers;exact ⟨args_ _,e2,s.ext e2⟩
  cases res with
  | pan v =>
    have hk:kp v tm ds pan h₁ = r:=hk;refine ⟨.pan v,tm,ds,pan,h₁,hk,fun kd rd hkd hrd B κ cs₀ a cs w hl s=>?_⟩;obtain ⟨F,C,lb,ms,W,hV,hen,hW⟩:=begin_ hl s;refine xw_range hV hen fun fid hfid=>?_
    obtain ⟨hA,ee,s'⟩:=hW fid hfid;have hf:=hok.func _ _ ee.hr f first cap rfl _ hA;refine ⟨hf.is,(hf.calls rfl).mono fun e w' q=>?_⟩
    rcases q with hno | ⟨κ',he,hx⟩
    · exact hno.elim
    · cases e with
      | returned v'=>exact he.elim
      | panicked ch=>exact .inr ⟨κ',ee.trans hx,s'.ext hx,ch,rfl,he⟩
      | outgrown=>exact he.elim
  | ret v =>
    have hk:hget h₁ h.next (fun ob=>loopF ob fun st e tm' ps n as bd =>
      LoopState.rec (motive:=fun _=>R) (hset h₁ h.next (.loop .exhausted e tm' ps n as bd) fun h=>k e tm ds pan h) .bad (hset h₁ h.next (.loop .exhausted e tm' ps n as bd) fun h=>k e tm ds pan h) (hset h₁ h.next (.loop .exhausted e tm' ps n as bd) fun h=>k e tm ds pan h) st) = r:=hk
    rw [hget_eq] at hk;obtain ⟨st,x,tm₂,ps₂,n₂,as₂,bd₂,hob,hk⟩:=loopF_val hk hr;simp only [hset_eq] at hk;have hst:st ≠ .busy∧k x tm ds pan (h₁.set h.next (.loop .exhausted x tm₂ ps₂ n₂ as₂ bd₂)) = r:=by
      cases st <;> first | exact ⟨by simp,hk⟩ | exact absurd hk.symm hr
    obtain ⟨hst,hk⟩:=hst;refine ⟨.exit x,tm,ds,pan,_,hk,fun kd rd hkd hrd B κ cs₀ a cs w hl s=>?_⟩;obtain ⟨F,C,lb,ms,W,hV,hen,hW⟩:=begin_ hl s;refine xw_range hV hen fun fid hfid=>?_
    obtain ⟨hA,ee,s'⟩:=hW fid hfid;have hf:=hok.func _ _ ee.hr f first cap rfl _ hA;refine ⟨hf.is,(hf.calls rfl).mono fun e w' q=>?_⟩
    rcases q with hno | ⟨κ',he,hx⟩
    · exact hno.elim
    · cases e with
      | panicked ch=>exact he.elim
      | outgrown=>exact he.elim
      | returned v' =>
        have hρ:κ'.ρ h.next = some ⟨lb,0,0⟩:=hx.le.ρ _ _ (Kp.at_same _ _ _);have ho:=hx.hr.obj _ _ hρ;rw [hob] at ho;obtain ⟨L,o1,o2,o3,o4,o5,o6,o7,o8⟩:=ho;have hlive:Live κ' h₁ h.next ⟨lb,0,0⟩:=⟨hρ,by rw [hob];simp⟩;have hu:=Ext.update hx.hr hlive (.loop .exhausted x tm₂ ps₂ n₂ as₂ bd₂) (.loop { L with state:=.exhausted })
          ⟨{ L with state:=.exhausted },by
            have hlt:=hx.hr.live_lt hlive;simp only [World.put];rw [Array.getElem?_setIfInBounds_self,if_pos hlt],rfl,o3,o4,o5,o6,o7,o8⟩
        have sfin:=(s'.ext hx).ext hu;refine ⟨_,_,run_endLoop o1 (by rw [o2];exact hst),?_⟩;have q:CQ P n B kd κ h w cs₀ (.exit x) tm ds pan _ (exitX x) _ _ _:=.inr ⟨κ',(ee.trans hx).trans hu,sfin,rfl⟩;dsimp only at q ⊢
        generalize World.put w' lb _ = W at q ⊢
        rw [o3]
        cases x with
        | normal=>exact q
        | exit id=>exact xw_exit q
        | ret=>exact xw_ret q

theorem code_ok (hE:EnvOK P E) (hcall:CallS P call) (hdraw:DrawS P E call n) {lp:Nat} {rl:Option Pos}:∀ (c:Code) (rnd:Bool) (tm:Tm) (ds:List Dfd) (pan:Pan) (h:Heap) (k:KE) (kp:KP) (r:R),
    codeF E (cop P n rnd c) call lp rl tm ds pan h k kp = r→r ≠ .bad→∃ res tm' ds' pan' h',res.k k kp tm' ds' pan' h' = r∧CodeOK P n rnd rl c tm ds pan h res tm' ds' pan' h':=by
  intro c
  induction c with
  | skip =>
    intro rnd tm ds pan h k kp r hrun hr;exact ⟨.exit .normal,tm,ds,pan,h,by cases rnd <;> exact hrun,fun kd rd hkd hrd B κ cs₀ a cs w hl s=>xw_skip (.inr ⟨κ,.refl s.hr,s,rfl⟩)⟩
  | exit id =>
    intro rnd tm ds pan h k kp r hrun hr;exact ⟨.exit (.exit id),tm,ds,pan,h,by cases rnd <;> exact hrun,fun kd rd hkd hrd B κ cs₀ a cs w hl s=>xw_exit (.inr ⟨κ,.refl s.hr,s,rfl⟩)⟩
  | ret =>
    intro rnd tm ds pan h k kp r hrun hr;exact ⟨.exit .ret,tm,ds,pan,h,by cases rnd <;> exact hrun,fun kd rd hkd hrd B κ cs₀ a cs w hl s=>xw_ret (.inr ⟨κ,.refl s.hr,s,rfl⟩)⟩
  | region id ops draw =>
    intro rnd tm ds pan h k kp r hrun hr
    cases draw with
    | false =>
      have hrun:opsF E ((ops.toList.drop 0).map (copOper P n rnd ops)) call tm ds pan h (k .normal) kp = r:=by cases rnd <;> exact hrun
      obtain ⟨res,tm',ds',pan',h',e1,e2,e3⟩:=opsF_ok hE hcall ops.size 0 (by simp) hrun hr;refine ⟨res,tm',ds',pan',h',?_,fun kd rd hkd hrd B κ cs₀ a cs w hl s=>xw_region ?_⟩
      · cases res with
        | exit x=>have:=e2 x rfl;subst this;exact e1
        | pan v=>exact e1
      · rw [range'_all];exact e3 kd rd hkd hrd B κ cs₀ a cs w s
    | true =>
      have hrun:codeF E (copDraw P n rnd ops) call lp rl tm ds pan h k kp = r:=by cases rnd <;> exact hrun
      obtain ⟨res,tm',ds',pan',h',e1,e2⟩:=hdraw rnd ops lp rl tm ds pan h k kp r hrun hr;refine ⟨res,tm',ds',pan',h',e1,fun kd rd hkd hrd B κ cs₀ a cs w hl s=>xw_region_draw fun t=>?_⟩;have hd:=Ext.draw s.hr;exact XOps.mono (fun _ _ _ _ q=>q.ext hd) (e2 t kd rd hkd hrd B κ cs₀ a cs _ (s.ext hd))
  | seq x y ihx ihy =>
    intro rnd tm ds pan h k kp r hrun hr;have hrun:codeF E (cop P n rnd x) call lp rl tm ds pan h (seqE (fun tm ds pan h=>codeF E (cop P n rnd y) call lp rl tm ds pan h k kp) k) kp = r:=by cases rnd <;> exact hrun
    obtain ⟨res,tm₁,ds₁,pan₁,h₁,hk,hok⟩:=ihx rnd _ _ _ _ _ _ _ hrun hr
    cases res with
    | pan v =>
      refine ⟨.pan v,tm₁,ds₁,pan₁,h₁,hk,fun kd rd hkd hrd B κ cs₀ a cs w hl s=>xw_seq ((hok kd rd hkd hrd B κ cs₀ a cs w hl s).mono fun e a' cs' w' q=>?_)⟩
      rcases q with hno | ⟨κ',hx,s',ch,rfl,hc⟩
      · exact hno.elim
      · exact .inr ⟨κ',hx,s',ch,rfl,hc⟩
    | exit e =>
      cases e with
      | normal =>
        obtain ⟨res,tm',ds',pan',h',hk',hok'⟩:=ihy rnd tm₁ ds₁ pan₁ h₁ k kp r hk hr;refine ⟨res,tm',ds',pan',h',hk',fun kd rd hkd hrd B κ cs₀ a cs w hl s=>xw_seq ((hok kd rd hkd hrd B κ cs₀ a cs w hl s).mono fun e a' cs' w' q=>?_)⟩
        rcases q with hno | ⟨κ',hx,s',rfl⟩
        · exact hno.elim
        · exact (hok' kd rd hkd hrd B κ' cs₀ a' cs' w' (hl.mono hx.le) s').mono fun _ _ _ _ q=>q.ext hx
      | exit id =>
        refine ⟨.exit (.exit id),tm₁,ds₁,pan₁,h₁,hk,fun kd rd hkd hrd B κ cs₀ a cs w hl s=>xw_seq ((hok kd rd hkd hrd B κ cs₀ a cs w hl s).mono fun e a' cs' w' q=>?_)⟩
        rcases q with hno | ⟨κ',hx,s',rfl⟩
        · exact hno.elim
        · exact .inr ⟨κ',hx,s',rfl⟩
      | ret =>
        refine ⟨.exit .ret,tm₁,ds₁,pan₁,h₁,hk,fun kd rd hkd hrd B κ cs₀ a cs w hl s=>xw_seq ((hok kd rd hkd hrd B κ cs₀ a cs w hl s).mono fun e a' cs' w' q=>?_)⟩
        rcases q with hno | ⟨κ',hx,s',rfl⟩
        · exact hno.elim
        · exact .inr ⟨κ',hx,s',rfl⟩
  | cond c x y ihx ihy =>
    intro rnd tm ds pan h k kp r hrun hr
    cases hc:opnd c with
    | none =>
      have:cop P n rnd (.cond c x y) = badCode:=by cases rnd <;> simp only [cop,hc]
      rw [this,badCode_run] at hrun;exact absurd hrun.symm hr
    | some co =>
      have:cop P n rnd (.cond c x y) = .cond co (cop P n rnd x) (cop P n rnd y):=by cases rnd <;> simp only [cop,hc]
      rw [this] at hrun;have hrun:withF co tm (fun v=>kBool v fun b=>Bool.rec (motive:=fun _=>R) (codeF E (cop P n rnd y) call lp rl tm ds pan h k kp) (codeF E (cop P n rnd x) call lp rl tm ds pan h k kp) b) = r:=hrun;obtain ⟨v,hv,hrun⟩:=withF_val hrun hr;obtain ⟨b,rfl,hrun⟩:=kBool_val hrun hr
      cases b with
      | true =>
        obtain ⟨res,tm',ds',pan',h',hk,hok⟩:=ihx rnd _ _ _ _ _ _ _ hrun hr;refine ⟨res,tm',ds',pan',h',hk,fun kd rd hkd hrd B κ cs₀ a cs w hl s=>?_⟩;have hV:=opnd_ok s.ht hc hv;simp only [VR] at hV;exact xw_cond (t:=true) hV (hok kd rd hkd hrd B κ cs₀ a cs w hl s)
      | false =>
        obtain ⟨res,tm',ds',pan',h',hk,hok⟩:=ihy rnd _ _ _ _ _ _ _ hrun hr;refine ⟨res,tm',ds',pan',h',hk,fun kd rd hkd hrd B κ cs₀ a cs w hl s=>?_⟩;have hV:=opnd_ok s.ht hc hv;simp only [VR] at hV;exact xw_cond (t:=false) hV (hok kd rd hkd hrd B κ cs₀ a cs w hl s)
  | block id x ih =>
    intro rnd tm ds pan h k kp r hrun hr;have hrun:codeF E (cop P n rnd x) call lp rl tm ds pan h (blockE id k) kp = r:=by cases rnd <;> exact hrun
    obtain ⟨res,tm₁,ds₁,pan₁,h₁,hk,hok⟩:=ih rnd _ _ _ _ _ _ _ hrun hr
    cases res with
    | pan v =>
      refine ⟨.pan v,tm₁,ds₁,pan₁,h₁,hk,fun kd rd hkd hrd B κ cs₀ a cs w hl s=>xw_block ((hok kd rd hkd hrd B κ cs₀ a cs w hl s).mono fun e a' cs' w' q=>?_)⟩
      rcases q with hno | ⟨κ',hx,s',ch,rfl,hc⟩
      · exact hno.elim
      · exact .inr ⟨κ',hx,s',ch,rfl,hc⟩
    | exit e =>
      cases e with
      | normal =>
        refine ⟨.exit .normal,tm₁,ds₁,pan₁,h₁,hk,fun kd rd hkd hrd B κ cs₀ a cs w hl s=>xw_block ((hok kd rd hkd hrd B κ cs₀ a cs w hl s).mono fun e a' cs' w' q=>?_)⟩
        rcases q with hno | ⟨κ',hx,s',rfl⟩
        · exact hno.elim
        · exact .inr ⟨κ',hx,s',rfl⟩
      | ret =>
        refine ⟨.exit .ret,tm₁,ds₁,pan₁,h₁,hk,fun kd rd hkd hrd B κ cs₀ a cs w hl s=>xw_block ((hok kd rd hkd hrd B κ cs₀ a cs w hl s).mono fun e a' cs' w' q=>?_)⟩
        rcases q with hno | ⟨κ',hx,s',rfl⟩
        · exact hno.elim
        · exact .inr ⟨κ',hx,s',rfl⟩
      | exit i =>
        have hk:Bool.rec (motive:=fun _=>KS) (k (.exit i)) (k .normal) (Nat.beq i id) tm₁ ds₁ pan₁ h₁ = r:=hk
        cases hi:Nat.beq i id with
        | true =>
          rw [hi] at hk;have hi:=Nat.eq_of_beq_eq_true hi;refine ⟨.exit .normal,tm₁,ds₁,pan₁,h₁,hk,fun kd rd hkd hrd B κ cs₀ a cs w hl s=>xw_block ((hok kd rd hkd hrd B κ cs₀ a cs w hl s).mono fun e a' cs' w' q=>?_)⟩
          rcases q with hno | ⟨κ',hx,s',rfl⟩
          · exact hno.elim
          · simp only [exitX,blockX,hi,if_true];exact .inr ⟨κ',hx,s',rfl⟩
        | false =>
          rw [hi] at hk;have hi:i ≠ id:=Nat.ne_of_beq_eq_false hi;refine ⟨.exit (.exit i),tm₁,ds₁,pan₁,h₁,hk,fun kd rd hkd hrd B κ cs₀ a cs w hl s=>xw_block ((hok kd rd hkd hrd B κ cs₀ a cs w hl s).mono fun e a' cs' w' q=>?_)⟩
          rcases q with hno | ⟨κ',hx,s',rfl⟩
          · exact hno.elim
          · simp only [exitX,blockX,hi,if_false];exact .inr ⟨κ',hx,s',rfl⟩
  | loop x ih =>
    intro rnd tm ds pan h k kp r hrun hr;have hrun:iterF (codeF E (cop P n rnd x) call lp rl) lp tm ds pan h k kp = r:=by cases rnd <;> exact hrun
    obtain ⟨res,tm',ds',pan',h',hk,hok⟩:=iter_ok (ih rnd) lp tm ds pan h k kp r hrun hr;exact ⟨res,tm',ds',pan',h',hk,fun kd rd hkd hrd B κ cs₀ a cs w hl s=>xw_loop (hok kd rd hkd hrd B κ cs₀ a cs w hl s)⟩
  | rangeFunc g ps x y ihx ihy =>
    intro rnd tm ds pan h k kp r hrun hr
    cases hg:opnd g with
    | none =>
      have:cop P n rnd (.rangeFunc g ps x y) = badCode:=by cases rnd <;> simp only [cop,hg]
      rw [this,badCode_run] at hrun;exact absurd hrun.symm hr
    | some go =>
      cases hps:ps.toList.any (Nat.ble n ·) with
      | true =>
        have:cop P n rnd (.rangeFunc g ps x y) = badCode:=by cases rnd <;> simp only [cop,hg,hps]
        rw [this,badCode_run] at hrun;exact absurd hrun.symm hr
      | false =>
        have:cop P n rnd (.rangeFunc g ps x y) = .rfunc go (ps.toList.map .slot) n x y:=by cases rnd <;> simp only [cop,hg,hps]
        rw [this] at hrun;exact range_ok hcall hg hps hrun hr
  | label l =>
    intro rnd tm ds pan h k kp r hrun hr;exact ⟨.exit .normal,tm,ds,pan,h,by cases rnd <;> exact hrun,fun kd rd hkd hrd B κ cs₀ a cs w hl s=>xw_label (.inr ⟨κ,.refl s.hr,s,rfl⟩)⟩
  | scope x ih =>
    intro rnd tm ds pan h k kp r hrun hr;have hrun:codeF E (cop P n rnd x) call lp rl tm ds pan h k kp = r:=by cases rnd <;> exact hrun
    obtain ⟨res,tm',ds',pan',h',hk,hok⟩:=ih rnd _ _ _ _ _ _ _ hrun hr;refine ⟨res,tm',ds',pan',h',hk,fun kd rd hkd hrd B κ cs₀ a cs w hl s=>xw_scope (fun l a cs w q=>?_) (hok kd rd hkd hrd B κ cs₀ a cs w hl s)⟩
    rcases q with hno | ⟨κ',_,_,his⟩
    · exact hno
    · cases res with
      | exit x=>cases x <;> simp [CRes.is,exitX] at his
      | pan v=>obtain ⟨ch,h1,_⟩:=his;simp at h1
  | _ =>
    intro rnd tm ds pan h k kp r hrun hr;have hrun:R.bad = r:=by cases rnd <;> exact hrun
    exact absurd hrun.symm hr
end
end Go.X
