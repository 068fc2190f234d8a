/- Calls of X against the model's: results, how a frame is left, bodies. -/
import Derived.Test.YtkmffbmgpnndcaaGreatDoorXxCode
import Derived.Test.YtkmffbmgpnndcaaGreatDoorXxNat
namespace Go.X
open Go
section
variable {P:Program} {E:XEnv} {call:CallK} {n:Nat} {kd:CallKind}

/-! ### results -/
def loadAV (m:Option Nat) (y:AV) (h:Heap):Out AV:=match y with
  | .ptr p o=>match h.get p with | .row _ cs _=>partOf cs o m h | _=>.bad
  | .iptr cs=>partOf cs 0 m h
  | _=>.bad
theorem loadVF_av (y:AV) (m:Option Nat) (h:Heap) (k:KI):loadVF y m h k = viaOut (loadAV m y h) k:=loadVF_eq y m h k
theorem load_var {κ:Kp} {h h':Heap} {w:World} (hr:HR P κ h w) {t:TypeId} {m:Option Nat} (hm:aggN P t = some m) {y v:AV} {y':Value} (hy:VR κ y y')
    (hs:loadAV m y h = .ok v h'):h' = h∧∃ ad v',y' = .pointer (some ad)∧(loadVar t ad).run P w = .ok v' w∧VR κ v v':=by
  unfold loadAV at hs
  cases y <;> first | (simp at hs;done) | skip
  case ptr p q =>
    simp only [VR] at hy;obtain ⟨s,e1,e2⟩:=hy;dsimp only at hs;have hob:=hr.obj p s e1
    cases hg:h.get p <;> rw [hg] at hs hob <;> first | (simp at hs;done) | skip
    rename_i ty cs sp
    obtain ⟨arr,fr,g1,_,_,g4,_⟩:=hob;obtain ⟨rfl,v',g5,g6⟩:=loadVar_ok hm g1 g4 hs;exact ⟨rfl,_,v',e2,g5,g6⟩
  case iptr cs =>
    simp only [VR] at hy;obtain ⟨b,arr,e,fr,e1,e2,e3,e4⟩:=hy;obtain ⟨rfl,v',g5,g6⟩:=loadVar_ok hm (hr.frozen _ _ e3) e4 hs;rw [Addr.eta_none e2] at e1;exact ⟨rfl,_,v',e1,by simpa using g5,g6⟩
theorem resF_ok:∀ {rvs:List ResultVar} {l:List XRes} {tm:Tm} {h:Heap} {k:List AV→R} {r:R},rvs.mapM (copRes P) = some l→resF l tm h k = r→r ≠ .bad →
    ∃ vs,k vs = r∧∀ κ w (tmps:Array Value),HR P κ h w→TR κ n tm tmps→∃ Vs,(rvs.mapM (fun rv=>match rv with
      | .tmp t=>pure (tmps.getD t undef)
      | .cell a t=>do loadVar t (← asAddr (tmps.getD a undef)):ResultVar→Sem Value)).run P w = .ok Vs w∧VRl κ vs Vs
  | [],l,tm,h,k,r,hl,hrun,hr=>by
    simp at hl;subst hl;exact ⟨[],hrun,fun κ w tmps _ _=>⟨[],rfl,by simp [VRl]⟩⟩
  | rv :: rvs,l,tm,h,k,r,hl,hrun,hr=>by
    simp only [List.mapM_cons,Option.bind_eq_bind,bJ,Option.pure_def,sJ] at hl;obtain ⟨x,hx,xs,hxs,rfl⟩:=hl
    cases rv with
    | tmp t =>
      simp only [copRes,sJ] at hx;subst hx;have hrun:getF tm (.slot t) (fun v=>resF xs tm h fun vs=>k (v :: vs)) = r:=hrun;rw [getF_eq] at hrun
      cases hv:tm.get (.slot t) with
      | none=>rw [hv] at hrun;exact absurd hrun.symm hr
      | some v =>
        rw [hv] at hrun;obtain ⟨vs,hk,hok⟩:=resF_ok hxs hrun hr;refine ⟨v :: vs,hk,fun κ w tmps h1 h2=>?_⟩;obtain ⟨Vs,e1,e2⟩:=hok κ w tmps h1 h2;refine ⟨tmps.getD t undef :: Vs,?_,?_⟩
        · simp only [List.mapM_cons,Sem.run_bind,Sem.run_pure,Result.andThen_ok,e1]
        · exact ⟨_,_,rfl,h2.val t v hv,e2⟩
    | cell a t =>
      simp only [copRes,Option.bind_eq_bind,bJ,sJ] at hx;obtain ⟨m,hm,rfl⟩:=hx;have hrun:getF tm (.slot a) (fun y=>loadVF y m h fun v _=>resF xs tm h fun vs=>k (v :: vs)) = r:=hrun;rw [getF_eq] at hrun
      cases hv:tm.get (.slot a) with
      | none=>rw [hv] at hrun;exact absurd hrun.symm hr
      | some y =>
        rw [hv] at hrun;have hrun:loadVF y m h (fun v _=>resF xs tm h fun vs=>k (v :: vs)) = r:=hrun;rw [loadVF_av] at hrun
        cases hq:loadAV m y h with
        | bad=>rw [hq] at hrun;exact absurd hrun.symm hr
        | panic _ _=>rw [hq] at hrun;exact absurd hrun.symm hr
        | ok v h' =>
          rw [hq] at hrun;obtain ⟨vs,hk,hok⟩:=resF_ok hxs hrun hr;refine ⟨v :: vs,hk,fun κ w tmps h1 h2=>?_⟩;obtain ⟨Vs,e1,e2⟩:=hok κ w tmps h1 h2;obtain ⟨_,ad,v',e3,e4,e5⟩:=load_var h1 hm (h2.val a y hv) hq;refine ⟨v' :: Vs,?_,⟨_,_,rfl,e5,e2⟩⟩;have e3':(asAddr (tmps.getD a undef)).run P w = .ok ad w:=by rw [e3];rfl
          simp only [List.mapM_cons,Sem.run_bind,e3',Sem.run_pure,Result.andThen_ok,e4,e1]
theorem oneF_ok {vs:List AV} {k:AV→R} {r:R} (h:oneF vs k = r):∃ v,k v = r∧∀ κ (Vs:Array Value),VRl κ vs Vs.toList→VR κ v (if h:Vs.size = 1 then Vs[0] else .tuple Vs):=by
  match vs,h with
  | [],h=>exact ⟨.tuple [],h,fun κ Vs hV=>by
      simp only [VRl] at hV;have:Vs = #[]:=by simpa using hV
      subst this;simp only [VR];exact ⟨#[],rfl,by simp [VRl]⟩⟩
  | [v],h=>exact ⟨v,h,fun κ Vs hV=>by
      simp only [VRl] at hV;obtain ⟨x,xs,h1,h2,rfl⟩:=hV;have:Vs = #[x]:=by rw [← Array.toList_inj];exact h1
      subst this
      simpa using h2⟩
  | v :: u :: vs,h=>exact ⟨.tuple (v :: u :: vs),h,fun κ Vs hV=>by
      have hl:=hV.length;have : ¬ Vs.size = 1:=by simp at hl;omega
      rw [dif_neg this];simp only [VR];exact ⟨Vs,rfl,hV⟩⟩
theorem results_ok {fn:Func} {l:List XRes} (hl:fn.results.toList.mapM (copRes P) = some l) {tm:Tm} {h:Heap} {k:AV→R} {r:R} (hrun:resF l tm h (fun vs=>oneF vs k) = r) (hr:r ≠ .bad) :
    ∃ v,k v = r∧∀ κ w (tmps:Array Value),HR P κ h w→TR κ n tm tmps→∃ v',(results fn tmps).run P w = .ok v' w∧VR κ v v':=by
  obtain ⟨vs,hk,hok⟩:=resF_ok (n:=n) hl hrun hr;obtain ⟨v,hk,hv⟩:=oneF_ok hk;refine ⟨v,hk,fun κ w tmps h1 h2=>?_⟩;obtain ⟨Vs,e1,e2⟩:=hok κ w tmps h1 h2;refine ⟨_,?_,hv κ Vs.toArray (by simpa using e2)⟩;have e3:(fn.results.mapM (fun rv=>match rv with
      | .tmp t=>pure (tmps.getD t undef)
      | .cell a t=>do loadVar t (← asAddr (tmps.getD a undef)):ResultVar→Sem Value)).run P w = .ok Vs.toArray w:=by
    rw [Array.mapM_eq_mapM_toList];rw [map_eq_pure_bind,Sem.run_bind,e1];rfl
  unfold results;rw [Sem.run_bind]
  erw [e3]
  rfl
end
end Go.X

/- Calls of X against the model's: how a frame is left,bodies,rounds,all calls. -/
namespace Go.X
open Go
section
variable {P:Program} {E:XEnv} {call:CallK}

/-! ### leaving -/
theorem dropAll {α:Type} {p:α→Bool}:∀ {l:List α},(∀ x ∈ l,p x = true)→l.dropWhile p = []
  | [],_=>rfl
  | x :: xs,h=>by simp only [List.dropWhile,h x m0];exact dropAll fun y hy=>h y (mS _ hy)
theorem run_takeDeferred {r:Nat} {w:World} (h:w.heap[r]? = some (.deferred (some []))):(Instr.takeDeferred r).run P w = .ok [] (World.put w r (.deferred none)):=by
  simp [Instr.takeDeferred,getObj,setObj,Sem.run_bind,Sem.run,h,Result.andThen,World.put]
theorem step_mark {fr:Frame} {cs:List Frame} {w:World} {r:Nat} {L:List Deferred} (hm:fr.mode ≠ .run) (hd:fr.defers = markD r :: L) (hr:w.heap[r]? = some (.deferred (some []))) :
    step P (lone fr cs w) = .next (lone { fr with defers:=L } cs (World.put w r (.deferred none))):=by
  refine step_lone_go ?_;have ht:=run_takeDeferred (P:=P) hr
  cases hmode:fr.mode with
  | run=>exact absurd hmode hm
  | returning=>simp [stepG,unwind,hmode,hd,markD,Sem.runT_eq,ht,GStep.bare_after]
  | panicking chain=>simp [stepG,unwind,hmode,hd,markD,Sem.runT_eq,ht,GStep.bare_after]
theorem put_other {w:World} {r b:Nat} {o:Obj} (h:b ≠ r):(World.put w r o).heap[b]? = w.heap[b]?:=by
  simp only [World.put];rw [Array.getElem?_setIfInBounds_ne (fun e=>h e.symm)]
theorem HR.dropB {κ:Kp} {h:Heap} {w:World} {B r:Nat} (hr:HR P κ h w) (m:Mark B κ h w r) (o:Obj):HR P κ h (World.put w r o):=by
  refine ⟨fun p x e=>?_,hr.apart,fun b ob e=>?_,hr.off,hr.top,hr.clean⟩
  · by_cases hd:h.get p = .dead
    · rw [hd];trivial
    · exact OR.mono (.refl κ) (put_other (m.off p x ⟨e,hd⟩)) (hr.obj p x e)
  · rw [put_other (fun q=>by rw [q,m.fix] at e;simp at e)];exact hr.frozen b ob e
theorem Ext.dropB {κ₀ κ:Kp} {h₀ h:Heap} {w₀ w:World} {r:Nat} (e:Ext P κ₀ h₀ w₀ κ h w) (m:Mark w₀.heap.size κ h w r) (o:Obj):Ext P κ₀ h₀ w₀ κ h (World.put w r o) :=
  ⟨e.le,e.M,e.hr.dropB m o,e.next,by simpa [World.put] using e.size,fun b hb hn=>by
    have:=m.old;rw [put_other (by omega)];exact e.fc b hb hn,e.lr,e.gc,e.os,e.output,e.tape⟩
theorem DR.dropB {B:Nat} {κ:Kp} {h:Heap} {w:World} {ds:List Dfd} {L:List Deferred} (d:DR B κ h w ds L) {r:Nat} (o:Obj) (hr:markD r ∉ L):DR B κ h (World.put w r o) ds L:=by
  induction d with
  | nil=>exact .nil
  | @mark ds L q hl hm hne ih =>
    have hq:q ≠ r:=fun e=>hr (by rw [e];exact m0)
    exact .mark (ih fun h=>hr (mS _ h)) ⟨hm.old,(put_other hq).trans hm.obj,hm.fix,hm.off⟩ hne
  | cons hl ha hc ih=>exact .cons (ih fun h=>hr (mS _ h)) ha hc

def EndL (P:Program) (κ₀:Kp) (h₀:Heap) (w₀:World) (κ:Kp) (res:Res) (h':Heap) (e:Ending) (w':World):Prop:=False∨∃ κ',ResE κ' res e∧Ext P κ₀ h₀ w₀ κ' h' w'∧κ.le κ'
def Left (P:Program) (κ₀:Kp) (h₀:Heap) (w₀:World) (κ:Kp) (res:Res) (h':Heap) (fr:Frame) (cs:List Frame) (w:World):Prop :=
  ∃ e w' fr',EndL P κ₀ h₀ w₀ κ res h' e w'∧Comes P (lone fr cs w) (lone fr' cs w') e∧fr'.kind = fr.kind∧fr'.fn = fr.fn∧fr'.going P w' e
theorem Left.of_steps {κ₀ κ κ₁:Kp} {h₀:Heap} {w₀:World} {res:Res} {h':Heap} {fr fr₁:Frame} {cs:List Frame} {w w₁:World} (h:Steps P (lone fr cs w) (lone fr₁ cs w₁)) (hκ:κ.le κ₁) (hk:fr₁.kind = fr.kind) (hf:fr₁.fn = fr.fn) (l:Left P κ₀ h₀ w₀ κ₁ res h' fr₁ cs w₁):Left P κ₀ h₀ w₀ κ res h' fr cs w :=
  let ⟨e,w',fr',q,c,k,f,g⟩:=l;⟨e,w',fr',q.imp id fun ⟨κ',q1,q2,q3⟩=>⟨κ',q1,q2,hκ.trans q3⟩,Comes.of_steps h c,k.trans hk,f.trans hf,g⟩

theorem dfdF_val {f:AV} {args:List AV} {k r:R} (h:dfdF f args k = r) (hr:r ≠ .bad):(∀ g first cap,f = .func g first cap→oneFn (first++args++cap) = false)∧k = r:=by
  unfold dfdF at h
  split at h
  · split at h
    · exact absurd h.symm hr
    · rename_i _ g first cap _ hq
      exact ⟨fun g' first' cap' e=>by simp only [AV.func.injEq] at e;obtain ⟨rfl,rfl,rfl⟩:=e;exact hq,h⟩
  · exact absurd h.symm hr
theorem leaveF_ok (hcall:CallS P call) {fn:Func} {l:List XRes} (hl:fn.results.toList.mapM (copRes P) = some l) {n:Nat} {tm:Tm} {pan:Pan}:∀ {ds:List Dfd} {m:Pan} {h:Heap} {k kp:KC} {r:R},
    leaveF ds l tm call m pan h k kp = r→r ≠ .bad→∃ res h',resK k kp res pan h' = r∧∀ κ₀ h₀ w₀ κ w,Ext P κ₀ h₀ w₀ κ h w→∀ (fr:Frame) (cs:List Frame),PU κ m fr.mode→DR w₀.heap.size κ h w ds fr.defers→TR κ n tm fr.tmps→P.funcs[fr.fn]? = some fn →
      Left P κ₀ h₀ w₀ κ res h' fr cs w:=by
  have notRun:∀ {κ:Kp} {m:Pan} {u:FrameMode},PU κ m u→u ≠ .run:=by
    intro κ m u hu e;subst e
    cases m with
    | off=>simp [PU] at hu
    | on v=>simp [PU] at hu
  -- marks at the head
  have marks:∀ {ds:List Dfd} {m:Pan} {h:Heap} {res:Res} {h':Heap} {κ₀:Kp} {h₀:Heap} {w₀:World},
      (∀ κ w,Ext P κ₀ h₀ w₀ κ h w→∀ (fr:Frame) (cs:List Frame),PU κ m fr.mode→DR w₀.heap.size κ h w ds fr.defers→(∀ r L,fr.defers ≠ markD r :: L)→TR κ n tm fr.tmps→P.funcs[fr.fn]? = some fn→Left P κ₀ h₀ w₀ κ res h' fr cs w) →
      ∀ (L:List Deferred) κ w,Ext P κ₀ h₀ w₀ κ h w→∀ (fr:Frame) (cs:List Frame),fr.defers = L→PU κ m fr.mode→DR w₀.heap.size κ h w ds L→TR κ n tm fr.tmps→P.funcs[fr.fn]? = some fn→Left P κ₀ h₀ w₀ κ res h' fr cs w:=by
    intro ds m h res h' κ₀ h₀ w₀ base L
    induction L with
    | nil=>exact fun κ w e fr cs hd hu hD ht hf=>base κ w e fr cs hu (hd ▸ hD) (by simp [hd]) ht hf
    | cons d L ih =>
      intro κ w e fr cs hd hu hD ht hf
      by_cases hmk:∃ r,d = markD r
      · obtain ⟨r,rfl⟩:=hmk;have hD':DR w₀.heap.size κ h w ds L∧Mark w₀.heap.size κ h w r∧markD r ∉ L:=by
          generalize hq:markD r :: L = q at hD
          cases hD with
          | nil=>simp at hq
          | mark hl hm hne =>
            simp only [markD,List.cons.injEq,Deferred.mk.injEq,Target.collected.injEq,and_true] at hq;obtain ⟨rfl,rfl⟩:=hq;exact ⟨hl,hm,hne⟩
          | cons hl ha hc=>simp [markD] at hq
        obtain ⟨hl,hm,hne⟩:=hD';exact Left.of_steps (.one (step_mark (notRun hu) hd hm.obj)) (.refl κ) rfl rfl (ih κ _ (e.dropB hm _) { fr with defers:=L } cs rfl hu (hl.dropB _ hne) ht hf)
      · exact base κ w e fr cs hu (hd ▸ hD) (fun r L' q=>hmk ⟨r,by rw [hd] at q;exact (List.cons.inj q).1⟩) ht hf
  intro ds
  induction ds with
  | nil =>
    intro m h k kp r hrun hr
    cases m with
    | off =>
      have hrun:resF l tm h (fun vs=>oneF vs fun v=>k v pan h) = r:=hrun;obtain ⟨v,hk,hv⟩:=results_ok (n:=n) hl hrun hr;refine ⟨.ret v,h,hk,fun κ₀ h₀ w₀ κ w e fr cs hu hD ht hf=>marks (ds:=[]) (m:=.off) (fun κ w e fr cs hu hD hnm ht hf=>?_) _ κ w e fr cs rfl hu hD ht hf⟩;obtain ⟨v',e1,e2⟩:=hv κ w fr.tmps e.hr ht;have hd:fr.defers = []:=by
        generalize hq:fr.defers = q at hD hnm
        cases hD with
        | nil=>rfl
        | mark hl hm hne=>exact absurd rfl (hnm _ _)
      exact ⟨.returned v',w,fr,.inr ⟨κ,e2,e,.refl κ⟩,Steps.refl _ _,rfl,rfl,hu,hd,fn,hf,e1⟩
    | on v =>
      have hrun:kp v pan h = r:=hrun;refine ⟨.pan v,h,hrun,fun κ₀ h₀ w₀ κ w e fr cs hu hD ht hf=>marks (ds:=[]) (m:=.on v) (fun κ w e fr cs hu hD hnm ht hf=>?_) _ κ w e fr cs rfl hu hD ht hf⟩;obtain ⟨v',older,hm,hv,hg⟩:=hu;have hd:fr.defers = []:=by
        generalize hq:fr.defers = q at hD hnm
        cases hD with
        | nil=>rfl
        | mark hl hm hne=>exact absurd rfl (hnm _ _)
      exact ⟨.panicked _,w,fr,.inr ⟨κ,⟨v',older,rfl,hv,hg⟩,e,.refl κ⟩,Steps.refl _ _,rfl,rfl,hm,hd,fn,hf⟩
  | cons d ds ih =>
    intro m h k kp r hrun hr;obtain ⟨fv,args⟩:=d;have hrun:dfdF fv args (call fv args m h (fun _ m h=>leaveF ds l tm call m pan h k kp) (fun v _ h=>leaveF ds l tm call (.on v) pan h k kp)) = r:=hrun;obtain ⟨hdfd,hrun⟩:=dfdF_val hrun hr;obtain ⟨res₁,m₁,h₁,hk,hok⟩:=hcall _ _ _ _ _ _ _ hrun hr
    -- what is next
    have next:∃ m₂,leaveF ds l tm call m₂ pan h₁ k kp = r∧(∀ v,res₁ = .ret v→m₂ = m₁)∧∀ v,res₁ = .pan v→m₂ = .on v:=by
      cases res₁ with
      | ret v=>exact ⟨m₁,hk,fun _ _=>rfl,fun _ q=>by simp at q⟩
      | pan v=>exact ⟨.on v,hk,fun _ q=>by simp at q,fun v' q=>by simp only [Res.pan.injEq] at q;rw [q]⟩
    obtain ⟨m₂,hk₂,hret,hpan⟩:=next;obtain ⟨res,h',hk',hok'⟩:=ih hk₂ hr;refine ⟨res,h',hk',fun κ₀ h₀ w₀ κ w e fr cs hu hD ht hf=>marks (ds:=(fv,args) :: ds) (m:=m) (fun κ w e fr cs hu hD hnm ht hf=>?_) _ κ w e fr cs rfl hu hD ht hf⟩
    generalize hq:fr.defers = q at hD hnm
    cases hD with
    | mark hl hm hne=>exact absurd rfl (hnm _ _)
    | @cons _ L f first cap _ A C hl ha hc =>
      have hA:VRl κ (first++args++cap) (A++C).toList:=by simpa using ha.append hc
      have hF:=hok.func κ w e.hr f first cap rfl (A++C) hA;obtain ⟨fn',c,h1,h2,h3⟩:=hF.is;have hinv:(invoke (.fn (.func f) C) A).run P w = .ok (.enter f (A++C)) w:=by
        have:=invoke_func (_F:=#[]) (_C:=#[]) (args:=A++C) h1 h2 h3 (w:=w)
        simpa [invoke] using this
      have s1:=step_defer (cs:=cs) (notRun hu) hq rfl hinv;obtain ⟨e₁,u',w₁,frX,hq₁,hsteps,hkX,hgo⟩:=hF.callsD (hdfd f first cap rfl) fr.mode hu { fr with defers:=L } cs rfl
      rcases hq₁ with hno | ⟨κ₁,hres,hx,hpu⟩
      · exact hno.elim
      · cases e₁ with
        | outgrown=>cases res₁ <;> exact hres.elim
        | returned v' =>
          cases res₁ with
          | pan v=>exact hres.elim
          | ret v =>
            have hm₂:=hret v rfl;subst hm₂;have s2:=step_going_returned (c:={ { fr with defers:=L } with mode:=u' }) (cs:=cs) hkX hgo;have hu₂:PU κ₁ m₂ (settle u'):=by
              cases m with
              | off=>cases m₂ with
                | off =>
                  have hu:fr.mode = .returning:=hu;have hpu:u' = fr.mode:=hpu;rw [hpu,hu];rfl
                | on _=>exact hpu.elim
              | on v₀=>cases m₂ with
                | on v₁ =>
                  obtain ⟨hpu,v'',older,hm,hv,hg⟩:=hpu;rw [hpu,hm];exact ⟨v'',older,rfl,hv,hg⟩
                | off =>
                  obtain ⟨v'',older,hm,hm',hg⟩:=hpu;rw [hm'];have:older.dropWhile (!·.goexit) = []:=dropAll fun x hx=>by simp [hg x hx]
                  show settle _ = _;simp only [settle,this]
            exact Left.of_steps (.head s1 (Steps.trans hsteps (.one s2))) hx.le rfl rfl (hok' κ₀ h₀ w₀ κ₁ w₁ (e.trans hx) { { { fr with defers:=L } with mode:=u' } with mode:=settle u' } cs hu₂ (hl.ext hx) (ht.mono hx.le) hf)
        | panicked chain =>
          cases res₁ with
          | ret v=>exact hres.elim
          | pan v =>
            have hm₂:=hpan v rfl;subst hm₂;have s2:=step_going_panicked (c:={ { fr with defers:=L } with mode:=u' }) (cs:=cs) hgo;obtain ⟨v₁,older,rfl,hv₁,hg₁⟩:=hres;have hu₂:PU κ₁ (.on v) (raised u' ({ v:=v₁,recovered:=false } :: older)):=by
              cases m with
              | off=>cases m₁ with
                | off =>
                  have hu:fr.mode = .returning:=hu;have hpu:u' = fr.mode:=hpu;rw [hpu,hu];exact ⟨v₁,older,rfl,hv₁,hg₁⟩
                | on _=>exact hpu.elim
              | on v₀=>cases m₁ with
                | on v₁' =>
                  obtain ⟨hpu,v'',older',hm,hv,hg⟩:=hpu;rw [hpu,hm];refine ⟨v₁,older++({ v:=v'',recovered:=false } :: older'),rfl,hv₁,fun x hx=>?_⟩
                  rcases List.mem_append.1 hx with hx | hx
                  · exact hg₁ x hx
                  · rcases List.mem_cons.1 hx with rfl | hx
                    · rfl
                    · exact hg x hx
                | off =>
                  obtain ⟨v'',older',hm,hm',hg⟩:=hpu;rw [hm'];refine ⟨v₁,older++({ v:=v'',recovered:=true } :: older'),rfl,hv₁,fun x hx=>?_⟩
                  rcases List.mem_append.1 hx with hx | hx
                  · exact hg₁ x hx
                  · rcases List.mem_cons.1 hx with rfl | hx
                    · rfl
                    · exact hg x hx
            exact Left.of_steps (.head s1 (Steps.trans hsteps (.one s2))) hx.le rfl rfl (hok' κ₀ h₀ w₀ κ₁ w₁ (e.trans hx) { { { fr with defers:=L } with mode:=u' } with mode:=raised u' ({ v:=v₁,recovered:=false } :: older) } cs hu₂ (hl.ext hx) (ht.mono hx.le) hf)
end
end Go.X

/- Calls of X against the model's: bodies,rounds,all calls. -/
namespace Go.X
open Go
section
variable {P:Program} {E:XEnv} {call:CallK}

/-! ### the first temporaries -/
def initT:List AV→Nat→Tm→Tm
  | [],_,tm=>tm
  | v :: vs,p,tm=>initT vs (p + 1) (tm.set (.slot p) v)
theorem initF_eq (l:List AV) (p:Nat) (tm:Tm) (k:Tm→R):initF l p tm k = k (initT l p tm):=by
  induction l generalizing p tm with
  | nil=>rfl
  | cons v vs ih =>
    have:initF (v :: vs) p tm k = setF tm (.slot p) v fun tm=>initF vs (Nat.succ p) tm k:=rfl
    rw [this,setF_eq];exact ih _ _
theorem initT_get:∀ (l:List AV) (p:Nat) (tm:Tm) (t:Nat),(initT l p tm).get (.slot t) = if p ≤ t∧t < p + l.length then l[t - p]? else tm.get (.slot t)
  | [],p,tm,t=>by
    have : ¬ (p ≤ t∧t < p + ([]:List AV).length):=by simp only [List.length_nil];omega
    rw [if_neg this];rfl
  | v :: vs,p,tm,t=>by
    simp only [initT,initT_get vs (p + 1) _ t,List.length_cons]
    by_cases h1:p + 1 ≤ t∧t < p + 1 + vs.length
    · rw [if_pos h1,if_pos (by omega)];have:t - p = (t - (p + 1)) + 1:=by omega
      rw [this,List.getElem?_cons_succ]
    · rw [if_neg h1]
      by_cases h2:t = p
      · subst h2;rw [if_pos (by omega),TT.get_set_same];simp
      · rw [TT.get_set_ne _ _ (fun e=>h2 (Slot.slot_inj e).symm),if_neg (by omega)]
theorem initT_TR {κ:Kp} {n:Nat} {args:List AV} {A:Array Value} (hA:VRl κ args A.toList):TR κ n (initT args 0 .leaf) (A++Array.replicate (n - A.size) undef):=by
  refine ⟨by simp;omega,fun t v hv=>?_⟩;rw [initT_get] at hv
  split at hv
  · rename_i ht
    obtain ⟨h1,h2⟩:=VRl_iff.1 hA;have hlt:t < A.size:=by simp at h1;omega
    have hx:A.toList[t]? = some A[t]:=by simp [hlt]
    simp only [Nat.sub_zero] at hv;have:=h2 t v _ hv hx;have e:(A++Array.replicate (n - A.size) undef).getD t undef = A[t]:=by
      rw [Array.getD_eq_getD_getElem?,Array.getElem?_append_left hlt,Array.getElem?_eq_getElem hlt];rfl
    rw [e];exact this
  · rw [TT.get_leaf] at hv;simp at hv
def setParamsT:List Slot→List AV→Tm→Option Tm
  | [],[],tm=>some tm
  | p :: ps,v :: vs,tm=>setParamsT ps vs (tm.set p v)
  | _,_,_=>none
theorem setParamsF_val {k:Tm→R} {r:R}:∀ {ps:List Slot} {vs:List AV} {tm:Tm},setParamsF ps vs tm k = r→r ≠ .bad→∃ tm',setParamsT ps vs tm = some tm'∧k tm' = r
  | [],[],tm,h,_=>⟨tm,rfl,h⟩
  | [],v :: vs,tm,h,hr=>absurd h.symm hr
  | p :: ps,[],tm,h,hr=>absurd h.symm hr
  | p :: ps,v :: vs,tm,h,hr=>by
    have h:setF tm p v (fun tm=>setParamsF ps vs tm k) = r:=h;rw [setF_eq] at h;obtain ⟨tm',h1,h2⟩:=setParamsF_val h hr;exact ⟨tm',h1,h2⟩
theorem foldl_params {κ:Kp} {n:Nat}:∀ {ps:List Tmp} {vs:List AV} {V:List Value} {tm tm':Tm} {tmps:Array Value},TR κ n tm tmps→(∀ t ∈ ps,t < n)→VRl κ vs V→setParamsT (ps.map Slot.slot) vs tm = some tm' →
    V.length = ps.length∧TR κ n tm' ((ps.zip V).foldl (fun tmps (x:Tmp × Value)=>tmps.setIfInBounds x.1 x.2) tmps)
  | [],[],V,tm,tm',tmps,ht,_,hV,h=>by
    simp only [VRl] at hV;subst hV;simp only [List.map_nil,setParamsT,sJ] at h;subst h;exact ⟨rfl,ht⟩
  | [],v :: vs,V,tm,tm',tmps,ht,_,hV,h=>by simp [setParamsT] at h
  | p :: ps,[],V,tm,tm',tmps,ht,_,hV,h=>by simp [setParamsT] at h
  | p :: ps,v :: vs,V,tm,tm',tmps,ht,hlt,hV,h=>by
    simp only [VRl] at hV;obtain ⟨x,V,rfl,hx,hV⟩:=hV;simp only [List.map_cons,setParamsT] at h;have ht':TR κ n (tm.set (.slot p) v) (tmps.setIfInBounds p x):=TR.putT (a:=⟨tmps,[]⟩) ht (d:=some p) (fun y hy=>by simp only [sJ] at hy;subst hy;exact hlt p m0) hx;obtain ⟨h1,h2⟩:=foldl_params ht' (fun t ht=>hlt t (mS _ ht)) hV h;exact ⟨by simp [h1],by simpa using h2⟩

/-! ### bodies -/
theorem CR.off_normal {κ:Kp} {pan:Pan} {cs₀ cs:List Frame} (h:CR κ .normal pan cs₀ cs):pan = .off∧cs = cs₀:=by
  cases h with
  | same hn=>exact ⟨rfl,rfl⟩
  | on hk=>simp at hk
  | done hk=>simp at hk
theorem body_ok (hE:EnvOK P E) (hcall:CallS P call) (hdraw:∀ n,DrawS P E call n) {f:FuncId} {fn:Func} {c:Code} (hf:P.funcs[f]? = some fn) (hb:fn.body = some c) (hnm:fn.name ≠ "runtime.NumGoroutine") {l:List XRes} (hl:fn.results.toList.mapM (copRes P) = some l)
    {lp:Nat} {args:List AV} {pan:Pan} {h:Heap} {k kp:KC} {r:R} (hrun:bodyF E (cop P fn.ntmps false c) l call lp args pan h k kp = r) (hr:r ≠ .bad) :
    ∃ res pan' h',resK k kp res pan' h' = r∧∀ κ w,HR P κ h w→∀ A:Array Value,VRl κ args A.toList→∀ D,FnOK P f A κ h w pan res pan' h' D:=by
  have hrun:initF args 0 .leaf (fun tm=>codeF E (cop P fn.ntmps false c) call lp none tm [] pan h (enterE l call k kp) fun v tm ds pan h=>leaveF ds l tm call (.on v) pan h k kp) = r:=hrun;rw [initF_eq] at hrun;obtain ⟨cres,tm₁,ds₁,pan₁,h₁,hk,hok⟩:=code_ok hE hcall (hdraw fn.ntmps) c false _ _ _ _ _ _ _ hrun hr
  -- how the frame is left
  have hlv:∃ m,leaveF ds₁ l tm₁ call m pan₁ h₁ k kp = r∧((cres = .exit .normal∨cres = .exit .ret)∧m = .off∨∃ v,cres = .pan v∧m = .on v):=by
    cases cres with
    | pan v=>exact ⟨.on v,hk,.inr ⟨v,rfl,rfl⟩⟩
    | exit x =>
      cases x with
      | normal=>exact ⟨.off,hk,.inl ⟨.inl rfl,rfl⟩⟩
      | ret=>exact ⟨.off,hk,.inl ⟨.inr rfl,rfl⟩⟩
      | exit id=>exact absurd hk.symm hr
  obtain ⟨m,hleave,hm⟩:=hlv;obtain ⟨res,h',hk',hok'⟩:=leaveF_ok (n:=fn.ntmps) hcall hl hleave hr;refine ⟨res,pan₁,h',hk',fun κ w hr' A hA D=>?_⟩
  -- both kinds of calls at once
  have core:∀ (kd:CallKind),kd ≠ .early→∀ cs₀,CR κ kd pan cs₀ cs₀→∃ e w' fr cs',EndQ P κ h w res h' e w'∧Comes P (lone (Frame.enter P f A kd) cs₀ w) (lone fr cs' w') e∧fr.kind = kd∧fr.fn = f∧fr.going P w' e∧(e ≠ .outgrown→∃ κ₁,CR κ₁ kd pan₁ cs₀ cs'∧∃ κ',ResE κ' res e∧Ext P κ h w κ' h' w'∧κ₁.le κ'):=by
    intro kd hkd cs₀ hc
    let b:Frame:={ (default:Frame) with fn:=f,kind:=kd,roundOf:=none }
    have henter:Frame.enter P f A kd = b.atR { tmps:=A++Array.replicate (fn.ntmps - A.size) undef,defers:=[] } [.code c]:=by
      simp [Frame.enter,Frame.atR,hf,hb,b]
    have s:St P fn.ntmps w.heap.size kd κ (initT args 0 .leaf) [] pan h cs₀ { tmps:=A++Array.replicate (fn.ntmps - A.size) undef,defers:=[] } cs₀ w:=⟨hr',initT_TR hA,.nil,hc,Nat.le_refl _⟩;obtain ⟨e,a',cs',w₁,hq,harr⟩:=hok kd none hkd (by simp) w.heap.size κ cs₀ _ cs₀ w trivial s b [] ⟨rfl,fn,hf⟩ rfl;rw [← henter] at harr
    rcases hq with hno | ⟨κ₁,hx,s₁,his⟩
    · exact hno.elim
    · -- the frame on its way out
      have hout:∃ fr:Frame,Steps P (lone (Frame.enter P f A kd) cs₀ w) (lone fr cs' w₁)∧fr.kind = kd∧fr.fn = f∧PU κ₁ m fr.mode∧fr.defers = a'.defers∧fr.tmps = a'.tmps:=by
        rcases hm with ⟨hm | hm,rfl⟩ | ⟨v,hm,rfl⟩
        · subst hm;have he:e = .normal:=his;subst he;have harr:ST P _ (lone (b.atR a' []) cs' w₁):=harr;exact ⟨{ b.atR a' [] with mode:=.returning },Steps.trans harr.steps (.one (stepR_end rfl)),rfl,rfl,rfl,rfl,rfl⟩
        · subst hm;have he:e = .ret:=his;subst he;obtain ⟨todo,hs⟩:=harr.1 rfl;exact ⟨{ b.atR a' todo with mode:=.returning },hs.steps,rfl,rfl,rfl,rfl,rfl⟩
        · subst hm;obtain ⟨chain,rfl,v',older,rfl,hv,hg⟩:=his;obtain ⟨todo,hs⟩:=harr;exact ⟨{ b.atR a' todo with mode:=.panicking ({ v:=v',recovered:=false } :: older) },hs.steps,rfl,rfl,⟨v',older,rfl,hv,hg⟩,rfl,rfl⟩
      obtain ⟨fr,hs,hk1,hf1,hu,hd,ht⟩:=hout;obtain ⟨e',w',fr',q,hc',k',f',g'⟩:=hok' κ h w κ₁ w₁ hx fr cs' hu (by rw [hd];exact s₁.hd) (by rw [ht];exact s₁.ht) (by rw [hf1];exact hf);refine ⟨e',w',fr',cs',q.imp id fun ⟨κ',q1,q2,_⟩=>⟨κ',q1,q2⟩,Comes.of_steps hs hc',k'.trans hk1,f'.trans hf1,g',fun hne=>⟨κ₁,s₁.hc,?_⟩⟩
      rcases q with q | ⟨κ',q1,q2,q3⟩
      · exact q.elim
      · exact ⟨κ',q1,q2,q3⟩
  refine ⟨⟨fn,c,hf,hb,hnm⟩,fun hpan cs=>?_,fun _ u hu c₀ cs hcu=>?_⟩
  · subst hpan;obtain ⟨e,w',fr,cs',q,hc,hk1,hf1,hg,hfin⟩:=core .normal (by simp) cs (.same fun fr hfr=>by simp [tryRecover,hfr])
    cases e with
    | outgrown=>exact ⟨.outgrown,w',fr,q,hc,hf1,trivial⟩
    | returned v =>
      obtain ⟨κ₁,hcr,_⟩:=hfin (by simp);obtain ⟨_,rfl⟩:=hcr.off_normal;obtain ⟨g1,g2,g3⟩:=hg;exact ⟨.returned v,w',fr,q,hc,hf1,g1,g2,hk1,g3⟩
    | panicked ch =>
      obtain ⟨κ₁,hcr,_⟩:=hfin (by simp);obtain ⟨_,rfl⟩:=hcr.off_normal;exact ⟨.panicked ch,w',fr,q,hc,hf1,hg⟩
  · have hc₀:CR κ .deferred pan (c₀ :: cs) (c₀ :: cs):=by
      cases pan with
      | off =>
        have hu:u = .returning:=hu;exact .same fun fr hfr=>by simp [tryRecover,hfr,hcu,hu]
      | on v =>
        obtain ⟨v',older,hm,hv,hg⟩:=hu;exact .on rfl (hcu.trans hm) hv hg
    obtain ⟨e,w',fr,cs',q,hc,hk1,hf1,hg,hfin⟩:=core .deferred (by simp) (c₀ :: cs) hc₀;have hsame:({ c₀ with mode:=u }:Frame) = c₀:=by rw [← hcu]
    by_cases hne:e = .outgrown
    · subst hne
      rcases q with q | ⟨κ',q1,_⟩
      · exact q.elim
      · cases res <;> exact q1.elim
    · obtain ⟨κ₁,hcr,κ',q1,q2,q3⟩:=hfin hne
      -- the frame below
      have hcs:∃ u',cs' = { c₀ with mode:=u' } :: cs∧PU2 κ' pan pan₁ u u':=by
        generalize hq:c₀ :: cs = q₀ at hcr
        cases hcr with
        | same hn =>
          refine ⟨u,by rw [hsame];exact hq.symm,?_⟩
          cases pan with
          | off=>rfl
          | on v =>
            obtain ⟨v',older,hm,hv,hg⟩:=hu;have:=hn { (default:Frame) with kind:=.deferred } rfl;rw [← hq] at this;simp [tryRecover,hcu,hm] at this
        | @on v v' older c cs₁ hk hm hv hg =>
          simp only [List.cons.injEq] at hq;obtain ⟨rfl,rfl⟩:=hq;refine ⟨u,by rw [hsame],?_⟩
          cases pan with
          | off =>
            have hu:u = .returning:=hu;rw [hcu,hu] at hm;simp at hm
          | on v₀=>exact ⟨rfl,v',older,hcu.symm.trans hm,VR.mono q3 _ _ hv,hg⟩
        | @done v' older c cs₁ hk hm hg =>
          simp only [List.cons.injEq] at hq;obtain ⟨rfl,rfl⟩:=hq;refine ⟨.panicking ({ v:=v',recovered:=true } :: older),rfl,?_⟩
          cases pan with
          | off =>
            have hu:u = .returning:=hu;rw [hcu,hu] at hm;simp at hm
          | on v₀=>exact ⟨v',older,hcu.symm.trans hm,rfl,hg⟩
      obtain ⟨u',rfl,hpu⟩:=hcs;exact ⟨e,u',w',fr,.inr ⟨κ',q1,q2,hpu⟩,hc,hk1,hg⟩
end
end Go.X

/- Calls of X against the model's: rounds,all calls. -/
namespace Go.X
open Go
section
variable {P:Program} {E:XEnv} {call:CallK}

theorem run_beginRound {l:Nat} {w:World} {L:Loop} (hl:w.heap[l]? = some (.loop L)) (hs:L.state = .ready):(Instr.beginRound l).run P w = .ok () (World.put w l (.loop { L with state:=.busy })):=by
  simp [Instr.beginRound,Instr.getLoop,getObj,setObj,Sem.run_bind,Sem.run,hl,hs,Result.andThen,World.put]
theorem run_endRound {l:Nat} {w:World} {L:Loop} (hl:w.heap[l]? = some (.loop L)) (jump:Option Code):(Instr.endRound l jump).run P w = .ok (.bool jump.isNone) (World.put w l (.loop { L with state:=if jump.isNone then .ready else .done,pending:=jump })):=by
  simp [Instr.endRound,Instr.getLoop,getObj,setObj,Sem.run_bind,Sem.run,hl,Result.andThen,World.put]
theorem isNil_val {α:Type} {l:List α} {k r:R} (h:isNil l k = r) (hr:r ≠ .bad):l = []∧k = r:=by
  cases l with
  | nil=>exact ⟨rfl,h⟩
  | cons _ _=>exact absurd h.symm hr
theorem isNormal_val {e:XExit} {k r:R} (h:isNormal e k = r) (hr:r ≠ .bad):e = .normal∧k = r:=by
  cases e <;> first | exact ⟨rfl,h⟩ | exact absurd h.symm hr
theorem roundTmps_list (L:Loop) (A:Array Value):roundTmps L A = (L.params.toList.zip A.toList).foldl (fun tmps (x:Tmp × Value)=>tmps.setIfInBounds x.1 x.2) L.tmps:=by
  unfold roundTmps;rw [← Array.foldl_toList,Array.toList_zip]
theorem Ext.loop {κ:Kp} {h:Heap} {w:World} (hr:HR P κ h w) {l:Pos} {x:Spot} (hx:κ.ρ l = some x) {st:LoopState} {e:XExit} {tm:Tm} {ps:List Slot} {n:Nat} {as bd:Code} (hg:h.get l = .loop st e tm ps n as bd) (st':LoopState) (e':XExit) :
    ∃ L:Loop,w.heap[x.b]? = some (.loop L)∧L.state = st∧L.pending = exitCode e∧L.assign = as∧L.body = bd∧Ext P κ h w κ (h.set l (.loop st' e' tm ps n as bd)) (World.put w x.b (.loop { L with state:=st',pending:=exitCode e' })):=by
  have ho:=hr.obj _ _ hx;rw [hg] at ho;obtain ⟨L,o1,o2,o3,o4,o5,o6,o7,o8⟩:=ho;have hlive:Live κ h l x:=⟨hx,by rw [hg];simp⟩;refine ⟨L,o1,o2,o3,o6,o7,Ext.update hr hlive _ _ ⟨{ L with state:=st',pending:=exitCode e' },?_,rfl,rfl,o4,o5,o6,o7,o8⟩⟩;have hlt:=hr.live_lt hlive;simp only [World.put];rw [Array.getElem?_setIfInBounds_self,if_pos hlt]
theorem panicked_leaves {κ₀:Kp} {h₀:Heap} {w₀:World} {h:Heap} {chain:List PanicEntry} {c:Frame} {cs:List Frame}:∀ (L:List Deferred) (κ:Kp) (w:World),Ext P κ₀ h₀ w₀ κ h w→∀ fr:Frame,fr.defers = L→fr.mode = .panicking chain →
    DR w₀.heap.size κ h w [] L→(∃ fn,P.funcs[fr.fn]? = some fn)→∃ w',Ext P κ₀ h₀ w₀ κ h w'∧Steps P (lone fr (c :: cs) w) (lone (c.raise chain) cs w')
  | [],κ,w,e,fr,hd,hm,_,⟨fn,hf⟩=>⟨w,e,.one (step_leave_panicked ⟨hm,hd,fn,hf⟩)⟩
  | d :: L,κ,w,e,fr,hd,hm,hD,hf=>by
    generalize hq:d :: L = q at hD
    generalize hz:([]:List Dfd) = z at hD
    cases hD with
    | nil=>simp at hq
    | cons=>simp at hz
    | @mark _ L' r hl hmk hne =>
      subst hz;simp only [List.cons.injEq] at hq;obtain ⟨rfl,rfl⟩:=hq;obtain ⟨w',e',hs⟩:=panicked_leaves (c:=c) (cs:=cs) L κ _ (e.dropB hmk (.deferred none)) { fr with defers:=L } rfl hm (hl.dropB _ hne) hf;exact ⟨w',e',.head (step_mark (by rw [hm];simp) hd hmk.obj) hs⟩

theorem round_ok (hE:EnvOK P E) (hcall:CallS P call) (hdraw:∀ n,DrawS P E call n) {lp:Nat} {l:Pos} {args:List AV} {h:Heap} {k kp:KC} {r:R} (hrun:roundF E call lp l args h k kp = r) (hr:r ≠ .bad) :
    ∃ res h',resK k kp res .off h' = r∧∀ κ w,HR P κ h w→∀ x,κ.ρ l = some x→∀ A:Array Value,VRl κ args A.toList→YieldOK P x.b A κ h w res h':=by
  have hrun:hget h l (fun ob=>loopF ob fun _ _ tm ps n as bd=>setParamsF ps args tm fun tm =>
    codeF E (E.cop n as) call lp (some l) tm [] .off h (fun e tm ds _ h=>isNormal e (isNil ds (hget h l fun ob=>loopF ob fun st e' tm' ps' n' as' bd'=>LoopState.rec (motive:=fun _=>R)
      (hset h l (.loop .busy e' tm' ps' n' as' bd') fun h=>codeF E (E.cop n bd) call lp (some l) tm [] .off h (fun e _ ds _ h=>isNil ds (roundEnd l k e h)) (fun v _ ds _ h=>isNil ds (kp v .off h))) .bad .bad .bad st))) (fun v _ ds _ h=>isNil ds (kp v .off h))) = r:=hrun
  rw [hget_eq] at hrun;obtain ⟨st₀,e₀,tm₀,ps,n,as,bd,hg₀,hrun⟩:=loopF_val hrun hr;obtain ⟨tm₁,hps,hrun⟩:=setParamsF_val hrun hr;have hcn:∀ (κ:Kp) (cs:List Frame),CR κ .normal .off cs cs:=fun κ cs=>.same fun fr hfr=>by simp [tryRecover,hfr]
  have prelude:∀ κ w,HR P κ h w→∀ x,κ.ρ l = some x→∀ A:Array Value,VRl κ args A.toList→∃ L:Loop,w.heap[x.b]? = some (.loop L)∧A.size = L.params.size∧L.assign = as∧L.body = bd∧(∃ fn,P.funcs[L.fn]? = some fn) ∧
      ∀ c cs,St P n w.heap.size .normal κ tm₁ [] .off h (c :: cs) { tmps:=roundTmps L A,defers:=[] } (c :: cs) w:=by
    intro κ w hr' x hx A hA;have ho:=hr'.obj _ _ hx;rw [hg₀] at ho;obtain ⟨L,o1,o2,o3,o4,o5,o6,o7,o8,o9⟩:=ho;rw [← o4] at hps;obtain ⟨hlen,hT⟩:=foldl_params o8 o5 hA hps;exact ⟨L,o1,by simpa using hlen,o6,o7,o9,fun c cs=>⟨hr',by rw [roundTmps_list];exact hT,.nil,hcn _ _,Nat.le_refl _⟩⟩
  rw [hE.cop,hE.cop] at hrun;obtain ⟨c₁,tm₂,ds₂,pan₂,h₂,hk,hok₁⟩:=code_ok hE hcall (hdraw n) as true _ _ _ _ _ _ _ hrun hr
  cases c₁ with
  | pan v =>
    obtain ⟨rfl,hk⟩:=isNil_val hk hr;refine ⟨.pan v,h₂,hk,fun κ w hr' x hx A hA=>?_⟩;obtain ⟨L,o1,o2,o6,o7,o9,s₁⟩:=prelude κ w hr' x hx A hA;refine ⟨L,o1,o2,fun c cs=>?_⟩
    let b:Frame:={ (default:Frame) with fn:=L.fn,kind:=.normal,roundOf:=some x.b }
    have hb0:Frame.round x.b L.fn (roundTmps L A) L.assign L.body .normal = b.atR { tmps:=roundTmps L A,defers:=[] } [.code as,.beginRound,.code bd]:=by
      simp [Frame.round,Frame.atR,b,o6,o7]
    obtain ⟨e,a₂,cs₂,w₂,hq,harr⟩:=hok₁ .normal (some x.b) (by simp) (by simp) _ κ (c :: cs) _ (c :: cs) w ⟨x,hx,rfl⟩ (s₁ c cs) b [.beginRound,.code bd] ⟨rfl,o9⟩ rfl;rw [← hb0] at harr
    rcases hq with hno | ⟨κ₂,hx₂,s₂,chain,rfl,hchain⟩
    · exact hno.elim
    · obtain ⟨_,rfl⟩:=s₂.hc.off_normal;obtain ⟨todo,hs⟩:=harr;obtain ⟨w',e',hs'⟩:=panicked_leaves (c:=c) (cs:=cs) a₂.defers κ₂ w₂ hx₂ { b.atR a₂ todo with mode:=.panicking chain } rfl rfl s₂.hd o9;exact ⟨.panicked chain,w',.inr ⟨κ₂,hchain,e'⟩,Steps.trans (ST.steps hs) hs'⟩
  | exit e₁ =>
    obtain ⟨rfl,hk⟩:=isNormal_val hk hr;obtain ⟨rfl,hk⟩:=isNil_val hk hr;have hk:hget h₂ l (fun ob=>loopF ob fun st e' tm' ps' n' as' bd'=>LoopState.rec (motive:=fun _=>R)
      (hset h₂ l (.loop .busy e' tm' ps' n' as' bd') fun h=>codeF E (cop P n true bd) call lp (some l) tm₂ [] .off h (fun e _ ds _ h=>isNil ds (roundEnd l k e h)) (fun v _ ds _ h=>isNil ds (kp v .off h))) .bad .bad .bad st) = r:=hk
    rw [hget_eq] at hk;obtain ⟨st₂,e₂,tm₂',ps₂,n₂,as₂,bd₂,hg₂,hk⟩:=loopF_val hk hr
    cases st₂ with
    | busy=>exact absurd hk.symm hr
    | done=>exact absurd hk.symm hr
    | exhausted=>exact absurd hk.symm hr
    | ready =>
      have hk:hset h₂ l (.loop .busy e₂ tm₂' ps₂ n₂ as₂ bd₂) (fun h=>codeF E (cop P n true bd) call lp (some l) tm₂ [] .off h (fun e _ ds _ h=>isNil ds (roundEnd l k e h)) (fun v _ ds _ h=>isNil ds (kp v .off h))) = r:=hk;rw [hset_eq] at hk;obtain ⟨c₃,tm₃,ds₃,pan₃,h₃,hk,hok₂⟩:=code_ok hE hcall (hdraw n) bd true _ _ _ _ _ _ _ hk hr
      -- the round's way to its body's end
      have way:∀ κ w,HR P κ h w→∀ x,κ.ρ l = some x→∀ A:Array Value,VRl κ args A.toList→∃ L:Loop,w.heap[x.b]? = some (.loop L)∧A.size = L.params.size∧∀ (c:Frame) (cs:List Frame),∃ (b:Frame) (κ₃:Kp) (e:Exit) (a₃:Act) (w₃:World),
          b.roundOf = some x.b∧b.kind = .normal∧(∃ fn,P.funcs[b.fn]? = some fn)∧Ext P κ h w κ₃ h₃ w₃∧St P n w.heap.size .normal κ₃ tm₃ ds₃ pan₃ h₃ (c :: cs) a₃ (c :: cs) w₃∧c₃.is κ₃ e∧Arr P (lone (Frame.round x.b L.fn (roundTmps L A) L.assign L.body .normal) (c :: cs) w) b [] (c :: cs) e a₃ w₃:=by
        intro κ w hr' x hx A hA;obtain ⟨L,o1,o2,o6,o7,o9,s₁⟩:=prelude κ w hr' x hx A hA;refine ⟨L,o1,o2,fun c cs=>?_⟩
        let b:Frame:={ (default:Frame) with fn:=L.fn,kind:=.normal,roundOf:=some x.b }
        have hb0:Frame.round x.b L.fn (roundTmps L A) L.assign L.body .normal = b.atR { tmps:=roundTmps L A,defers:=[] } [.code as,.beginRound,.code bd]:=by
          simp [Frame.round,Frame.atR,b,o6,o7]
        obtain ⟨e,a₂,cs₂,w₂,hq,harr⟩:=hok₁ .normal (some x.b) (by simp) (by simp) _ κ (c :: cs) _ (c :: cs) w ⟨x,hx,rfl⟩ (s₁ c cs) b [.beginRound,.code bd] ⟨rfl,o9⟩ rfl;rw [← hb0] at harr
        rcases hq with hno | ⟨κ₂,hx₂,s₂,his⟩
        · exact hno.elim
        · have he:e = .normal:=his;subst he;obtain ⟨_,rfl⟩:=s₂.hc.off_normal;have harr:ST P _ (lone (b.atR a₂ [.beginRound,.code bd]) (c :: cs) w₂):=harr;obtain ⟨L₂,p1,p2,p3,_,_,hx₃⟩:=Ext.loop s₂.hr (hx₂.le.ρ _ _ hx) hg₂ .busy e₂;have hbr:=run_beginRound (P:=P) p1 p2;have hsame:World.put w₂ x.b (.loop { L₂ with state:=.busy,pending:=exitCode e₂ }) = World.put w₂ x.b (.loop { L₂ with state:=.busy }):=by rw [← p3]
          rw [hsame] at hx₃;have sb:ST P (lone (b.atR a₂ [.beginRound,.code bd]) (c :: cs) w₂) (lone (b.atR a₂ [.code bd]) (c :: cs) (World.put w₂ x.b (.loop { L₂ with state:=.busy }))):=ST.one (stepR_beginRound rfl hbr);have s₃:St P n w.heap.size .normal κ₂ tm₂ [] .off (h₂.set l (.loop .busy e₂ tm₂' ps₂ n₂ as₂ bd₂)) (c :: cs) a₂ (c :: cs) (World.put w₂ x.b (.loop { L₂ with state:=.busy })):=by
            have:=s₂.ext hx₃;exact ⟨this.hr,this.ht,this.hd,hcn _ _,this.hB⟩
          obtain ⟨e,a₃,cs₃,w₃,hq,harr₂⟩:=hok₂ .normal (some x.b) (by simp) (by simp) _ κ₂ (c :: cs) _ (c :: cs) _ ⟨x,hx₂.le.ρ _ _ hx,rfl⟩ s₃ b [] ⟨rfl,o9⟩ rfl
          rcases hq with hno | ⟨κ₃,hx₄,s₄,his⟩
          · exact hno.elim
          · obtain ⟨_,rfl⟩:=s₄.hc.off_normal;exact ⟨b,κ₃,e,a₃,w₃,rfl,rfl,o9,(hx₂.trans hx₃).trans hx₄,s₄,his,.of (StepsIn.trans harr sb) harr₂⟩
      cases c₃ with
      | pan v =>
        obtain ⟨rfl,hk⟩:=isNil_val hk hr;refine ⟨.pan v,h₃,hk,fun κ w hr' x hx A hA=>?_⟩;obtain ⟨L,o1,o2,hw⟩:=way κ w hr' x hx A hA;refine ⟨L,o1,o2,fun c cs=>?_⟩;obtain ⟨b,κ₃,e,a₃,w₃,b1,b2,b3,hx₃,s₃,⟨chain,rfl,hchain⟩,todo,hs⟩:=hw c cs;obtain ⟨w',e',hs'⟩:=panicked_leaves (c:=c) (cs:=cs) a₃.defers κ₃ w₃ hx₃ { b.atR a₃ todo with mode:=.panicking chain } rfl rfl s₃.hd b3;exact ⟨.panicked chain,w',.inr ⟨κ₃,hchain,e'⟩,Steps.trans (ST.steps hs) hs'⟩
      | exit e₃ =>
        obtain ⟨rfl,hk⟩:=isNil_val hk hr;have hk:hget h₃ l (fun ob=>loopF ob fun _ _ tm ps n as bd=>XExit.rec (motive:=fun _=>R)
          (hset h₃ l (.loop .ready .normal tm ps n as bd) fun h=>k (.bool true) .off h)
          (fun i=>hset h₃ l (.loop .done (.exit i) tm ps n as bd) fun h=>k (.bool false) .off h)
          (hset h₃ l (.loop .done .ret tm ps n as bd) fun h=>k (.bool false) .off h) e₃) = r:=hk
        rw [hget_eq] at hk;obtain ⟨st₃,e₃',tm₃',ps₃,n₃,as₃,bd₃,hg₃,hk⟩:=loopF_val hk hr;simp only [hset_eq] at hk;have hk:k (.bool (exitCode e₃).isNone) .off (h₃.set l (.loop (if (exitCode e₃).isNone then .ready else .done) e₃ tm₃' ps₃ n₃ as₃ bd₃)) = r:=by cases e₃ <;> exact hk
        refine ⟨.ret (.bool (exitCode e₃).isNone),_,hk,fun κ w hr' x hx A hA=>?_⟩;obtain ⟨L,o1,o2,hw⟩:=way κ w hr' x hx A hA;refine ⟨L,o1,o2,fun c cs=>?_⟩;obtain ⟨b,κ₃,e,a₃,w₃,b1,b2,b3,hx₃,s₃,his,harr⟩:=hw c cs;have he:e = exitX e₃:=his;subst he;obtain ⟨L₃,q1,q2,q3,_,_,hx₅⟩:=Ext.loop s₃.hr (hx₃.le.ρ _ _ hx) hg₃ (if (exitCode e₃).isNone then .ready else .done) e₃;have hend:=run_endRound (P:=P) q1 (exitCode e₃);refine ⟨.returned (.bool (exitCode e₃).isNone),_,.inr ⟨κ₃,by simp only [ResE,VR],hx₃.trans hx₅⟩,?_⟩
        cases e₃ with
        | normal=>exact Steps.trans (harr:ST P _ _).steps (.one (stepR_round_end b1 b2 hend))
        | ret =>
          obtain ⟨k₁,hs⟩:=harr.2 (by rw [b1];simp);exact Steps.trans hs.steps (.one (stepR_round_ret b1 b2 hend))
        | exit id =>
          obtain ⟨k₁,hk₁,hs⟩:=harr.2 (by rw [b1];simp) rfl;exact Steps.trans hs.steps (.one (stepR_round_exit b1 b2 hk₁ hend))

/-! ### tables -/
theorem hset_sets (l:List (Pos × AObj)):∀ (h:Heap) (k:Heap→R),updF l h k = k (h.sets l):=by
  induction l with
  | nil=>intro h k;rfl
  | cons q l ih =>
    intro h k;obtain ⟨p,o⟩:=q;have:updF ((p,o) :: l) h k = hset h p o fun h=>updF l h k:=rfl
    rw [this,hset_eq,ih];rfl
theorem nextF_eq (n:Pos) (h:Heap) (k:Heap→R):nextF n h k = k ⟨n,h.mem⟩:=rfl
theorem preF_val {y n:R} {h:Heap}:∀ {l:List (Pos × AObj)},(preF l h y n = y∧∀ q ∈ l,h.get q.1 = q.2)∨preF l h y n = n
  | []=>.inl ⟨rfl,by simp⟩
  | (p, o) :: l=>by
    have e:preF ((p,o) :: l) h y n = hget h p fun o'=>yes? (beqObj o o') (preF l h y n) n:=rfl
    rw [e,hget_eq]
    cases hb:beqObj o (h.get p) with
    | false=>exact .inr rfl
    | true =>
      have e2:yes? true (preF l h y n) n = preF l h y n:=rfl;rw [e2]
      rcases preF_val (y:=y) (n:=n) (h:=h) (l:=l) with ⟨h1,h2⟩ | h1
      · refine .inl ⟨h1,fun q hq=>?_⟩
        rcases List.mem_cons.1 hq with rfl | hq
        · exact (beqObj_eq hb).symm
        · exact h2 q hq
      · exact .inr h1
def Ent.speaks (e:Ent) (args:List AV) (h:Heap):Prop:=e.args = args∧(e.exact = true→h.next = e.n0)∧∀ q ∈ e.pre,h.get q.1 = q.2
theorem entF_val {e:Ent} {args:List AV} {h:Heap} {k:AV→Heap→R} {n:R}:(entF e args h k n = k e.v (e.upd h)∧e.speaks args h)∨entF e args h k n = n:=by
  obtain ⟨eargs,exact',n0,pre,post,n1,v⟩:=e;have e1:entF ⟨eargs,exact',n0,pre,post,n1,v⟩ args h k n = yes? (AV.beqs eargs args) (Bool.rec (motive:=fun _=>R) (preF pre h (updF post h (k v)) n) (posF n0 h (preF pre h (updF post h fun h=>nextF n1 h (k v)) n) n) exact') n:=rfl;rw [e1]
  cases ha:AV.beqs eargs args with
  | false=>exact .inr rfl
  | true =>
    have ha:=AV.beqs_eq ha
    cases exact' with
    | false =>
      have e2:yes? true (Bool.rec (motive:=fun _=>R) (preF pre h (updF post h (k v)) n) (posF n0 h (preF pre h (updF post h fun h=>nextF n1 h (k v)) n) n) false) n = preF pre h (updF post h (k v)) n:=rfl;rw [e2]
      rcases preF_val (y:=updF post h (k v)) (n:=n) (h:=h) (l:=pre) with ⟨h1,h2⟩ | h1
      · rw [h1,hset_sets];exact .inl ⟨rfl,ha,fun e=>by simp at e,h2⟩
      · exact .inr h1
    | true =>
      have e2:yes? true (Bool.rec (motive:=fun _=>R) (preF pre h (updF post h (k v)) n) (posF n0 h (preF pre h (updF post h fun h=>nextF n1 h (k v)) n) n) true) n = yes? (n0.beq h.next) (preF pre h (updF post h fun h=>nextF n1 h (k v)) n) n:=rfl;rw [e2]
      cases hp:n0.beq h.next with
      | false=>exact .inr rfl
      | true =>
        have e3:yes? true (preF pre h (updF post h fun h=>nextF n1 h (k v)) n) n = preF pre h (updF post h fun h=>nextF n1 h (k v)) n:=rfl;rw [e3]
        rcases preF_val (y:=updF post h fun h=>nextF n1 h (k v)) (n:=n) (h:=h) (l:=pre) with ⟨h1,h2⟩ | h1
        · rw [h1,hset_sets,nextF_eq];exact .inl ⟨rfl,ha,fun _=>(Pos.beq_iff.1 hp).symm,h2⟩
        · exact .inr h1
theorem entsF_val {args:List AV} {h:Heap} {k:AV→Heap→R} {n:R}:∀ {l:List Ent},(∃ e ∈ l,entsF l args h k n = k e.v (e.upd h)∧e.speaks args h)∨entsF l args h k n = n
  | []=>.inr rfl
  | e :: l=>by
    have e1:entsF (e :: l) args h k n = entF e args h k (entsF l args h k n):=rfl;rw [e1]
    rcases entF_val (e:=e) (args:=args) (h:=h) (k:=k) (n:=entsF l args h k n) with ⟨h1,h2⟩ | h1
    · exact .inl ⟨e,m0,h1,h2⟩
    · rw [h1]
      rcases entsF_val (args:=args) (h:=h) (k:=k) (n:=n) (l:=l) with ⟨e',h2,h3⟩ | h2
      · exact .inl ⟨e',mS _ h2,h3⟩
      · exact .inr h2
theorem tabF_val {args:List AV} {h:Heap} {k:AV→Heap→R} {n:R} {i:Nat}:∀ {t:Tab},(∃ e ∈ t.ents,tabF t i args h k n = k e.v (e.upd h)∧e.speaks args h)∨tabF t i args h k n = n
  | .leaf=>.inr rfl
  | .node key es l r=>by
    have e1:tabF (.node key es l r) i args h k n = yes? (Nat.beq i key) (entsF es args h k n) (yes? (Nat.ble i key) (tabF l i args h k n) (tabF r i args h k n)):=rfl;rw [e1];simp only [Tab.ents]
    cases Nat.beq i key with
    | true =>
      rcases entsF_val (args:=args) (h:=h) (k:=k) (n:=n) (l:=es) with ⟨e,h1,h2⟩ | h1
      · exact .inl ⟨e,List.mem_append.2 (.inl h1),h2⟩
      · exact .inr h1
    | false =>
      cases Nat.ble i key with
      | true =>
        rcases tabF_val (args:=args) (h:=h) (k:=k) (n:=n) (i:=i) (t:=l) with ⟨e,h1,h2⟩ | h1
        · exact .inl ⟨e,List.mem_append.2 (.inr (List.mem_append.2 (.inl h1))),h2⟩
        · exact .inr h1
      | false =>
        rcases tabF_val (args:=args) (h:=h) (k:=k) (n:=n) (i:=i) (t:=r) with ⟨e,h1,h2⟩ | h1
        · exact .inl ⟨e,List.mem_append.2 (.inr (List.mem_append.2 (.inr h1))),h2⟩
        · exact .inr h1

theorem callNF_ok (hE:EnvOK P E) (hdraw:∀ call,CallS P call→∀ n,DrawS P E call n):∀ m,CallS P (callNF E m)
  | 0=>fun fv args pan h k kp r hrun hr=>absurd hrun.symm hr
  | m + 1 => by
    intro fv args pan h k kp r hrun hr;have hcall:=callNF_ok hE hdraw m
    cases fv <;> first | exact absurd hrun.symm hr | skip
    case func g first cap =>
      have hrun:Option.rec (motive:=fun _=>R) .bad (fun x=>appF first args fun a=>appF a cap fun a=>enterF E x (callNF E m) m a pan h k kp) (E.fn g) = r:=hrun
      cases hx:E.fn g with
      | none=>rw [hx] at hrun;exact absurd hrun.symm hr
      | some x =>
        rw [hx] at hrun;have hrun:appF first args (fun a=>appF a cap fun a=>enterF E x (callNF E m) m a pan h k kp) = r:=hrun;rw [appF_eq,appF_eq] at hrun;obtain ⟨fn,hf,hfx⟩:=hE.fn g x hx
        -- what a body gives
        have body:∀ {b:XCode} {l:List XRes},copFun P fn = some (.code b l)→bodyF E b l (callNF E m) m (first++args++cap) pan h k kp = r→∃ res pan' h',resK k kp res pan' h' = r∧CallOK P (.func g first cap) args pan h res pan' h':=by
          intro b l hcop hrun;unfold copFun at hcop
          split at hcop
          · simp at hcop
          · rename_i hnm
            split at hcop
            · rename_i c rs hb hl
              simp only [sJ,XFun.code.injEq] at hcop;obtain ⟨rfl,rfl⟩:=hcop;obtain ⟨res,pan',h',hk,hok⟩:=body_ok hE hcall (hdraw _ hcall) hf hb (by simpa using hnm) hl hrun hr;refine ⟨res,pan',h',hk,fun κ w hr' f' first' cap' e A hA=>?_,fun l e=>by simp at e,.inl ⟨_,_,_,rfl⟩⟩;simp only [AV.func.injEq] at e;obtain ⟨rfl,rfl,rfl⟩:=e;exact hok κ w hr' A hA _
            · simp at hcop
        cases x with
        | code b l=>exact body hfx hrun
        | orc g' b l =>
          obtain ⟨hcop,horc⟩:=hfx
          cases pan with
          | on v=>exact body hcop hrun
          | off =>
            have hrun:tabF g' (keyOf (first++args++cap)) (first++args++cap) h (fun v h=>k v .off h) (bodyF E b l (callNF E m) m (first++args++cap) .off h k kp) = r:=hrun
            rcases tabF_val (t:=g') (i:=keyOf (first++args++cap)) (args:=first++args++cap) (h:=h) (k:=fun v h=>k v .off h) (n:=bodyF E b l (callNF E m) m (first++args++cap) .off h k kp) with ⟨ent,hmem,hv,hsp⟩ | hv
            · rw [hv] at hrun;refine ⟨.ret ent.v,.off,ent.upd h,hrun,fun κ w hr' f' first' cap' e A hA=>?_,fun l e=>by simp at e,.inl ⟨_,_,_,rfl⟩⟩;simp only [AV.func.injEq] at e;obtain ⟨rfl,rfl,rfl⟩:=e;rw [← hsp.1];exact (horc ent hmem).ok κ h w hr' hsp.2.1 hsp.2.2 A (by rw [hsp.1];exact hA)
            · rw [hv] at hrun;exact body hcop hrun
        | con F =>
          cases pan with
          | on v=>exact absurd hrun.symm hr
          | off =>
            have hrun:conF F (first++args++cap) h (fun v h=>k v .off h) = r:=hrun;unfold conF at hrun
            cases hv:F (first++args++cap) h with
            | none=>rw [hv] at hrun;exact absurd hrun.symm hr
            | some vh =>
              obtain ⟨v,h'⟩:=vh;rw [hv] at hrun;refine ⟨.ret v,.off,h',hrun,fun κ w hr' f' first' cap' e A hA=>?_,fun l e=>by simp at e,.inl ⟨_,_,_,rfl⟩⟩;simp only [AV.func.injEq] at e;obtain ⟨rfl,rfl,rfl⟩:=e;exact ConOK.ok hfx κ h w _ v h' hv hr' A hA
    case yield l =>
      have hrun:roundF E (callNF E m) m l args h k kp = r:=hrun;obtain ⟨res,h',hk,hok⟩:=round_ok hE hcall (hdraw _ hcall) hrun hr;refine ⟨res,.off,h',hk,fun κ w hr' f' first' cap' e=>by simp at e,fun l' e=>?_,.inr ⟨_,rfl⟩⟩;simp only [AV.yield.injEq] at e;subst e;exact hok
end
end Go.X
