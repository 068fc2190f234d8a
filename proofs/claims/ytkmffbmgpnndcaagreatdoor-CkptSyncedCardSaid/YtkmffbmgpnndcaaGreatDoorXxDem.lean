/- The next entry of a map of many: whichever. -/
import Derived.Test.YtkmffbmgpnndcaaGreatDoorXxTab
import Derived.Test.YtkmffbmgpnndcaaGreatDoorXxWpc
namespace Go.X
open Go
section
variable {P:Program} {κ:Kp} {h:Heap} {w:World} {n:Nat} {tm:Tm} {a:Act} {o:Oper}

theorem choose_next (m:Nat) (hm:0 < m) (w:World):∃ i w',(choose (.mapNext m)).run P w = .ok i w'∧i < m∧(w' = w∨w' = World.draw w):=by
  by_cases h1:m ≤ 1
  · refine ⟨0,w,?_,hm,.inl rfl⟩;simp [choose,Sem.run,Question.forced,h1]
  · refine ⟨(w.tape w.drawn (.mapNext m)) % m,World.draw w,?_,Nat.mod_lt _ hm,.inr rfl⟩;simp [choose,Sem.run,Question.forced,h1,Question.cut,World.draw]
theorem VRe.mem {κ:Kp}:∀ {es:List (AV × AV × Nat)} {l:List MapEntry},VRe κ es l→∀ e ∈ l,∃ k u,(k,u,e.born) ∈ es∧VR κ k e.key∧VR κ u e.val
  | [],l,h,e,he=>by have h:l = []:=h;subst h;simp at he
  | (k,u,b) :: es,l,h,e,he=>by
    obtain ⟨f,r,rfl,h1,h2,h3,h4⟩:=h
    rcases List.mem_cons.1 he with rfl | he
    · exact ⟨k,u,by rw [h3];exact m0,h1,h2⟩
    · obtain ⟨k',u',h5,h6⟩:=VRe.mem h4 e he;exact ⟨k',u',mS _ h5,h6⟩

theorem nextAny (hr:HR P κ h w) (ht:TR κ n tm a.tmps) {x:Operand} {xo:XO} (hx:opnd x = some xo) (ho:o.op = .next x false) {p m:Pos} {since cl:Nat} {seen:List Nat} {es:List (AV × AV × Nat)}
    (hv:xo.val tm = some (.ptr p 0)) (hi:h.get p = .mIter (some m) since seen cl) (hm:h.get m = .map es cl) (hb:∀ e ∈ es,e.2.2 < since∧e.2.2 < cl) :
    (leftE seen es = []∧OpRes P o a κ h w over h)∨∃ k u b,(k,u,b) ∈ leftE seen es∧OpRes P o a κ h w (.tuple [.bool true,k,u]) (h.set p (.mIter (some m) since (seen++[b]) cl)):=by
  have e1:=opnd_ok ht hx hv;simp only [VR] at e1;obtain ⟨q,e1,e3⟩:=e1;have hob:=hr.obj p q e1;rw [hi] at hob;obtain ⟨hd,m',g1,g2,y,g3,g4⟩:=hob;subst g4;rw [hd] at e3;have hgo:(getObj q.b).run P w = .ok (.mapIter (some y.b) since seen.toArray cl) w:=by simp [getObj,Sem.run,g1]
  obtain ⟨arr,f1,f2⟩:=map_of hr g3 hm;have hl:=leftE_ok seen f2;have hleft:(arr.filter fun e=>!seen.toArray.contains e.born).toList = arr.toList.filter fun e=>!seen.toArray.contains e.born:=Array.toList_filter
  rw [← hleft] at hl;have hgo2:=run_getMap (P:=P) f1;have hborn:∀ e ∈ arr.toList,e.born < since∧e.born < cl:=fun e he=>by
    obtain ⟨k,u,h1,_⟩:=VRe.mem f2 e he;exact hb _ h1
  -- no entry that the range came to is newer than its last step
  have hguard:(!seen.toArray.isEmpty && !arr.isEmpty && arr.all (fun e=>decide (e.born ≥ cl))) = false:=by
    by_cases harr:arr = #[]
    · subst harr;simp
    · have hpos:0 < arr.size:=Array.size_pos_iff.2 harr;have hlt:=(hborn arr[0] (by simp)).2;have:arr.all (fun e=>decide (e.born ≥ cl)) = false:=by
        rw [Bool.eq_false_iff];intro hall;have:=Array.all_eq_true.1 hall 0 hpos;simp at this;omega
      rw [this];simp
  generalize hL:(arr.filter fun e=>!seen.toArray.contains e.born) = L at hl
  have hLb:∀ e ∈ L.toList,e.born < since:=fun e he=>by
    rw [← hL,Array.mem_toList_iff,Array.mem_filter] at he;exact (hborn e (by simpa using he.1)).1
  have hold:L.filter (fun e=>decide (e.born < since)) = L:=by
    rw [Array.filter_eq_self];intro e he;simpa using hLb e (by simpa using he)
  have hnew:L.filter (fun e=>decide (e.born ≥ since)) = #[]:=by
    rw [Array.filter_eq_empty_iff];intro e he;have:=hLb e (by simpa using he);simp;omega
  cases hle:leftE seen es with
  | nil =>
    rw [hle] at hl;simp only [VRe] at hl;have hl':L = #[]:=by apply Array.ext';rw [hl]
    refine .inl ⟨rfl,.pure (v':=.tuple #[.bool false]) hr (by simp only [over,VR];exact ⟨_,rfl,by simp [VRl,VR]⟩) ?_⟩;simp only [execOp,ho,Sem.run_bind,e3,Instr.next,hgo,hgo2,Result.andThen_ok,hguard,Bool.false_eq_true,if_false,hL];simp [hl',choose,Sem.run,Question.forced]
  | cons t r =>
    have hne:L ≠ #[]:=by
      rintro rfl;rw [hle] at hl;obtain ⟨k,u,b⟩:=t;obtain ⟨e,r',l1,_⟩:=hl;simp at l1
    have hemp:L.isEmpty = false:=by simpa using hne
    have hsz:0 < L.size:=Array.size_pos_iff.2 hne;obtain ⟨i,w',hch,hi',hw'⟩:=choose_next (P:=P) L.size hsz w;obtain ⟨k,u,h1,h2,h3⟩:=VRe.mem hl L[i] (by simp);refine .inr ⟨k,u,L[i].born,by rw [← hle];exact h1,?_⟩;have hdraw:Ext P κ h w κ h w':=by
      rcases hw' with rfl | rfl
      · exact .refl hr
      · exact Ext.draw hr
    have hheap:w'.heap = w.heap:=by rcases hw' with rfl | rfl <;> rfl
    have g1':w'.heap[q.b]? = some (.mapIter (some y.b) since seen.toArray cl):=by rw [hheap];exact g1
    have hset:(setObj q.b (.mapIter (some y.b) since (seen.toArray.push L[i].born) cl)).run P w' = .ok () (World.put w' q.b (.mapIter (some y.b) since (seen.toArray.push L[i].born) cl)):=by simp [setObj,Sem.run,g1',World.put]
    have hpush:seen.toArray.push L[i].born = (seen++[L[i].born]).toArray:=by simp
    have hbi:L[i].born < cl:=by
      have hin:∀ e ∈ L,e ∈ arr:=fun e he=>by rw [← hL,Array.mem_filter] at he;exact he.1
      have:L[i] ∈ arr:=hin _ (Array.getElem_mem hi');exact (hborn _ (by simpa using this)).2
    refine .inl ⟨.value (.tuple #[.bool true,L[i].key,L[i].val]),_,κ,?_,.inl ⟨_,rfl,?_⟩,hdraw.trans (Ext.update hdraw.hr ⟨e1,by rw [hi];simp⟩ _ (.mapIter (some y.b) since (seen.toArray.push L[i].born) cl) ⟨hd,some y.b,?_,?_,y,g3,rfl⟩)⟩
    · simp only [execOp,ho,e3,Instr.next,Sem.run_bind,hgo,hgo2,Result.andThen_ok,Sem.run_pure,hguard,Bool.false_eq_true,if_false,hL,hold,hnew,hemp];simp only [Array.append_empty,Array.empty_append,Array.size_map,hch,Result.andThen_ok];simp only [Array.getElem?_map,Array.getElem?_eq_getElem hi',Option.map_some,Sem.run_bind,hset,Result.andThen_ok,Sem.run_pure]
    · simp only [VR];refine ⟨_,rfl,?_⟩;simp only [VRl,VR];exact ⟨_,_,rfl,rfl,_,_,rfl,h2,_,_,rfl,h3,rfl⟩
    · rw [← hpush];exact put_heap_same _ _ _ (Array.getElem?_eq_some_iff.1 g1').1
    · intro b' hb'
      rcases List.mem_append.1 hb' with hb' | hb'
      · exact g2 b' hb'
      · simp at hb';omega
end
end Go.X

/- Code that can go more than one way ('next' of a map of many): what holds whichever way it goes. No panics,no deferred calls. -/
namespace Go.X
open Go
section
variable {P:Program} {E:XEnv} {n:Nat} {Q Q':XExit→Tm→Heap→Prop} {tm:Tm} {h:Heap}

def MayQ (P:Program) (n B:Nat) (kd:CallKind) (κ:Kp) (h:Heap) (w:World) (cs₀:List Frame) (Q:XExit→Tm→Heap→Prop):PostS:=fun e a' cs' w' =>
  ∃ x tm' h' κ',Q x tm' h'∧Ext P κ h w κ' h' w'∧St P n B kd κ' tm' [] .off h' cs₀ a' cs' w'∧e = exitX x
def MayT (P:Program) (n:Nat) (c:Code) (Q:XExit→Tm→Heap→Prop) (tm:Tm) (h:Heap):Prop :=
  ∀ kd:CallKind,kd ≠ .early→∀ B κ cs₀ a cs w,St P n B kd κ tm [] .off h cs₀ a cs w→XW P none kd c (MayQ P n B kd κ h w cs₀ Q) a cs w
def MayL (P:Program) (n:Nat) (c:Code) (Q:XExit→Tm→Heap→Prop) (tm:Tm) (h:Heap):Prop :=
  ∀ kd:CallKind,kd ≠ .early→∀ B κ cs₀ a cs w,St P n B kd κ tm [] .off h cs₀ a cs w→XL P none kd c (MayQ P n B kd κ h w cs₀ Q) a cs w

theorem MayQ.ext {B:Nat} {kd:CallKind} {κ κ₁:Kp} {h h₁:Heap} {w w₁:World} {cs₀:List Frame} (e:Ext P κ h w κ₁ h₁ w₁) {x:Exit} {a:Act} {cs:List Frame} {w':World} (q:MayQ P n B kd κ₁ h₁ w₁ cs₀ Q x a cs w'):MayQ P n B kd κ h w cs₀ Q x a cs w' :=
  let ⟨y,t,h',κ',q1,q2,q3⟩:=q;⟨y,t,h',κ',q1,e.trans q2,q3⟩
theorem MayT.mono {c:Code} (hq:∀ e tm h,Q e tm h→Q' e tm h) (hw:MayT P n c Q tm h):MayT P n c Q' tm h:=fun kd hkd B κ cs₀ a cs w s =>
  (hw kd hkd B κ cs₀ a cs w s).mono fun _ _ _ _ ⟨y,t,h',κ',q1,q2⟩=>⟨y,t,h',κ',hq _ _ _ q1,q2⟩
theorem MayL.mono {c:Code} (hq:∀ e tm h,Q e tm h→Q' e tm h) (hw:MayL P n c Q tm h):MayL P n c Q' tm h:=fun kd hkd B κ cs₀ a cs w s b k hb hk =>
  let ⟨e,a',cs',w',⟨y,t,h',κ',q1,q2⟩,r⟩:=hw kd hkd B κ cs₀ a cs w s b k hb hk;⟨e,a',cs',w',⟨y,t,h',κ',hq _ _ _ q1,q2⟩,r⟩
open Classical in
theorem May_code (hmix:P.follows .mixedOrders = true) (hE:EnvOK P E) {c:Code} (hw:CT E (cop P n false c) Q tm h):MayT P n c Q tm h:=by
  obtain ⟨e,tm',h',hq,N,hrun⟩:=hw
  let k:KE:=fun x t ds pan hh=>if x = e∧t = tm'∧ds = []∧pan = .off∧hh = h' then .ok unit h else .bad
  have hk0:k e tm' [] .off h' = .ok unit h:=by simp [k]
  have hr:=hrun N (Nat.le_refl _) [] .off k (fun _ _ _ _ _=>.bad);rw [hk0] at hr;obtain ⟨res,t2,ds2,pan2,h2,hk,hok⟩:=code_ok hE (calls_sound hmix hE N) (draw_ok hmix hE (calls_sound hmix hE N)) c false tm [] .off h k _ _ hr (by simp)
  cases res with
  | pan v=>exact absurd hk (by simp [CRes.k])
  | exit x =>
    have hk:k x t2 ds2 pan2 h2 = .ok unit h:=hk;simp only [k] at hk
    split at hk
    case isFalse=>simp at hk
    rename_i hx
    obtain ⟨rfl,rfl,rfl,rfl,rfl⟩:=hx;intro kd hkd B κ cs₀ a cs w s;refine (hok kd none hkd (by simp) B κ cs₀ a cs w trivial s).mono fun e' a' cs' w' q=>?_
    rcases q with q | ⟨κ',hx,s',he⟩
    · exact q.elim
    · exact ⟨x,t2,h2,κ',hq,hx,s',he⟩
theorem May_seq {x y:Code} (hw:MayT P n x (fun e=>match e with | .normal=>MayT P n y Q | .exit i=>Q (.exit i) | .ret=>Q .ret) tm h):MayT P n (.seq x y) Q tm h:=by
  intro kd hkd B κ cs₀ a cs w s;refine xw_seq ((hw kd hkd B κ cs₀ a cs w s).mono fun e a' cs' w' q=>?_);obtain ⟨z,t,h',κ',q1,q2,q3,rfl⟩:=q
  cases z with
  | normal=>exact (q1 kd hkd B κ' cs₀ a' cs' w' q3).mono fun _ _ _ _ q=>q.ext q2
  | exit i=>exact ⟨.exit i,t,h',κ',q1,q2,q3,rfl⟩
  | ret=>exact ⟨.ret,t,h',κ',q1,q2,q3,rfl⟩
theorem May_cond {c:Operand} {co:XO} {x y:Code} {b:Bool} (hc:opnd c = some co) (hv:co.val tm = some (.bool b)) (hw:MayT P n (if b then x else y) Q tm h):MayT P n (.cond c x y) Q tm h:=by
  intro kd hkd B κ cs₀ a cs w s;have hV:=opnd_ok s.ht hc hv;simp only [VR] at hV;exact xw_cond hV (hw kd hkd B κ cs₀ a cs w s)
theorem May_block {id:Nat} {c:Code} (hw:MayT P n c (fun e=>match e with | .normal=>Q .normal | .exit i=>(fun tm h=>if i = id then Q .normal tm h else Q (.exit i) tm h) | .ret=>Q .ret) tm h):MayT P n (.block id c) Q tm h:=by
  intro kd hkd B κ cs₀ a cs w s;refine xw_block ((hw kd hkd B κ cs₀ a cs w s).mono fun e a' cs' w' q=>?_);obtain ⟨z,t,h',κ',q1,q2,q3,rfl⟩:=q
  cases z with
  | normal=>exact ⟨.normal,t,h',κ',q1,q2,q3,rfl⟩
  | exit i =>
    have q1:if i = id then Q .normal t h' else Q (.exit i) t h':=q1
    simp only [exitX,blockX]
    by_cases hi:i = id
    · rw [if_pos hi] at q1 ⊢;exact ⟨.normal,t,h',κ',q1,q2,q3,rfl⟩
    · rw [if_neg hi] at q1 ⊢;exact ⟨.exit i,t,h',κ',q1,q2,q3,rfl⟩
  | ret=>exact ⟨.ret,t,h',κ',q1,q2,q3,rfl⟩
theorem May_skip (hw:Q .normal tm h):MayT P n .skip Q tm h:=fun _ _ _ κ _ _ _ _ s=>xw_skip ⟨.normal,tm,h,κ,hw,.refl s.hr,s,rfl⟩
theorem May_exit {id:Nat} (hw:Q (.exit id) tm h):MayT P n (.exit id) Q tm h:=fun _ _ _ κ _ _ _ _ s=>xw_exit ⟨.exit id,tm,h,κ,hw,.refl s.hr,s,rfl⟩
theorem May_loop {c:Code} (hw:MayL P n c Q tm h):MayT P n (.loop c) Q tm h:=fun kd hkd B κ cs₀ a cs w s=>xw_loop (hw kd hkd B κ cs₀ a cs w s)
theorem May_round {c:Code} (hw:MayT P n c (fun e=>match e with | .normal=>MayL P n c Q | .exit i=>Q (.exit i) | .ret=>Q .ret) tm h):MayL P n c Q tm h:=by
  intro kd hkd B κ cs₀ a cs w s;refine xl_round ((hw kd hkd B κ cs₀ a cs w s).mono fun e a' cs' w' q=>?_);obtain ⟨z,t,h',κ',q1,q2,q3,rfl⟩:=q
  cases z with
  | normal =>
    intro b k hb hk;obtain ⟨e,a₂,cs₂,w₂,q,r⟩:=q1 kd hkd B κ' cs₀ a' cs' w' q3 b k hb hk;exact ⟨e,a₂,cs₂,w₂,q.ext q2,r⟩
  | exit i=>exact ⟨.exit i,t,h',κ',q1,q2,q3,rfl⟩
  | ret=>exact ⟨.ret,t,h',κ',q1,q2,q3,rfl⟩
theorem May_next (hmix:P.follows .mixedOrders = true) (hE:EnvOK P E) {id:Nat} {ops:Array Oper} {o:Oper} {x:Operand} {xo:XO} (h0:ops[0]? = some o) (ho:o.op = .next x false) (hg:o.guard = none) (hdst:∀ y,o.dst = some y→y < n) (hx:opnd x = some xo)
    {p m:Pos} {since cl:Nat} {seen:List Nat} {es:List (AV × AV × Nat)} (hv:xo.val tm = some (.ptr p 0)) (hi:h.get p = .mIter (some m) since seen cl) (hm:h.get m = .map es cl) (hb:∀ e ∈ es,e.2.2 < since∧e.2.2 < cl)
    (hover:leftE seen es = []→OT E ((ops.toList.drop 1).map (copOper P n false ops)) (Q .normal) (putT (o.dst.map Slot.slot) over tm) h)
    (hmore:∀ k u b,(k,u,b) ∈ leftE seen es→OT E ((ops.toList.drop 1).map (copOper P n false ops)) (Q .normal) (putT (o.dst.map Slot.slot) (.tuple [.bool true,k,u]) tm) (h.set p (.mIter (some m) since (seen++[b]) cl))) :
    MayT P n (.region id ops false) Q tm h:=by
  have hsz:0 < ops.size:=(Array.getElem?_eq_some_iff.1 h0).1
  -- what follows
  have rest:∀ {tm₁:Tm} {h₁:Heap},OT E ((ops.toList.drop 1).map (copOper P n false ops)) (Q .normal) tm₁ h₁→∀ kd:CallKind,kd ≠ .early→∀ B κ cs₀ a cs w,St P n B kd κ tm₁ [] .off h₁ cs₀ a cs w →
      XOps P none kd ops (MayQ P n B kd κ h₁ w cs₀ Q) (List.range' 1 (ops.size - 1)) a cs w:=by
    classical
    rintro tm₁ h₁ ⟨tm',h',hq,N,hrun⟩ kd hkd B κ cs₀ a cs w s
    let k:KS:=fun t ds pan hh=>if t = tm'∧ds = []∧pan = .off∧hh = h' then .ok unit h else .bad
    have hk0:k tm' [] .off h' = .ok unit h:=by simp [k]
    have hr:=hrun N (Nat.le_refl _) [] .off k (fun _ _ _ _ _=>.bad);rw [hk0] at hr;obtain ⟨res,t2,ds2,pan2,h2,hk,hn,hok⟩:=opsF_ok hE (calls_sound hmix hE N) (ops.size - 1) 1 (by omega) hr (by simp)
    cases res with
    | pan v=>exact absurd hk (by simp [CRes.k])
    | exit z =>
      have:=hn z rfl;subst this;have hk:k t2 ds2 pan2 h2 = .ok unit h:=hk;simp only [k] at hk
      split at hk
      case isFalse=>simp at hk
      rename_i hz
      obtain ⟨rfl,rfl,rfl,rfl⟩:=hz;refine XOps.mono (fun e' a' cs' w' q=>?_) (hok kd none hkd (by simp) B κ cs₀ a cs w s)
      rcases q with q | ⟨κ',hx,s',he⟩
      · exact q.elim
      · exact ⟨.normal,t2,h2,κ',hq,hx,s',he⟩
  intro kd hkd B κ cs₀ a cs w s;refine xw_region ?_;have hrange:List.range ops.size = 0 :: List.range' 1 (ops.size - 1):=by
    rw [range'_all];obtain ⟨m,hm⟩:∃ m,ops.size = m + 1:=⟨ops.size - 1,by omega⟩;rw [hm,List.range'_succ];rfl
  rw [hrange];have hwant:Region.wanted o (yielded ops a.tmps) = true:=by simp [Region.wanted,hg]
  have hnd:∀ c,o.op ≠ .defer c:=by simp [ho]
  have one:∀ {v:AV} {h₁:Heap},OpRes P o a κ h w v h₁→OT E ((ops.toList.drop 1).map (copOper P n false ops)) (Q .normal) (putT (o.dst.map Slot.slot) v tm) h₁ →
      XOps P none kd ops (MayQ P n B kd κ h w cs₀ Q) (0 :: List.range' 1 (ops.size - 1)) a cs w:=by
    intro v h₁ hres hot
    rcases hres with ⟨nx,w',κ',hrun,hnx,hE'⟩ | hno
    · rcases hnx with ⟨v',rfl,hvr⟩ | ⟨rfl,rfl⟩
      · exact opTo_value h0 hwant hnd hrun (XOps.mono (fun _ _ _ _ q=>q.ext hE') (rest hot kd hkd B κ' cs₀ _ cs w' ((s.ext hE').put hdst hvr)))
      · exact opTo_unit h0 hwant hnd hrun (XOps.mono (fun _ _ _ _ q=>q.ext hE') (rest hot kd hkd B κ' cs₀ _ cs w' ((s.ext hE').put hdst VR_unit)))
    · exact hno.elim
  rcases nextAny s.hr s.ht hx ho hv hi hm hb with ⟨hl,hres⟩ | ⟨k,u,b,hl,hres⟩
  · exact one hres (hover hl)
  · exact one hres (hmore k u b hl)
theorem fn_any {f:FuncId} {fn:Func} {c:Code} (hf:P.funcs[f]? = some fn) (hb:fn.body = some c) {l:List XRes} (hl:fn.results.toList.mapM (copRes P) = some l) {args:List AV} {R:AV→Heap→Prop}
    (hw:MayT P fn.ntmps c (fun e tm' h'=>(e = .normal∨e = .ret)∧∃ v,(∀ k:AV→Go.X.R,resF l tm' h' (fun vs=>oneF vs k) = k v)∧R v h') (initT args 0 .leaf) h)
    {κ:Kp} {w:World} (hr:HR P κ h w) {A:Array Value} (hA:VRl κ args A.toList):Calls P f A w fun e w'=>∃ v h' κ',R v h'∧ResE κ' (.ret v) e∧Ext P κ h w κ' h' w':=by
  intro cs
  let b:Frame:={ (default:Frame) with fn:=f,kind:=.normal,roundOf:=none }
  have henter:Frame.enter P f A .normal = b.atR { tmps:=A++Array.replicate (fn.ntmps - A.size) undef,defers:=[] } [.code c]:=by
    simp [Frame.enter,Frame.atR,hf,hb,b]
  have s:St P fn.ntmps w.heap.size .normal κ (initT args 0 .leaf) [] .off h cs { tmps:=A++Array.replicate (fn.ntmps - A.size) undef,defers:=[] } cs w:=⟨hr,initT_TR hA,.nil,.same fun fr hfr=>by simp [tryRecover,hfr],Nat.le_refl _⟩;obtain ⟨e,a',cs',w₁,hq,harr⟩:=hw .normal (by simp) w.heap.size κ cs _ cs w s b [] ⟨rfl,fn,hf⟩ rfl;rw [← henter] at harr;obtain ⟨x,tm',h',κ',⟨hx,v,hres,hR⟩,hext,s',rfl⟩:=hq;obtain ⟨_,rfl⟩:=s'.hc.off_normal;have hout:∃ fr:Frame,Steps P (lone (Frame.enter P f A .normal) cs' w) (lone fr cs' w₁)∧fr.kind = .normal∧fr.fn = f∧PU κ' .off fr.mode∧fr.defers = a'.defers∧fr.tmps = a'.tmps:=by
    rcases hx with rfl | rfl
    · have harr:ST P _ (lone (b.atR a' []) cs' w₁):=harr;exact ⟨{ b.atR a' [] with mode:=.returning },Steps.trans harr.steps (.one (stepR_end rfl)),rfl,rfl,rfl,rfl,rfl⟩
    · obtain ⟨todo,hs⟩:=harr.1 rfl;exact ⟨{ b.atR a' todo with mode:=.returning },hs.steps,rfl,rfl,rfl,rfl,rfl⟩
  obtain ⟨fr,hs,hk1,hf1,hu,hd,ht⟩:=hout
  -- the results
  have hleave:leaveF [] l tm' (fun _ _ _ _ _ _=>.bad) .off .off h' (fun v _ h=>.ok v h) (fun _ _ _=>.bad) = .ok v h':=hres (fun v=>.ok v h');obtain ⟨res,h₂,hk',hok'⟩:=leaveF_ok (P:=P) (n:=fn.ntmps) (call:=fun _ _ _ _ _ _=>.bad) (fun _ _ _ _ _ _ _ hc hbad=>absurd hc.symm hbad) hl hleave (by simp)
  cases res with
  | pan v=>exact absurd hk' (by simp [resK])
  | ret v₂ =>
    simp only [resK,Go.X.R.ok.injEq] at hk';obtain ⟨rfl,rfl⟩:=hk';obtain ⟨e',w',fr',q,hc',k',f',g'⟩:=hok' κ h w κ' w₁ hext fr cs' hu (by rw [hd];exact s'.hd) (by rw [ht];exact s'.ht) (by rw [hf1];exact hf)
    rcases q with q | ⟨κ₂,q1,q2,_⟩
    · exact q.elim
    · refine ⟨e',w',fr',⟨v₂,h₂,κ₂,hR,q1,q2⟩,Comes.of_steps hs hc',f'.trans hf1,?_⟩
      cases e' with
      | returned v'=>obtain ⟨g1,g2,g3⟩:=g';exact ⟨g1,g2,k'.trans hk1,g3⟩
      | panicked ch=>exact q1.elim
      | outgrown=>exact q1.elim
end
end Go.X
