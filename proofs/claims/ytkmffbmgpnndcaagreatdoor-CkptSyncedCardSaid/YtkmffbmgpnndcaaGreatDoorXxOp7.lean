/- The instructions of X against the model's operations, 7: lengths, least and greatest, composite values, equality of structs. -/
import Derived.Test.YtkmffbmgpnndcaaGreatDoorXxOp4
import Derived.Laws.MakeOwn
import Derived.Laws.BytesString
import Derived.Laws.Append
import Derived.Laws.AppendOwn
namespace Go.X
open Go

section
variable {P:Program} {κ:Kp} {h h':Heap} {w:World} {n:Nat} {tm:Tm} {a:Act} {o:Oper} {v:AV}

/-! ### calls of builtins -/
theorem run_builtinOp {c:Call} {b:Builtin} (ho:o.op = .call c) (hc:c.callee = .builtin b) {r:Result Next} (hb:∀ cs,(builtin b c.argTypes o.type cs (c.args.map a.eval)).run P w = r):(execOp a.eval o).run P w = r:=by
  simp only [execOp,ho,resolve,hc,Sem.run_bind,Sem.run_pure,Result.andThen_ok,invoke];exact hb _
theorem args_eq {xs:Array Operand} {l:List Operand} (h:xs.toList = l):xs.map a.eval = (l.map a.eval).toArray:=by
  apply Array.ext'
  simp [h]
theorem mapM_one {α β:Type} {f:α→Option β} {l:List α} {y:β} (h:l.mapM f = some [y]):∃ x,l = [x]∧f x = some y:=by
  match l with
  | []=>simp at h
  | [x] =>
    simp only [List.mapM_cons,List.mapM_nil,Option.bind_eq_bind,bJ,Option.pure_def,sJ] at h;obtain ⟨p,h1,q,rfl,h3⟩:=h;simp only [List.cons.injEq,and_true] at h3;subst h3;exact ⟨x,rfl,h1⟩
  | x :: x' :: r =>
    simp only [List.mapM_cons,Option.bind_eq_bind,bJ,Option.pure_def,sJ] at h;obtain ⟨_,_,_,⟨_,_,_,_,rfl⟩,h⟩:=h;simp at h
theorem mapM_two {α β:Type} {f:α→Option β} {l:List α} {y z:β} (h:l.mapM f = some [y,z]):∃ x u,l = [x,u]∧f x = some y∧f u = some z:=by
  match l with
  | []=>simp at h
  | x :: r =>
    simp only [List.mapM_cons,Option.bind_eq_bind,bJ,Option.pure_def,sJ] at h;obtain ⟨p,h1,q,h2,h3⟩:=h;simp only [List.cons.injEq] at h3;obtain ⟨rfl,rfl⟩:=h3;obtain ⟨u,rfl,h4⟩:=mapM_one h2;exact ⟨x,u,rfl,h1,h4⟩
theorem mapM_nil {α β:Type} {f:α→Option β} {l:List α} (h:l.mapM f = some []):l = []:=by
  cases l with
  | nil=>rfl
  | cons x r =>
    simp only [List.mapM_cons,Option.bind_eq_bind,bJ,Option.pure_def,sJ] at h;obtain ⟨_,_,_,_,h⟩:=h;simp at h

/-! ### lengths -/
theorem lenStr_ok (hr:HR P κ h w) (ht:TR κ n tm a.tmps) {c:Call} (hc:c.callee = .builtin .len) {t:TypeId} (hT:c.argTypes[0]? = some t) (hu:P.underlying t = some .string) {x:Operand} {xo:XO} (hl:c.args.toList = [x]) (hx:opnd x = some xo)
    (ho:o.op = .call c) (hs:lenS true xo tm h = .ok v h'):OpRes P o a κ h w v h':=by
  obtain ⟨y,h1,h2⟩:=withO_ok hs;have e1:=opnd_ok ht hx h1
  cases y <;> first | (simp at h2;done) | skip
  rename_i l
  simp only [VR] at e1;obtain ⟨s,e3,e4⟩:=e1;simp only [okI,Out.ok.injEq] at h2;obtain ⟨rfl,rfl⟩:=h2;refine .pure (v':=goInt s.size) hr ?_ (run_builtinOp ho hc fun cs=>?_)
  · simp only [VR,goInt,lenN_eq,Nat.add_zero,size_of e4];rfl
  · rw [args_eq hl];simp [builtin,Builtin.len_,hT,e3,run_underlyingT hu]
theorem lenSl_ok (hr:HR P κ h w) (ht:TR κ n tm a.tmps) {c:Call} (hc:c.callee = .builtin .len) {t e:TypeId} (hT:c.argTypes[0]? = some t) (hu:P.underlying t = some (.slice e)) {x:Operand} {xo:XO} (hl:c.args.toList = [x]) (hx:opnd x = some xo)
    (ho:o.op = .call c) (hs:lenS false xo tm h = .ok v h'):OpRes P o a κ h w v h':=by
  obtain ⟨y,h1,h2⟩:=withO_ok hs;have e1:=opnd_ok ht hx h1;have fin:∀ {q:Option Addr} {m k:Nat},a.eval x = .slice q m k→okI .i64 (.ofNat m) h = .ok v h'→OpRes P o a κ h w v h':=by
    intro q m k e3 e4;simp only [okI,Out.ok.injEq] at e4;obtain ⟨rfl,rfl⟩:=e4;refine .pure (v':=goInt m) hr (by simp only [VR,goInt];rfl) (run_builtinOp ho hc fun cs=>?_);rw [args_eq hl];simp [builtin,Builtin.len_,hT,e3,run_underlyingT hu]
  cases y <;> first | (simp at h2;done) | skip
  case nilslice=>simp only [VR] at e1;exact fin e1 h2
  case slice=>simp only [VR] at e1;obtain ⟨_,_,_,_,e1,_⟩:=e1;exact fin e1 h2
  case imm=>simp only [VR] at e1;obtain ⟨_,_,e1,_⟩:=e1;exact fin e1 h2
theorem lenC_ok (hr:HR P κ h w) {c:Call} (hc:c.callee = .builtin .len) {t e:TypeId} {m:Nat} (hT:c.argTypes[0]? = some t) (hu:P.underlying t = some (.array m e)∨∃ q,P.underlying t = some (.pointer q)∧P.underlying q = some (.array m e)) {x:Operand} (hl:c.args.toList = [x])
    (ho:o.op = .call c) (hs:okI .i64 (.ofNat m) h = .ok v h'):OpRes P o a κ h w v h':=by
  simp only [okI,Out.ok.injEq] at hs;obtain ⟨rfl,rfl⟩:=hs;refine .pure (v':=goInt m) hr (by simp only [VR,goInt];rfl) (run_builtinOp ho hc fun cs=>?_);rw [args_eq hl]
  rcases hu with hu | ⟨q,hu,hq⟩
  · simp [builtin,Builtin.len_,hT,run_underlyingT hu]
  · simp [builtin,Builtin.len_,hT,run_underlyingT hu,run_underlyingT hq]
theorem cap_ok (hr:HR P κ h w) (ht:TR κ n tm a.tmps) {c:Call} (hc:c.callee = .builtin .cap) {t e:TypeId} (hT:c.argTypes[0]? = some t) (hu:P.underlying t = some (.slice e)) {x:Operand} {xo:XO} (hl:c.args.toList = [x]) (hx:opnd x = some xo)
    (ho:o.op = .call c) (hs:capS xo tm h = .ok v h'):OpRes P o a κ h w v h':=by
  obtain ⟨y,h1,h2⟩:=withO_ok hs;have e1:=opnd_ok ht hx h1;have fin:∀ {q:Option Addr} {m k:Nat},a.eval x = .slice q m k→okI .i64 (.ofNat k) h = .ok v h'→OpRes P o a κ h w v h':=by
    intro q m k e3 e4;simp only [okI,Out.ok.injEq] at e4;obtain ⟨rfl,rfl⟩:=e4;refine .pure (v':=goInt k) hr (by simp only [VR,goInt];rfl) (run_builtinOp ho hc fun cs=>?_);rw [args_eq hl];simp [builtin,Builtin.cap_,hT,e3,run_underlyingT hu]
  cases y <;> first | (simp at h2;done) | skip
  case nilslice=>simp only [VR] at e1;exact fin e1 h2
  case slice p q len cp =>
    simp only [VR] at e1;obtain ⟨_,_,_,_,e1,_,_,e2⟩:=e1
    cases cp with
    | ex r=>dsimp only at e2;subst e2;exact fin e1 h2
    | up z=>simp at h2
  case imm cs len full =>
    simp only [VR] at e1;obtain ⟨_,_,e1,_,e2,_⟩:=e1
    cases full with
    | true=>have:=e2 rfl;subst this;exact fin e1 h2
    | false=>simp at h2

/-! ### least and greatest -/
theorem minmaxL_ok (mx:Bool):∀ {l:List AV} {ls:List Value} {k:IntKind} {x:Int},VRl κ l ls→minmaxL mx l k x h = .ok v h' →
    h' = h∧∃ v',(ls.foldlM (if mx then Builtin.max2 else Builtin.min2) (.int k x)).run P w = .ok v' w∧VR κ v v'
  | [],ls,k,x,hl,hs=>by
    simp only [VRl] at hl;subst hl;simp only [minmaxL,okI,Out.ok.injEq] at hs;obtain ⟨rfl,rfl⟩:=hs;exact ⟨rfl,_,by simp only [List.foldlM_nil,Sem.run_pure];rfl,by simp only [VR]⟩
  | c :: l,ls,k,x,hl,hs=>by
    simp only [VRl] at hl;obtain ⟨u,r,rfl,h1,h2⟩:=hl;simp only [minmaxL] at hs
    cases c <;> first | (simp at hs;done) | skip
    rename_i k' b
    simp only [VR] at h1;subst h1
    cases mx with
    | false =>
      dsimp only at hs
      cases hlt:ltI b x with
      | true =>
        rw [hlt] at hs;obtain ⟨e1,v',e2,e3⟩:=minmaxL_ok false h2 hs;refine ⟨e1,v',?_,e3⟩;rw [ltI_eq] at hlt;have hlt:b < x:=by simpa using hlt
        simp only [List.foldlM_cons,Bool.false_eq_true,if_false,Builtin.min2,Sem.run_bind,Sem.run_pure,Result.andThen_ok,if_pos hlt] at e2 ⊢;exact e2
      | false =>
        rw [hlt] at hs;obtain ⟨e1,v',e2,e3⟩:=minmaxL_ok false h2 hs;refine ⟨e1,v',?_,e3⟩;rw [ltI_eq] at hlt;have hlt : ¬ b < x:=by simpa using hlt
        simp only [List.foldlM_cons,Bool.false_eq_true,if_false,Builtin.min2,Sem.run_bind,Sem.run_pure,Result.andThen_ok,if_neg hlt] at e2 ⊢;exact e2
    | true =>
      dsimp only at hs
      cases hlt:ltI x b with
      | true =>
        rw [hlt] at hs;obtain ⟨e1,v',e2,e3⟩:=minmaxL_ok true h2 hs;refine ⟨e1,v',?_,e3⟩;rw [ltI_eq] at hlt;have hlt:b > x:=by simpa using hlt
        simp only [List.foldlM_cons,if_true,Builtin.max2,Sem.run_bind,Sem.run_pure,Result.andThen_ok,if_pos hlt] at e2 ⊢;exact e2
      | false =>
        rw [hlt] at hs;obtain ⟨e1,v',e2,e3⟩:=minmaxL_ok true h2 hs;refine ⟨e1,v',?_,e3⟩;rw [ltI_eq] at hlt;have hlt : ¬ b > x:=by simpa using hlt
        simp only [List.foldlM_cons,if_true,Builtin.max2,Sem.run_bind,Sem.run_pure,Result.andThen_ok,if_neg hlt] at e2 ⊢;exact e2
theorem minmax_ok (hr:HR P κ h w) (ht:TR κ n tm a.tmps) {c:Call} {mx:Bool} (hc:c.callee = .builtin (if mx then .max else .min)) {xs:List XO} (hx:c.args.toList.mapM opnd = some xs)
    (ho:o.op = .call c) (hs:minmaxS mx xs tm h = .ok v h'):OpRes P o a κ h w v h':=by
  obtain ⟨vs,h1,h2⟩:=withL_ok hs;have e1:=opnds_ok ht hx h1
  cases vs with
  | nil=>simp at h2
  | cons y l =>
    cases y <;> first | (simp at h2;done) | skip
    rename_i k x
    simp only [VRl] at e1;obtain ⟨u,r,e2,e3,e4⟩:=e1;simp only [VR] at e3;subst e3;obtain ⟨rfl,v',e5,e6⟩:=minmaxL_ok (P:=P) (w:=w) mx e4 h2;refine .pure hr e6 (run_builtinOp ho hc fun cs=>?_);rw [args_eq rfl,e2]
    cases mx with
    | true=>simp only [if_true] at e5 ⊢;simp only [builtin,Builtin.max_,Sem.run_bind,e5,Result.andThen_ok,Sem.run_pure]
    | false=>simp only [Bool.false_eq_true,if_false] at e5 ⊢;simp only [builtin,Builtin.min_,Sem.run_bind,e5,Result.andThen_ok,Sem.run_pure]

/-! ### composite values -/
theorem foldl_put:∀ (l:List Value) (j off:Nat) (cs:Array Value),((l.zipIdx j).foldl (fun (cs:Array Value) (x:Value × Nat)=>cs.setIfInBounds (off + x.2) x.1) cs).size = cs.size ∧
    ∀ i,((l.zipIdx j).foldl (fun (cs:Array Value) (x:Value × Nat)=>cs.setIfInBounds (off + x.2) x.1) cs)[i]? = if off + j ≤ i∧i < off + j + l.length∧i < cs.size then l[i - (off + j)]? else cs[i]?
  | [],j,off,cs=>by simp;intro i h1 h2;omega
  | c :: l,j,off,cs=>by
    obtain ⟨h1,h2⟩:=foldl_put l (j + 1) off (cs.setIfInBounds (off + j) c);simp only [List.zipIdx_cons,List.foldl_cons,List.length_cons];refine ⟨by rw [h1];simp,fun i=>?_⟩;rw [h2 i];simp only [Array.size_setIfInBounds,Array.getElem?_setIfInBounds]
    by_cases hi:i = off + j
    · subst hi;rw [if_neg (by omega)]
      by_cases hlt:off + j < cs.size
      · rw [if_pos rfl,if_pos hlt,if_pos (by omega)];simp
      · rw [if_pos rfl,if_neg hlt,if_neg (by omega)];rw [Array.getElem?_eq_none (by omega)]
    · rw [if_neg (show ¬ off + j = i from fun e=>hi e.symm)]
      by_cases hc:off + (j + 1) ≤ i∧i < off + (j + 1) + l.length∧i < cs.size
      · rw [if_pos hc,if_pos (by omega)];have:i - (off + j) = (i - (off + (j + 1))) + 1:=by omega
        rw [this];simp
      · rw [if_neg hc,if_neg (by omega)]
theorem zipIdx_foldl (vs cs:Array Value) (off:Nat) (hle:off + vs.size ≤ cs.size) :
    vs.zipIdx.foldl (fun (cs:Array Value) (x:Value × Nat)=>cs.setIfInBounds (off + x.2) x.1) cs = spliced cs off vs.toList:=by
  rw [← Array.foldl_toList,Array.toList_zipIdx];obtain ⟨h1,h2⟩:=foldl_put vs.toList 0 off cs
  apply Array.ext_getElem?
  intro i;rw [h2 i,get_spliced (by simpa using hle)];simp only [Nat.add_zero,Array.length_toList]
  by_cases hc:off ≤ i∧i < off + vs.size
  · rw [if_pos (by omega),if_pos hc]
  · rw [if_neg (by omega),if_neg hc]
theorem VRl_splice {cs xs:List AV} {vs ys:List Value} (h1:VRl κ cs vs) (h2:VRl κ xs ys) (o:Nat):VRl κ (cs.take o++(xs++cs.drop (o + xs.length))) (vs.take o++(ys++vs.drop (o + ys.length))):=by
  obtain ⟨l1,g1⟩:=VRl_iff.1 h1;have l2:=h2.length;refine VRl.append (VRl_iff.2 ⟨by simp [l1],fun i c x hc hx=>?_⟩) (h2.append (VRl_iff.2 ⟨by simp [l1,l2],fun i c x hc hx=>?_⟩))
  · rw [List.getElem?_take] at hc hx
    split at hc
    · rename_i hlt
      rw [if_pos hlt] at hx;exact g1 i c x hc hx
    · simp at hc
  · rw [List.getElem?_drop] at hc hx;rw [← l2] at hx;exact g1 _ c x hc hx
theorem all_splice {cs xs:List AV} (h1:cs.all AV.one = true) (h2:xs.all AV.one = true) (o p:Nat):(cs.take o++(xs++cs.drop p)).all AV.one = true:=by
  rw [List.all_eq_true] at *;intro x hx;simp only [List.mem_append] at hx
  rcases hx with hx | hx | hx
  · exact h1 x (List.mem_of_mem_take hx)
  · exact h2 x hx
  · exact h1 x (List.mem_of_mem_drop hx)
theorem fillK_ok (ht:TR κ n tm a.tmps) {placeX place:Nat→Option (Nat × Nat)} (hp:∀ i y,placeX i = some y→place i = some y) {k:List AV→Out AV}:∀ {ps:List (Nat × Operand)} {xs:List (Nat × Nat × XO)} {cs:List AV} {vs:Array Value},copParts placeX ps = some xs →
    VRl κ cs vs.toList→cs.all AV.one = true→fillK .bad xs tm cs k = .ok v h' →
    ∃ cs' vs',Instr.fill place vs (ps.map fun x=>(x.1,a.eval x.2)) = some vs'∧VRl κ cs' vs'.toList∧cs'.all AV.one = true∧vs'.size = vs.size∧k cs' = .ok v h'
  | [],xs,cs,vs,hc,hl,h1,hs=>by
    simp only [copParts,sJ] at hc;subst hc;exact ⟨cs,vs,rfl,hl,h1,rfl,hs⟩
  | (i, x) :: ps,xs,cs,vs,hc,hl,h1,hs=>by
    simp only [copParts,Option.bind_eq_bind,bJ] at hc;obtain ⟨⟨off,m⟩,hc1,hc2⟩:=hc;simp only [sJ] at hc2;obtain ⟨xo,hc3,r,hc4,rfl⟩:=hc2;simp only [fillK] at hs;obtain ⟨y,h2,h3⟩:=withO_ok hs;have e:=opnd_ok ht hc3 h2
    cases hcs:y.cellsO with
    | none=>rw [hcs] at h3;simp at h3
    | some ys =>
      rw [hcs] at h3;dsimp only at h3;obtain ⟨h4,h5⟩:=cellsO_some e hcs;have h4':=h4.length
      cases hlen:lengthIs ys m with
      | false=>rw [hlen] at h3;simp at h3
      | true =>
        rw [hlen] at h3;have hlen:=(lengthIs_iff _ _).1 hlen;dsimp only at h3;rw [spliceK_eq] at h3
        split at h3
        · rename_i hle
          have hl':=hl.length;have hvs:off + (a.eval x).cells.size ≤ vs.size:=by simp at h4' hl';omega
          have hm:(a.eval x).cells.size = m:=by simp at h4';omega
          obtain ⟨cs',vs',g1,g2,g3,g4,g5⟩:=fillK_ok ht hp (vs:=spliced vs off (a.eval x).cells.toList) hc4 (by simp only [spliced];exact VRl_splice hl h4 off) (all_splice h1 h5 _ _) h3;refine ⟨cs',vs',?_,g2,g3,?_,g5⟩
          · simp only [List.map_cons,Instr.fill,hp i _ hc1];have hcond:(decide ((a.eval x).cells.size ≠ m) || decide (off + (a.eval x).cells.size > vs.size)) = false:=by simp;omega
            rw [if_neg (by rw [hcond];simp)];rw [← zipIdx_foldl _ _ _ hvs] at g1;exact g1
          · rw [g4,size_spliced];simpa using hvs
        · simp at h3

theorem zeroC_ok {t:TypeId} {cs:List AV} (hz:zeroC P t = some cs):∃ v,(∀ w,(zeroValue t).run P w = .ok v w)∧(∀ κ,VRl κ cs v.cells.toList)∧cs.all AV.one = true∧szOf P t = some cs.length:=by
  simp only [zeroC,Option.bind_eq_bind,bJ] at hz;obtain ⟨z,h1,cs',h2,h3⟩:=hz;obtain ⟨v,h4,h5⟩:=run_zeroT h1
  split at h3
  · rename_i hsz
    simp only [sJ] at h3;subst h3;exact ⟨v,h4,fun κ=>(cellsO_some (h5 κ) h2).1,(cellsO_some (h5 ⟨fun _=>none,fun _=>none⟩) h2).2,by simpa using hsz⟩
  · simp at h3
theorem run_places {fs:List Field} {ps:List (Nat × Nat)} (h:fs.mapM (fun f=>(szOf P f.type).map fun n=>(f.offset,n)) = some ps):(fs.mapM (fun f=>do pure (f.offset,← sizeOf f.type):Field→Sem (Nat × Nat))).run P w = .ok ps w:=by
  induction fs generalizing ps with
  | nil=>simp at h;subst h;simp
  | cons f fs ih =>
    simp only [List.mapM_cons,Option.bind_eq_bind,bJ,Option.pure_def,sJ] at h;obtain ⟨y,h1,r,h2,rfl⟩:=h;simp only [Option.map_eq_some_iff] at h1;obtain ⟨s,h3,rfl⟩:=h1;simp only [List.mapM_cons,Sem.run_bind,run_sizeT h3,Result.andThen_ok,Sem.run_pure,ih h2]
theorem build_ok (hr:HR P κ h w) (ht:TR κ n tm a.tmps) {t:TypeId} {z:List AV} (hz:zeroC P t = some z) {parts:Array (Nat × Operand)} {placeX:Nat→Option (Nat × Nat)} {xs:List (Nat × Nat × XO)} (hc:copParts placeX parts.toList = some xs)
    (hplace:(∃ fs ps,P.underlying t = some (.struct fs)∧placesOf P fs = some ps∧placeX = fun i=>ps[i]?)∨(∃ m e s,P.underlying t = some (.array m e)∧szOf P e = some s∧placeX = fun i=>some (i * s,s)))
    (ho:o.op = .build t parts) (hs:buildS z xs tm h = .ok v h'):OpRes P o a κ h w v h':=by
  obtain ⟨zv,z1,z2,z3,z4⟩:=zeroC_ok hz
  rcases hplace with ⟨fs,ps,hu,hps,rfl⟩ | ⟨m,e,s,hu,hsz,rfl⟩
  · obtain ⟨cs',vs',g1,g2,g3,g4,g5⟩:=fillK_ok ht (place:=fun i=>ps.toArray[i]?) (fun i y hy=>by simpa using hy) hc (z2 κ) z3 hs;simp only [Out.ok.injEq] at g5;obtain ⟨rfl,rfl⟩:=g5;refine .pure (v':=.agg vs') hr (by simp only [VR];exact ⟨vs',rfl,g3,g2⟩) ?_;have hm:(fs.mapM (fun f=>do pure (f.offset,← sizeOf f.type):Field→Sem (Nat × Nat))).run P w = .ok ps.toArray w:=by
      rw [Array.mapM_eq_mapM_toList,← bind_pure_comp,Sem.run_bind,run_places hps];rfl
    simp only [execOp,ho,Instr.build,Sem.run_bind,z1,Result.andThen_ok,run_underlyingT hu,hm,Array.toList_map];rw [g1];simp
  · obtain ⟨cs',vs',g1,g2,g3,g4,g5⟩:=fillK_ok ht (place:=fun i=>some (i * s,s)) (fun i y hy=>hy) hc (z2 κ) z3 hs;simp only [Out.ok.injEq] at g5;obtain ⟨rfl,rfl⟩:=g5;refine .pure (v':=.agg vs') hr (by simp only [VR];exact ⟨vs',rfl,g3,g2⟩) ?_;simp only [execOp,ho,Instr.build,Sem.run_bind,z1,Result.andThen_ok,run_underlyingT hu,run_sizeT hsz,Array.toList_map];rw [g1];simp

/-! ### equality of structs -/
theorem plainK_ok {t:TypeId} {k:SK} (h:plainK P t = some k):fits P t k∧(k = .bool∨k = .int∨k = .str)∧isAggT P t = some false:=by
  simp only [plainK] at h
  split at h <;> first | (simp at h;done) | skip
  all_goals
    simp only [sJ] at h;subst h
    rename_i hu
    simp [fits,hu,isAggT]
theorem run_partOne {t:TypeId} (hag:isAggT P t = some false) {vs:Array Value} {i:Nat} {x:Value} (hx:vs[i]? = some x):(part t vs i).run P w = .ok x w:=by
  simp only [part,Sem.run_bind,run_isAggT hag,Result.andThen_ok,Bool.false_eq_true,if_false,hx,Sem.run_pure]
theorem eqFields_ok (d:Nat) {xs ys:Array Value}:∀ {fs:List Field} {i:Nat} {mask:List (Option SK)} {as bs:List AV} {r:Bool},maskFs P fs i = some mask→VRl κ as (xs.toList.drop i)→VRl κ bs (ys.toList.drop i)→sameL mask as bs = some r →
    (Op.eqFields (d + 1) xs ys fs).run P w = .ok r w
  | [],i,mask,as,bs,r,hm,ha,hb,hs=>by
    simp only [maskFs,sJ] at hm;subst hm
    cases as <;> cases bs <;> simp [sameL] at hs
    subst hs;rfl
  | f :: fs,i,mask,as,bs,r,hm,ha,hb,hs=>by
    simp only [maskFs] at hm
    split at hm
    · rename_i hoff
      have hoff:f.offset = i:=by simpa using hoff
      simp only [Option.bind_eq_bind,bJ,sJ] at hm;obtain ⟨k,h1,ms,h2,rfl⟩:=hm
      cases as <;> cases bs <;> simp only [sameL,reduceCtorEq] at hs
      rename_i c as e bs
      simp only [VRl] at ha hb;obtain ⟨x,X,a1,a2,a3⟩:=ha;obtain ⟨y,Y,b1,b2,b3⟩:=hb;have hX:X = xs.toList.drop (i + 1):=by rw [← List.drop_drop,a1];rfl
      have hY:Y = ys.toList.drop (i + 1):=by rw [← List.drop_drop,b1];rfl
      subst hX;subst hY;have hx:xs[i]? = some x:=by
        have:=congrArg (·[0]?) a1
        simpa using this
      have hy:ys[i]? = some y:=by
        have:=congrArg (·[0]?) b1
        simpa using this
      obtain ⟨f1,f2,f3⟩:=plainK_ok h1
      by_cases hn:f.name = "_"
      · simp only [hn,beq_self_eq_true,if_true] at hs;simp only [Op.eqFields,hn,ne_eq,not_true_eq_false,if_false];exact eqFields_ok d h2 a3 b3 hs
      · simp only [hn,beq_iff_eq,if_false] at hs
        cases hv:sameV k c e with
        | none=>rw [hv] at hs;simp at hs
        | some q =>
          rw [hv] at hs;have he:=equalIn_ok (P:=P) (w:=w) f1 hv a2 b2 d;simp only [Op.eqFields,ne_eq,hn,not_false_eq_true,if_true,Sem.run_bind,hoff,run_partOne f3 hx,run_partOne f3 hy,Result.andThen_ok,he]
          cases q with
          | true=>simp only [Bool.not_true,Bool.false_eq_true,if_false];exact eqFields_ok d h2 a3 b3 hs
          | false =>
            simp only [sJ] at hs;subst hs;simp
    · simp at hm
theorem sameCells_ok (hr:HR P κ h w) (ht:TR κ n tm a.tmps) {neg:Bool} {t yt:TypeId} {fs:Array Field} (hu:P.underlying t = some (.struct fs)) {mask:List (Option SK)} (hm:maskOf P t = some mask) {x y:Operand} {xo yo:XO} (hx:opnd x = some xo) (hy:opnd y = some yo)
    (ho:o.op = .binOp (eqlOf neg) t x y yt) (hs:sameCellsS neg mask xo yo tm h = .ok v h'):OpRes P o a κ h w v h':=by
  obtain ⟨u,h1,h2⟩:=withO_ok hs;obtain ⟨c,h3,h4⟩:=withO_ok h2;have e1:=opnd_ok ht hx h1;have e2:=opnd_ok ht hy h3
  cases u <;> cases c <;> first | (simp at h4;done) | skip
  rename_i as bs
  simp only [VR] at e1 e2;obtain ⟨xs,e1,_,a1⟩:=e1;obtain ⟨ys,e2,_,b1⟩:=e2;dsimp only at h4
  cases hv:sameL mask as bs with
  | none=>rw [hv] at h4;simp at h4
  | some r =>
    rw [hv] at h4;simp only [okB,Out.ok.injEq] at h4;obtain ⟨rfl,rfl⟩:=h4;simp only [maskOf,hu] at hm
    split at hm
    · simp at hm
    · rename_i hcond
      simp only [Bool.or_eq_true,not_or,Bool.not_eq_true] at hcond;have hfo:P.fieldsOf t = fs:=by simp only [Program.fieldsOf,hu]
      have he:(Op.equal t (.agg xs) (.agg ys)).run P w = .ok r w:=by
        have:=run_equalIn_struct (P:=P) w 9999 t xs ys (by rw [hfo];exact hu) hcond.1;simp only [Op.equal,Op.maxDepth];rw [this,hfo];exact eqFields_ok 9998 hm (by simpa using a1) (by simpa using b1) hv
      refine .pure (v':=.bool (negIf neg r)) hr (by simp only [VR]) (run_binOper ho ?_ ?_)
      · rw [e1,e2];exact run_eqGuard_agg w _ t x y xs ys hcond.2
      · rw [e1,e2];exact run_eqlOf neg (fun op=>⟨fun q=>by subst q;rfl,fun q=>by subst q;rfl⟩) he
end
end Go.X

/- The instructions of X against the model's operations,8: loads,stores,new variables and rows. -/
namespace Go.X
open Go

section
variable {P:Program} {κ:Kp} {h h':Heap} {w:World} {n:Nat} {tm:Tm} {a:Act} {o:Oper} {v:AV}

theorem put_same (w:World) (b:Nat) (o:Obj) (h:w.heap[b]? = some o):World.put w b o = w:=by
  obtain ⟨hb,h⟩:=Array.getElem?_eq_some_iff.1 h;simp only [World.put];have:w.heap.setIfInBounds b o = w.heap:=by
    apply Array.ext_getElem?
    intro j;rw [Array.getElem?_setIfInBounds]
    by_cases hj:b = j
    · subst hj;rw [if_pos rfl,if_pos hb,← h,Array.getElem?_eq_getElem hb]
    · simp [hj]
  rw [this]

/-! ### loads -/
theorem run_load_at {b o:Nat} {arr:Array Value} {ty:TypeId} {fr:Nat × Nat} (hg:w.heap[b]? = some (.cells arr ty fr)) {x:Value} (hx:arr[o]? = some x):(load ⟨b,o,none⟩).run P w = .ok x w:=by
  simp only [load,Sem.run,cell_of hg,hx]
theorem loadVar_ok {t:TypeId} {m:Option Nat} (hm:aggN P t = some m) {b d:Nat} {arr:Array Value} {ty:TypeId} {fr:Nat × Nat} (hg:w.heap[b]? = some (.cells arr ty fr)) {cs:List AV} (hl:VRm κ cs (fun i=>arr[d + i]?)) {off:Nat}
    (hs:partOf cs off m h = .ok v h'):h' = h∧∃ v',(loadVar t ⟨b,d + off,none⟩).run P w = .ok v' w∧VR κ v v':=by
  cases m with
  | none =>
    have e:=run_isAggT (w:=w) (aggN_none hm);simp only [partOf,nth_eq] at hs
    cases hc:cs[off]? with
    | none=>rw [hc] at hs;simp at hs
    | some c =>
      have hs':Out.ok c h = .ok v h':=by rw [hc] at hs;cases c <;> first | exact hs | (simp at hs;done)
      simp only [Out.ok.injEq] at hs';obtain ⟨rfl,rfl⟩:=hs';obtain ⟨x,h1,h2,h3⟩:=VRm_iff.1 hl off c hc;refine ⟨rfl,x,?_,h3⟩;simp only [loadVar,Sem.run_bind,e,Result.andThen_ok,Bool.false_eq_true,if_false,run_load_at hg h1]
  | some s =>
    obtain ⟨e1,e2⟩:=aggN_some hm;have e:=run_isAggT (w:=w) e1;simp only [partOf] at hs
    cases hc:sub cs off s with
    | none=>rw [hc] at hs;simp at hs
    | some l =>
      rw [hc] at hs;simp only [Out.ok.injEq] at hs;obtain ⟨rfl,rfl⟩:=hs;obtain ⟨h1,rfl⟩:=sub_some hc;obtain ⟨vs,g1,g2,g3,g4,g5⟩:=hl.read off s h1;refine ⟨rfl,.agg vs.toArray,?_,?_⟩
      · have:=run_loadCells_of P hg (o:=d + off) vs (fun j hj=>by rw [Nat.add_assoc];exact g5 j (by omega));rw [g1] at this;simp only [loadVar,Sem.run_bind,e,Result.andThen_ok,if_true,run_sizeT e2,this,Sem.run_pure]
      · simp only [VR];exact ⟨_,rfl,g3,by simpa using g2⟩
theorem load_ok (hr:HR P κ h w) (ht:TR κ n tm a.tmps) {t:TypeId} {m:Option Nat} (hm:aggN P t = some m) {x:Operand} {xo:XO} (hx:opnd x = some xo) (ho:o.op = .load t x)
    (hs:loadS m xo tm h = .ok v h'):OpRes P o a κ h w v h':=by
  obtain ⟨y,h1,h2⟩:=withO_ok hs;have e1:=opnd_ok ht hx h1
  cases y <;> first | (simp at h2;done) | skip
  case ptr p q =>
    simp only [VR] at e1;obtain ⟨s,e1,e2⟩:=e1;dsimp only at h2;have hob:=hr.obj p s e1
    cases hg:h.get p <;> rw [hg] at h2 hob <;> first | (simp at h2;done) | skip
    rename_i ty cs sp
    obtain ⟨arr,fr,g1,_,_,g4,_⟩:=hob;obtain ⟨rfl,v',g5,g6⟩:=loadVar_ok hm g1 g4 h2;refine .pure hr g6 ?_;simp only [execOp,ho,e2,Instr.loadAt,Instr.sureAddr,Sem.run_bind,Sem.run_pure,Result.andThen_ok,g5]
  case iptr cs =>
    simp only [VR] at e1;obtain ⟨b,arr,e,fr,e1,e2,e3,e4⟩:=e1;obtain ⟨rfl,v',g5,g6⟩:=loadVar_ok hm (hr.frozen _ _ e3) e4 h2;refine .pure hr g6 ?_;rw [Addr.eta_none e2] at e1;simp only [Nat.add_zero] at g5;simp only [execOp,ho,e1,Instr.loadAt,Instr.sureAddr,Sem.run_bind,Sem.run_pure,Result.andThen_ok,g5]

/-! ### stores -/
theorem VRm_splice {cs xs:List AV} {ys:List Value} {arr:Array Value} {d o:Nat} (hl:VRm κ cs (fun i=>arr[d + i]?)) (h2:VRl κ xs ys) (h3:xs.all AV.one = true) (hle:o + xs.length ≤ cs.length) (hsz:d + cs.length ≤ arr.size) :
    VRm κ (cs.take o++(xs++cs.drop (o + xs.length))) (fun i=>(spliced arr (d + o) ys)[d + i]?):=by
  obtain ⟨l2,g2⟩:=VRl_iff.1 h2;refine VRm_iff.2 fun i c hc=>?_
  rw [get_spliced (by omega)]
  by_cases h4:i < o
  · rw [List.getElem?_append_left (by simp;omega),List.getElem?_take,if_pos h4] at hc;rw [if_neg (by omega)];exact VRm_iff.1 hl i c hc
  · rw [List.getElem?_append_right (by simp;omega)] at hc;have e:(List.take o cs).length = o:=by simp;omega
    rw [e] at hc
    by_cases h5:i - o < xs.length
    · rw [List.getElem?_append_left h5] at hc;rw [if_pos (by omega)];have hy:ys[d + i - (d + o)]? = some ys[i - o]:=by
        rw [show d + i - (d + o) = i - o by omega];exact List.getElem?_eq_getElem (by omega)
      exact ⟨_,hy,List.all_eq_true.1 h3 c (List.mem_of_getElem? hc),g2 (i - o) c _ hc (List.getElem?_eq_getElem (by omega))⟩
    · rw [List.getElem?_append_right (by omega),List.getElem?_drop] at hc;rw [if_neg (by omega)];have e2:o + xs.length + (i - o - xs.length) = i:=by omega
      rw [e2] at hc;exact VRm_iff.1 hl i c hc
theorem VRl.ones {cs:List AV} {vs:List Value} (hl:VRl κ cs vs) (h1:cs.all AV.one = true):∀ x ∈ vs,x.oneCell' = true:=by
  intro x hx;obtain ⟨l1,g⟩:=VRl_iff.1 hl;obtain ⟨i,hi,rfl⟩:=List.getElem_of_mem hx;have hc:cs[i]? = some cs[i]:=List.getElem?_eq_getElem (by omega);exact (g i _ _ hc (List.getElem?_eq_getElem hi)).oneCell (List.all_eq_true.1 h1 _ (List.mem_of_getElem? hc))
theorem writeAt_ok (hr:HR P κ h w) {p:Pos} {x:Spot} (hp:κ.ρ p = some x) {q:Nat} {xs:List AV} {vs:List Value} (hl:VRl κ xs vs) (h1:xs.all AV.one = true) {r:AV} (hs:writeAt p q xs r h = .ok v h') :
    v = r∧∃ w',(storeCells ⟨x.b,x.d + q,none⟩ vs).run P w = .ok () w'∧Ext P κ h w κ h' w':=by
  simp only [writeAt] at hs;have hob:=hr.obj p x hp
  cases hg:h.get p <;> rw [hg] at hs hob <;> first | (simp at hs;done) | skip
  rename_i ty cs sp
  obtain ⟨arr,fr,g1,g2,g3,g4,g5,g6⟩:=hob;dsimp only at hs;rw [spliceK_eq] at hs
  split at hs
  · rename_i hle
    rw [Heap.setK_eq] at hs;simp only [Out.ok.injEq] at hs;obtain ⟨rfl,rfl⟩:=hs;have hlen:=hl.length;have hst:=run_storeCells_put P (b:=x.b) (t:=ty) (fr:=fr) (x.d + q) vs 0 arr w g1 (by omega) (fun j h1 h2=>unfrozen g6 j (by omega)) (hl.ones h1);rw [Nat.add_zero] at hst;refine ⟨rfl,_,hst,?_⟩;have hb:x.b < w.heap.size:=(Array.getElem?_eq_some_iff.1 g1).1;refine Ext.update hr ⟨hp,by rw [hg];simp⟩ _ _ ⟨spliced arr (x.d + q) vs,fr,put_heap_same _ _ _ hb,?_,?_,VRm_splice g4 hl h1 hle.1 (by omega),?_,g6⟩
    · rw [size_spliced (by omega),g2]
    · simp;omega
    · intro hsp;obtain ⟨e1,e2⟩:=g5 hsp;exact ⟨e1,by simp;omega⟩
  · simp at hs
theorem store_ok (hr:HR P κ h w) (ht:TR κ n tm a.tmps) {t:TypeId} {s:Nat} (hsz:szOf P t = some s) {x y:Operand} {xo yo:XO} (hx:opnd x = some xo) (hy:opnd y = some yo) (ho:o.op = .store t x y)
    (hs:storeS s xo yo tm h = .ok v h'):OpRes P o a κ h w v h':=by
  obtain ⟨u,h1,h2⟩:=withO_ok hs;obtain ⟨c,h3,h4⟩:=withO_ok h2;have e1:=opnd_ok ht hx h1;have e2:=opnd_ok ht hy h3
  cases u <;> first | (simp at h4;done) | skip
  rename_i p q
  dsimp only at h4
  cases hc:c.cellsO with
  | none=>rw [hc] at h4;simp at h4
  | some cs =>
    rw [hc] at h4;dsimp only at h4;obtain ⟨g1,g2⟩:=cellsO_some e2 hc
    cases hl:lengthIs cs s with
    | false=>rw [hl] at h4;simp at h4
    | true =>
      rw [hl] at h4;simp only [VR] at e1;obtain ⟨sp,e1,e3⟩:=e1;obtain ⟨rfl,w',g3,g4⟩:=writeAt_ok hr e1 g1 g2 h4;have hl:=(lengthIs_iff _ _).1 hl;have hsize:(a.eval y).cells.size = s:=by have:=g1.length;simp at this;omega
      refine .inl ⟨.skip,w',κ,?_,.inr ⟨rfl,rfl⟩,g4⟩;simp only [execOp,ho,e3,Instr.storeAt,Instr.sureAddr,storeVar,Sem.run_bind,Sem.run_pure,Result.andThen_ok,run_sizeT hsz,hsize,ne_eq,not_true_eq_false,if_false,g3]

/-! ### new rows -/
theorem new_heap_same (w:World) (o:Obj):(World.new w o).heap[w.heap.size]? = some o:=Array.getElem?_push_size

theorem newRow_ok (hr:HR P κ h w) {cs:List AV} {vs:List Value} (hl:VRl κ cs vs) (h1:cs.all AV.one = true) (ty:TypeId) :
    Ext P κ h w (κ.at h.next ⟨w.heap.size,0,vs.length⟩) (h.push (.row ty cs false)) (World.new w (.cells vs.toArray ty)):=by
  have hle:=Kp.at_le (x:=⟨w.heap.size,0,vs.length⟩) hr.next_none;refine Ext.alloc hr _ _ _ ⟨vs.toArray,(0,0),new_heap_same _ _,by simp,by simp [hl.length],?_,fun _=>⟨rfl,hl.length⟩,.inl rfl⟩;exact VRm.of_list (VRl.mono hle _ _ hl) h1 (fun j hj=>by simp)
theorem newRowS_ok (hr:HR P κ h w) {cs:List AV} {vs rest:List Value} (hl:VRl κ cs vs) (h1:cs.all AV.one = true) (ty:TypeId) {fr:Nat × Nat} (hfr:fr.1 = fr.2∨vs.length + rest.length ≤ fr.1) :
    Ext P κ h w (κ.at h.next ⟨w.heap.size,0,vs.length + rest.length⟩) (h.push (.row ty cs true)) (World.new w (.cells (vs++rest).toArray ty fr)):=by
  have hle:=Kp.at_le (x:=⟨w.heap.size,0,vs.length + rest.length⟩) hr.next_none;refine Ext.alloc hr _ _ _ ⟨(vs++rest).toArray,fr,new_heap_same _ _,by simp,by simp [hl.length],?_,fun h=>by simp at h,hfr⟩;refine VRm.of_list (VRl.mono hle _ _ hl) h1 (fun j hj=>?_);simp only [Nat.zero_add,List.getElem?_toArray];rw [List.getElem?_append_left hj]
theorem new_ptr {x:Spot} {b:Nat} (hx:x.b = b) (hd:x.d = 0) (κ:Kp) (p:Pos):VR (κ.at p x) (.ptr p 0) (.pointer (some ⟨b,0,none⟩)):=by
  simp only [VR];exact ⟨x,Kp.at_same κ p x,by rw [hx,hd]⟩
theorem alloc_ok (hr:HR P κ h w) {t:TypeId} {z:List AV} (hz:zeroC P t = some z) (ho:o.op = .alloc t) (hs:allocS t z tm h = .ok v h'):OpRes P o a κ h w v h':=by
  obtain ⟨zv,z1,z2,z3,z4⟩:=zeroC_ok hz;simp only [allocS,Heap.pushK_eq,Out.ok.injEq] at hs;obtain ⟨rfl,rfl⟩:=hs;refine .inl ⟨.value (.pointer (some ⟨w.heap.size,0,none⟩)),_,_,?_,.inl ⟨_,rfl,new_ptr rfl rfl κ h.next⟩,newRow_ok hr (z2 κ) z3 t⟩;simp only [execOp,ho,Instr.alloc,Sem.run_bind,z1,Result.andThen_ok,newVar,newRow,newObj,Sem.run,Sem.run_pure];simp [World.new]
theorem box_ok (hr:HR P κ h w) (ht:TR κ n tm a.tmps) {t:TypeId} {x:Operand} {xo:XO} (hx:opnd x = some xo) (ho:o.op = .box t x) (hs:boxS t xo tm h = .ok v h'):OpRes P o a κ h w v h':=by
  obtain ⟨y,h1,h2⟩:=withO_ok hs;have e1:=opnd_ok ht hx h1
  cases hc:y.cellsO with
  | none=>rw [hc] at h2;simp at h2
  | some cs =>
    rw [hc] at h2;simp only [Heap.pushK_eq,Out.ok.injEq] at h2;obtain ⟨rfl,rfl⟩:=h2;obtain ⟨g1,g2⟩:=cellsO_some e1 hc;refine .inl ⟨.value (.pointer (some ⟨w.heap.size,0,none⟩)),_,_,?_,.inl ⟨_,rfl,new_ptr rfl rfl κ h.next⟩,newRow_ok hr g1 g2 t⟩;simp only [execOp,ho,Instr.box,Sem.run_bind,Result.andThen_ok,newVar,newRow,newObj,Sem.run,Sem.run_pure];simp [World.new]
theorem mkmap_ok (hr:HR P κ h w) {t:TypeId} (ho:o.op = .makeMap t none) (hs:mkmapS tm h = .ok v h'):OpRes P o a κ h w v h':=by
  simp only [mkmapS,Heap.pushK_eq,Out.ok.injEq] at hs;obtain ⟨rfl,rfl⟩:=hs;refine .inl ⟨.value (.map (some w.heap.size)),World.new w (.map #[] 0),_,?_,.inl ⟨_,rfl,?_⟩,Ext.alloc hr _ _ 0 ⟨#[],new_heap_same _ _,by simp [VRe]⟩⟩
  · simp [execOp,ho,Instr.makeMap,newObj,Sem.run,World.new]
  · simp only [VR];exact ⟨_,Kp.at_same κ h.next _,rfl⟩
end
end Go.X

/- The instructions of X against the model's operations,9: rows made,bytes and strings,append. -/
namespace Go.X
open Go

section
variable {P:Program} {κ:Kp} {h h':Heap} {w:World} {n:Nat} {tm:Tm} {a:Act} {o:Oper} {v:AV}

theorem zeroC_info {t:TypeId} {cs:List AV} (hz:zeroC P t = some cs):∃ i z,P.info? t = some i∧i.zero = some z∧(∀ κ,VRl κ cs z.cells.toList)∧cs.all AV.one = true∧i.size = cs.length:=by
  simp only [zeroC,Option.bind_eq_bind,bJ] at hz;obtain ⟨z,h1,cs',h2,h3⟩:=hz;simp only [zeroOf,bJ] at h1;obtain ⟨zv,⟨i,h4,h5⟩,h6⟩:=h1;have h7:=fun κ=>avOf_ok κ 4 zv z h6
  split at h3
  · rename_i hsz
    simp only [sJ] at h3;subst h3;refine ⟨i,zv,h4,h5,fun κ=>(cellsO_some (h7 κ) h2).1,(cellsO_some (h7 ⟨fun _=>none,fun _=>none⟩) h2).2,?_⟩
    simpa [szOf,h4] using hsz
  · simp at h3
theorem byOf_info {t:TypeId} {b:Nat} {i:TypeInfo} (h:byOf P t = some b) (hi:P.info? t = some i):i.bytes = b:=by simpa [byOf,hi] using h
theorem szOf_info {t:TypeId} {b:Nat} {i:TypeInfo} (h:szOf P t = some b) (hi:P.info? t = some i):i.size = b:=by simpa [szOf,hi] using h

/-! ### repeated cells -/
theorem repeatL_length {α:Type}:∀ (n:Nat) (l:List α),(repeatL n l).length = n * l.length
  | 0,l=>by simp [repeatL]
  | n + 1,l=>by simp only [repeatL,List.length_append,repeatL_length n l];rw [Nat.add_mul];omega
theorem repeatL_get {α:Type}:∀ (n:Nat) (l:List α) (i:Nat),i < n * l.length→(repeatL n l)[i]? = l[i % l.length]?
  | 0,l,i,h=>by simp at h
  | n + 1,l,i,h=>by
    simp only [repeatL]
    by_cases hi:i < l.length
    · rw [List.getElem?_append_left hi,Nat.mod_eq_of_lt hi]
    · rw [Nat.add_mul] at h;rw [List.getElem?_append_right (by omega),repeatL_get n l _ (by omega),← Nat.mod_eq_sub_mod (by omega:i ≥ l.length)]
theorem repeatL_all {zs:List AV} (h1:zs.all AV.one = true):∀ n,(repeatL n zs).all AV.one = true
  | 0=>rfl
  | n + 1=>by simp only [repeatL,List.all_append,h1,repeatL_all h1 n,Bool.and_self]
theorem rep_ok {zs:List AV} {z:Array Value} (hz:VRl κ zs z.toList) (n:Nat):VRl κ (repeatL n zs) (madeCells z (n * z.size)).toList:=by
  obtain ⟨h1,h2⟩:=VRl_iff.1 hz;have h1':zs.length = z.size:=by simpa using h1
  refine VRl_iff.2 ⟨by rw [repeatL_length,h1',Array.length_toList,size_madeCells],fun i c x hc hx=>?_⟩;have hi:i < n * z.size:=by
    have:=(List.getElem?_eq_some_iff.1 hx).1
    simpa [size_madeCells] using this
  rw [repeatL_get n zs i (by rw [h1'];exact hi),h1'] at hc;have hpos:0 < z.size:=by
    rcases Nat.eq_zero_or_pos z.size with h0 | h0
    · rw [h0] at hi;simp at hi
    · exact h0
  have hm:=Nat.mod_lt i hpos;refine h2 (i % z.size) c x hc ?_;rw [← hx,madeCells];simp only [Array.toList_map,Array.toList_range,List.getElem?_map,List.getElem?_range hi,Option.map_some,Array.getElem?_toList];rw [Array.getElem?_eq_getElem hm,getElem!_pos z _ hm]

/-! ### rows made -/
theorem mkslice_ok (hr:HR P κ h w) (ht:TR κ n tm a.tmps) {t e:TypeId} (hu:P.underlying t = some (.slice e)) {by_:Nat} (hb:byOf P e = some by_) {z:List AV} (hz:zeroC P e = some z) {x y:Operand} {xo yo:XO} (hx:opnd x = some xo) (hy:opnd y = some yo)
    (ho:o.op = .makeSlice t x y) (hs:mksliceS e by_ z xo yo tm h = .ok v h'):OpRes P o a κ h w v h':=by
  obtain ⟨i,zv,z1,z2,z3,z4,z5⟩:=zeroC_info hz;obtain ⟨k1,l,h1,h2⟩:=withN_ok hs;obtain ⟨k2,c,h3,h4⟩:=withN_ok h2;have e1:=opnd_ok ht hx h1;have e2:=opnd_ok ht hy h3;simp only [VR] at e1 e2
  cases c1:Nat.ble l c <;> cases c2:small c by_ <;> cases c3:Nat.ble c 140737488355328 <;> rw [c1,c2,c3] at h4 <;> simp only [Heap.pushK_eq,Out.ok.injEq,reduceCtorEq] at h4
  obtain ⟨rfl,rfl⟩:=h4;have c1:=ble_iff.1 c1;have c2:=ble_iff.1 c2;have c3:=ble_iff.1 c3;have hbi:=byOf_info hb z1;have hm:=run_make (P:=P) w t e i zv hu z1 z2 k1 k2 (Int.ofNat l) (Int.ofNat c) (Int.natCast_nonneg l) (Int.ofNat_le.2 c1) (by
    rw [hbi,Int.mul_comm];have:((c * by_:Nat):Int) ≤ 140737488355328:=Int.ofNat_le.2 c2;simp only [Int.natCast_mul] at this;simp only [Int.ofNat_eq_natCast];omega) (by simp only [Int.ofNat_eq_natCast];omega)
  have hsz:i.size = zv.cells.size:=by rw [z5,(z3 κ).length];simp
  have hrep:=rep_ok (z3 κ) c;rw [← hsz] at hrep;refine .inl ⟨.value (.slice (some ⟨w.heap.size,0,none⟩) l c),_,_,?_,.inl ⟨_,rfl,?_⟩,newRow_ok hr hrep (repeatL_all z4 c) e⟩
  · simp only [execOp,ho,e1,e2,Sem.run_bind,hm,Result.andThen_ok,Sem.run_pure];rfl
  · simp only [VR];exact ⟨_,_,c,Kp.at_same κ h.next _,rfl,c1,.inr rfl,rfl⟩
theorem bslice_ok (hr:HR P κ h w) (ht:TR κ n tm a.tmps) {t e:TypeId} {len esz:Nat} (hu:P.underlying t = some (.slice e)) (hsz:szOf P e = some esz) (hfew : ¬ len * esz > 2 ^ 24) {z:List AV} (hz:zeroC P e = some z) {parts:Array (Nat × Operand)} {xs:List (Nat × Nat × XO)}
    (hc:copParts (fun i=>some (i * esz,esz)) parts.toList = some xs) (ho:o.op = .buildSlice t len parts) (hs:bsliceS e len (repeatL len z) xs tm h = .ok v h'):OpRes P o a κ h w v h':=by
  obtain ⟨i,zv,z1,z2,z3,z4,z5⟩:=zeroC_info hz;have hsi:=szOf_info hsz z1;have hz':esz = zv.cells.size:=by rw [← hsi,z5,(z3 κ).length];simp
  have hrep:=rep_ok (z3 κ) len;rw [← hz'] at hrep;obtain ⟨cs',vs',g1,g2,g3,g4,g5⟩:=fillK_ok ht (place:=fun i=>some (i * esz,esz)) (fun i y hy=>hy) hc hrep (repeatL_all z4 len) hs;rw [Heap.pushK_eq] at g5;simp only [Out.ok.injEq] at g5;obtain ⟨rfl,rfl⟩:=g5;refine .inl ⟨.value (.slice (some ⟨w.heap.size,0,none⟩) len len),_,_,?_,.inl ⟨_,rfl,?_⟩,newRow_ok hr g2 g3 e⟩
  · simp only [execOp,ho,Instr.buildSlice,Sem.run_bind,run_underlyingT hu,Result.andThen_ok,run_sizeT hsz,if_neg hfew,Array.toList_map,Sem.run_pure]
    by_cases h0:len * esz = 0
    · simp only [h0,if_true,Sem.run_bind,Sem.run_pure,Result.andThen_ok];have:(Array.map (fun x=>(#[]:Array Value)[x % (#[]:Array Value).size]!) (Array.range 0)) = madeCells zv.cells (len * esz):=by rw [h0];simp [madeCells]
      rw [this,g1];simp [newRow,newObj,Sem.run,World.new]
    · simp only [h0,if_false,Sem.run_bind,Sem.run_pure,Result.andThen_ok,zeroValue,typeInfo,run_program,z1,z2];have:(Array.map (fun x=>zv.cells[x % zv.cells.size]!) (Array.range (len * esz))) = madeCells zv.cells (len * esz):=rfl;rw [this,g1];simp [newRow,newObj,Sem.run,World.new]
  · simp only [VR];exact ⟨_,_,len,Kp.at_same κ h.next _,rfl,Nat.le_refl _,.inr rfl,rfl⟩

/-! ### bytes -/
theorem avBytes_ok:∀ (bs:List UInt8),VRl κ (avBytes (bs.map UInt8.toNat)) (bs.map fun b=>Value.int .u8 b.toNat)∧(avBytes (bs.map UInt8.toNat)).all AV.one = true
  | []=>by simp [avBytes,VRl]
  | b :: bs=>by
    obtain ⟨h1,h2⟩:=avBytes_ok bs;simp only [List.map_cons,avBytes,VRl,List.all_cons,h2,Bool.and_true];exact ⟨⟨_,_,rfl,by simp only [VR];rfl,h1⟩,rfl⟩
theorem freeze_new (w:World) (arr:Array Value) (e:TypeId) (g:Nat):World.freeze { w with heap:=w.heap.push (.cells arr e (0,0)) } ⟨w.heap.size,g,none⟩ 1 = World.new w (.cells arr e (g,g + 1)):=by
  simp only [World.freeze,World.new,Nat.one_ne_zero,if_false]
  congr 1
  apply Array.ext_getElem?
  intro i;rw [Array.getElem?_modify,Array.getElem?_push,Array.getElem?_push]
  by_cases hi:i = w.heap.size
  · subst hi;simp
  · have hi' : ¬ w.heap.size = i:=fun e=>hi e.symm
    simp [hi,hi']
theorem toBytes_ok (hr:HR P κ h w) (ht:TR κ n tm a.tmps) {s d e:TypeId} (hsrc:P.underlying s = some .string) (hd:P.underlying d = some (.slice e)) (he:P.underlying e = some (.int .u8)) {x:Operand} {xo:XO} (hx:opnd x = some xo) (ho:o.op = .convert s d x)
    (hs:toBytesS e xo tm h = .ok v h'):OpRes P o a κ h w v h':=by
  obtain ⟨y,h1,h2⟩:=withO_ok hs;have e1:=opnd_ok ht hx h1
  cases y <;> first | (simp at h2;done) | skip
  rename_i l
  simp only [VR] at e1;obtain ⟨bs,e1,rfl⟩:=e1;simp only [Heap.pushK_eq,Out.ok.injEq] at h2;obtain ⟨rfl,rfl⟩:=h2;obtain ⟨g1,g2⟩:=avBytes_ok (κ:=κ) bs.data.toList;have hd':=Ext.draw hr
  let g:=grownCap w bs.size 0 e
  have hg:bs.size ≤ g:=grownCap_ge w bs.size 0 e;have hlen:(bs.data.toList.map fun b=>Value.int .u8 b.toNat).length = bs.size:=by simp
  have hx':=newRowS_ok hd'.hr (rest:=List.replicate (g - bs.size) (.int .u8 0)) g1 g2 e (fr:=(g,g + 1)) (.inr (by rw [hlen,List.length_replicate];simp only;omega));refine .inl ⟨.value (.slice (some ⟨w.heap.size,0,none⟩) bs.size g),_,_,?_,.inl ⟨_,rfl,?_⟩,hd'.trans hx'⟩
  · have hcut:(Question.appendCap bs.size 0 e).cut (w.tape w.drawn (Question.appendCap bs.size 0 e)) = g:=rfl
    let rowL:List Value:=(bs.data.toList.map fun (b:UInt8)=>Value.int .u8 b.toNat)++List.replicate (g - bs.size) (Value.int .u8 0)
    have harr:bs.data.map (fun (b:UInt8)=>Value.int .u8 b.toNat)++Array.replicate (g - bs.size) (Value.int .u8 0) = rowL.toArray:=by
      apply Array.ext';simp [rowL]
    have hsize:rowL.toArray.size = g:=by simp [rowL];omega
    have hrun:(Conv.stringToBytes e bs).run P w = .ok (.slice (some ⟨w.heap.size,0,none⟩) bs.size g) (World.new (World.draw w) (.cells rowL.toArray e (g,g + 1))):=by
      simp only [Conv.stringToBytes,choose,Sem.run_bind,Sem.run,Question.forced,Bool.false_eq_true,if_false,hcut,Result.andThen_ok,harr,newRow,newObj,markStringish,shape,World.shape?,Array.getElem?_push_size,freeze,hsize,Sem.run_pure]
      congr 1
      exact freeze_new (World.draw w) rowL.toArray e g
    simp only [execOp,ho,e1,convert,Sem.run_bind,run_underlyingT hsrc,run_underlyingT hd,run_underlyingT he,Result.andThen_ok,hrun,Sem.run_pure];rfl
  · simp only [VR];refine ⟨_,_,g,Kp.at_same κ h.next _,?_,?_,.inr rfl,?_,by omega⟩
    · rw [lenN_eq];simp;rfl
    · rw [lenN_eq];simpa using hg
    · simp;omega
theorem bytesOf_ok:∀ {cs:List AV} {vs:List Value} {l:List Nat},VRl κ cs vs→bytesOf cs = some l→∃ ns:List Int,vs = ns.map (Value.int .u8)∧ns.map (fun n=>(UInt8.ofNat n.toNat).toNat) = l
  | [],vs,l,hl,hb=>by
    simp only [VRl] at hl;subst hl;simp only [bytesOf,sJ] at hb;subst hb;exact ⟨[],rfl,rfl⟩
  | c :: cs,vs,l,hl,hb=>by
    simp only [VRl] at hl;obtain ⟨x,r,rfl,h1,h2⟩:=hl;simp only [bytesOf] at hb
    split at hb
    · rename_i m
      cases hr':bytesOf cs with
      | none=>rw [hr'] at hb;simp at hb
      | some l' =>
        rw [hr'] at hb;simp only [sJ] at hb;subst hb;obtain ⟨ns,rfl,h4⟩:=bytesOf_ok h2 hr';simp only [VR] at h1;exact ⟨Int.ofNat m :: ns,by rw [h1];rfl,by simp [← h4]⟩
    · simp at hb
theorem push_bytes:∀ (ns:List Int) (s:ByteArray),(ns.foldl (fun r n=>r.push (UInt8.ofNat n.toNat)) s).data.toList = s.data.toList++ns.map fun n=>UInt8.ofNat n.toNat
  | [],s=>by simp
  | n :: ns,s=>by
    simp only [List.foldl_cons,List.map_cons,push_bytes ns];simp [ByteArray.push]

theorem src_ok (hr:HR P κ h w) {x:AV} {x':Value} (hx:VR κ x x') {esz m:Nat} {xs:List AV} (hs:srcOf esz x h = some (m,xs)) :
    ∃ vs:List Value,VRl κ xs vs∧xs.all AV.one = true∧vs.length = m * esz∧(∀ w',(Builtin.lenOf x').run P w' = .ok m w') ∧
      (∀ k,k ≤ m→∀ w':World,w'.heap = w.heap→(Builtin.firstCells esz k x').run P w' = .ok (vs.take (k * esz)).toArray w')∧(∀ q l c,x' = .slice q l c→l = m):=by
  have none_ok:∀ {q:Option Addr} {c:Nat},x' = .slice q m c→m * esz = 0→xs = []→∃ vs:List Value,VRl κ xs vs∧xs.all AV.one = true∧vs.length = m * esz∧(∀ w',(Builtin.lenOf x').run P w' = .ok m w') ∧
      (∀ k,k ≤ m→∀ w':World,w'.heap = w.heap→(Builtin.firstCells esz k x').run P w' = .ok (vs.take (k * esz)).toArray w')∧(∀ q l c,x' = .slice q l c→l = m):=by
    rintro q c rfl h0 rfl;refine ⟨[],by simp [VRl],by simp,by simp [h0],fun w'=>rfl,fun k hk w' _=>?_,fun _ _ _ e=>by cases e;rfl⟩;have:k * esz = 0:=Nat.le_zero.1 (h0 ▸ Nat.mul_le_mul_right esz hk)
    cases q <;> simp [Builtin.firstCells,this,loadCells,loadCellsFrom]
  have some_ok:∀ {b q c:Nat} {arr:Array Value} {ty:TypeId} {fr:Nat × Nat} {vs:List Value},x' = .slice (some ⟨b,q,none⟩) m c→w.heap[b]? = some (.cells arr ty fr)→VRl κ xs vs→xs.all AV.one = true→vs.length = m * esz→(∀ j,j < m * esz→arr[q + j]? = vs[j]?) →
      ∃ vs:List Value,VRl κ xs vs∧xs.all AV.one = true∧vs.length = m * esz∧(∀ w',(Builtin.lenOf x').run P w' = .ok m w') ∧
      (∀ k,k ≤ m→∀ w':World,w'.heap = w.heap→(Builtin.firstCells esz k x').run P w' = .ok (vs.take (k * esz)).toArray w')∧(∀ q l c,x' = .slice q l c→l = m):=by
    rintro b q c arr ty fr vs rfl hg g1 g2 g3 g4;refine ⟨vs,g1,g2,g3,fun w'=>rfl,fun k hk w' hw=>?_,fun _ _ _ e=>by cases e;rfl⟩;have hle:k * esz ≤ m * esz:=Nat.mul_le_mul_right esz hk;have hlt:(vs.take (k * esz)).length = k * esz:=by simp;omega
    have:=run_loadCells_of P (w:=w') (b:=b) (o:=q) (arr:=arr) (t:=ty) (fr:=fr) (by rw [hw];exact hg) (vs.take (k * esz)) (fun j hj=>by
      rw [hlt] at hj;rw [g4 j (by omega),List.getElem?_take,if_pos hj])
    rw [hlt] at this;simp only [Builtin.firstCells,this]
  cases x <;> simp only [srcOf,sJ,Prod.mk.injEq,reduceCtorEq] at hs
  case nilslice =>
    simp only [VR] at hx;obtain ⟨rfl,rfl⟩:=hs;exact none_ok hx (by simp) rfl
  case slice p q len cap =>
    simp only [VR] at hx;obtain ⟨s,ad,c,k1,k2,k3,k4,_⟩:=hx
    cases len with
    | zero =>
      simp only [sJ,Prod.mk.injEq] at hs;obtain ⟨rfl,rfl⟩:=hs;exact none_ok k2 (by simp) rfl
    | succ len =>
      have hob:=hr.obj p s k1
      cases hg:h.get p <;> rw [hg] at hs hob <;> first | (simp at hs;done) | skip
      rename_i ty cs sp
      dsimp only at hs
      cases hsub:sub cs q ((len + 1) * esz) with
      | none=>rw [hsub] at hs;simp at hs
      | some l =>
        rw [hsub] at hs;simp only [sJ,Prod.mk.injEq] at hs;obtain ⟨rfl,rfl⟩:=hs;obtain ⟨g1,rfl⟩:=sub_some hsub;obtain ⟨arr,fr,f1,f2,f3,f4,_⟩:=hob;obtain ⟨vs,r1,r2,r3,r4,r5⟩:=f4.read q ((len + 1) * esz) g1
        rcases k4 with k4 | rfl
        · omega
        · exact some_ok k2 f1 r2 r3 r1 (fun j hj=>by rw [Nat.add_assoc];exact r5 j hj)
  case imm cs len full =>
    simp only [VR] at hx;obtain ⟨ad,c,k1,k2,_,k4⟩:=hx
    cases hsub:takeE (len * esz) cs with
    | none=>rw [hsub] at hs;simp at hs
    | some l =>
      rw [hsub] at hs;simp only [sJ,Prod.mk.injEq] at hs;obtain ⟨rfl,rfl⟩:=hs;obtain ⟨g1,rfl⟩:=takeE_some hsub
      rcases k4 with rfl | rfl | ⟨k4,arr,ty,fr,k5,k6⟩
      · exact none_ok k1 (by simpa using g1) (by simp)
      · exact none_ok k1 (by simp) (by simp)
      · rw [Addr.eta_none k4] at k1;obtain ⟨vs,r1,r2,r3,r4,r5⟩:=k6.read 0 (len * esz) (by omega);simp only [List.drop_zero] at r2 r3;exact some_ok k1 (hr.frozen _ _ k5) r2 r3 r1 (fun j hj=>by have:=r5 j hj;simpa using this)
  case str l =>
    simp only [VR] at hx;obtain ⟨s,rfl,rfl⟩:=hx
    cases hb:Nat.beq esz 1 with
    | false=>rw [hb] at hs;simp at hs
    | true =>
      rw [hb] at hs;simp only [sJ,Prod.mk.injEq] at hs;obtain ⟨rfl,rfl⟩:=hs;have hb:=beq_iff'.1 hb;subst hb;obtain ⟨g1,g2⟩:=avBytes_ok (κ:=κ) s.data.toList;refine ⟨_,g1,g2,by simp [lenN_eq],fun w'=>by simp [Builtin.lenOf,lenN_eq],fun k hk w' _=>?_,fun _ _ _ e=>by simp at e⟩;simp only [Builtin.firstCells,Sem.run_pure,Result.ok.injEq,and_true]
      apply Array.ext'
      simp [ByteArray.data_extract]
theorem toStr_ok (hr:HR P κ h w) (ht:TR κ n tm a.tmps) {s d e:TypeId} (hsrc:P.underlying s = some (.slice e)) (hd:P.underlying d = some .string) (he:P.underlying e = some (.int .u8)) {x:Operand} {xo:XO} (hx:opnd x = some xo) (ho:o.op = .convert s d x)
    (hs:toStrS xo tm h = .ok v h'):OpRes P o a κ h w v h':=by
  obtain ⟨y,h1,h2⟩:=withO_ok hs;have e1:=opnd_ok ht hx h1;have fin:∀ {q:Option Addr} {m c:Nat} {cs:List AV} {l:List Nat},a.eval x = .slice q m c→srcOf 1 y h = some (m,cs)→bytesOf cs = some l→v = .str l→h' = h→OpRes P o a κ h w v h':=by
    rintro q m c cs l e3 e4 e5 rfl rfl;obtain ⟨vs,g1,g2,g3,g4,g5,_⟩:=src_ok hr e1 e4;obtain ⟨ns,rfl,f2⟩:=bytesOf_ok g1 e5;have hf:=g5 m (Nat.le_refl _) w rfl;rw [← g3,List.take_length] at hf;rw [e3] at hf;have hrun:(Conv.bytesToString (.slice q m c)).run P w = .ok (.string (ns.foldl (fun r n=>r.push (UInt8.ofNat n.toNat)) ByteArray.empty)) w:=by
      cases q with
      | none =>
        simp only [Builtin.firstCells,Sem.run_pure,Result.ok.injEq,and_true] at hf;have:ns = []:=by
          have:=congrArg Array.size hf;simp at this;exact List.length_eq_zero_iff.1 this.symm
        subst this;rfl
      | some ad =>
        simp only [Builtin.firstCells,Nat.mul_one] at hf;exact run_bytesToString w ad m c ns hf
    refine .pure (v':=.string (ns.foldl (fun r n=>r.push (UInt8.ofNat n.toNat)) ByteArray.empty)) hr ?_ ?_
    · simp only [VR];refine ⟨ns.foldl (fun r n=>r.push (UInt8.ofNat n.toNat)) ByteArray.empty,rfl,?_⟩;rw [push_bytes,← f2];simp
    · simp only [execOp,ho,e3,convert,Sem.run_bind,run_underlyingT hsrc,run_underlyingT hd,run_underlyingT he,Result.andThen_ok,hrun,Sem.run_pure]
  have get:∀ {q:Option Addr} {m c:Nat},a.eval x = .slice q m c→(match srcOf 1 y h with
    | some (_,cs)=>(match bytesOf cs with | some l=>Out.ok (AV.str l) h | none=>.bad)
    | none=>.bad) = .ok v h'→OpRes P o a κ h w v h':=by
    intro q m c e3 e4
    cases hsr:srcOf 1 y h with
    | none=>rw [hsr] at e4;simp at e4
    | some r =>
      obtain ⟨m',cs⟩:=r;rw [hsr] at e4;dsimp only at e4
      cases hb:bytesOf cs with
      | none=>rw [hb] at e4;simp at e4
      | some l =>
        rw [hb] at e4;simp only [Out.ok.injEq] at e4;obtain ⟨rfl,rfl⟩:=e4;obtain ⟨_,_,_,_,_,_,g6⟩:=src_ok hr e1 hsr;have:=g6 q m c e3;subst this;exact fin e3 hsr hb rfl rfl
  cases y <;> first | (simp [srcOf] at h2;done) | skip
  case nilslice=>simp only [VR] at e1;exact get e1 h2
  case slice=>have e1':=e1;simp only [VR] at e1';obtain ⟨_,_,_,_,e1',_⟩:=e1';exact get e1' h2
  case imm=>have e1':=e1;simp only [VR] at e1';obtain ⟨_,_,e1',_⟩:=e1';exact get e1' h2
end
end Go.X

/- The instructions of X against the model's operations,10: append,copy,clear. -/
namespace Go.X
open Go

section
variable {P:Program} {κ:Kp} {h h':Heap} {w:World} {n:Nat} {tm:Tm} {a:Act} {o:Oper} {v:AV}

def Fits (need cap bytes:Nat):Prop:=need * bytes ≤ 140737488355328∨(cap = 0∧need * bytes ≤ 281474976702464)
theorem Fits.le {need cap bytes:Nat} (h:Fits need cap bytes):need * bytes ≤ 281474976702464:=by rcases h with h | h <;> omega
theorem Fits.next {need cap bytes:Nat} (h:Fits need cap bytes) (hlt:cap < need) : ¬ Builtin.nextslicecap need cap * bytes > 2 ^ 48:=by
  rcases h with h | ⟨rfl,h⟩
  · have:=growslice_fits (bytes:=bytes) hlt h;omega
  · rw [nextslicecap_zero hlt];omega
def Appended (P:Program) (κ:Kp) (h:Heap) (w:World) (e:TypeId) (esz bytes:Nat) (s':Value) (m:Nat) (vs:List Value) (v:AV) (h':Heap):Prop :=
  ∃ base sLen sCap,s' = .slice base sLen sCap ∧
    ((sLen + m ≤ sCap∧∃ w',(match base with | some ad=>storeCells (ad.add (sLen * esz)) vs | none=>pure ():Sem Unit).run P w = .ok () w'∧∃ κ',VR κ' v (.slice base (sLen + m) sCap)∧Ext P κ h w κ' h' w') ∨
     (sCap < sLen + m∧Fits (sLen + m) sCap bytes∧bytes ≠ 0∧∃ olds:List Value,(∀ w':World,w'.heap = w.heap→(Builtin.firstCells esz sLen s').run P w' = .ok olds.toArray w') ∧
       ∀ (g:Nat) (rest:List Value),sLen + m ≤ g→rest.length = (g - (sLen + m)) * esz →
         ∃ κ',VR κ' v (.slice (some ⟨w.heap.size,0,none⟩) (sLen + m) g)∧Ext P κ h w κ' h' (World.new (World.draw w) (.cells ((olds++vs)++rest).toArray e (0,0)))))
theorem grow_ok (hr:HR P κ h w) {e:TypeId} {esz:Nat} (hpos:0 < esz) {old xs:List AV} {olds vs:List Value} (h1:VRl κ old olds) (h2:old.all AV.one = true) (h3:VRl κ xs vs) (h4:xs.all AV.one = true) {need:Nat} (hlen:(olds++vs).length = need * esz) :
    ∀ (g:Nat) (rest:List Value),need ≤ g→rest.length = (g - need) * esz →
      ∃ κ',VR κ' (.slice h.next 0 need (.up esz)) (.slice (some ⟨w.heap.size,0,none⟩) need g)∧Ext P κ h w κ' (h.push (.row e (old++xs) true)) (World.new (World.draw w) (.cells ((olds++vs)++rest).toArray e (0,0))):=by
  intro g rest hg hrest;have hd:=Ext.draw hr;have hx:=newRowS_ok hd.hr (rest:=rest) (h1.append h3) (by rw [List.all_append,h2,h4];rfl) e (fr:=(0,0)) (.inl rfl);refine ⟨_,?_,hd.trans hx⟩;simp only [VR];refine ⟨_,_,g,Kp.at_same κ h.next _,rfl,hg,.inr rfl,?_,hpos⟩;rw [hlen,hrest];have:need * esz + (g - need) * esz = g * esz:=by rw [← Nat.add_mul];congr 1;omega
  simp only [Nat.zero_add];omega
theorem appendTo_ok (hr:HR P κ h w) {e:TypeId} {esz bytes:Nat} {s:AV} {s':Value} (hS:VR κ s s') {m:Nat} {xs:List AV} {vs:List Value} (hl:VRl κ xs vs) (h1:xs.all AV.one = true) (hlen:vs.length = m * esz)
    (hs:appendTo e esz bytes s m xs h = .ok v h'):Appended P κ h w e esz bytes s' m vs v h':=by
  have nothing:∀ {base:Option Addr} {sLen sCap:Nat},s' = .slice base sLen sCap→sLen ≤ sCap→m = 0→v = s→h' = h→Appended P κ h w e esz bytes s' m vs v h':=by
    rintro base sLen sCap rfl hle rfl rfl rfl;have:vs = []:=List.length_eq_zero_iff.1 (by simpa using hlen);subst this;refine ⟨base,sLen,sCap,rfl,.inl ⟨by omega,w,?_,κ,hS,.refl hr⟩⟩
    cases base <;> rfl
  cases esz with
  | zero=>simp [appendTo] at hs
  | succ z0 =>
  have hpos:0 < z0 + 1:=by omega
  simp only [appendTo] at hs
  generalize hes:z0 + 1 = esz at *
  cases s <;> first | (simp at hs;done) | skip
  case nilslice =>
    simp only [VR] at hS;dsimp only at hs
    cases m with
    | zero =>
      simp only [Out.ok.injEq] at hs;exact nothing hS (Nat.le_refl _) rfl hs.1.symm hs.2.symm
    | succ m =>
      cases c1:smallN (m + 1) bytes <;> cases c2:Nat.beq bytes 0 <;> rw [c1,c2] at hs <;> simp only [Heap.pushK_eq,Out.ok.injEq,reduceCtorEq] at hs
      obtain ⟨rfl,rfl⟩:=hs;have c1:=ble_iff.1 c1;have c2:bytes ≠ 0:=fun q=>by rw [q] at c2;simp at c2
      refine ⟨none,0,0,hS,.inr ⟨by omega,.inr ⟨rfl,by simpa using c1⟩,c2,[],fun w' _=>by rw [hS];rfl,?_⟩⟩;have:=grow_ok (e:=e) hr hpos (old:=[]) (olds:=[]) (by simp [VRl]) rfl hl h1 (need:=m + 1) (by simpa using hlen)
      simpa using this
  case imm cs len full =>
    cases full with
    | false=>simp at hs
    | true =>
      have hS':=hS;simp only [VR] at hS';obtain ⟨ad,c,k1,k2,k3,k4⟩:=hS';have k3:=k3 trivial;subst k3;dsimp only at hs
      cases m with
      | zero =>
        simp only [Out.ok.injEq] at hs;exact nothing k1 (Nat.le_refl _) rfl hs.1.symm hs.2.symm
      | succ m =>
        cases c1:small (c + (m + 1)) bytes <;> cases c2:Nat.beq bytes 0 <;> cases c3:takeE (c * esz) cs <;> rw [c1,c2,c3] at hs <;> simp only [Heap.pushK_eq,Out.ok.injEq,reduceCtorEq] at hs
        obtain ⟨rfl,rfl⟩:=hs
        rename_i old
        have c1:=ble_iff.1 c1;have c2:bytes ≠ 0:=fun q=>by rw [q] at c2;simp at c2
        obtain ⟨olds,o1,o2,o3,o4,o5,_⟩:=src_ok hr hS (esz:=esz) (m:=c) (xs:=old) (by simp only [srcOf,c3]);refine ⟨some ad,c,c,k1,.inr ⟨by omega,.inl c1,c2,olds,fun w' hw=>by rw [o5 c (Nat.le_refl _) w' hw,← o3,List.take_length],?_⟩⟩;exact grow_ok (e:=e) hr hpos o1 o2 hl h1 (by rw [List.length_append,o3,hlen,← Nat.add_mul])
  case slice p q len cap =>
    have hS':=hS;simp only [VR] at hS';obtain ⟨x,ad,c,k1,k2,k3,k4,k5⟩:=hS';have write:∀ {cp:Cap},0 < m→len + m ≤ c→(match cp with | .ex r=>c = r | .up z=>x.d + q + c * z = x.n∧0 < z)→writeAt p (q + len * esz) xs (.slice p q (len + m) cp) h = .ok v h'→Appended P κ h w e esz bytes s' m vs v h':=by
      intro cp hm hle hcp hw;obtain ⟨rfl,w',g1,g2⟩:=writeAt_ok hr k1 hl h1 hw;refine ⟨some ad,len,c,k2,.inl ⟨hle,w',?_,κ,?_,g2⟩⟩
      · rcases k4 with k4 | rfl
        · omega
        · dsimp only;rw [add_none,Nat.add_assoc];exact g1
      · simp only [VR];exact ⟨x,ad,c,k1,rfl,hle,k4,hcp⟩
    cases cap with
    | ex c' =>
      dsimp only at k5;subst k5;dsimp only at hs
      cases c0:Nat.ble (len + m) c with
      | true =>
        rw [c0] at hs;have c0:=ble_iff.1 c0
        cases m with
        | zero =>
          simp only [Out.ok.injEq] at hs;exact nothing k2 k3 rfl hs.1.symm hs.2.symm
        | succ m=>exact write (by omega) c0 rfl hs
      | false =>
        rw [c0] at hs;dsimp only at hs;have c0:=ble_not c0
        cases c1:small (len + m) bytes <;> cases c2:Nat.beq bytes 0 <;> rw [c1,c2] at hs <;> simp only [reduceCtorEq] at hs
        cases c3:srcOf esz (.slice p q len (.ex c)) h with
        | none=>rw [c3] at hs;simp at hs
        | some r =>
          obtain ⟨m',old⟩:=r;rw [c3] at hs;simp only [Heap.pushK_eq,Out.ok.injEq] at hs;obtain ⟨rfl,rfl⟩:=hs;have c1:=ble_iff.1 c1;have c2:bytes ≠ 0:=fun q=>by rw [q] at c2;simp at c2
          obtain ⟨olds,o1,o2,o3,o4,o5,o6⟩:=src_ok hr hS c3;have:=o6 _ _ _ k2;subst this;refine ⟨some ad,len,c,k2,.inr ⟨c0,.inl c1,c2,olds,fun w' hw=>by rw [o5 len (Nat.le_refl _) w' hw,← o3,List.take_length],?_⟩⟩;exact grow_ok (e:=e) hr hpos o1 o2 hl h1 (by rw [List.length_append,o3,hlen,← Nat.add_mul])
    | up z =>
      dsimp only at k5;obtain ⟨k5,k6⟩:=k5;dsimp only at hs
      cases m with
      | zero =>
        simp only [Out.ok.injEq] at hs;exact nothing k2 k3 rfl hs.1.symm hs.2.symm
      | succ m =>
        cases c2:Nat.beq z esz with
        | false=>rw [c2] at hs;simp at hs
        | true =>
        have c2:=beq_iff'.1 c2;subst c2;have hob:=hr.obj p x k1
        cases hg:h.get p <;> rw [hg] at hs hob <;> first | (simp at hs;done) | skip
        rename_i ty cs sp
        obtain ⟨arr,fr,f1,f2,f3,f4,f5,f6⟩:=hob;simp only [Nat.beq_refl] at hs
        cases c3:dropE (q + (len + (m + 1)) * z) cs with
        | some r =>
          rw [c3] at hs;obtain ⟨g1,_⟩:=dropE_some c3;refine write (cp:=.up z) (by omega) ?_ ⟨k5,k6⟩ hs;have:(len + (m + 1)) * z ≤ c * z:=by omega
          exact Nat.le_of_mul_le_mul_right this k6
        | none =>
          rw [c3] at hs;dsimp only at hs;have g0:=dropE_none c3
          cases c4:small (len + (m + 1)) bytes <;> cases c5:Nat.beq bytes 0 <;> cases sp <;> cases c6:Nat.beq ty e <;> rw [c4,c5,c6] at hs <;> simp only [reduceCtorEq] at hs
          have c4:=ble_iff.1 c4;have c5:bytes ≠ 0:=fun q=>by rw [q] at c5;simp at c5
          have c6:=beq_iff'.1 c6;subst c6
          cases c7:sub cs q (len * z) with
          | none=>rw [c7] at hs;simp at hs
          | some old =>
            rw [c7] at hs;simp only [Heap.setK_eq,Heap.pushK_eq,Out.ok.injEq] at hs;obtain ⟨rfl,rfl⟩:=hs;obtain ⟨g1,rfl⟩:=sub_some c7;obtain ⟨olds,o1,o2,o3,o4,o5⟩:=f4.read q (len * z) g1;have hlive:Live κ h p x:=⟨k1,by rw [hg];simp⟩;have hlx:=hl.length
            by_cases hroom:len + (m + 1) ≤ c
            · -- in place
              have hmul:(len + (m + 1)) * z ≤ c * z:=Nat.mul_le_mul_right z hroom;have hsplit:(len + (m + 1)) * z = len * z + (m + 1) * z:=Nat.add_mul _ _ _
              rcases k4 with k4 | rfl
              · omega
              · have hst:=run_storeCells_put P (b:=x.b) (t:=ty) (fr:=fr) (x.d + q + len * z) vs 0 arr w f1 (by omega) (fun j j1 j2=>unfrozen f6 j (by omega)) (hl.ones h1);rw [Nat.add_zero] at hst;refine ⟨some ⟨x.b,x.d + q,none⟩,len,c,k2,.inl ⟨hroom,_,by simp only [add_none];exact hst,?_⟩⟩;have hb:x.b < w.heap.size:=(Array.getElem?_eq_some_iff.1 f1).1;have hle:=Kp.at_le (x:=⟨x.b,x.d + q,x.n⟩) hr.next_none;refine ⟨_,?_,Ext.takeOn hr hlive (x.d + q) _ _ ⟨spliced arr (x.d + q + len * z) vs,fr,put_heap_same _ _ _ hb,?_,?_,?_,fun h=>by simp at h,f6⟩⟩
                · simp only [VR];exact ⟨_,_,c,Kp.at_same κ h.next _,rfl,hroom,.inr (by simp),by simpa using k5,k6⟩
                · rw [size_spliced (by omega),f2]
                · simp only [List.length_append,List.length_take,List.length_drop];omega
                · refine VRm_iff.2 fun i c0 hc0=>?_
                  dsimp only;rw [get_spliced (by omega)];have e1:((cs.drop q).take (len * z)).length = len * z:=by simp;omega
                  by_cases hi:i < len * z
                  · rw [List.getElem?_append_left (by omega)] at hc0;rw [if_neg (by omega)];rw [List.getElem?_take,if_pos hi,List.getElem?_drop] at hc0;obtain ⟨y,y1,y2,y3⟩:=VRm_iff.1 f4 (q + i) c0 hc0;exact ⟨y,by rw [← y1];simp [Nat.add_assoc],y2,VR.mono hle _ _ y3⟩
                  · rw [List.getElem?_append_right (by omega),e1] at hc0;have hi2:=(List.getElem?_eq_some_iff.1 hc0).1;rw [if_pos (by omega)];obtain ⟨_,gl⟩:=VRl_iff.1 hl;have hy:vs[x.d + q + i - (x.d + q + len * z)]? = some vs[i - len * z]:=by
                      rw [show x.d + q + i - (x.d + q + len * z) = i - len * z by omega];exact List.getElem?_eq_getElem (by omega)
                    exact ⟨_,hy,List.all_eq_true.1 h1 c0 (List.mem_of_getElem? hc0),VR.mono hle _ _ (gl _ c0 _ hc0 (List.getElem?_eq_getElem (by omega)))⟩
            · -- a new row
              refine ⟨some ad,len,c,k2,.inr ⟨by omega,.inl c4,c5,olds,fun w' hw=>?_,?_⟩⟩
              · rcases Nat.eq_zero_or_pos len with h0 | h0
                · subst h0;have:olds = []:=List.length_eq_zero_iff.1 (by simpa using o1);subst this;rw [k2];simp [Builtin.firstCells,loadCells,loadCellsFrom]
                · rcases k4 with k4 | rfl
                  · omega
                  · have:=run_loadCells_of P (w:=w') (b:=x.b) (o:=x.d + q) (arr:=arr) (t:=ty) (fr:=fr) (by rw [hw];exact f1) olds (fun j hj=>by rw [Nat.add_assoc];exact o5 j (by omega));rw [o1] at this;rw [k2];simp only [Builtin.firstCells,this]
              · have hk:=Ext.kill hr k1;intro g rest hg' hrest;obtain ⟨κ',v1,v2⟩:=grow_ok (e:=ty) hk.hr hpos o2 o3 hl h1 (need:=len + (m + 1)) (by rw [List.length_append,o1,hlen,← Nat.add_mul]) g rest hg' hrest;exact ⟨κ',v1,hk.trans v2⟩

theorem need_small {m b:Nat} (h:m * b ≤ 281474976702464) (hb:b ≠ 0):m ≤ 281474976702464:=Nat.le_trans (Nat.le_mul_of_pos_right m (Nat.pos_of_ne_zero hb)) h
section
variable {ts:Array TypeId} {ty t tx e:TypeId} {args:Array Value} {base:Option Addr} {sLen sCap m esz bytes:Nat} {x:Value} {vs olds:List Value} {i:TypeInfo} {zv:Value}
theorem run_append_room' (h0:ts[0]? = some t) (h1:ts[1]? = some tx) (ha:args[0]? = some (.slice base sLen sCap)) (hb:args[1]? = some x) (hu:P.underlying t = some (.slice e)) (hk:(∃ e',P.underlying tx = some (.slice e'))∨P.underlying tx = some .string)
    (hsz:szOf P e = some esz) (hlen:(Builtin.lenOf x).run P w = .ok m w) (hcells:(Builtin.firstCells esz m x).run P w = .ok vs.toArray w) (hle:sLen + m ≤ sCap) {w':World} (hst:(match base with | some ad=>storeCells (ad.add (sLen * esz)) vs | none=>pure ():Sem Unit).run P w = .ok () w') :
    (Builtin.append_ ts ty args).run P w = .ok (.slice base (sLen + m) sCap) w':=by
  rcases hk with ⟨e',hk⟩ | hk <;> cases base <;>
    simp only [Builtin.append_,h0,h1,ha,hb,Sem.run_bind,run_underlyingT hu,run_underlyingT hk,Result.andThen_ok,run_sizeT hsz,Sem.run_pure,Bool.false_eq_true,if_false,Bool.not_false,if_true,hlen,hle,hcells] <;>
    (dsimp only at hst;first | (simp only [hst,Result.andThen_ok];done) | (simp only [Sem.run_pure,Result.ok.injEq,true_and] at hst;subst hst;simp only))
theorem run_append_grow' (h0:ts[0]? = some t) (h1:ts[1]? = some tx) (ha:args[0]? = some (.slice base sLen sCap)) (hb:args[1]? = some x) (hu:P.underlying t = some (.slice e)) (hk:(∃ e',P.underlying tx = some (.slice e'))∨P.underlying tx = some .string)
    (hi:P.info? e = some i) (hz:i.zero = some zv) (hsi:i.size = esz) (hbi:i.bytes = bytes) (hlen:(Builtin.lenOf x).run P w = .ok m w) (hcells:(Builtin.firstCells esz m x).run P (World.draw w) = .ok vs.toArray (World.draw w))
    (hold:(Builtin.firstCells esz sLen (.slice base sLen sCap)).run P (World.draw w) = .ok olds.toArray (World.draw w)) (hgt:sCap < sLen + m) (hb1:Fits (sLen + m) sCap bytes) (hb2:bytes ≠ 0) :
    (Builtin.append_ ts ty args).run P w = .ok (.slice (some ⟨w.heap.size,0,none⟩) (sLen + m) (grownCap w (sLen + m) sCap e)) (World.new (World.draw w) (.cells ((olds++vs)++(Builtin.zeroCells zv.cells (grownCap w (sLen + m) sCap e - (sLen + m))).toList).toArray e (0,0))):=by
  have hle : ¬ (sLen + m ≤ sCap):=by omega
  have h63:=need_small hb1.le hb2;have h63' : ¬ ((sLen + m:Nat):Int) > IntKind.i64.max:=by
    have:IntKind.i64.max = 9223372036854775807:=by decide
    rw [this];omega
  have h48 : ¬ Builtin.nextslicecap (sLen + m) sCap * bytes > 2 ^ 48:=hb1.next hgt;have hch:(choose (.appendCap (sLen + m) sCap e)).run P w = .ok (grownCap w (sLen + m) sCap e) (World.draw w):=rfl;have hroom:∀ k (w:World),(askRoom k).run P w = .ok () w:=fun k w=>by unfold askRoom;split <;> rfl
  have hti:∀ w:World,(typeInfo e).run P w = .ok i w:=fun w=>by simp only [typeInfo,Sem.run_bind,run_program,Result.andThen_ok,hi,Sem.run_pure]
  have hso:∀ w:World,(sizeOf e).run P w = .ok esz w:=fun w=>by simp only [sizeOf,Sem.run_bind,hti,Result.andThen_ok,Sem.run_pure,hsi]
  have hzv:∀ w:World,(zeroValue e).run P w = .ok zv w:=fun w=>by simp only [zeroValue,Sem.run_bind,hti,Result.andThen_ok,hz,Sem.run_pure]
  have harr:olds.toArray++vs.toArray++Builtin.zeroCells zv.cells (grownCap w (sLen + m) sCap e - (sLen + m)) = ((olds++vs)++(Builtin.zeroCells zv.cells (grownCap w (sLen + m) sCap e - (sLen + m))).toList).toArray:=by
    apply Array.ext';simp
  rw [← harr]
  rcases hk with ⟨e',hk⟩ | hk <;>
    simp only [Builtin.append_,h0,h1,ha,hb,Sem.run_bind,run_underlyingT hu,run_underlyingT hk,Result.andThen_ok,hso,hti,hzv,hbi,Sem.run_pure,Bool.false_eq_true,if_false,Bool.not_false,if_true,hlen,hle,h63',false_and,h48,hch,hroom,hold,hcells,newRow,newObj,Sem.run] <;>
    rfl
end
theorem zeros_length {zv:Value} {esz k:Nat} (h:zv.cells.size = esz):(Builtin.zeroCells zv.cells k).toList.length = k * esz:=by simp [Builtin.zeroCells,h]
theorem append_ok (hr:HR P κ h w) (ht:TR κ n tm a.tmps) {c:Call} (hc:c.callee = .builtin .append) {t tx e:TypeId} (hT:c.argTypes[0]? = some t) (hT1:c.argTypes[1]? = some tx) (hu:P.underlying t = some (.slice e)) (hk:(∃ e',P.underlying tx = some (.slice e'))∨P.underlying tx = some .string)
    {z:List AV} {esz bytes:Nat} (hz:zeroC P e = some z) (hsz:szOf P e = some esz) (hb:byOf P e = some bytes) {x y:Operand} {xo yo:XO} (hl:c.args.toList = [x,y]) (hx:opnd x = some xo) (hy:opnd y = some yo)
    (ho:o.op = .call c) (hs:appendS e esz bytes xo yo tm h = .ok v h'):OpRes P o a κ h w v h':=by
  obtain ⟨u,h1,h2⟩:=withO_ok hs;obtain ⟨d,h3,h4⟩:=withO_ok h2;have e1:=opnd_ok ht hx h1;have e2:=opnd_ok ht hy h3
  cases hsrc:srcOf esz d h with
  | none=>rw [hsrc] at h4;simp at h4
  | some r =>
    obtain ⟨m,xs⟩:=r;rw [hsrc] at h4;obtain ⟨vs,s1,s2,s3,s4,s5,_⟩:=src_ok hr e2 hsrc;obtain ⟨i,zv,z1,z2,z3,z4,z5⟩:=zeroC_info hz;have hsi:=szOf_info hsz z1;have hbi:=byOf_info hb z1;have hzs:zv.cells.size = esz:=by rw [← hsi,z5,(z3 κ).length];simp
    have hcells:∀ w':World,w'.heap = w.heap→(Builtin.firstCells esz m (a.eval y)).run P w' = .ok vs.toArray w':=fun w' hw=>by rw [s5 m (Nat.le_refl _) w' hw,← s3,List.take_length]
    obtain ⟨base,sLen,sCap,g0,g⟩:=appendTo_ok (P:=P) hr e1 s1 s2 s3 h4;have ha0:(c.args.map a.eval)[0]? = some (.slice base sLen sCap):=by rw [args_eq hl];simp [g0]
    have ha1:(c.args.map a.eval)[1]? = some (a.eval y):=by rw [args_eq hl];simp
    rcases g with ⟨g1,w',g2,κ',g3,g4⟩ | ⟨g1,g2,g3,olds,g4,g5⟩
    · refine .inl ⟨_,w',κ',run_builtinOp ho hc fun cs=>?_,.inl ⟨_,rfl,g3⟩,g4⟩;simp only [builtin,Sem.run_bind,run_append_room' hT hT1 ha0 ha1 hu hk hsz (s4 w) (hcells w rfl) g1 g2,Result.andThen_ok,Sem.run_pure]
    · obtain ⟨κ',g6,g7⟩:=g5 (grownCap w (sLen + m) sCap e) _ (grownCap_ge w (sLen + m) sCap e) (zeros_length (k:=grownCap w (sLen + m) sCap e - (sLen + m)) hzs);refine .inl ⟨_,_,κ',run_builtinOp ho hc fun cs=>?_,.inl ⟨_,rfl,g6⟩,g7⟩;have hold:=g4 (World.draw w) rfl;rw [g0] at hold;simp only [builtin,Sem.run_bind,run_append_grow' hT hT1 ha0 ha1 hu hk z1 z2 hsi hbi (s4 w) (hcells (World.draw w) rfl) hold g1 g2 g3,Result.andThen_ok,Sem.run_pure]
end
end Go.X
