/- The instructions of X against the model's operations: equality of arrays of plain elements; the library's functions without a body. -/
import Derived.Test.YtkmffbmgpnndcaaGreatDoorXxOp11
import Derived.ChangeKeysEq
import Derived.Lib.MakeNoZero
import Derived.Lib.Bytealg
import Derived.Laws.Externs
namespace Go.X
open Go

section
variable {P:Program} {κ:Kp} {h h':Heap} {w:World} {n:Nat} {tm:Tm} {a:Act} {o:Oper} {v:AV}

theorem eqItems_ok (d:Nat) {e:TypeId} {k:SK} (hk:plainK P e = some k) {xs ys:Array Value}:∀ {m i:Nat} {as bs:List AV} {r:Bool},VRl κ as (xs.toList.drop i)→VRl κ bs (ys.toList.drop i)→sameL (List.replicate m (some k)) as bs = some r →
    (Op.eqItems (d + 1) e 1 xs ys (List.range' i m)).run P w = .ok r w
  | 0,i,as,bs,r,ha,hb,hs=>by
    cases as <;> cases bs <;> simp [sameL] at hs
    subst hs;rfl
  | m + 1,i,as,bs,r,ha,hb,hs=>by
    simp only [List.replicate_succ] at hs
    cases as <;> cases bs <;> simp only [sameL,reduceCtorEq] at hs
    rename_i c as e' bs
    simp only [VRl] at ha hb;obtain ⟨x,X,a1,a2,a3⟩:=ha;obtain ⟨y,Y,b1,b2,b3⟩:=hb;have hX:X = xs.toList.drop (i + 1):=by rw [← List.drop_drop,a1];rfl
    have hY:Y = ys.toList.drop (i + 1):=by rw [← List.drop_drop,b1];rfl
    subst hX;subst hY;have hx:xs[i]? = some x:=by
      have:=congrArg (·[0]?) a1
      simpa using this
    have hy:ys[i]? = some y:=by
      have:=congrArg (·[0]?) b1
      simpa using this
    obtain ⟨f1,f2,f3⟩:=plainK_ok hk
    cases hv:sameV k c e' with
    | none=>rw [hv] at hs;simp at hs
    | some q =>
      rw [hv] at hs;have he:=equalIn_ok (P:=P) (w:=w) f1 hv a2 b2 d;simp only [List.range'_succ,Op.eqItems,Nat.mul_one,Sem.run_bind,run_partOne f3 hx,run_partOne f3 hy,Result.andThen_ok,he]
      cases q with
      | true=>simp only [Bool.not_true,Bool.false_eq_true,if_false];exact eqItems_ok d hk a3 b3 hs
      | false =>
        simp only [sJ] at hs;subst hs;simp
theorem sameCellsArr_ok (hr:HR P κ h w) (ht:TR κ n tm a.tmps) {neg:Bool} {t yt e:TypeId} {m:Nat} (hu:P.underlying t = some (.array m e)) (hsz:szOf P e = some 1) {mask:List (Option SK)} (hm:maskOf P t = some mask) {x y:Operand} {xo yo:XO} (hx:opnd x = some xo) (hy:opnd y = some yo)
    (ho:o.op = .binOp (eqlOf neg) t x y yt) (hs:sameCellsS neg mask xo yo tm h = .ok v h'):OpRes P o a κ h w v h':=by
  obtain ⟨u,h1,h2⟩:=withO_ok hs;obtain ⟨c,h3,h4⟩:=withO_ok h2;have e1:=opnd_ok ht hx h1;have e2:=opnd_ok ht hy h3
  cases u <;> cases c <;> first | (simp at h4;done) | skip
  rename_i as bs
  simp only [VR] at e1 e2;obtain ⟨xs,e1,_,a1⟩:=e1;obtain ⟨ys,e2,_,b1⟩:=e2;dsimp only at h4
  cases hv:sameL mask as bs with
  | none=>rw [hv] at h4;simp at h4
  | some r =>
    rw [hv] at h4;simp only [okB,Out.ok.injEq] at h4;obtain ⟨rfl,rfl⟩:=h4;simp only [maskOf,hu] at hm
    split at hm
    · simp at hm
    · rename_i hcond
      simp only [Bool.or_eq_true,not_or,Bool.not_eq_true] at hcond;simp only [Option.map_eq_some_iff] at hm;obtain ⟨k,hk,rfl⟩:=hm;simp only [szOf,Option.map_eq_some_iff] at hsz;obtain ⟨i,hi,hone⟩:=hsz;have hc:P.cellsOf e = 1:=by simp [Program.cellsOf,hi,hone]
      have he:(Op.equal t (.agg xs) (.agg ys)).run P w = .ok r w:=by
        have:=run_equalIn_array (P:=P) (w:=w) 9999 xs ys hu hi;simp only [Op.equal,Op.maxDepth];rw [this,hc,List.range_eq_range'];exact eqItems_ok 9998 hk (by simpa using a1) (by simpa using b1) hv
      refine .pure (v':=.bool (negIf neg r)) hr (by simp only [VR]) (run_binOper ho ?_ ?_)
      · rw [e1,e2];exact run_eqGuard_agg w _ t x y xs ys hcond.2
      · rw [e1,e2];exact run_eqlOf neg (fun op=>⟨fun q=>by subst q;rfl,fun q=>by subst q;rfl⟩) he
end
end Go.X

/- The instructions of X against the model's operations: the library's functions without a body. -/
namespace Go.X
open Go

section
variable {P:Program} {κ:Kp} {h h':Heap} {w:World} {n:Nat} {tm:Tm} {a:Act} {o:Oper} {v:AV}

theorem run_extCall {c:Call} {f:FuncId} (ho:o.op = .call c) (hc:c.callee = .value (.func f)):(execOp a.eval o).run P w = (callFunc f (c.args.map a.eval)).run P w:=by
  simp [execOp,ho,resolve,hc,Act.eval,Deferred.ofValue,invoke]
theorem noNext {fn:Func} {s:String} (hn:fn.name = s) (ho:fn.origin = "") (h1:Extern.allNextRows.lookup s = none) (h2:Extern.allNextRows.lookup "" = none):Extern.findNext fn = none:=by
  simp only [Extern.findNext,hn,ho,h1,h2];rfl
theorem noNextE:Extern.allNextRows.lookup "" = none:=by kernel_rfl
theorem noNext1:Extern.allNextRows.lookup "internal/abi.NoEscape" = none:=by kernel_rfl
theorem noNext2:Extern.allNextRows.lookup "internal/bytealg.MakeNoZero" = none:=by kernel_rfl
theorem noNext3:Extern.allNextRows.lookup "internal/bytealg.abigen_runtime_cmpstring" = none:=by kernel_rfl
theorem compareBytes_eq:∀ x y:List UInt8,Lib.compareBytes x y = match ltN (x.map UInt8.toNat) (y.map UInt8.toNat) with | true=>-1 | false=>match beqN (x.map UInt8.toNat) (y.map UInt8.toNat) with | true=>0 | false=>1
  | [],[]=>rfl
  | [],_ :: _=>rfl
  | _ :: _,[]=>rfl
  | a :: x,b :: y=>by
    have ih:=compareBytes_eq x y;rw [ltN_eq,beqN_map] at ih ⊢;simp only [Lib.compareBytes,Op.bytesLess]
    by_cases h1:a < b
    · simp [h1]
    · by_cases h2:b < a
      · have hne : ¬ a = b:=fun e=>by subst e;exact h1 h2
        have hb:(a == b) = false:=by simpa using hne
        simp [h1,h2,hb]
      · have he:a = b:=UInt8.le_antisymm (UInt8.not_lt.1 h2) (UInt8.not_lt.1 h1);subst he;simp only [h1,if_false,ih];simp
theorem digits_ints:∀ (m t:Nat) (acc:Array Value),(∀ x ∈ acc,∃ k q,x = .int k q)→∀ x ∈ Extern.BytealgMakeNoZero.digits m t acc,∃ k q,x = .int k q
  | 0,_,acc,h=>h
  | m + 1,t,acc,h=>by
    rw [Extern.BytealgMakeNoZero.digits];refine digits_ints m _ _ fun x hx=>?_
    rcases Array.mem_push.1 hx with hx | rfl
    · exact h x hx
    · exact ⟨_,_,rfl⟩
theorem noEscape_ok (hr:HR P κ h w) (ht:TR κ n tm a.tmps) {c:Call} {f:FuncId} {fn:Func} (ho:o.op = .call c) (hc:c.callee = .value (.func f)) (hf:P.funcs[f]? = some fn) (hb:fn.body = none) (hn:fn.name = "internal/abi.NoEscape") (hor:fn.origin = "")
    {x:Operand} {xo:XO} (hl:c.args.toList = [x]) (hx:opnd x = some xo) (hs:mvS xo tm h = .ok v h'):OpRes P o a κ h w v h':=by
  obtain ⟨y,h1,h2⟩:=withO_ok hs;simp only [Out.ok.injEq] at h2;obtain ⟨rfl,rfl⟩:=h2;refine .pure hr (opnd_ok ht hx h1) ?_;have hfind:Extern.find fn = some Extern.AbiNoEscape.same:=by
    have e1:Extern.allGenericRows.lookup "internal/abi.NoEscape" = none:=by kernel_rfl
    have e2:Extern.allTypedRows.lookup "internal/abi.NoEscape" = none:=by kernel_rfl
    have e3:Extern.allRows.lookup "internal/abi.NoEscape" = some Extern.AbiNoEscape.same:=by kernel_rfl
    simp only [Extern.find,hn,e1,e2,e3];rfl
  rw [run_extCall ho hc,args_eq hl,run_callFunc_extern hf (by rw [hn];rfl) (by rw [hb];rfl) (noNext hn hor noNext1 noNextE) hfind];rfl
theorem run_makeNoZero' (w:World) (ps:Array TypeId) (t e:TypeId) (ht:P.underlying t = some (.slice e)) (n:Nat) (hn:n ≤ 281474976710656) :
    ∃ cs:Array Value,(Extern.BytealgMakeNoZero.makeNoZero ps #[t] #[.int .i64 n]).run P w = .ok (.slice (some ⟨w.heap.size,0,none⟩) n cs.size) (World.new (World.draw (World.draw w)) (.cells cs e))∧n ≤ cs.size∧∀ x ∈ cs,∃ k q,x = .int k q:=by
  have hdef:Extern.BytealgMakeNoZero.makeNoZero ps #[t] #[.int .i64 n] =
      (do
        let .slice elem ← underlying t | stuck "bytealg.MakeNoZero: slice type expected"
        if (n:Int) < 0 || (n:Int) > 2 ^ 48 then runtimePanic (.error "makeslice: len out of range")
        let cap ← choose (.appendCap (n:Int).toNat 0 elem)
        askRoom cap
        let bytes ← choose (.extern "internal/bytealg.MakeNoZero.bytes" 0)
        let a ← newRow elem (Extern.BytealgMakeNoZero.digits cap bytes #[])
        pure (.slice (some a) (n:Int).toNat cap)):=rfl
  refine ⟨Extern.BytealgMakeNoZero.digits (grownCap w n 0 e) ((Question.extern "internal/bytealg.MakeNoZero.bytes" 0).cut (w.tape (w.drawn + 1) (.extern "internal/bytealg.MakeNoZero.bytes" 0))) #[],?_,?_,digits_ints _ _ _ (by simp)⟩
  · rw [hdef];have h1 : ¬ (n:Int) < 0:=by omega
    have h2 : ¬ (281474976710656:Int) < (n:Int):=by omega
    simp [run_underlying ht,h1,h2,Question.forced,newRow,Lib.size_digits,grownCap,World.new,World.draw]
    try rfl
  · rw [Lib.size_digits]
    simpa using grownCap_ge w n 0 e
theorem mkbytes_ok (hr:HR P κ h w) (ht:TR κ n tm a.tmps) {c:Call} {f:FuncId} {fn:Func} (ho:o.op = .call c) (hc:c.callee = .value (.func f)) (hf:P.funcs[f]? = some fn) (hb:fn.body = none) (hn:fn.name = "internal/bytealg.MakeNoZero") (hor:fn.origin = "")
    {t e:TypeId} (hres:fn.resultTypes.toList = [t]) (hu:P.underlying t = some (.slice e)) {x:Operand} {xo:XO} (hl:c.args.toList = [x]) (hx:opnd x = some xo) (hs:mkbytesS e xo tm h = .ok v h'):OpRes P o a κ h w v h':=by
  obtain ⟨kd,m,h1,h2⟩:=withI_ok hs;have e1:=opnd_ok ht hx h1;simp only [VR] at e1
  split at h2
  · rename_i m
    cases hsm:small m 1 with
    | false=>rw [hsm] at h2;simp at h2
    | true =>
      rw [hsm] at h2;simp only [Heap.pushK_eq,Out.ok.injEq] at h2;obtain ⟨rfl,rfl⟩:=h2;have hm:m ≤ 140737488355328:=by
        have:=ble_iff.1 hsm
        simpa [small] using this
      have hfind:Extern.find fn = some (Extern.BytealgMakeNoZero.makeNoZero fn.params #[t]):=by
        have e1:Extern.allGenericRows.lookup "internal/bytealg.MakeNoZero" = none:=by kernel_rfl
        have e2:Extern.allTypedRows.lookup "internal/bytealg.MakeNoZero" = some Extern.BytealgMakeNoZero.makeNoZero:=by kernel_rfl
        have e3:fn.resultTypes = #[t]:=by rw [← hres]
        simp only [Extern.find,hn,e1,e2,e3];rfl
      obtain ⟨cs,r1,r2,r3⟩:=run_makeNoZero' (P:=P) w fn.params t e hu m (by omega);have hcs:VRl κ (repeatL m [.any]) (cs.toList.take m):=by
        refine VRl_iff.2 ⟨by simp [repeatL_length];omega,fun i c y hc hy=>?_⟩;have hi:i < m:=by
          have:=(List.getElem?_eq_some_iff.1 hc).1
          simpa [repeatL_length] using this
        rw [repeatL_get m [AV.any] i (by simpa using hi)] at hc;simp only [List.length_singleton,Nat.mod_one,List.getElem?_cons_zero,sJ] at hc;subst hc;rw [List.getElem?_take_of_lt hi] at hy;obtain ⟨k,q,rfl⟩:=r3 y (by rw [← Array.mem_toList_iff];exact List.mem_of_getElem? hy);simp [VR]
      have hd:=Ext.draw (Ext.draw hr).hr;have hx':=newRowS_ok hd.hr (rest:=cs.toList.drop m) hcs (repeatL_all (by rfl) m) e (fr:=(0,0)) (.inl rfl);rw [List.take_append_drop] at hx';refine .inl ⟨.value (.slice (some ⟨w.heap.size,0,none⟩) m cs.size),_,_,?_,.inl ⟨_,rfl,?_⟩,(Ext.draw hr).trans (hd.trans hx')⟩
      · rw [run_extCall ho hc,args_eq hl,run_callFunc_extern hf (by rw [hn];rfl) (by rw [hb];rfl) (noNext hn hor noNext2 noNextE) hfind];simp only [List.map_cons,List.map_nil,e1];have:(#[Value.int .i64 (Int.ofNat m)]:Array Value) = #[.int .i64 (m:Int)]:=rfl;rw [this,r1];rfl
      · simp only [VR];refine ⟨_,_,cs.size,Kp.at_same _ _ _,rfl,r2,.inr rfl,?_,by omega⟩;simp only [List.length_take,List.length_drop,Array.length_toList];omega
  · simp at h2
theorem cmpstr_ok (hr:HR P κ h w) (ht:TR κ n tm a.tmps) {c:Call} {f:FuncId} {fn:Func} (ho:o.op = .call c) (hc:c.callee = .value (.func f)) (hf:P.funcs[f]? = some fn) (hb:fn.body = none) (hn:fn.name = "internal/bytealg.abigen_runtime_cmpstring") (hor:fn.origin = "")
    {x y:Operand} {xo yo:XO} (hl:c.args.toList = [x,y]) (hx:opnd x = some xo) (hy:opnd y = some yo) (hs:cmpstrS xo yo tm h = .ok v h'):OpRes P o a κ h w v h':=by
  obtain ⟨u,h1,h2⟩:=withO_ok hs;obtain ⟨u',h3,h4⟩:=withO_ok h2;have e1:=opnd_ok ht hx h1;have e2:=opnd_ok ht hy h3
  split at h4
  · rename_i la lb
    simp only [okI,Out.ok.injEq] at h4;obtain ⟨rfl,rfl⟩:=h4;simp only [VR] at e1 e2;obtain ⟨sa,e1,g1⟩:=e1;obtain ⟨sb,e2,g2⟩:=e2;refine .pure hr (v':=.int .i64 (Lib.compareBytes sa.data.toList sb.data.toList)) (by simp only [VR];rw [compareBytes_eq,g1,g2];try rfl) ?_;have hfind:Extern.find fn = some Extern.BytealgCompare.compare:=by
      have e1:Extern.allGenericRows.lookup "internal/bytealg.abigen_runtime_cmpstring" = none:=by kernel_rfl
      have e2:Extern.allTypedRows.lookup "internal/bytealg.abigen_runtime_cmpstring" = none:=by kernel_rfl
      have e3:Extern.allRows.lookup "internal/bytealg.abigen_runtime_cmpstring" = some Extern.BytealgCompare.compare:=by kernel_rfl
      simp only [Extern.find,hn,e1,e2,e3];rfl
    rw [run_extCall ho hc,args_eq hl,run_callFunc_extern hf (by rw [hn];rfl) (by rw [hb];rfl) (noNext hn hor noNext3 noNextE) hfind];simp only [List.map_cons,List.map_nil,e1,e2];have:([Value.string sa,Value.string sb].toArray) = #[.string sa,.string sb]:=rfl;rw [this,Lib.run_compareString];rfl
  · simp at h4
theorem copExt_ok (hr:HR P κ h w) (ht:TR κ n tm a.tmps) {c:Call} {f:FuncId} {fn:Func} (ho:o.op = .call c) (hc:c.callee = .value (.func f)) (hf:P.funcs[f]? = some fn) (hb:fn.body = none) {xs:List XO} (hxs:c.args.toList.mapM opnd = some xs) {i:XI} (hi:copExt P fn xs = some (.ins i))
    (hs:i.sem tm h = .ok v h'):OpRes P o a κ h w v h':=by
  unfold copExt at hi
  split at hi
  · simp at hi
  · rename_i hor
    have hor:fn.origin = "" := by simpa using hor
    split at hi
    · rename_i hn
      have hn:fn.name = "internal/abi.NoEscape" := by simpa using hn
      split at hi
      · rename_i y
        simp only [sJ,XC.ins.injEq] at hi;subst hi;obtain ⟨x,hl,hx⟩:=mapM_one hxs;exact noEscape_ok hr ht ho hc hf hb hn hor hl hx hs
      · simp at hi
    · split at hi
      · rename_i hn
        have hn:fn.name = "internal/bytealg.MakeNoZero" := by simpa using hn
        split at hi
        · rename_i y t hres
          simp only [Option.map_eq_some_iff,XC.ins.injEq] at hi;obtain ⟨e,he,rfl⟩:=hi;obtain ⟨x,hl,hx⟩:=mapM_one hxs;have hu:P.underlying t = some (.slice e):=by
            simp only [elemS] at he
            split at he
            · rename_i q hq;simp only [sJ] at he;subst he;exact hq
            · simp at he
          exact mkbytes_ok hr ht ho hc hf hb hn hor hres hu hl hx hs
        · simp at hi
      · split at hi
        · rename_i hn
          have hn:fn.name = "internal/bytealg.abigen_runtime_cmpstring" := by simpa using hn
          split at hi
          · rename_i y z
            simp only [sJ,XC.ins.injEq] at hi;subst hi;obtain ⟨x,u,hl,hx,hy⟩:=mapM_two hxs;exact cmpstr_ok hr ht ho hc hf hb hn hor hl hx hy hs
          · simp at hi
        · simp at hi
end
end Go.X

/- The instructions of X against the model's operations: all of them. -/
namespace Go.X
open Go

section
variable {P:Program} {κ:Kp} {h h':Heap} {w:World} {n:Nat} {tm:Tm} {a:Act} {o:Oper} {v:AV}

theorem copBin_ok (hr:HR P κ h w) (ht:TR κ n tm a.tmps) {op:BinOp} {t yt:TypeId} {x y:Operand} {i:XI} (hc:copBin P op t x y = some i) (ho:o.op = .binOp op t x y yt) (hs:i.sem tm h = .ok v h'):OpRes P o a κ h w v h':=by
  simp only [copBin,Option.bind_eq_bind,bJ] at hc;obtain ⟨xo,hx,yo,hy,hc⟩:=hc;have eqq:∀ {k:SK},eqOp op k xo yo = some i→k ≠ .int→k ≠ .str→fits P t k→(k = .iface→isNilC x = true∨isNilC y = true)→OpRes P o a κ h w v h':=by
    intro k he h1 h2 hf hn
    cases op <;> simp only [eqOp,sJ,reduceCtorEq] at he
    · subst he;exact same_ok (neg:=false) hr ht h1 h2 hf hx hy hn ho hs
    · subst he;exact same_ok (neg:=true) hr ht h1 h2 hf hx hy hn ho hs
  split at hc
  · simp only [bJ,sJ] at hc;obtain ⟨b,hb,rfl⟩:=hc;exact bin_ok hr ht hb hx hy ho hs
  · simp only [bJ,sJ] at hc;obtain ⟨b,hb,rfl⟩:=hc;exact bin_ok hr ht hb hx hy ho hs
  · rename_i fs hu
    split at hc
    · simp only [bJ,sJ] at hc;obtain ⟨mask,hm,rfl⟩:=hc;exact sameCells_ok (neg:=false) hr ht hu hm hx hy ho hs
    · simp only [bJ,sJ] at hc;obtain ⟨mask,hm,rfl⟩:=hc;exact sameCells_ok (neg:=true) hr ht hu hm hx hy ho hs
    · simp at hc
  · rename_i m e hu
    simp only [copArrEq] at hc
    split at hc
    · rename_i hsz
      have hsz:szOf P e = some 1:=by simpa using hsz
      simp only [Option.map_eq_some_iff] at hc;obtain ⟨mask,hm,rfl⟩:=hc;exact sameCellsArr_ok (neg:=false) hr ht hu hsz hm hx hy ho hs
    · rename_i hsz
      have hsz:szOf P e = some 1:=by simpa using hsz
      simp only [Option.map_eq_some_iff] at hc;obtain ⟨mask,hm,rfl⟩:=hc;exact sameCellsArr_ok (neg:=true) hr ht hu hsz hm hx hy ho hs
    · simp at hc
  · rename_i ms hu
    split at hc
    · rename_i hnil
      exact eqq hc (by simp) (by simp) ⟨_,hu⟩ (fun _=>by simpa using hnil)
    · simp at hc
  · rename_i e hu
    split at hc
    · rename_i s hsz
      exact eqq hc (by simp) (by simp) ⟨e,s,hu,hsz⟩ (by simp)
    · simp at hc
  · rename_i hu;exact eqq hc (by simp) (by simp) hu (by simp)
  · rename_i e hu;exact eqq hc (by simp) (by simp) ⟨e,hu⟩ (by simp)
  · rename_i k e hu;exact eqq hc (by simp) (by simp) ⟨k,e,hu⟩ (by simp)
  · rename_i k e q hu;exact eqq hc (by simp) (by simp) ⟨_,_,_,hu⟩ (by simp)
  · simp at hc

theorem isU8_ok {t:TypeId} (h:isU8 P t = true):P.underlying t = some (.int .u8):=by
  simp only [isU8] at h
  split at h
  · assumption
  · simp at h
theorem copConv_ok (hr:HR P κ h w) (ht:TR κ n tm a.tmps) {s d:TypeId} {x:Operand} {i:XI} (hc:copConv P s d x = some i) (ho:o.op = .convert s d x) (hs:i.sem tm h = .ok v h'):OpRes P o a κ h w v h':=by
  simp only [copConv,Option.bind_eq_bind,bJ] at hc;obtain ⟨xo,hx,hc⟩:=hc
  split at hc
  · rename_i k1 k2 h1 h2
    simp only [sJ] at hc;subst hc;exact conv_ok hr ht h1 h2 hx ho hs
  · rename_i h1 h2
    simp only [sJ] at hc;subst hc;obtain ⟨y,h3,h4⟩:=withO_ok hs;have e:=opnd_ok ht hx h3
    cases y <;> first | (simp at h4;done) | skip
    have e':=e;simp only [VR] at e';obtain ⟨b,e1,e2⟩:=e';simp only [withNo,dropE,Out.ok.injEq] at h4;obtain ⟨rfl,rfl⟩:=h4;refine .pure hr e ?_;simp only [execOp,ho,e1,convert,Sem.run_bind,run_underlyingT h1,run_underlyingT h2,Result.andThen_ok,Sem.run_pure]
  · rename_i e h1 h2
    split at hc
    · rename_i he
      simp only [sJ] at hc;subst hc;exact toBytes_ok hr ht h1 h2 (isU8_ok he) hx ho hs
    · simp at hc
  · rename_i e h1 h2
    split at hc
    · rename_i he
      simp only [sJ] at hc;subst hc;exact toStr_ok hr ht h1 h2 (isU8_ok he) hx ho hs
    · simp at hc
  · rename_i e' e h1 h2
    split at hc
    · rename_i hcond
      simp only [Bool.and_eq_true,beq_iff_eq] at hcond;simp only [sJ] at hc;subst hc;obtain ⟨rfl,he⟩:=hcond;have:e' = e:=by rw [h1] at h2;simpa using h2
      subst this;exact mark_ok hr ht h1 (isU8_ok he) hx ho hs
    · simp at hc
  · rename_i t h1 h2
    split at hc
    · rename_i m hsz
      simp only [sJ] at hc;subst hc;exact uptr_ok hr ht h1 h2 hsz hx ho hs
    · simp at hc
  · rename_i t h1 h2
    split at hc
    · rename_i m hsz
      simp only [sJ] at hc;subst hc;exact ptru_ok hr ht h1 h2 hsz hx ho hs
    · simp at hc
  · simp at hc

theorem elemS_ok {t e:TypeId} (h:elemS P t = some e):P.underlying t = some (.slice e):=by
  simp only [elemS] at h
  split at h
  · simp only [sJ] at h;subst h;assumption
  · simp at h
theorem elemP_ok {t e:TypeId} (h:elemP P t = some e):P.underlying t = some (.pointer e):=by
  simp only [elemP] at h
  split at h
  · simp only [sJ] at h;subst h;assumption
  · simp at h
theorem copBuiltin_ok {rnd:Bool} (hr:HR P κ h w) (ht:TR κ n tm a.tmps) {c:Call} {b:Builtin} (hcal:c.callee = .builtin b) {i:XI} (hc:copBuiltin P rnd b c.argTypes c.args = some (.ins i)) (ho:o.op = .call c) (hs:i.sem tm h = .ok v h'):OpRes P o a κ h w v h':=by
  simp only [copBuiltin,Option.bind_eq_bind,bJ] at hc;obtain ⟨xs,hx,hc⟩:=hc
  split at hc
  · -- len
    obtain ⟨x,hl,hxo⟩:=mapM_one hx;simp only [bJ] at hc;obtain ⟨t,hT,hc⟩:=hc
    split at hc
    · rename_i hu
      simp only [sJ,XC.ins.injEq] at hc;subst hc;exact lenStr_ok hr ht hcal hT hu hl hxo ho hs
    · rename_i e hu
      simp only [sJ,XC.ins.injEq] at hc;subst hc;exact lenSl_ok hr ht hcal hT hu hl hxo ho hs
    · rename_i m e hu
      simp only [sJ,XC.ins.injEq] at hc;subst hc;exact lenC_ok hr hcal hT (.inl hu) hl ho hs
    · rename_i k e hu
      simp only [sJ,XC.ins.injEq] at hc;subst hc;exact lenM_ok hr ht hcal hT hu hl hxo ho hs
    · rename_i e hu
      split at hc
      · rename_i m e' hu'
        simp only [sJ,XC.ins.injEq] at hc;subst hc;exact lenC_ok hr hcal hT (.inr ⟨_,hu,hu'⟩) hl ho hs
      · simp at hc
    · simp at hc
  · -- cap
    obtain ⟨x,hl,hxo⟩:=mapM_one hx;simp only [bJ] at hc;obtain ⟨t,hT,hc⟩:=hc
    split at hc
    · rename_i e hu
      simp only [sJ,XC.ins.injEq] at hc;subst hc;exact cap_ok hr ht hcal hT hu hl hxo ho hs
    · simp at hc
  · -- min
    split at hc
    · simp at hc
    · simp only [sJ,XC.ins.injEq] at hc;subst hc;exact minmax_ok (mx:=false) hr ht hcal hx ho hs
  · -- max
    split at hc
    · simp at hc
    · simp only [sJ,XC.ins.injEq] at hc;subst hc;exact minmax_ok (mx:=true) hr ht hcal hx ho hs
  · -- append
    obtain ⟨x,y,hl,hxo,hyo⟩:=mapM_two hx;simp only [bJ] at hc;obtain ⟨t,hT,e,he,hc⟩:=hc;have hu:=elemS_ok he;obtain ⟨tx,hT1,hc⟩:=hc
    split at hc
    · rename_i k hk
      simp only [bJ,sJ,XC.ins.injEq] at hc;obtain ⟨by_,hb,z,hz,rfl⟩:=hc;exact appendZ_ok hr ht hcal hT hT1 hu hk hz hb hl hxo hyo ho hs
    · rename_i e' hk
      simp only [bJ,sJ,XC.ins.injEq] at hc;obtain ⟨z,hz,sz,hsz,by_,hb,rfl⟩:=hc;exact append_ok hr ht hcal hT hT1 hu (.inl ⟨_,hk⟩) hz hsz hb hl hxo hyo ho hs
    · rename_i hk
      simp only [bJ,sJ,XC.ins.injEq] at hc;obtain ⟨z,hz,sz,hsz,by_,hb,rfl⟩:=hc;exact append_ok hr ht hcal hT hT1 hu (.inr hk) hz hsz hb hl hxo hyo ho hs
    · simp at hc
  · -- copy
    obtain ⟨x,y,hl,hxo,hyo⟩:=mapM_two hx;simp only [bJ,sJ,XC.ins.injEq] at hc;obtain ⟨t,hT,e,he,sz,hsz,rfl⟩:=hc;exact copy_ok hr ht hcal hT (elemS_ok he) hsz hl hxo hyo ho hs
  · -- delete
    obtain ⟨x,y,hl,hxo,hyo⟩:=mapM_two hx;simp only [bJ,sJ,XC.ins.injEq] at hc;obtain ⟨t,hT,s,hk,rfl⟩:=hc;obtain ⟨kt,e,hu,hk⟩:=keyT_ok hk;exact delete_ok hr ht hcal hT hu hk hl hxo hyo ho hs
  · -- clear
    obtain ⟨x,hl,hxo⟩:=mapM_one hx;simp only [bJ] at hc;obtain ⟨t,hT,hc⟩:=hc
    split at hc
    · rename_i k e hu
      simp only [sJ,XC.ins.injEq] at hc;subst hc;exact clearM_ok hr ht hcal hT hu hl hxo ho hs
    · rename_i e hu
      simp only [bJ,sJ,XC.ins.injEq] at hc;obtain ⟨z,hz,rfl⟩:=hc;exact clearS_ok hr ht hcal hT hu hz hl hxo ho hs
    · simp at hc
  · simp at hc
  · split at hc <;> simp at hc
  · -- unsafe.String
    obtain ⟨x,y,hl,hxo,hyo⟩:=mapM_two hx;simp only [bJ] at hc;obtain ⟨t,hT,e,he,hc⟩:=hc
    split at hc
    · rename_i hcond
      simp only [sJ,XC.ins.injEq] at hc;subst hc;simp only [Bool.and_eq_true,beq_iff_eq] at hcond;exact ustring_ok hr ht hcal hT (elemP_ok he) hcond.1 hl hxo hyo ho hs
    · simp at hc
  · -- unsafe.SliceData
    obtain ⟨x,hl,hxo⟩:=mapM_one hx;simp only [sJ,XC.ins.injEq] at hc;subst hc;exact sdata_ok hr ht hcal hl hxo ho hs
  · simp at hc

theorem copOpO_ok {rnd:Bool} (hr:HR P κ h w) (ht:TR κ n tm a.tmps) {i:XI} (hc:copOpO P rnd o = some (.ins i)) (hs:i.sem tm h = .ok v h'):OpRes P o a κ h w v h':=by
  simp only [copOpO] at hc
  split at hc
  · rename_i x ho
    simp only [Option.bind_eq_bind,bJ,sJ,XC.ins.injEq] at hc;obtain ⟨xo,hx,rfl⟩:=hc;exact mv_ok hr ht hx (.inl ho) hs
  · rename_i x ho
    simp only [Option.bind_eq_bind,bJ,sJ,XC.ins.injEq] at hc;obtain ⟨xo,hx,rfl⟩:=hc;exact mv_ok hr ht hx (.inr ho) hs
  · rename_i ho
    simp only [Option.bind_eq_bind,bJ,sJ,XC.ins.injEq] at hc;obtain ⟨co,hco,xo,hx,yo,hy,rfl⟩:=hc;exact pick_ok hr ht hco hx hy ho hs
  · rename_i ho
    simp only [Option.bind_eq_bind,bJ,sJ,XC.ins.injEq] at hc;obtain ⟨z,hz,rfl⟩:=hc;exact alloc_ok (tm:=tm) hr hz ho hs
  · rename_i ho
    simp only [Option.bind_eq_bind,bJ,sJ,XC.ins.injEq] at hc;obtain ⟨xo,hx,rfl⟩:=hc;exact box_ok hr ht hx ho hs
  · rename_i ho
    simp only [Option.bind_eq_bind,bJ] at hc;obtain ⟨z,hz,hc⟩:=hc
    split at hc
    · rename_i fs hu
      simp only [bJ,sJ,XC.ins.injEq] at hc;obtain ⟨ps,hps,xs,hxs,rfl⟩:=hc;exact build_ok hr ht hz hxs (.inl ⟨fs,ps,hu,hps,rfl⟩) ho hs
    · rename_i m e hu
      simp only [bJ,sJ,XC.ins.injEq] at hc;obtain ⟨sz,hsz,xs,hxs,rfl⟩:=hc;exact build_ok hr ht hz hxs (.inr ⟨m,e,sz,hu,hsz,rfl⟩) ho hs
    · simp at hc
  · rename_i ho
    simp only [Option.bind_eq_bind,bJ] at hc;obtain ⟨e,he,sz,hsz,hc⟩:=hc
    split at hc
    · simp at hc
    · rename_i hfew
      simp only [bJ,sJ,XC.ins.injEq] at hc;obtain ⟨z,hz,xs,hxs,rfl⟩:=hc;exact bslice_ok hr ht (elemS_ok he) hsz hfew hz hxs ho hs
  · rename_i ho
    simp only [Option.bind_eq_bind,bJ,sJ,XC.ins.injEq] at hc;obtain ⟨m,hm,xo,hx,rfl⟩:=hc;exact load_ok hr ht hm hx ho hs
  · rename_i ho
    simp only [Option.bind_eq_bind,bJ,sJ,XC.ins.injEq] at hc;obtain ⟨m,hm,xo,hx,yo,hy,rfl⟩:=hc;exact store_ok hr ht hm hx hy ho hs
  · rename_i ho
    simp only [Option.bind_eq_bind,bJ,sJ,XC.ins.injEq] at hc;obtain ⟨xo,hx,rfl⟩:=hc;exact nilck_ok hr ht hx ho hs
  · rename_i ho
    simp only [Option.bind_eq_bind,bJ,sJ,XC.ins.injEq] at hc;obtain ⟨j,hj,rfl⟩:=hc;exact copBin_ok hr ht hj ho hs
  · rename_i ho
    simp only [Option.bind_eq_bind,bJ,sJ,XC.ins.injEq] at hc;obtain ⟨xo,hx,rfl⟩:=hc;exact un_ok hr ht (.inl ⟨rfl,rfl⟩) hx ho hs
  · rename_i ho
    simp only [Option.bind_eq_bind,bJ,sJ,XC.ins.injEq] at hc;obtain ⟨xo,hx,rfl⟩:=hc;exact un_ok hr ht (.inr (.inl ⟨rfl,rfl⟩)) hx ho hs
  · rename_i ho
    simp only [Option.bind_eq_bind,bJ,sJ,XC.ins.injEq] at hc;obtain ⟨xo,hx,rfl⟩:=hc;exact un_ok hr ht (.inr (.inr ⟨rfl,rfl⟩)) hx ho hs
  · rename_i ho
    simp only [Option.bind_eq_bind,bJ,sJ,XC.ins.injEq] at hc;obtain ⟨j,hj,rfl⟩:=hc;exact copConv_ok hr ht hj ho hs
  · rename_i t x ho
    split at hc
    · simp at hc
    · simp at hc
    · rename_i d hne hd
      simp only [Option.bind_eq_bind,bJ,sJ,XC.ins.injEq] at hc;obtain ⟨xo,hx,rfl⟩:=hc;exact mkif_ok hr ht hd (fun ms q=>hne ms q) hx ho hs
  · rename_i ho
    simp only [Option.bind_eq_bind,bJ,sJ,XC.ins.injEq] at hc;obtain ⟨xo,hx,yo,hy,rfl⟩:=hc;exact mkfn_ok hr ht hx hy ho hs
  · rename_i ho
    simp only [Option.bind_eq_bind,bJ,sJ,XC.ins.injEq] at hc;obtain ⟨s,_,rfl⟩:=hc;exact mkmap_ok (tm:=tm) hr ho hs
  · rename_i ho
    simp only [Option.bind_eq_bind,bJ,sJ,XC.ins.injEq] at hc;obtain ⟨e,he,by_,hb,z,hz,xo,hx,yo,hy,rfl⟩:=hc;exact mkslice_ok hr ht (elemS_ok he) hb hz hx hy ho hs
  · rename_i t x lo hi mx ho
    simp only [Option.bind_eq_bind,bJ] at hc;obtain ⟨xo,hx,l,hlo,hh,hhi,m,hmx,hc⟩:=hc
    split at hc
    · simp at hc
    · rename_i hcond
      have hsm:hi = none→mx = none:=by
        rintro rfl;simp only [opndO,sJ] at hhi;subst hhi;simp only [Option.isNone_none,Bool.and_true,Bool.not_eq_true,Option.isSome_eq_false_iff,Option.isNone_iff_eq_none] at hcond;subst hcond;exact opndO_none hmx
      split at hc
      · rename_i hu
        split at hc
        · simp at hc
        · rename_i hms
          simp only [sJ,XC.ins.injEq] at hc;subst hc;simp only [Bool.not_eq_true,Option.isSome_eq_false_iff,Option.isNone_iff_eq_none] at hms;subst hms;have:=opndO_none hmx;subst this;exact cutStr_ok hr ht hu hx hlo hhi ho hs
      · rename_i e hu
        simp only [bJ,sJ,XC.ins.injEq] at hc;obtain ⟨sz,hsz,rfl⟩:=hc;exact cutSl_ok hr ht hu hsz hx hlo hhi hmx hsm ho hs
      · rename_i len e hu
        simp only [bJ,sJ,XC.ins.injEq] at hc;obtain ⟨sz,hsz,rfl⟩:=hc;exact cutArr_ok hr ht hu hsz hx hlo hhi hmx hsm ho hs
      · simp at hc
  · rename_i t x f ho
    simp only [Option.bind_eq_bind,bJ] at hc;obtain ⟨fd,hf,hc⟩:=hc
    split at hc
    · rename_i s hsz
      simp only [bJ,sJ,XC.ins.injEq] at hc;obtain ⟨xo,hx,rfl⟩:=hc;exact faddr_ok hr ht hf hsz (by omega) hx ho hs
    · simp at hc
  · rename_i t x f ho
    simp only [Option.bind_eq_bind,bJ,sJ,XC.ins.injEq] at hc;obtain ⟨fd,hf,m,hm,xo,hx,rfl⟩:=hc;exact fld_ok hr ht hf hm hx ho hs
  · rename_i t x j ho
    split at hc
    · rename_i len e hu
      simp only [Option.bind_eq_bind,bJ,sJ,XC.ins.injEq] at hc;obtain ⟨sz,hsz,xo,hx,yo,hy,rfl⟩:=hc;exact iaddrA_ok hr ht hu hsz hx hy ho hs
    · rename_i e hu
      simp only [Option.bind_eq_bind,bJ,sJ,XC.ins.injEq] at hc;obtain ⟨sz,hsz,xo,hx,yo,hy,rfl⟩:=hc;exact iaddrS_ok hr ht hu hsz hx hy ho hs
    · simp at hc
  · rename_i t x j ho
    split at hc
    · rename_i len e hu
      simp only [Option.bind_eq_bind,bJ,sJ,XC.ins.injEq] at hc;obtain ⟨sz,hsz,m,hm,xo,hx,yo,hy,rfl⟩:=hc;exact idxA_ok hr ht hu hsz hm hx hy ho hs
    · rename_i hu
      simp only [Option.bind_eq_bind,bJ,sJ,XC.ins.injEq] at hc;obtain ⟨xo,hx,yo,hy,rfl⟩:=hc;exact idxS_ok hr ht hu hx hy ho hs
    · simp at hc
  · rename_i t x j ok ho
    simp only [Option.bind_eq_bind,bJ,sJ,XC.ins.injEq] at hc;obtain ⟨s,hk,e,he,z,hz,xo,hx,yo,hy,rfl⟩:=hc;obtain ⟨kt,e',hu,hk⟩:=keyT_ok hk;simp only [mapElem,hu,sJ] at he;subst he;exact lookup_ok hr ht hu hk hz hx hy ho hs
  · rename_i t m k x ho
    simp only [Option.bind_eq_bind,bJ,sJ,XC.ins.injEq] at hc;obtain ⟨s,hk,xo,hx,yo,hy,zo,hz,rfl⟩:=hc;obtain ⟨kt,e',hu,hk⟩:=keyT_ok hk;exact mapUpd_ok hr ht hu hk hx hy hz (.inl ho) hs
  · rename_i t m k x ho
    simp only [Option.bind_eq_bind,bJ,sJ,XC.ins.injEq] at hc;obtain ⟨s,hk,xo,hx,yo,hy,zo,hz,rfl⟩:=hc;obtain ⟨kt,e',hu,hk⟩:=keyT_ok hk;exact mapUpd_ok hr ht hu hk hx hy hz (.inr ho) hs
  · rename_i t m k ho
    simp only [Option.bind_eq_bind,bJ,sJ,XC.ins.injEq] at hc;obtain ⟨s,hk,e,he,z,hz,xo,hx,yo,hy,rfl⟩:=hc;obtain ⟨kt,e',hu,hk⟩:=keyT_ok hk;simp only [mapElem,hu,sJ] at he;subst he;exact mapEntry_ok hr ht hu hk hz hx hy ho hs
  · rename_i t m s x ho
    simp only [Option.bind_eq_bind,bJ,sJ,XC.ins.injEq] at hc;obtain ⟨xo,hx,yo,hy,zo,hz,rfl⟩:=hc;exact entryStore_ok hr ht hx hy hz ho hs
  · rename_i t x ho
    split at hc
    · rename_i hu
      simp only [Option.bind_eq_bind,bJ,sJ,XC.ins.injEq] at hc;obtain ⟨xo,hx,rfl⟩:=hc;exact rangeStr_ok hr ht hu hx ho hs
    · rename_i k e hu
      simp only [Option.bind_eq_bind,bJ,sJ,XC.ins.injEq] at hc;obtain ⟨xo,hx,rfl⟩:=hc;exact rangeMap_ok hr ht hu hx ho hs
    · simp at hc
  · rename_i it s ho
    simp only [Option.bind_eq_bind,bJ,sJ,XC.ins.injEq] at hc;obtain ⟨xo,hx,rfl⟩:=hc
    cases s with
    | true=>exact nextStr_ok hr ht hx ho hs
    | false=>exact nextMap_ok hr ht hx ho hs
  · rename_i it ho
    simp only [Option.bind_eq_bind,bJ,sJ,XC.ins.injEq] at hc;obtain ⟨xo,hx,rfl⟩:=hc;exact entry_ok hr ht hx ho hs
  · rename_i x xt t ok ho
    split at hc
    · simp at hc
    · simp at hc
    · rename_i d hne hd
      simp only [Option.bind_eq_bind,bJ,sJ,XC.ins.injEq] at hc;obtain ⟨z,hz,xo,hx,rfl⟩:=hc;exact tas_ok hr ht hd (fun ms q=>hne ms q) hz hx ho hs
  · rename_i x j ho
    simp only [Option.bind_eq_bind,bJ,sJ,XC.ins.injEq] at hc;obtain ⟨xo,hx,rfl⟩:=hc;exact extr_ok hr ht hx ho hs
  · rename_i c ho
    split at hc
    · rename_i f hcal
      simp only [Option.bind_eq_bind,bJ] at hc;obtain ⟨xs,hxs,fn,hf,hc⟩:=hc
      split at hc
      · simp at hc
      · rename_i hb
        exact copExt_ok hr ht ho hcal hf hb hxs hc hs
    · simp [bJ] at hc
    · simp [bJ] at hc
    · rename_i b hcal
      exact copBuiltin_ok hr ht hcal hc ho hs
  · split at hc
    · split at hc <;> simp [bJ] at hc
    · simp at hc
  · simp [bJ] at hc
  · simp at hc
theorem copOp_ok {rnd:Bool} (hr:HR P κ h w) (ht:TR κ n tm a.tmps) {i:XI} (hc:copOp P rnd o = .ins i) (hs:i.sem tm h = .ok v h'):OpRes P o a κ h w v h':=by
  unfold copOp at hc
  split at hc
  · rename_i x hx
    subst hc;exact copOpO_ok hr ht hx hs
  · simp only [XC.ins.injEq] at hc;subst hc;simp [XI.sem] at hs
end
end Go.X

/- What operation of the model an operation of X comes from,calls and the like. -/
namespace Go.X
open Go
section
variable {P:Program} {rnd:Bool} {o:Oper}
def FromOp (_P:Program) (rnd:Bool) (o:Oper):XC→Prop
  | .ins _=>∀ c,o.op ≠ .defer c
  | .call f xs=>∃ c,o.op = .call c∧c.callee = .value (.func f)∧c.args.toList.mapM opnd = some xs
  | .callv fo xs=>∃ c x,o.op = .call c∧c.callee = .value x∧opnd x = some fo∧c.args.toList.mapM opnd = some xs
  | .invoke ro s xs=>∃ c x,o.op = .call c∧c.callee = .invoke x s∧opnd x = some ro∧c.args.toList.mapM opnd = some xs
  | .defer fo xs=>rnd = false∧∃ c x,o.op = .defer c∧c.callee = .value x∧opnd x = some fo∧c.args.toList.mapM opnd = some xs
  | .recover=>rnd = false∧∃ c,o.op = .call c∧c.callee = .builtin .recover
  | .panic xo=>∃ x,opnd x = some xo∧(o.op = .panic x∨∃ c,o.op = .call c∧c.callee = .builtin .panic∧c.args.toList = [x])
theorem copExt_ins {fn:Func} {xs:List XO} {x:XC} (h:copExt P fn xs = some x):∃ i,x = .ins i:=by
  unfold copExt at h
  split at h
  · simp at h
  · split at h
    · split at h
      · simp only [sJ] at h;exact ⟨_,h.symm⟩
      · simp at h
    · split at h
      · split at h
        · simp only [Option.map_eq_some_iff] at h;obtain ⟨e,_,rfl⟩:=h;exact ⟨_,rfl⟩
        · simp at h
      · split at h
        · split at h
          · simp only [sJ] at h;exact ⟨_,h.symm⟩
          · simp at h
        · simp at h
theorem copBuiltin_from {b:Builtin} {ts:Array TypeId} {args:Array Operand} {x:XC} (h:copBuiltin P rnd b ts args = some x) :
    (∃ i,x = .ins i)∨(x = .recover∧rnd = false∧b = .recover)∨(∃ xo y,x = .panic xo∧b = .panic∧args.toList = [y]∧opnd y = some xo):=by
  simp only [copBuiltin,Option.bind_eq_bind,bJ] at h;obtain ⟨xs,hx,h⟩:=h
  split at h
  case h_9 => 
    simp only [sJ] at h;obtain ⟨y,hl,hy⟩:=mapM_one hx;exact .inr (.inr ⟨_,y,h.symm,rfl,hl,hy⟩)
  case h_10 =>
    cases rnd with
    | true=>simp at h
    | false =>
      simp only [Bool.false_eq_true,if_false,sJ] at h;exact .inr (.inl ⟨h.symm,rfl,rfl⟩)
  all_goals refine .inl ?_
  all_goals repeat' first
    | contradiction
    | (with_reducible exact ⟨_,rfl⟩)
    | (with_reducible exact ⟨_,Eq.symm h⟩)
    | (with_reducible obtain ⟨_,_,h⟩:=h)
    | (simp only [bJ,sJ] at h)
    | (split at h)
theorem copOpO_from {x:XC} (h:copOpO P rnd o = some x):FromOp P rnd o x:=by
  have fin:(∃ i,x = .ins i)→(∀ c,o.op ≠ .defer c)→FromOp P rnd o x:=fun ⟨i,e⟩ hd=>by subst e;exact hd
  cases hop:o.op <;> simp only [copOpO,hop] at h
  case call c =>
    split at h
    · rename_i f hcal
      simp only [Option.bind_eq_bind,bJ] at h;obtain ⟨xs,hxs,fn,hf,h⟩:=h
      split at h
      · simp only [sJ] at h;subst h;exact ⟨c,hop,hcal,hxs⟩
      · exact fin (copExt_ins h) (by simp [hop])
    · rename_i f hcal
      simp only [Option.bind_eq_bind,bJ,sJ] at h;obtain ⟨fo,hfo,xs,hxs,rfl⟩:=h;exact ⟨c,_,hop,‹_›,hfo,hxs⟩
    · simp only [Option.bind_eq_bind,bJ,sJ] at h;obtain ⟨fo,hfo,xs,hxs,rfl⟩:=h;exact ⟨c,_,hop,‹_›,hfo,hxs⟩
    · rename_i b hcal
      rcases copBuiltin_from h with h | ⟨rfl,h1,rfl⟩ | ⟨xo,y,rfl,rfl,h1,h2⟩
      · exact fin h (by simp [hop])
      · exact ⟨h1,c,hop,hcal⟩
      · exact ⟨y,h2,.inr ⟨c,hop,hcal,h1⟩⟩
  case defer c =>
    split at h
    · split at h
      · simp at h
      · rename_i hr
        simp only [Option.bind_eq_bind,bJ,sJ] at h;obtain ⟨fo,hfo,xs,hxs,rfl⟩:=h;exact ⟨by simpa using hr,c,_,hop,‹_›,hfo,hxs⟩
    · simp at h
  case panic y =>
    simp only [Option.bind_eq_bind,bJ,sJ] at h;obtain ⟨xo,hx,rfl⟩:=h;exact ⟨y,hx,.inl hop⟩
  all_goals refine fin ?_ (by simp [hop])
  all_goals repeat' first
    | contradiction
    | (with_reducible exact ⟨_,rfl⟩)
    | (with_reducible exact ⟨_,Eq.symm h⟩)
    | (with_reducible obtain ⟨_,_,h⟩:=h)
    | (simp only [Option.bind_eq_bind,bJ,sJ] at h)
    | (split at h)
theorem copOp_from:FromOp P rnd o (copOp P rnd o)∨copOp P rnd o = .ins .no:=by
  unfold copOp
  split
  · rename_i x hx;exact .inl (copOpO_from hx)
  · exact .inr rfl
end
end Go.X
