/- The instructions of X against the model's operations, 11: append of zeros, copy, clear, unsafe. -/
import Derived.Test.YtkmffbmgpnndcaaGreatDoorXxOp7
import Derived.Lib.UnsafeStr
import Derived.MapKept
namespace Go.X
open Go

section
variable {P:Program} {κ:Kp} {h h':Heap} {w:World} {n:Nat} {tm:Tm} {a:Act} {o:Oper} {v:AV}

section
variable {ts:Array TypeId} {ty t tx e:TypeId} {args:Array Value} {base:Option Addr} {sLen sCap m esz bytes:Nat} {olds:List Value} {i:TypeInfo} {zv:Value} {kx kd:IntKind}
theorem run_zeros (hi:P.info? e = some i) (hz:i.zero = some zv) (hzs:zv.cells.size = esz):(if m * esz = 0 then pure #[] else do pure (Builtin.zeroCells (← zeroValue e).cells m):Sem (Array Value)).run P w = .ok (madeCells zv.cells (m * zv.cells.size)) w:=by
  split
  · rename_i h0;rw [hzs,h0];simp [madeCells]
  · simp only [zeroValue,typeInfo,Sem.run_bind,run_program,Result.andThen_ok,hi,Sem.run_pure,hz];rfl
theorem run_appendZ_room (h0:ts[0]? = some t) (h1:ts[1]? = some tx) (ha:args[0]? = some (.slice base sLen sCap)) (hb:args[1]? = some (.int kx (Int.ofNat m))) (hu:P.underlying t = some (.slice e)) (hk:P.underlying tx = some (.int kd))
    (hi:P.info? e = some i) (hz:i.zero = some zv) (hsi:i.size = esz) (hbi:i.bytes = bytes) (hzs:zv.cells.size = esz) (hm:m ≤ 281474976702464) (hmb:m * bytes ≤ 281474976702464) (hle:sLen + m ≤ sCap) {w':World}
    (hst:(match base with | some ad=>storeCells (ad.add (sLen * esz)) (madeCells zv.cells (m * zv.cells.size)).toList | none=>pure ():Sem Unit).run P w = .ok () w') :
    (Builtin.append_ ts ty args).run P w = .ok (.slice base (sLen + m) sCap) w':=by
  have hso:∀ w:World,(sizeOf e).run P w = .ok esz w:=fun w=>by simp only [sizeOf,typeInfo,Sem.run_bind,run_program,hi,Result.andThen_ok,Sem.run_pure,hsi]
  have hti:∀ w:World,(typeInfo e).run P w = .ok i w:=fun w=>by simp only [typeInfo,Sem.run_bind,run_program,Result.andThen_ok,hi,Sem.run_pure]
  have hw:IntKind.i64.wrap (Int.ofNat m) = Int.ofNat m:=by rw [IntKind.wrap_i64];simp only [Int.ofNat_eq_natCast];omega
  have hneg : ¬ Int.ofNat m < 0:=by simp
  have h48 : ¬ Int.ofNat m * (bytes:Int) > 2 ^ 48:=by
    have:((m * bytes:Nat):Int) ≤ 281474976702464:=Int.ofNat_le.2 hmb;simp only [Int.natCast_mul] at this;simp only [Int.ofNat_eq_natCast];omega
  have htn:(Int.ofNat m).toNat = m:=rfl;have hz':=run_zeros (P:=P) (w:=w) (m:=m) hi hz hzs;simp only [Builtin.append_,h0,h1,ha,hb,Sem.run_bind,run_underlyingT hu,run_underlyingT hk,Result.andThen_ok,hso,hti,Sem.run_pure,if_true,asInt,asIntOf,hw,hneg,if_false,hbi,h48,htn,hle,Bool.not_true,Bool.false_eq_true,hz']
  cases base with
  | none=>simp only [Sem.run_pure,Result.ok.injEq,true_and] at hst;subst hst;rfl
  | some ad=>dsimp only at hst ⊢;simp only [Sem.run_bind,hst,Result.andThen_ok,Sem.run_pure]
theorem run_appendZ_grow (h0:ts[0]? = some t) (h1:ts[1]? = some tx) (ha:args[0]? = some (.slice base sLen sCap)) (hb:args[1]? = some (.int kx (Int.ofNat m))) (hu:P.underlying t = some (.slice e)) (hk:P.underlying tx = some (.int kd))
    (hi:P.info? e = some i) (hz:i.zero = some zv) (hsi:i.size = esz) (hbi:i.bytes = bytes) (hzs:zv.cells.size = esz) (hm:m ≤ 281474976702464) (hmb:m * bytes ≤ 281474976702464)
    (hold:(Builtin.firstCells esz sLen (.slice base sLen sCap)).run P (World.draw w) = .ok olds.toArray (World.draw w)) (hgt:sCap < sLen + m) (hb1:Fits (sLen + m) sCap bytes) (hb2:bytes ≠ 0) :
    (Builtin.append_ ts ty args).run P w = .ok (.slice (some ⟨w.heap.size,0,none⟩) (sLen + m) (grownCap w (sLen + m) sCap e))
      (World.new (World.draw w) (.cells ((olds++(madeCells zv.cells (m * zv.cells.size)).toList)++(Builtin.zeroCells zv.cells (grownCap w (sLen + m) sCap e - (sLen + m))).toList).toArray e (0,0))):=by
  have hle : ¬ (sLen + m ≤ sCap):=by omega
  have h63:=need_small hb1.le hb2;have h63' : ¬ ((sLen + m:Nat):Int) > IntKind.i64.max:=by
    have:IntKind.i64.max = 9223372036854775807:=by decide
    rw [this];omega
  have h48 : ¬ Builtin.nextslicecap (sLen + m) sCap * bytes > 2 ^ 48:=hb1.next hgt;have hch:(choose (.appendCap (sLen + m) sCap e)).run P w = .ok (grownCap w (sLen + m) sCap e) (World.draw w):=rfl;have hroom:∀ k (w:World),(askRoom k).run P w = .ok () w:=fun k w=>by unfold askRoom;split <;> rfl
  have hti:∀ w:World,(typeInfo e).run P w = .ok i w:=fun w=>by simp only [typeInfo,Sem.run_bind,run_program,Result.andThen_ok,hi,Sem.run_pure]
  have hso:∀ w:World,(sizeOf e).run P w = .ok esz w:=fun w=>by simp only [sizeOf,Sem.run_bind,hti,Result.andThen_ok,Sem.run_pure,hsi]
  have hzv:∀ w:World,(zeroValue e).run P w = .ok zv w:=fun w=>by simp only [zeroValue,Sem.run_bind,hti,Result.andThen_ok,hz,Sem.run_pure]
  have hw:IntKind.i64.wrap (Int.ofNat m) = Int.ofNat m:=by rw [IntKind.wrap_i64];simp only [Int.ofNat_eq_natCast];omega
  have hneg : ¬ Int.ofNat m < 0:=by simp
  have h48' : ¬ Int.ofNat m * (bytes:Int) > 2 ^ 48:=by
    have:((m * bytes:Nat):Int) ≤ 281474976702464:=Int.ofNat_le.2 hmb;simp only [Int.natCast_mul] at this;simp only [Int.ofNat_eq_natCast];omega
  have htn:(Int.ofNat m).toNat = m:=rfl;have hz':=run_zeros (P:=P) (w:=World.draw w) (m:=m) hi hz hzs;have harr:olds.toArray++madeCells zv.cells (m * zv.cells.size)++Builtin.zeroCells zv.cells (grownCap w (sLen + m) sCap e - (sLen + m)) = ((olds++(madeCells zv.cells (m * zv.cells.size)).toList)++(Builtin.zeroCells zv.cells (grownCap w (sLen + m) sCap e - (sLen + m))).toList).toArray:=by
    apply Array.ext';simp
  rw [← harr];simp only [Builtin.append_,h0,h1,ha,hb,Sem.run_bind,run_underlyingT hu,run_underlyingT hk,Result.andThen_ok,hso,hti,hbi,Sem.run_pure,if_true,asInt,asIntOf,hw,hneg,if_false,h48',htn,hle,Bool.not_true,Bool.false_eq_true,h63',false_and,h48,hch,hroom,hold,hz',hzv,newRow,newObj,Sem.run];rfl
end
theorem appendZ_ok (hr:HR P κ h w) (ht:TR κ n tm a.tmps) {c:Call} (hc:c.callee = .builtin .append) {t tx e:TypeId} {kd:IntKind} (hT:c.argTypes[0]? = some t) (hT1:c.argTypes[1]? = some tx) (hu:P.underlying t = some (.slice e)) (hk:P.underlying tx = some (.int kd))
    {z:List AV} {bytes:Nat} (hz:zeroC P e = some z) (hb:byOf P e = some bytes) {x y:Operand} {xo yo:XO} (hl:c.args.toList = [x,y]) (hx:opnd x = some xo) (hy:opnd y = some yo)
    (ho:o.op = .call c) (hs:appendZS e bytes z xo yo tm h = .ok v h'):OpRes P o a κ h w v h':=by
  obtain ⟨u,h1,h2⟩:=withO_ok hs;obtain ⟨k,m,h3,h4⟩:=withN_ok h2;have e1:=opnd_ok ht hx h1;have e2:=opnd_ok ht hy h3;simp only [VR] at e2
  cases c1:Nat.ble m 281474976702464 <;> cases c2:smallN m bytes <;> rw [c1,c2] at h4 <;> simp only [reduceCtorEq] at h4
  have c1:=ble_iff.1 c1;have c2:=ble_iff.1 c2;obtain ⟨i,zv,z1,z2,z3,z4,z5⟩:=zeroC_info hz;have hbi:=byOf_info hb z1;have hzl:lenN z 0 = i.size:=by rw [lenN_eq,z5];rfl
  rw [hzl] at h4;have hzs:zv.cells.size = i.size:=by rw [z5,(z3 κ).length];simp
  have hrep:=rep_ok (z3 κ) m;obtain ⟨base,sLen,sCap,g0,g⟩:=appendTo_ok (P:=P) hr e1 hrep (repeatL_all z4 m) (by rw [Array.length_toList,size_madeCells,hzs]) h4;have ha0:(c.args.map a.eval)[0]? = some (.slice base sLen sCap):=by rw [args_eq hl];simp [g0]
  have ha1:(c.args.map a.eval)[1]? = some (.int k (Int.ofNat m)):=by rw [args_eq hl];simp [e2]
  rcases g with ⟨g1,w',g2,κ',g3,g4⟩ | ⟨g1,g2,g3,olds,g4,g5⟩
  · refine .inl ⟨_,w',κ',run_builtinOp ho hc fun cs=>?_,.inl ⟨_,rfl,g3⟩,g4⟩;simp only [builtin,Sem.run_bind,run_appendZ_room hT hT1 ha0 ha1 hu hk z1 z2 rfl hbi hzs c1 c2 g1 g2,Result.andThen_ok,Sem.run_pure]
  · obtain ⟨κ',g6,g7⟩:=g5 (grownCap w (sLen + m) sCap e) _ (grownCap_ge w (sLen + m) sCap e) (zeros_length (k:=grownCap w (sLen + m) sCap e - (sLen + m)) hzs);refine .inl ⟨_,_,κ',run_builtinOp ho hc fun cs=>?_,.inl ⟨_,rfl,g6⟩,g7⟩;have hold:=g4 (World.draw w) rfl;rw [g0] at hold;simp only [builtin,Sem.run_bind,run_appendZ_grow hT hT1 ha0 ha1 hu hk z1 z2 rfl hbi hzs c1 c2 hold g1 g2 g3,Result.andThen_ok,Sem.run_pure]

/-! ### copy,clear -/
theorem copy_ok (hr:HR P κ h w) (ht:TR κ n tm a.tmps) {c:Call} (hc:c.callee = .builtin .copy) {t e:TypeId} {esz:Nat} (hT:c.argTypes[0]? = some t) (hu:P.underlying t = some (.slice e)) (hsz:szOf P e = some esz)
    {x y:Operand} {xo yo:XO} (hl:c.args.toList = [x,y]) (hx:opnd x = some xo) (hy:opnd y = some yo) (ho:o.op = .call c) (hs:copyS esz xo yo tm h = .ok v h'):OpRes P o a κ h w v h':=by
  obtain ⟨u,h1,h2⟩:=withO_ok hs;obtain ⟨d,h3,h4⟩:=withO_ok h2;have e1:=opnd_ok ht hx h1;have e2:=opnd_ok ht hy h3
  cases hsrc:srcOf esz d h with
  | none=>rw [hsrc] at h4;simp at h4
  | some r =>
    obtain ⟨m,xs⟩:=r;rw [hsrc] at h4;obtain ⟨vs,s1,s2,s3,s4,s5,_⟩:=src_ok (P:=P) hr e2 hsrc;have model:∀ {base:Option Addr} {len cap k:Nat} {w':World},a.eval x = .slice base len cap→k = Nat.min m len→(match base with | some ad=>storeCells ad (vs.take (k * esz)) | none=>pure ():Sem Unit).run P w = .ok () w' →
        (execOp a.eval o).run P w = .ok (.value (goInt k)) w':=by
      rintro base len cap k w' e3 rfl hst;refine run_builtinOp ho hc fun cs=>?_
      have ha0:(c.args.map a.eval)[0]? = some (.slice base len cap):=by rw [args_eq hl];simp [e3]
      have ha1:(c.args.map a.eval)[1]? = some (a.eval y):=by rw [args_eq hl];simp
      have hf:=s5 (Nat.min m len) (Nat.min_le_left _ _) w rfl
      cases base with
      | none =>
        simp only [Sem.run_pure,Result.ok.injEq,true_and] at hst;subst hst;simp only [builtin,Builtin.copy_,hT,ha0,ha1,Sem.run_bind,run_underlyingT hu,Result.andThen_ok,s4,run_sizeT hsz,hf,Sem.run_pure]
      | some ad =>
        dsimp only at hst;simp only [builtin,Builtin.copy_,hT,ha0,ha1,Sem.run_bind,run_underlyingT hu,Result.andThen_ok,s4,run_sizeT hsz,hf,hst,Sem.run_pure]
    have zero:∀ {base:Option Addr} {len cap:Nat},a.eval x = .slice base len cap→Nat.min m len = 0→okI .i64 (.ofNat 0) h = .ok v h'→OpRes P o a κ h w v h':=by
      intro base len cap e3 e4 e5;simp only [okI,Out.ok.injEq] at e5;obtain ⟨rfl,rfl⟩:=e5;refine .pure (v':=goInt 0) hr (by simp only [VR,goInt];rfl) (model (k:=0) (w':=w) e3 e4.symm ?_)
      cases base <;> simp [storeCells]
    cases u <;> first | (simp at h4;done) | skip
    case nilslice =>
      simp only [VR] at e1;exact zero e1 (Nat.min_zero m) h4
    case slice p q len cap =>
      simp only [VR] at e1;obtain ⟨s,ad,c',k1,k2,k3,k4,_⟩:=e1;dsimp only at h4;have hk:minN m len = Nat.min m len:=by
        simp only [minN]
        cases hb:Nat.ble m len with
        | true=>have:=ble_iff.1 hb;exact (Nat.min_eq_left this).symm
        | false=>have:=ble_not hb;exact (Nat.min_eq_right (by omega:len ≤ m)).symm
      rw [hk] at h4
      cases hmin:Nat.min m len with
      | zero=>rw [hmin] at h4;exact zero k2 hmin h4
      | succ k =>
        rw [hmin] at h4;have hlen:k + 1 ≤ len:=by rw [← hmin];exact Nat.min_le_right _ _
        have h4:(match takeE ((k + 1) * esz) xs with | some ys=>writeAt p q ys (.int .i64 (.ofNat (k + 1))) h | none=>.bad) = .ok v h':=h4
        cases htk:takeE ((k + 1) * esz) xs with
        | none=>rw [htk] at h4;simp at h4
        | some ys =>
          rw [htk] at h4;obtain ⟨t1,rfl⟩:=takeE_some htk;have hl':VRl κ (xs.take ((k + 1) * esz)) (vs.take ((k + 1) * esz)):=by
            obtain ⟨l1,l2⟩:=VRl_iff.1 s1;refine VRl_iff.2 ⟨by simp [l1],fun i c0 y0 hc0 hy0=>?_⟩;rw [List.getElem?_take] at hc0 hy0
            split at hc0
            · rename_i hlt;rw [if_pos hlt] at hy0;exact l2 i c0 y0 hc0 hy0
            · simp at hc0
          have hone:(xs.take ((k + 1) * esz)).all AV.one = true:=by
            rw [List.all_eq_true] at s2 ⊢;exact fun z hz=>s2 z (List.mem_of_mem_take hz)
          obtain ⟨rfl,w',g1,g2⟩:=writeAt_ok hr k1 hl' hone h4
          rcases k4 with k4 | rfl
          · omega
          · exact .inl ⟨_,w',κ,model k2 hmin.symm g1,.inl ⟨_,rfl,by simp only [VR,goInt];rfl⟩,g2⟩
theorem clearS_ok (hr:HR P κ h w) (ht:TR κ n tm a.tmps) {c:Call} (hc:c.callee = .builtin .clear) {t e:TypeId} (hT:c.argTypes[0]? = some t) (hu:P.underlying t = some (.slice e)) {z:List AV} (hz:zeroC P e = some z)
    {x:Operand} {xo:XO} (hl:c.args.toList = [x]) (hx:opnd x = some xo) (ho:o.op = .call c) (hs:clearSS z xo tm h = .ok v h'):OpRes P o a κ h w v h':=by
  obtain ⟨u,h1,h2⟩:=withO_ok hs;have e1:=opnd_ok ht hx h1;obtain ⟨zv,z1,z2,z3,z4⟩:=zeroC_ok hz
  cases u <;> first | (simp at h2;done) | skip
  case nilslice =>
    simp only [VR] at e1;simp only [Out.ok.injEq] at h2;obtain ⟨rfl,rfl⟩:=h2;refine .pure (v':=.tuple #[]) hr (by simp only [unit,VR];exact ⟨#[],rfl,by simp [VRl]⟩) (run_builtinOp ho hc fun cs=>?_);rw [args_eq hl];simp [builtin,Builtin.clear_,hT,e1,run_underlyingT hu]
  case slice p q len cap =>
    simp only [VR] at e1;obtain ⟨s,ad,c',k1,k2,k3,k4,_⟩:=e1;dsimp only at h2
    cases len with
    | zero =>
      simp only [Out.ok.injEq] at h2;obtain ⟨rfl,rfl⟩:=h2;refine .pure (v':=.tuple #[]) hr (by simp only [unit,VR];exact ⟨#[],rfl,by simp [VRl]⟩) (run_builtinOp ho hc fun cs=>?_);rw [args_eq hl];simp [builtin,Builtin.clear_,hT,k2,run_underlyingT hu]
    | succ len =>
      have hrep:=rep_ok (z2 κ) (len + 1);obtain ⟨rfl,w',g1,g2⟩:=writeAt_ok hr k1 hrep (repeatL_all z3 (len + 1)) h2
      rcases k4 with k4 | rfl
      · omega
      · refine .inl ⟨.value (.tuple #[]),w',κ,run_builtinOp ho hc fun cs=>?_,.inl ⟨_,rfl,by simp only [unit,VR];exact ⟨#[],rfl,by simp [VRl]⟩⟩,g2⟩;rw [args_eq hl];have hzc:Builtin.zeroCells zv.cells (len + 1) = madeCells zv.cells ((len + 1) * zv.cells.size):=rfl;simp [builtin,Builtin.clear_,hT,k2,run_underlyingT hu,z1,hzc,g1]
end
end Go.X

/- The instructions of X against the model's operations,12: maps. -/
namespace Go.X
open Go

section
variable {P:Program} {κ:Kp} {h h':Heap} {w:World} {n:Nat} {tm:Tm} {a:Act} {o:Oper} {v:AV}

theorem run_getMap {r:Nat} {es:Array MapEntry} {clock:Nat} (hb:w.heap[r]? = some (.map es clock)):(getObj r).run P w = .ok (.map es clock) w:=by simp [getObj,Sem.run,hb]
theorem run_setMap {r:Nat} {es:Array MapEntry} {clock:Nat} (o:Obj) (hb:w.heap[r]? = some (.map es clock)):(setObj r o).run P w = .ok () (World.put w r o):=by simp [setObj,Sem.run,hb,World.put]
theorem run_findKeyX {kt:TypeId} {d:TypeDesc} {k:Value} {l:List MapEntry} {b:Option (Nat × Value)} (hd:P.underlying kt = some d) (h:Instr.findNow d k l 0 = some b):(Instr.findKey kt k l).run P w = .ok b w:=by
  simp only [Instr.findKey,Sem.run_bind,run_underlyingT hd,Result.andThen_ok,h,Sem.run_pure]
def KeyT (P:Program) (kt:TypeId) (s:Bool):Prop:=if s then P.underlying kt = some .string else ∃ k,P.underlying kt = some (.int k)
theorem keyT_ok {t:TypeId} {s:Bool} (h:keyT P t = some s):∃ kt e,P.underlying t = some (.map kt e)∧KeyT P kt s:=by
  simp only [keyT] at h
  split at h
  · rename_i k e hu
    refine ⟨k,e,hu,?_⟩
    split at h <;> first | (simp at h;done) | skip
    · rename_i q hq
      simp only [sJ] at h;subst h;simp [KeyT,hq]
    · rename_i hq
      simp only [sJ] at h;subst h;simp [KeyT,hq]
  · simp at h
theorem run_checkKeyX {kt:TypeId} {s:Bool} (hk:KeyT P kt s) (em:Bool) (m:Nat) (x:Value):(Instr.checkKey em (m + 1) kt x).run P w = .ok () w:=by
  cases s with
  | true =>
    simp only [KeyT,if_true] at hk;unfold Instr.checkKey;simp only [Sem.run_bind,run_underlyingT hk,Result.andThen_ok]
    cases x <;> rfl
  | false =>
    simp only [KeyT,Bool.false_eq_true,if_false] at hk;obtain ⟨k,hk⟩:=hk;unfold Instr.checkKey;simp only [Sem.run_bind,run_underlyingT hk,Result.andThen_ok]
    cases x <;> rfl
theorem keyIs_ok {kt:TypeId} {s:Bool} (hk:KeyT P kt s) {x y:AV} {x' y':Value} (hx:VR κ x x') (hy:VR κ y y') (hs:isKey s x = true) {r:Bool} (hr:keyIs x y = some r) :
    ∃ d,P.underlying kt = some d∧Instr.sameNow d x' y' = some r∧(r = true→VR κ y x'∧∀ m,Instr.sameBits m y' x' = true):=by
  cases x <;> simp only [isKey] at hs <;> first | (simp at hs;done) | skip
  case int k a =>
    cases s with
    | true=>simp at hs
    | false =>
      simp only [KeyT,Bool.false_eq_true,if_false] at hk;obtain ⟨q,hk⟩:=hk
      cases y <;> simp only [keyIs,reduceCtorEq] at hr
      rename_i k' b
      cases hkk:sameK k k' with
      | false=>rw [hkk] at hr;simp at hr
      | true =>
        rw [hkk] at hr;have:=(sameK_iff _ _).1 hkk;subst this;simp only [sJ] at hr;rw [eqI_eq] at hr;simp only [VR] at hx hy;subst hx;subst hy;subst hr;refine ⟨_,hk,by simp only [Instr.sameNow,if_true,sJ];cases hab:(a == b) <;> simp_all,fun e=>?_⟩;have e:a = b:=by simpa using e
        subst e;exact ⟨by simp only [VR],fun m=>by cases m <;> simp [Instr.sameBits]⟩
  case str l =>
    subst hs;simp only [KeyT,if_true] at hk
    cases y <;> simp only [keyIs,reduceCtorEq,sJ] at hr
    rename_i l'
    simp only [VR] at hx hy;obtain ⟨b,rfl,rfl⟩:=hx;obtain ⟨b',rfl,rfl⟩:=hy;rw [beqN_map] at hr;refine ⟨_,hk,?_,fun e=>?_⟩
    · simp only [Instr.sameNow];rw [← hr,beq_toListBytes,ByteArray.toList_eq,ByteArray.toList_eq]
    · subst hr;have hd:b.data.toList = b'.data.toList:=by simpa using e
      have hb:b = b':=by
        cases b;cases b'
        simp only [ByteArray.mk.injEq];exact Array.ext' hd
      subst hb;have hbb:(b == b) = true:=by rw [beq_toListBytes];simp
      exact ⟨by simp only [VR];exact ⟨b,rfl,rfl⟩,fun m=>by cases m <;> simp [Instr.sameBits,hbb]⟩

theorem VRe_get:∀ {es:List (AV × AV × Nat)} {l:List MapEntry},VRe κ es l→es.length = l.length∧∀ (i:Nat) (k x:AV) (b:Nat),es[i]? = some (k,x,b)→∃ e,l[i]? = some e∧VR κ k e.key∧VR κ x e.val∧e.born = b
  | [],l,h=>by simp only [VRe] at h;subst h;simp
  | (k,x,b) :: es,l,h=>by
    obtain ⟨e,r,rfl,h1,h2,h3,h4⟩:=h;obtain ⟨g1,g2⟩:=VRe_get h4;refine ⟨by simp [g1],fun i k' x' b' hi=>?_⟩
    cases i with
    | zero =>
      simp only [List.getElem?_cons_zero,sJ,Prod.mk.injEq] at hi;obtain ⟨rfl,rfl,rfl⟩:=hi;exact ⟨e,rfl,h1,h2,h3⟩
    | succ i=>simpa using g2 i k' x' b' (by simpa using hi)
theorem findE_ok {kt:TypeId} {s:Bool} (hk:KeyT P kt s) {d:TypeDesc} (hd:P.underlying kt = some d) {x:AV} {x':Value} (hx:VR κ x x') (hs:isKey s x = true):∀ {es:List (AV × AV × Nat)} {l:List MapEntry} {i:Nat} {r:Option (Nat × AV)},VRe κ es l→findE x es i = some r →
    (r = none∧Instr.findNow d x' l i = some none)∨∃ j u e k,r = some (i + j,u)∧l[j]? = some e∧es[j]? = some (k,u,e.born)∧VR κ u e.val∧VR κ k x'∧(∀ m,Instr.sameBits m e.key x' = true)∧Instr.findNow d x' l i = some (some (i + j,e.val))
  | [],l,i,r,he,hf=>by
    simp only [VRe] at he;subst he;simp only [findE,sJ] at hf;subst hf;exact .inl ⟨rfl,rfl⟩
  | (k, u,b) :: es,l,i,r,he,hf=>by
    obtain ⟨e,q,rfl,h1,h2,h3,h4⟩:=he;simp only [findE] at hf
    cases hki:keyIs x k with
    | none=>rw [hki] at hf;simp at hf
    | some t =>
      rw [hki] at hf;obtain ⟨d',hd',hn,hy⟩:=keyIs_ok hk hx h1 hs hki;have:d' = d:=Option.some.inj (hd'.symm.trans hd);subst this
      cases t with
      | true =>
        simp only [sJ] at hf;subst hf;obtain ⟨y1,y2⟩:=hy rfl;exact .inr ⟨0,u,e,k,by simp,by simp,by simp [h3],h2,y1,y2,by simp [Instr.findNow,hn]⟩
      | false =>
        rcases findE_ok hk hd hx hs (i:=i + 1) h4 hf with ⟨g1,g2⟩ | ⟨j,u',e',k',g1,g2,g3,g4,g5,g6,g7⟩
        · exact .inl ⟨g1,by simp [Instr.findNow,hn,g2]⟩
        · refine .inr ⟨j + 1,u',e',k',by rw [g1];congr 2;omega,by simpa using g2,by simpa using g3,g4,g5,g6,?_⟩;simp only [Instr.findNow,hn,g7]
          congr 3;omega
theorem VRe_setVal:∀ {es:List (AV × AV × Nat)} {l:List MapEntry} {i:Nat} {k u x:AV} {b:Nat} {k' x':Value},VRe κ es l→es[i]? = some (k,u,b)→VR κ k k'→VR κ x x'→VRe κ (setVal x es i) (l.modify i fun e=>{ e with key:=k',val:=x' })
  | [],l,i,k,u,x,b,k',x',he,hi,hk,hx=>by simp at hi
  | (k0,u0,b0) :: es,l,i,k,u,x,b,k',x',he,hi,hk,hx=>by
    obtain ⟨e,q,rfl,h1,h2,h3,h4⟩:=he
    cases i with
    | zero =>
      simp only [List.getElem?_cons_zero,sJ,Prod.mk.injEq] at hi;obtain ⟨rfl,rfl,rfl⟩:=hi;exact ⟨_,_,rfl,hk,hx,h3,h4⟩
    | succ i =>
      exact ⟨e,_,rfl,h1,h2,h3,VRe_setVal h4 (by simpa using hi) hk hx⟩
theorem setVal_self:∀ (es:List (AV × AV × Nat)) (i:Nat) (k u:AV) (b:Nat),es[i]? = some (k,u,b)→setVal u es i = es
  | [],i,k,u,b,h=>by simp at h
  | (k0,u0,b0) :: es,i,k,u,b,h=>by
    cases i with
    | zero =>
      simp only [List.getElem?_cons_zero,sJ,Prod.mk.injEq] at h;obtain ⟨rfl,rfl,rfl⟩:=h;rfl
    | succ i=>simp only [setVal,setVal_self es i k u b (by simpa using h)]
theorem VRe_push {es:List (AV × AV × Nat)} {l:List MapEntry} (he:VRe κ es l) {k x:AV} {e:MapEntry} (hk:VR κ k e.key) (hx:VR κ x e.val):VRe κ (es++[(k,x,e.born)]) (l++[e]):=by
  induction es generalizing l with
  | nil=>simp only [VRe] at he;subst he;exact ⟨e,[],rfl,hk,hx,rfl,rfl⟩
  | cons c es ih =>
    obtain ⟨k0,x0,b0⟩:=c;obtain ⟨f,q,rfl,h1,h2,h3,h4⟩:=he;exact ⟨f,_,rfl,h1,h2,h3,ih h4⟩
theorem VRe_erase:∀ {es:List (AV × AV × Nat)} {l:List MapEntry} (i:Nat),VRe κ es l→VRe κ (eraseAt es i) (l.eraseIdx i)
  | [],l,i,he=>by simp only [VRe] at he;subst he;rfl
  | (k0,x0,b0) :: es,l,i,he=>by
    obtain ⟨f,q,rfl,h1,h2,h3,h4⟩:=he
    cases i with
    | zero=>exact h4
    | succ i=>exact ⟨f,_,rfl,h1,h2,h3,VRe_erase i h4⟩
theorem bornAt_eq:∀ {es:List (AV × AV × Nat)} {i:Nat} {k u:AV} {b:Nat},es[i]? = some (k,u,b)→bornAt es i = b
  | [],i,k,u,b,h=>by simp at h
  | (k0,u0,b0) :: es,i,k,u,b,h=>by
    cases i with
    | zero =>
      simp only [List.getElem?_cons_zero,sJ,Prod.mk.injEq] at h;exact h.2.2
    | succ i=>exact bornAt_eq (es:=es) (by simpa using h)

theorem map_of (hr:HR P κ h w) {p:Pos} {x:Spot} (hp:κ.ρ p = some x) {es:List (AV × AV × Nat)} {cl:Nat} (hg:h.get p = .map es cl):∃ arr:Array MapEntry,w.heap[x.b]? = some (.map arr cl)∧VRe κ es arr.toList:=by
  have:=hr.obj p x hp;rw [hg] at this;exact this
theorem setMap (hr:HR P κ h w) {p:Pos} {x:Spot} (hp:κ.ρ p = some x) {es:List (AV × AV × Nat)} {cl:Nat} (hg:h.get p = .map es cl) {arr:Array MapEntry} (ha:w.heap[x.b]? = some (.map arr cl)) {es':List (AV × AV × Nat)} {cl':Nat} {arr':Array MapEntry} (he:VRe κ es' arr'.toList) :
    (setObj x.b (.map arr' cl')).run P w = .ok () (World.put w x.b (.map arr' cl'))∧Ext P κ h w κ (h.set p (.map es' cl')) (World.put w x.b (.map arr' cl')):=by
  refine ⟨run_setMap _ ha,Ext.update hr ⟨hp,by rw [hg];simp⟩ _ _ ⟨arr',put_heap_same _ _ _ (Array.getElem?_eq_some_iff.1 ha).1,he⟩⟩

theorem lookup_ok (hr:HR P κ h w) (ht:TR κ n tm a.tmps) {t e:TypeId} {s ok:Bool} {kt:TypeId} (hu:P.underlying t = some (.map kt e)) (hk:KeyT P kt s) {z:AV} (hz:zeroOf P e = some z) {x y:Operand} {xo yo:XO} (hx:opnd x = some xo) (hy:opnd y = some yo)
    (ho:o.op = .lookup t x y ok) (hs:lookupS s z ok xo yo tm h = .ok v h'):OpRes P o a κ h w v h':=by
  obtain ⟨u,h1,h2⟩:=withO_ok hs;obtain ⟨c,h3,h4⟩:=withO_ok h2;have e1:=opnd_ok ht hx h1;have e2:=opnd_ok ht hy h3;obtain ⟨zv,z1,z2⟩:=run_zeroT hz;obtain ⟨d,hd⟩:∃ d,P.underlying kt = some d:=by
    cases s with
    | true=>exact ⟨_,hk⟩
    | false=>obtain ⟨q,hk⟩:=hk;exact ⟨_,hk⟩
  cases hkey:isKey s c with
  | false=>rw [hkey] at h4;simp at h4
  | true =>
  rw [hkey] at h4;have miss:∀ {r:Option (Option (Nat × AV))},r = some none→lookRes z ok r h = .ok v h'→h' = h∧VR κ v (if ok then .tuple #[zv,.bool false] else zv):=by
    rintro r rfl hl
    cases ok with
    | true =>
      simp only [lookRes,Out.ok.injEq] at hl;obtain ⟨rfl,rfl⟩:=hl;exact ⟨rfl,by simp only [VR,if_true];exact ⟨_,rfl,by simp [VRl,VR,z2]⟩⟩
    | false =>
      simp only [lookRes,Out.ok.injEq] at hl;obtain ⟨rfl,rfl⟩:=hl;exact ⟨rfl,by simpa using z2 κ⟩
  cases u <;> first | (simp at h4;done) | skip
  case nilmap =>
    simp only [VR] at e1;obtain ⟨rfl,g⟩:=miss rfl h4;refine .pure hr g ?_;simp only [execOp,ho,e1,Instr.lookup,Sem.run_bind,run_underlyingT hu,Result.andThen_ok,Sem.run_pure,run_checkKeyX hk];rw [run_findKeyX hd (b:=none) (l:=(#[]:Array MapEntry).toList) (k:=a.eval y) rfl]
    cases ok <;> simp [z1]
  case map p =>
    simp only [VR] at e1;obtain ⟨q,e1,e3⟩:=e1;dsimp only at h4
    cases hg:h.get p <;> rw [hg] at h4 <;> first | (simp at h4;done) | skip
    rename_i es cl
    obtain ⟨arr,g1,g2⟩:=map_of hr e1 hg;dsimp only at h4
    cases hf:findE c es 0 with
    | none=>rw [hf] at h4;simp [lookRes] at h4
    | some r =>
      rw [hf] at h4
      rcases findE_ok hk hd e2 hkey g2 hf with ⟨rfl,f1⟩ | ⟨j,u',e',k',rfl,f2,f3,f4,f5,f6,f7⟩
      · obtain ⟨rfl,g⟩:=miss rfl h4;refine .pure hr g ?_;simp only [execOp,ho,e3,Instr.lookup,Sem.run_bind,run_underlyingT hu,Result.andThen_ok,Sem.run_pure,run_checkKeyX hk,run_getMap g1,run_findKeyX hd f1]
        cases ok <;> simp [z1]
      · have hval:h' = h∧VR κ v (if ok then .tuple #[e'.val,.bool true] else e'.val):=by
          cases ok with
          | true =>
            simp only [lookRes,Out.ok.injEq] at h4;obtain ⟨rfl,rfl⟩:=h4;exact ⟨rfl,by simp only [VR,if_true];exact ⟨_,rfl,by simp [VRl,VR,f4]⟩⟩
          | false =>
            simp only [lookRes,Out.ok.injEq] at h4;obtain ⟨rfl,rfl⟩:=h4;exact ⟨rfl,by simpa using f4⟩
        obtain ⟨rfl,g⟩:=hval;refine .pure hr g ?_;simp only [execOp,ho,e3,Instr.lookup,Sem.run_bind,run_underlyingT hu,Result.andThen_ok,Sem.run_pure,run_checkKeyX hk,run_getMap g1,run_findKeyX hd f7]
theorem lenM_ok (hr:HR P κ h w) (ht:TR κ n tm a.tmps) {c:Call} (hc:c.callee = .builtin .len) {t kt e:TypeId} (hT:c.argTypes[0]? = some t) (hu:P.underlying t = some (.map kt e)) {x:Operand} {xo:XO} (hl:c.args.toList = [x]) (hx:opnd x = some xo)
    (ho:o.op = .call c) (hs:lenMS xo tm h = .ok v h'):OpRes P o a κ h w v h':=by
  obtain ⟨u,h1,h2⟩:=withO_ok hs;have e1:=opnd_ok ht hx h1
  cases u <;> first | (simp at h2;done) | skip
  case nilmap =>
    simp only [VR] at e1;simp only [okI,Out.ok.injEq] at h2;obtain ⟨rfl,rfl⟩:=h2;refine .pure (v':=goInt 0) hr (by simp only [VR,goInt];rfl) (run_builtinOp ho hc fun cs=>?_);rw [args_eq hl];simp [builtin,Builtin.len_,hT,e1,run_underlyingT hu]
  case map p =>
    simp only [VR] at e1;obtain ⟨q,e1,e3⟩:=e1;dsimp only at h2
    cases hg:h.get p <;> rw [hg] at h2 <;> first | (simp at h2;done) | skip
    rename_i es cl
    obtain ⟨arr,g1,g2⟩:=map_of hr e1 hg;simp only [okI,Out.ok.injEq] at h2;obtain ⟨rfl,rfl⟩:=h2;have hlen:=(VRe_get g2).1;refine .pure (v':=goInt arr.size) hr ?_ (run_builtinOp ho hc fun cs=>?_)
    · simp only [VR,goInt,lenN_eq,hlen];simp
    · rw [args_eq hl];simp [builtin,Builtin.len_,hT,e3,run_underlyingT hu,run_getMap g1]

theorem KeyT.under {kt:TypeId} {s:Bool} (hk:KeyT P kt s):∃ d,P.underlying kt = some d:=by
  cases s with
  | true=>exact ⟨_,hk⟩
  | false=>obtain ⟨q,hk⟩:=hk;exact ⟨_,hk⟩
theorem unit_ok (κ:Kp):VR κ unit (.tuple #[]):=by simp only [unit,VR];exact ⟨#[],rfl,by simp [VRl]⟩
theorem delete_ok (hr:HR P κ h w) (ht:TR κ n tm a.tmps) {c:Call} (hc:c.callee = .builtin .delete) {t e kt:TypeId} {s:Bool} (hT:c.argTypes[0]? = some t) (hu:P.underlying t = some (.map kt e)) (hk:KeyT P kt s)
    {x y:Operand} {xo yo:XO} (hl:c.args.toList = [x,y]) (hx:opnd x = some xo) (hy:opnd y = some yo) (ho:o.op = .call c) (hs:deleteS s xo yo tm h = .ok v h'):OpRes P o a κ h w v h':=by
  obtain ⟨u,h1,h2⟩:=withO_ok hs;obtain ⟨d,h3,h4⟩:=withO_ok h2;have e1:=opnd_ok ht hx h1;have e2:=opnd_ok ht hy h3;obtain ⟨ds,hd⟩:=hk.under
  cases hkey:isKey s d with
  | false=>rw [hkey] at h4;simp at h4
  | true =>
  rw [hkey] at h4
  cases u <;> first | (simp at h4;done) | skip
  case nilmap =>
    simp only [VR] at e1;simp only [Out.ok.injEq] at h4;obtain ⟨rfl,rfl⟩:=h4;refine .pure (v':=.tuple #[]) hr (unit_ok κ) (run_builtinOp ho hc fun cs=>?_);rw [args_eq hl];simp [builtin,Builtin.delete_,hT,e1,run_underlyingT hu,run_checkKeyX hk]
  case map p =>
    simp only [VR] at e1;obtain ⟨q,e1,e3⟩:=e1;dsimp only at h4
    cases hg:h.get p <;> rw [hg] at h4 <;> first | (simp at h4;done) | skip
    rename_i es cl
    obtain ⟨arr,g1,g2⟩:=map_of hr e1 hg;dsimp only at h4
    cases hf:findE d es 0 with
    | none=>rw [hf] at h4;simp at h4
    | some r =>
      rw [hf] at h4
      rcases findE_ok hk hd e2 hkey g2 hf with ⟨rfl,f1⟩ | ⟨j,u',e',k',rfl,f2,f3,f4,f5,f6,f7⟩
      · simp only [Out.ok.injEq] at h4;obtain ⟨rfl,rfl⟩:=h4;refine .pure (v':=.tuple #[]) hr (unit_ok κ) (run_builtinOp ho hc fun cs=>?_);rw [args_eq hl];have hset:=run_setMap (P:=P) (.map arr cl) g1;rw [put_same _ _ _ g1] at hset;simp [builtin,Builtin.delete_,hT,e3,run_underlyingT hu,run_checkKeyX hk,run_getMap g1,run_findKeyX hd f1,hset]
      · simp only [Heap.setK_eq,Out.ok.injEq,Nat.zero_add] at h4;obtain ⟨rfl,rfl⟩:=h4;obtain ⟨s1,s2⟩:=setMap (arr':=arr.eraseIdxIfInBounds j) (es':=eraseAt es j) (cl':=cl) hr e1 hg g1 (by
          have:(arr.eraseIdxIfInBounds j).toList = arr.toList.eraseIdx j:=by
            unfold Array.eraseIdxIfInBounds
            split
            · simp
            · rename_i hlt;rw [List.eraseIdx_of_length_le];simpa using hlt
          rw [this];exact VRe_erase j g2)
        refine .inl ⟨.value (.tuple #[]),_,κ,run_builtinOp ho hc fun cs=>?_,.inl ⟨_,rfl,unit_ok κ⟩,s2⟩;rw [args_eq hl];simp [builtin,Builtin.delete_,hT,e3,run_underlyingT hu,run_checkKeyX hk,run_getMap g1,run_findKeyX hd f7,s1]
theorem clearM_ok (hr:HR P κ h w) (ht:TR κ n tm a.tmps) {c:Call} (hc:c.callee = .builtin .clear) {t e kt:TypeId} (hT:c.argTypes[0]? = some t) (hu:P.underlying t = some (.map kt e))
    {x:Operand} {xo:XO} (hl:c.args.toList = [x]) (hx:opnd x = some xo) (ho:o.op = .call c) (hs:clearMS xo tm h = .ok v h'):OpRes P o a κ h w v h':=by
  obtain ⟨u,h1,h2⟩:=withO_ok hs;have e1:=opnd_ok ht hx h1
  cases u <;> first | (simp at h2;done) | skip
  case nilmap =>
    simp only [VR] at e1;simp only [Out.ok.injEq] at h2;obtain ⟨rfl,rfl⟩:=h2;refine .pure (v':=.tuple #[]) hr (unit_ok κ) (run_builtinOp ho hc fun cs=>?_);rw [args_eq hl];simp [builtin,Builtin.clear_,hT,e1,run_underlyingT hu]
  case map p =>
    simp only [VR] at e1;obtain ⟨q,e1,e3⟩:=e1;dsimp only at h2
    cases hg:h.get p <;> rw [hg] at h2 <;> first | (simp at h2;done) | skip
    rename_i es cl
    obtain ⟨arr,g1,g2⟩:=map_of hr e1 hg;simp only [Heap.setK_eq,Out.ok.injEq] at h2;obtain ⟨rfl,rfl⟩:=h2;obtain ⟨s1,s2⟩:=setMap (arr':=#[]) (es':=[]) (cl':=cl) hr e1 hg g1 rfl;refine .inl ⟨.value (.tuple #[]),_,κ,run_builtinOp ho hc fun cs=>?_,.inl ⟨_,rfl,unit_ok κ⟩,s2⟩;rw [args_eq hl];simp [builtin,Builtin.clear_,hT,e3,run_underlyingT hu,run_getMap g1,s1]
theorem run_keyStays {old new:Value} (h:∀ m,Instr.sameBits m old new = true):(Instr.keyThatStays old new).run P w = .ok new w:=by
  simp only [Instr.keyThatStays,h,if_true,Sem.run_pure]
theorem mapUpd_ok (hr:HR P κ h w) (ht:TR κ n tm a.tmps) {t e kt:TypeId} {s:Bool} (hu:P.underlying t = some (.map kt e)) (hk:KeyT P kt s) {x y z:Operand} {xo yo zo:XO} (hx:opnd x = some xo) (hy:opnd y = some yo) (hz:opnd z = some zo)
    (ho:o.op = .mapUpdate t x y z∨o.op = .insert t x y z) (hs:mapUpdS s xo yo zo tm h = .ok v h'):OpRes P o a κ h w v h':=by
  obtain ⟨u,h1,h2⟩:=withO_ok hs;obtain ⟨d,h3,h4⟩:=withO_ok h2;obtain ⟨c,h5,h6⟩:=withO_ok h4;have e1:=opnd_ok ht hx h1;have e2:=opnd_ok ht hy h3;have e3:=opnd_ok ht hz h5;obtain ⟨ds,hd⟩:=hk.under;have fin:∀ {w':World} {κ':Kp},(Instr.mapUpdate t (a.eval x) (a.eval y) (a.eval z)).run P w = .ok () w'→v = unit→Ext P κ h w κ' h' w'→OpRes P o a κ h w v h':=by
    rintro w' κ' q1 rfl q2;refine .inl ⟨.skip,w',κ',?_,.inr ⟨rfl,rfl⟩,q2⟩
    rcases ho with ho | ho <;> simp only [execOp,ho,Sem.run_bind,q1,Result.andThen_ok,Sem.run_pure]
  cases hkey:isKey s d <;> cases u <;> rw [hkey] at h6 <;> first | (simp at h6;done) | skip
  rename_i p
  simp only [VR] at e1;obtain ⟨q,e1,e4⟩:=e1;dsimp only at h6
  cases hg:h.get p <;> rw [hg] at h6 <;> first | (simp at h6;done) | skip
  rename_i es cl
  obtain ⟨arr,g1,g2⟩:=map_of hr e1 hg;dsimp only at h6
  cases hf:findE d es 0 with
  | none=>rw [hf] at h6;simp at h6
  | some r =>
    rw [hf] at h6
    rcases findE_ok hk hd e2 hkey g2 hf with ⟨rfl,f1⟩ | ⟨j,u',e',k',rfl,f2,f3,f4,f5,f6,f7⟩
    · simp only [Heap.setK_eq,Out.ok.injEq] at h6;obtain ⟨rfl,rfl⟩:=h6;obtain ⟨s1,s2⟩:=setMap (arr':=arr.push { key:=a.eval y,val:=a.eval z,born:=cl }) (es':=es++[(d,c,cl)]) (cl':=cl + 1) hr e1 hg g1 (by
        rw [Array.toList_push];exact VRe_push (e:={ key:=a.eval y,val:=a.eval z,born:=cl }) g2 e2 e3)
      refine fin ?_ rfl s2;simp only [Instr.mapUpdate,e4,Sem.run_bind,run_underlyingT hu,Result.andThen_ok,run_getMap g1,run_checkKeyX hk,run_findKeyX hd f1,s1]
    · simp only [Heap.setK_eq,Out.ok.injEq,Nat.zero_add] at h6;obtain ⟨rfl,rfl⟩:=h6;obtain ⟨s1,s2⟩:=setMap (arr':=arr.modify j fun e=>{ e with key:=a.eval y,val:=a.eval z }) (es':=setVal c es j) (cl':=cl) hr e1 hg g1 (by
        rw [Array.toList_modify];exact VRe_setVal g2 f3 f5 e3)
      refine fin ?_ rfl s2;have f2':arr[j]? = some e':=by simpa using f2
      have hks:=run_keyStays (P:=P) (w:=w) f6;simp only [Instr.mapUpdate,e4,Sem.run_bind,run_underlyingT hu,Result.andThen_ok,run_getMap g1,run_checkKeyX hk,run_findKeyX hd f7,Nat.zero_add,f2',Option.map_some,Option.getD_some,hks,s1]
theorem mapEntry_ok (hr:HR P κ h w) (ht:TR κ n tm a.tmps) {t e kt:TypeId} {s:Bool} (hu:P.underlying t = some (.map kt e)) (hk:KeyT P kt s) {z:AV} (hz:zeroOf P e = some z) {x y:Operand} {xo yo:XO} (hx:opnd x = some xo) (hy:opnd y = some yo)
    (ho:o.op = .mapEntry t x y) (hs:mapEntryS s z xo yo tm h = .ok v h'):OpRes P o a κ h w v h':=by
  obtain ⟨u,h1,h2⟩:=withO_ok hs;obtain ⟨d,h3,h6⟩:=withO_ok h2;have e1:=opnd_ok ht hx h1;have e2:=opnd_ok ht hy h3;obtain ⟨ds,hd⟩:=hk.under;obtain ⟨zv,z1,z2⟩:=run_zeroT hz
  cases hkey:isKey s d <;> cases u <;> rw [hkey] at h6 <;> first | (simp at h6;done) | skip
  rename_i p
  simp only [VR] at e1;obtain ⟨q,e1,e4⟩:=e1;dsimp only at h6
  cases hg:h.get p <;> rw [hg] at h6 <;> first | (simp at h6;done) | skip
  rename_i es cl
  obtain ⟨arr,g1,g2⟩:=map_of hr e1 hg;dsimp only at h6
  cases hf:findE d es 0 with
  | none=>rw [hf] at h6;simp at h6
  | some r =>
    rw [hf] at h6
    rcases findE_ok hk hd e2 hkey g2 hf with ⟨rfl,f1⟩ | ⟨j,u',e',k',rfl,f2,f3,f4,f5,f6,f7⟩
    · simp only [Heap.setK_eq,Out.ok.injEq] at h6;obtain ⟨rfl,rfl⟩:=h6;obtain ⟨s1,s2⟩:=setMap (arr':=arr.push { key:=a.eval y,val:=zv,born:=cl }) (es':=es++[(d,z,cl)]) (cl':=cl + 1) hr e1 hg g1 (by
        rw [Array.toList_push];exact VRe_push (e:={ key:=a.eval y,val:=zv,born:=cl }) g2 e2 (z2 κ))
      refine .inl ⟨.value (.tuple #[zv,goInt cl]),_,κ,?_,.inl ⟨_,rfl,?_⟩,s2⟩
      · simp only [execOp,ho,Instr.mapEntry,e4,Sem.run_bind,run_underlyingT hu,Result.andThen_ok,run_getMap g1,run_checkKeyX hk,run_findKeyX hd f1,z1,s1,Sem.run_pure]
      · simp only [VR];exact ⟨_,rfl,by simp [VRl,VR,z2,goInt]⟩
    · simp only [Out.ok.injEq,Nat.zero_add] at h6;obtain ⟨rfl,rfl⟩:=h6;have f2':arr[j]? = some e':=by simpa using f2
      have hks:=run_keyStays (P:=P) (w:=w) f6
      -- the key stays what it is,in X
      have hset:(arr.modify j fun e=>{ e with key:=a.eval y }) = arr.modify j fun e=>{ e with key:=a.eval y,val:=e.val }:=rfl
      have he:VRe κ es (arr.modify j fun e=>{ e with key:=a.eval y }).toList:=by
        have hs':=VRe_setVal g2 f3 f5 f4;rw [setVal_self _ _ _ _ _ f3] at hs';rw [Array.toList_modify];have:arr.toList.modify j (fun e=>{ e with key:=a.eval y }) = arr.toList.modify j fun e=>{ e with key:=a.eval y,val:=e'.val }:=by
          apply List.ext_getElem?
          intro i;rw [List.getElem?_modify,List.getElem?_modify]
          by_cases hij:j = i
          · subst hij;simp [f2']
          · simp [hij]
        rw [this];exact hs'
      obtain ⟨s1,s2⟩:=setMap (arr':=arr.modify j fun e=>{ e with key:=a.eval y }) (es':=es) (cl':=cl) hr e1 hg g1 he
      -- X leaves the block as it is
      have s3:Ext P κ h w κ h (World.put w q.b (.map (arr.modify j fun e=>{ e with key:=a.eval y }) cl)):=by
        have hget:∀ r,(h.set p (.map es cl)).get r = h.get r:=by
          intro r
          by_cases hr':r = p
          · subst hr';rw [Heap.get_set_same,hg]
          · rw [Heap.get_set_ne _ _ (fun e=>hr' e.symm)]
        have hlive:∀ r y,Live κ (h.set p (.map es cl)) r y ↔ Live κ h r y:=fun r y=>by simp only [Live,hget]
        refine ⟨s2.le,rfl,⟨fun r y hy=>?_,fun r r' y y' l1 l2=>s2.hr.apart r r' y y' ((hlive _ _).2 l1) ((hlive _ _).2 l2),s2.hr.frozen,fun r y l=>s2.hr.off r y ((hlive _ _).2 l),s2.hr.top,fun r hr'=>by have:=s2.hr.clean r hr';rw [hget] at this;exact this⟩,s2.next,s2.size,s2.fc,?_,?_,s2.os,s2.output,s2.tape⟩
        · have:=s2.hr.obj r y hy;rw [hget] at this;exact this
        · intro r y l hlt;exact s2.lr r y ((hlive _ _).2 l) hlt
        · intro r h1 h2;exact ⟨h2,rfl⟩
      refine .inl ⟨.value (.tuple #[e'.val,goInt e'.born]),_,κ,?_,.inl ⟨_,rfl,?_⟩,s3⟩
      · simp only [execOp,ho,Instr.mapEntry,e4,Sem.run_bind,run_underlyingT hu,Result.andThen_ok,run_getMap g1,run_checkKeyX hk,run_findKeyX hd f7,Nat.zero_add,f2',Option.map_some,Option.getD_some,hks,s1,Sem.run_pure]
      · simp only [VR];exact ⟨_,rfl,by simp [VRl,VR,f4,goInt,bornAt_eq f3]⟩
end
end Go.X

/- The instructions of X against the model's operations,13: entries,ranges,iterators. -/
namespace Go.X
open Go

section
variable {P:Program} {κ:Kp} {h h':Heap} {w:World} {n:Nat} {tm:Tm} {a:Act} {o:Oper} {v:AV}

theorem findBorn_ok (b:Nat):∀ {es:List (AV × AV × Nat)} {l:List MapEntry} {i0 i:Nat},VRe κ es l→findBorn b es i0 = some i →
    ∃ j k u e,i = i0 + j∧es[j]? = some (k,u,b)∧l[j]? = some e∧VR κ k e.key∧VR κ u e.val∧e.born = b∧l.find? (fun e=>e.born == b) = some e∧l.findIdx? (fun e=>(e.born:Int) == (b:Int)) = some j
  | [],l,i0,i,he,hf=>by simp [findBorn] at hf
  | (k, u,c) :: es,l,i0,i,he,hf=>by
    obtain ⟨e,r,rfl,h1,h2,h3,h4⟩:=he;simp only [findBorn] at hf
    cases hb:Nat.beq c b with
    | true =>
      rw [hb] at hf;simp only [sJ] at hf;have hb:=beq_iff'.1 hb;subst hb;subst hf;subst h3;refine ⟨0,k,u,e,rfl,rfl,rfl,h1,h2,rfl,?_,?_⟩
      · rw [List.find?_cons_of_pos];simp
      · rw [List.findIdx?_cons];simp
    | false =>
      rw [hb] at hf;obtain ⟨j,k',u',e',g1,g2,g3,g4,g5,g6,g7,g8⟩:=findBorn_ok b h4 hf;have hne : ¬ e.born = b:=fun q=>by rw [← h3,q,Nat.beq_refl] at hb;cases hb
      have hne' : ¬ (e.born:Int) = (b:Int):=fun q=>hne (by exact_mod_cast q)
      refine ⟨j + 1,k',u',e',by omega,by simpa using g2,by simpa using g3,g4,g5,g6,?_,?_⟩
      · rw [List.find?_cons_of_neg (by simpa using hne)];exact g7
      · rw [List.findIdx?_cons];have:((e.born:Int) == (b:Int)) = false:=by simpa using hne'
        rw [this,g8];rfl
theorem entryStore_ok (hr:HR P κ h w) (ht:TR κ n tm a.tmps) {t:TypeId} {x y z:Operand} {xo yo zo:XO} (hx:opnd x = some xo) (hy:opnd y = some yo) (hz:opnd z = some zo)
    (ho:o.op = .entryStore t x y z) (hs:entryStoreS xo yo zo tm h = .ok v h'):OpRes P o a κ h w v h':=by
  obtain ⟨u,h1,h2⟩:=withO_ok hs;obtain ⟨kd,b,h3,h4⟩:=withN_ok h2;obtain ⟨c,h5,h6⟩:=withO_ok h4;have e1:=opnd_ok ht hx h1;have e2:=opnd_ok ht hy h3;have e3:=opnd_ok ht hz h5;simp only [VR] at e2
  cases u <;> first | (simp at h6;done) | skip
  rename_i p
  simp only [VR] at e1;obtain ⟨q,e1,e4⟩:=e1;dsimp only at h6
  cases hg:h.get p <;> rw [hg] at h6 <;> first | (simp at h6;done) | skip
  rename_i es cl
  obtain ⟨arr,g1,g2⟩:=map_of hr e1 hg;dsimp only at h6
  cases hf:findBorn b es 0 with
  | none=>rw [hf] at h6;simp at h6
  | some i =>
    rw [hf] at h6;obtain ⟨j,k,u,e,f1,f2,f3,f4,f5,f6,f7,f8⟩:=findBorn_ok b g2 hf;rw [Nat.zero_add] at f1;subst f1;simp only [Heap.setK_eq,Out.ok.injEq] at h6;obtain ⟨rfl,rfl⟩:=h6;have f3':arr[i]? = some e:=by simpa using f3
    have he:VRe κ (setVal c es i) (arr.modify i fun e=>{ e with val:=a.eval z }).toList:=by
      have hs':=VRe_setVal g2 f2 f4 e3;rw [Array.toList_modify];have:arr.toList.modify i (fun e=>{ e with val:=a.eval z }) = arr.toList.modify i fun e'=>{ e' with key:=e.key,val:=a.eval z }:=by
        apply List.ext_getElem?
        intro i';rw [List.getElem?_modify,List.getElem?_modify]
        by_cases hij:i = i'
        · subst hij;simp [f3']
        · simp [hij]
      rw [this];exact hs'
    obtain ⟨s1,s2⟩:=setMap (arr':=arr.modify i fun e=>{ e with val:=a.eval z }) (es':=setVal c es i) (cl':=cl) hr e1 hg g1 he;have f8':arr.findIdx? (fun e=>(e.born:Int) == Int.ofNat b) = some i:=by
      have:arr = arr.toList.toArray:=by simp
      rw [this,List.findIdx?_toArray];exact f8
    refine .inl ⟨.skip,_,κ,?_,.inr ⟨rfl,rfl⟩,s2⟩;simp only [execOp,ho,Instr.entryStore,e4,e2,Sem.run_bind,Sem.run_pure,Result.andThen_ok,run_getMap g1,asInt,asIntOf,f8',s1]

/-! ### ranges -/
theorem new_iter {κ:Kp} {w:World} {p:Pos} {m:Nat}:VR (κ.at p ⟨w.heap.size,0,m⟩) (.ptr p 0) (.pointer (some ⟨w.heap.size,0,none⟩)):=new_ptr rfl rfl κ p
theorem rangeStr_ok (hr:HR P κ h w) (ht:TR κ n tm a.tmps) {t:TypeId} (hu:P.underlying t = some .string) {x:Operand} {xo:XO} (hx:opnd x = some xo) (ho:o.op = .range t x) (hs:rangeStrS xo tm h = .ok v h'):OpRes P o a κ h w v h':=by
  obtain ⟨u,h1,h2⟩:=withO_ok hs;have e1:=opnd_ok ht hx h1
  cases u <;> first | (simp at h2;done) | skip
  simp only [VR] at e1;obtain ⟨s,e1,e2⟩:=e1;simp only [Heap.pushK_eq,Out.ok.injEq] at h2;obtain ⟨rfl,rfl⟩:=h2;refine .inl ⟨.value (.pointer (some ⟨w.heap.size,0,none⟩)),World.new w (.stringIter s 0),_,?_,.inl ⟨_,rfl,new_iter (m:=0)⟩,Ext.alloc hr _ _ 0 ⟨rfl,s,new_heap_same _ _,e2⟩⟩;simp only [execOp,ho,e1,Instr.range,Sem.run_bind,run_underlyingT hu,Result.andThen_ok,Sem.run_pure,newObj,Sem.run];rfl
theorem rangeMap_ok (hr:HR P κ h w) (ht:TR κ n tm a.tmps) {t kt e:TypeId} (hu:P.underlying t = some (.map kt e)) {x:Operand} {xo:XO} (hx:opnd x = some xo) (ho:o.op = .range t x) (hs:rangeMapS xo tm h = .ok v h'):OpRes P o a κ h w v h':=by
  obtain ⟨u,h1,h2⟩:=withO_ok hs;have e1:=opnd_ok ht hx h1
  cases u <;> first | (simp at h2;done) | skip
  case nilmap =>
    simp only [VR] at e1;simp only [Heap.pushK_eq,Out.ok.injEq] at h2;obtain ⟨rfl,rfl⟩:=h2;refine .inl ⟨.value (.pointer (some ⟨w.heap.size,0,none⟩)),World.new w (.mapIter none 0 #[] 0),_,?_,.inl ⟨_,rfl,new_iter (m:=0)⟩,Ext.alloc hr _ _ 0 ⟨rfl,none,new_heap_same _ _,by simp,rfl⟩⟩;simp only [execOp,ho,e1,Instr.range,Sem.run_bind,run_underlyingT hu,Result.andThen_ok,Sem.run_pure,newObj,Sem.run];rfl
  case map p =>
    simp only [VR] at e1;obtain ⟨q,e1,e3⟩:=e1;dsimp only at h2
    cases hg:h.get p <;> rw [hg] at h2 <;> first | (simp at h2;done) | skip
    rename_i es cl
    obtain ⟨arr,g1,g2⟩:=map_of hr e1 hg;simp only [Heap.pushK_eq,Out.ok.injEq] at h2;obtain ⟨rfl,rfl⟩:=h2;have hne:p ≠ h.next:=fun q'=>by have:=hr.top p q e1;rw [q'] at this;omega
    refine .inl ⟨.value (.pointer (some ⟨w.heap.size,0,none⟩)),World.new w (.mapIter (some q.b) cl #[] cl),_,?_,.inl ⟨_,rfl,new_iter (m:=0)⟩,Ext.alloc hr _ _ 0 ⟨rfl,some q.b,new_heap_same _ _,by simp,q,by rw [Kp.at_ne _ _ hne];exact e1,rfl⟩⟩;simp only [execOp,ho,e3,Instr.range,Sem.run_bind,run_underlyingT hu,Result.andThen_ok,run_getMap g1,Sem.run_pure,newObj,Sem.run];rfl

theorem decode_ascii {s:ByteArray} {l:List Nat} (hs:s.data.toList.map UInt8.toNat = l) {i b:Nat} (hb:l[i]? = some b) (hlt:b < 128):Utf8.decode s i = (b,1):=by
  obtain ⟨c,h1,h2⟩:=bytes_get hs hb;have hi:i < s.size:=by
    cases Nat.lt_or_ge i s.size with
    | inl h=>exact h
    | inr h=>rw [getElem?_neg s i (by omega)] at h1;simp at h1
  have hget:s.get! i = c:=by
    rw [getElem?_pos s i hi] at h1;have:=Option.some.inj h1;rw [← this];simp only [ByteArray.get!]
    first | rfl | (rw [getElem!_pos s.data i hi];rfl)
  have h0:(s.get! (i + 0)).toNat = b:=by rw [Nat.add_zero,hget,h2]
  simp only [Utf8.decode,h0];rw [if_pos hlt]
theorem nextStr_ok (hr:HR P κ h w) (ht:TR κ n tm a.tmps) {x:Operand} {xo:XO} (hx:opnd x = some xo) (ho:o.op = .next x true) (hs:nextStrS xo tm h = .ok v h'):OpRes P o a κ h w v h':=by
  obtain ⟨u,h1,h2⟩:=withO_ok hs;have e1:=opnd_ok ht hx h1
  cases u <;> first | (simp at h2;done) | skip
  rename_i p off
  cases off with
  | succ off=>simp at h2
  | zero =>
  have h2:nextStrAt p h = .ok v h':=h2;simp only [nextStrAt] at h2;simp only [VR] at e1;obtain ⟨q,e1,e3⟩:=e1;have hob:=hr.obj p q e1
  cases hg:h.get p <;> rw [hg] at h2 hob <;> first | (simp at h2;done) | skip
  rename_i l pos
  obtain ⟨hd,s,g1,g2⟩:=hob;rw [hd] at e3;have hgo:(getObj q.b).run P w = .ok (.stringIter s pos) w:=by simp [getObj,Sem.run,g1]
  simp only [nth_eq] at h2
  cases hn:l[pos]? with
  | none =>
    rw [hn] at h2;simp only [Out.ok.injEq] at h2;obtain ⟨rfl,rfl⟩:=h2;have hge : ¬ pos < s.size:=by rw [size_of g2];have:=List.getElem?_eq_none_iff.1 hn;omega
    refine .pure (v':=.tuple #[.bool false]) hr (by simp only [over,VR];exact ⟨_,rfl,by simp [VRl,VR]⟩) ?_;simp only [execOp,ho,e3,Instr.next,Sem.run_bind,hgo,Result.andThen_ok,hge,if_false,Sem.run_pure]
  | some b =>
    rw [hn] at h2;dsimp only at h2
    cases hlt:Nat.blt b 128 with
    | false=>rw [hlt] at h2;simp at h2
    | true =>
      rw [hlt] at h2;simp only [Heap.setK_eq,Out.ok.injEq] at h2;obtain ⟨rfl,rfl⟩:=h2;have hlt:=blt_iff.1 hlt;have hpos:pos < s.size:=by rw [size_of g2];exact (List.getElem?_eq_some_iff.1 hn).1
      have hset:(setObj q.b (.stringIter s (pos + 1))).run P w = .ok () (World.put w q.b (.stringIter s (pos + 1))):=by simp [setObj,Sem.run,g1,World.put]
      refine .inl ⟨.value (.tuple #[.bool true,goInt pos,.int .i32 b]),_,κ,?_,.inl ⟨_,rfl,?_⟩,Ext.update hr ⟨e1,by rw [hg];simp⟩ _ (.stringIter s (pos + 1)) ⟨hd,s,put_heap_same _ _ _ (Array.getElem?_eq_some_iff.1 g1).1,g2⟩⟩
      · simp only [execOp,ho,e3,Instr.next,Sem.run_bind,hgo,Result.andThen_ok,hpos,if_true,decode_ascii g2 hn hlt,hset,Sem.run_pure]
      · simp only [VR];exact ⟨_,rfl,by simp [VRl,VR,goInt]⟩

theorem leftE_ok (seen:List Nat):∀ {es:List (AV × AV × Nat)} {l:List MapEntry},VRe κ es l→VRe κ (leftE seen es) (l.filter fun e=>!seen.toArray.contains e.born)
  | [],l,he=>by simp only [VRe] at he;subst he;rfl
  | (k, u, b) :: es, l,he=>by
    obtain ⟨e,r,rfl,h1,h2,h3,h4⟩:=he;have ih:=leftE_ok seen h4;have hhas:hasN b seen = seen.toArray.contains b:=by
      have:∀ l:List Nat,hasN b l = l.contains b:=by
        intro l
        induction l with
        | nil=>rfl
        | cons c l ihl =>
          simp only [hasN,List.contains_cons]
          cases hb:Nat.beq b c with
          | true=>have:=beq_iff'.1 hb;simp [this]
          | false => have : ¬ b = c:=fun q=>by rw [q,Nat.beq_refl] at hb;cases hb
                     rw [ihl];simp [this]
      rw [this];simp
    simp only [leftE,hhas];subst h3
    cases hc:seen.toArray.contains e.born with
    | true=>rw [List.filter_cons_of_neg (by simp only [hc];simp)];exact ih
    | false=>rw [List.filter_cons_of_pos (by simp only [hc];rfl)];exact ⟨e,_,rfl,h1,h2,rfl,ih⟩
theorem nextMap_ok (hr:HR P κ h w) (ht:TR κ n tm a.tmps) {x:Operand} {xo:XO} (hx:opnd x = some xo) (ho:o.op = .next x false) (hs:nextMapS xo tm h = .ok v h'):OpRes P o a κ h w v h':=by
  obtain ⟨u,h1,h2⟩:=withO_ok hs;have e1:=opnd_ok ht hx h1
  cases u <;> first | (simp at h2;done) | skip
  rename_i p off
  cases off with
  | succ off=>simp at h2
  | zero =>
  have h2:nextMapAt p h = .ok v h':=h2;simp only [nextMapAt] at h2;simp only [VR] at e1;obtain ⟨q,e1,e3⟩:=e1;have hob:=hr.obj p q e1;have over_ok:h' = h→v = over→(Instr.next (a.eval x) false o.type).run P w = .ok (.tuple #[.bool false]) w→OpRes P o a κ h w v h':=by
    rintro rfl rfl hrun;refine .pure (v':=.tuple #[.bool false]) hr (by simp only [over,VR];exact ⟨_,rfl,by simp [VRl,VR]⟩) ?_;simp only [execOp,ho,Sem.run_bind,hrun,Result.andThen_ok,Sem.run_pure]
  cases hg:h.get p <;> rw [hg] at h2 hob <;> first | (simp at h2;done) | skip
  rename_i m since seen last
  obtain ⟨hd,m',g1,g2,g3⟩:=hob;rw [hd] at e3;have hgo:(getObj q.b).run P w = .ok (.mapIter m' since seen.toArray last) w:=by simp [getObj,Sem.run,g1]
  cases m with
  | none =>
    dsimp only at g3 h2;subst g3;simp only [Out.ok.injEq] at h2;refine over_ok h2.2.symm h2.1.symm ?_;simp only [e3,Instr.next,Sem.run_bind,hgo,Result.andThen_ok,Sem.run_pure]
  | some m =>
    dsimp only at g3 h2;obtain ⟨y,g3,g4⟩:=g3;subst g4
    cases hgm:h.get m <;> rw [hgm] at h2 <;> first | (simp at h2;done) | skip
    rename_i es cl
    dsimp only at h2;obtain ⟨arr,f1,f2⟩:=map_of hr g3 hgm;have hl:=leftE_ok seen f2;have hleft:(arr.filter fun e=>!seen.toArray.contains e.born).toList = arr.toList.filter fun e=>!seen.toArray.contains e.born:=Array.toList_filter
    rw [← hleft] at hl;have hgo2:=run_getMap (P:=P) f1
    -- no entry that the range came to is newer than its last step
    have hguard:(leftE seen es = []∨seen = [])→(!seen.toArray.isEmpty && !arr.isEmpty && arr.all (fun e=>decide (e.born ≥ last))) = false:=by
      rintro (hnil | rfl)
      · rw [hnil] at hl;simp only [VRe] at hl
        by_cases harr:arr = #[]
        · subst harr;simp
        · have hpos:0 < arr.size:=Array.size_pos_iff.2 harr;have hin:seen.toArray.contains arr[0].born = true:=by
            have hnf:arr[0] ∉ (arr.filter fun e=>!seen.toArray.contains e.born).toList:=by rw [hl];simp
            rw [Array.mem_toList_iff,Array.mem_filter] at hnf;simp only [Array.getElem_mem,true_and,Bool.not_eq_eq_eq_not] at hnf
            simpa using hnf
          have hlt:=g2 arr[0].born (by simpa using hin);have:arr.all (fun e=>decide (e.born ≥ last)) = false:=by
            rw [Bool.eq_false_iff];intro hall;have:=Array.all_eq_true.1 hall 0 hpos;simp at this;omega
          rw [this];simp
      · simp
    cases hle:leftE seen es with
    | nil =>
      rw [hle] at h2 hl;simp only [nextOf,Out.ok.injEq] at h2;simp only [VRe] at hl;have hl':(arr.filter fun e=>!seen.toArray.contains e.born) = #[]:=by apply Array.ext';rw [hl]
      refine over_ok h2.2.symm h2.1.symm ?_;simp only [e3,Instr.next,Sem.run_bind,hgo,hgo2,Result.andThen_ok,hguard (.inl hle),Bool.false_eq_true,if_false,hl'];simp [choose,Sem.run,Question.forced]
    | cons t r =>
      obtain ⟨k,u,b⟩:=t;rw [hle] at h2 hl;simp only [nextOf] at h2
      cases r with
      | cons _ _=>simp at h2
      | nil =>
      cases hb1:Nat.blt b since <;> cases hb2:Nat.blt b cl <;> cases seen <;> rw [hb1,hb2] at h2 <;> simp only [reduceCtorEq,Heap.setK_eq,Out.ok.injEq] at h2
      obtain ⟨rfl,rfl⟩:=h2;have hb1:=blt_iff.1 hb1;have hb2:=blt_iff.1 hb2;obtain ⟨e,r',l1,l2,l3,l4,l5⟩:=hl;simp only [VRe] at l5;subst l5;have hl':(arr.filter fun e=>!(#[]:Array Nat).contains e.born) = #[e]:=by apply Array.ext';exact l1
      subst l4;have hset:(setObj q.b (.mapIter (some y.b) since #[e.born] cl)).run P w = .ok () (World.put w q.b (.mapIter (some y.b) since #[e.born] cl)):=by simp [setObj,Sem.run,g1,World.put]
      have hnb : ¬ e.born ≥ since:=by omega
      refine .inl ⟨.value (.tuple #[.bool true,e.key,e.val]),_,κ,?_,.inl ⟨_,rfl,?_⟩,Ext.update hr ⟨e1,by rw [hg];simp⟩ _ (.mapIter (some y.b) since #[e.born] cl) ⟨hd,some y.b,put_heap_same _ _ _ (Array.getElem?_eq_some_iff.1 g1).1,?_,y,g3,rfl⟩⟩
      · have hgd:=hguard (.inr rfl);simp only [List.toArray] at hgd;simp only [execOp,ho,e3,Instr.next,Sem.run_bind,hgo,hgo2,Result.andThen_ok,Sem.run_pure];rw [hl',hgd];simp [choose,Sem.run,Question.forced,hb1,hnb];rw [hset];rfl
      · simp only [VR];refine ⟨_,rfl,?_⟩;simp only [VRl,VR];exact ⟨_,_,rfl,rfl,_,_,rfl,l2,_,_,rfl,l3,rfl⟩
      · intro b' hb';simp at hb';omega

theorem lastN_eq:∀ (l:List Nat),lastN l = l.getLast?
  | []=>rfl
  | [n]=>rfl
  | n :: m :: l=>by rw [List.getLast?_cons_cons,← lastN_eq (m :: l)];rfl
theorem entry_ok (hr:HR P κ h w) (ht:TR κ n tm a.tmps) {x:Operand} {xo:XO} (hx:opnd x = some xo) (ho:o.op = .entry x) (hs:entryS xo tm h = .ok v h'):OpRes P o a κ h w v h':=by
  obtain ⟨u,h1,h2⟩:=withO_ok hs;have e1:=opnd_ok ht hx h1
  cases u <;> first | (simp at h2;done) | skip
  rename_i p off
  cases off with
  | succ off=>simp at h2
  | zero =>
  have h2:entryAt p h = .ok v h':=h2;simp only [entryAt] at h2;simp only [VR] at e1;obtain ⟨q,e1,e3⟩:=e1;have hob:=hr.obj p q e1
  cases hg:h.get p <;> rw [hg] at h2 hob <;> first | (simp at h2;done) | skip
  rename_i m since seen last
  obtain ⟨hd,m',g1,g2,g3⟩:=hob;rw [hd] at e3;have hgo:(getObj q.b).run P w = .ok (.mapIter m' since seen.toArray last) w:=by simp [getObj,Sem.run,g1]
  cases m with
  | none=>simp at h2
  | some m =>
    dsimp only at g3 h2;obtain ⟨y,g3,g4⟩:=g3;subst g4
    cases hgm:h.get m <;> cases hln:lastN seen <;> rw [hgm,hln] at h2 <;> first | (simp at h2;done) | skip
    rename_i es cl b
    dsimp only at h2;obtain ⟨arr,f1,f2⟩:=map_of hr g3 hgm
    cases hcl:Nat.beq cl last <;> cases hf:findBorn b es 0 <;> rw [hcl,hf] at h2 <;> simp only [reduceCtorEq] at h2
    rename_i i
    have hcl:=beq_iff'.1 hcl;subst hcl;obtain ⟨j,k,u,e,f3,f4,f5,f6,f7,f8,f9,_⟩:=findBorn_ok b f2 hf;rw [Nat.zero_add] at f3;subst f3;rw [nth_eq,f4] at h2;simp only [Out.ok.injEq] at h2;obtain ⟨rfl,rfl⟩:=h2;have hback:seen.toArray.back? = some b:=by rw [List.back?_toArray,← lastN_eq];exact hln
    have hfind:arr.find? (fun e=>e.born == b) = some e:=by rw [← Array.find?_toList];exact f9
    refine .pure (v':=.tuple #[e.key,e.val]) hr (by simp only [VR];refine ⟨_,rfl,?_⟩;simp only [VRl];exact ⟨_,_,rfl,f6,_,_,rfl,f7,rfl⟩) ?_;simp only [execOp,ho,e3,Instr.entry,Sem.run_bind,hgo,Result.andThen_ok,hback,run_getMap f1,bne_self_eq_false,Bool.false_eq_true,if_false,hfind,Sem.run_pure]

/-! ### unsafe -/
theorem shape_row (hr:HR P κ h w) {p:Pos} {x:Spot} (hp:κ.ρ p = some x) {ty:TypeId} {cs:List AV} {sp:Bool} (hg:h.get p = .row ty cs sp):(shape x.b).run P w = .ok (some (ty,x.n)) w:=by
  have:=hr.obj p x hp;rw [hg] at this;obtain ⟨arr,fr,g1,g2,_⟩:=this;simp [shape,Sem.run,World.shape?,g1,g2]
theorem shape_row' (hr:HR P κ h w) {p:Pos} {x:Spot} (hp:κ.ρ p = some x) {ty:TypeId} {cs:List AV} {sp:Bool} (hg:h.get p = .row ty cs sp):w.shape? x.b = some (ty,x.n):=by
  have:=hr.obj p x hp;rw [hg] at this;obtain ⟨arr,fr,g1,g2,_⟩:=this;simp [World.shape?,g1,g2]
theorem uptr_parts {ty:TypeId} {m:Nat} {p:Pos} (hs:uptrAt ty m p h = .ok v h'):h' = h∧v = .ptr p 0∧∃ cs,h.get p = .row ty cs false∧cs.length = m:=by
  simp only [uptrAt] at hs
  cases hg:h.get p <;> rw [hg] at hs <;> first | (simp at hs;done) | skip
  rename_i ty' cs sp
  dsimp only at hs
  cases sp <;> cases c1:Nat.beq ty' ty <;> cases c2:lengthIs cs m <;> rw [c1,c2] at hs <;> simp only [Out.ok.injEq,reduceCtorEq] at hs
  obtain ⟨rfl,rfl⟩:=hs;have c1:=beq_iff'.1 c1;subst c1;exact ⟨rfl,rfl,cs,rfl,(lengthIs_iff _ _).1 c2⟩
theorem uptr_ok (hr:HR P κ h w) (ht:TR κ n tm a.tmps) {s d ty:TypeId} {m:Nat} (hsrc:P.underlying s = some (.pointer ty)) (hd:P.underlying d = some .unsafePointer) (hsz:szOf P ty = some (m + 1)) {x:Operand} {xo:XO} (hx:opnd x = some xo) (ho:o.op = .convert s d x)
    (hs:uptrS ty (m + 1) xo tm h = .ok v h'):OpRes P o a κ h w v h':=by
  obtain ⟨u,h1,h2⟩:=withO_ok hs;have e1:=opnd_ok ht hx h1
  cases u <;> first | (simp at h2;done) | skip
  case nilptr =>
    simp only [Out.ok.injEq] at h2;obtain ⟨rfl,rfl⟩:=h2;refine .pure hr e1 ?_;simp only [VR] at e1;simp [execOp,ho,e1,convert,run_underlyingT hsrc,run_underlyingT hd,Conv.unsafePointer]
  case ptr p off =>
    cases off with
    | succ off=>simp at h2
    | zero =>
    have h2:uptrAt ty (m + 1) p h = .ok v h':=h2;obtain ⟨rfl,rfl,cs,hg,hlen⟩:=uptr_parts h2;refine .pure hr e1 ?_;simp only [VR] at e1;obtain ⟨q,e1,e3⟩:=e1;have hsh:=shape_row' hr e1 hg;have hob:=hr.obj p q e1;rw [hg] at hob;obtain ⟨arr,fr,g1,g2,g3,g4,g5,_⟩:=hob;obtain ⟨g6,g7⟩:=g5 rfl;rw [g6] at e3;have hn : ¬ (0 ≥ q.n):=by omega
    simp [execOp,ho,e3,convert,run_underlyingT hsrc,run_underlyingT hd,Conv.unsafePointer,Conv.seenAt,viewAt,cellsIn,hsh,run_sizeT hsz]
    try omega
theorem ptru_ok (hr:HR P κ h w) (ht:TR κ n tm a.tmps) {s d ty:TypeId} {m:Nat} (hsrc:P.underlying s = some .unsafePointer) (hd:P.underlying d = some (.pointer ty)) (hsz:szOf P ty = some (m + 1)) {x:Operand} {xo:XO} (hx:opnd x = some xo) (ho:o.op = .convert s d x)
    (hs:uptrS ty (m + 1) xo tm h = .ok v h'):OpRes P o a κ h w v h':=by
  obtain ⟨u,h1,h2⟩:=withO_ok hs;have e1:=opnd_ok ht hx h1
  cases u <;> first | (simp at h2;done) | skip
  case nilptr =>
    simp only [Out.ok.injEq] at h2;obtain ⟨rfl,rfl⟩:=h2;refine .pure hr e1 ?_;simp only [VR] at e1;simp [execOp,ho,e1,convert,run_underlyingT hsrc,run_underlyingT hd,Conv.unsafePointer]
  case ptr p off =>
    cases off with
    | succ off=>simp at h2
    | zero =>
    have h2:uptrAt ty (m + 1) p h = .ok v h':=h2;obtain ⟨rfl,rfl,cs,hg,hlen⟩:=uptr_parts h2;refine .pure hr e1 ?_;simp only [VR] at e1;obtain ⟨q,e1,e3⟩:=e1;have hsh:=shape_row' hr e1 hg;have hob:=hr.obj p q e1;rw [hg] at hob;obtain ⟨arr,fr,g1,g2,g3,g4,g5,_⟩:=hob;obtain ⟨g6,g7⟩:=g5 rfl;rw [g6] at e3;have hcells:P.cellsOf ty = m + 1:=by
      simp only [szOf] at hsz;simp [Program.cellsOf,hsz]
    have hq:q.n = m + 1:=by omega
    have hlies:liesAt P P.depth ty (q.n / P.cellsOf ty) 0 ty 1 = true:=by
      have hdp:P.depth = (2 * (P.types.size + Made.depth) + 1) + 1:=rfl;rw [hdp];simp only [liesAt,Bool.or_eq_true]
      left
      rw [hdp,hq,hcells,Nat.div_self (by omega)];simp [rowAt,hcells,sameLayout]
    simp [execOp,ho,e3,convert,run_underlyingT hsrc,run_underlyingT hd,Conv.unsafePointer,Conv.seenAt,viewAt,hsh,run_sizeT hsz,variablesAt,hlies]
theorem mark_ok (hr:HR P κ h w) (ht:TR κ n tm a.tmps) {s e:TypeId} (hsrc:P.underlying s = some (.slice e)) (he:P.underlying e = some (.int .u8)) {x:Operand} {xo:XO} (hx:opnd x = some xo) (ho:o.op = .convert s s x)
    (hs:markS xo tm h = .ok v h'):OpRes P o a κ h w v h':=by
  obtain ⟨u,h1,h2⟩:=withO_ok hs;have e1:=opnd_ok ht hx h1
  cases u <;> first | (simp at h2;done) | skip
  rename_i p off len cap
  have e1':=e1;simp only [VR] at e1;obtain ⟨q,ad,c,k1,k2,k3,k4,_⟩:=e1
  cases len with
  | zero=>simp at h2
  | succ len =>
  have h2:markAt p (.slice p off (len + 1) cap) h = .ok v h':=h2;simp only [markAt] at h2;have hob:=hr.obj p q k1
  cases hg:h.get p <;> rw [hg] at h2 hob <;> first | (simp at h2;done) | skip
  rename_i ty cs sp
  simp only [Heap.setK_eq,Out.ok.injEq] at h2;obtain ⟨rfl,rfl⟩:=h2
  rcases k4 with k4 | rfl
  · omega
  have hsh:=shape_row hr k1 hg;obtain ⟨arr,fr,g1,g2,g3,g4,g5,g6⟩:=hob;obtain ⟨lo,hi⟩:=fr;have hb:=(Array.getElem?_eq_some_iff.1 g1).1
  let fr':Nat × Nat:=if lo == hi then (q.n,q.n + 1) else (min lo q.n,max hi (q.n + 1))
  have hfz:(freeze ⟨q.b,q.n,none⟩ 1).run P w = .ok () (World.put w q.b (.cells arr ty fr')):=by
    simp only [freeze,Sem.run,World.freeze,Nat.one_ne_zero,if_false,World.put,Result.ok.injEq,true_and]
    congr 1
    apply Array.ext_getElem?
    intro i;rw [Array.getElem?_modify,Array.getElem?_setIfInBounds]
    by_cases hi':i = q.b
    · subst hi';have hget:w.heap[q.b] = .cells arr ty (lo,hi):=by rw [Array.getElem?_eq_getElem hb] at g1;exact Option.some.inj g1
      simp [hb,fr',hget]
    · have : ¬ q.b = i:=fun e=>hi' e.symm
      simp [this]
  refine .inl ⟨.value (.slice (some ⟨q.b,q.d + off,none⟩) (len + 1) c),_,κ,?_,.inl ⟨_,rfl,by rw [← k2];exact e1'⟩,Ext.update hr ⟨k1,by rw [hg];simp⟩ _ (.cells arr ty fr') ⟨arr,fr',put_heap_same _ _ _ hb,g2,g3,g4,g5,?_⟩⟩
  · simp only [execOp,ho,k2,convert,Sem.run_bind,run_underlyingT hsrc,run_underlyingT he,Result.andThen_ok,beq_self_eq_true,markStringish,hsh,hfz,Sem.run_pure]
  · by_cases hlh:lo = hi
    · right;simp [fr',hlh]
    · have:q.n ≤ lo:=by rcases g6 with g6 | g6 <;> simp at g6 <;> omega
      right;simp [fr',hlh];omega
theorem sdata_ok (hr:HR P κ h w) (ht:TR κ n tm a.tmps) {c:Call} (hc:c.callee = .builtin .unsafeSliceData) {x:Operand} {xo:XO} (hl:c.args.toList = [x]) (hx:opnd x = some xo) (ho:o.op = .call c) (hs:sdataS xo tm h = .ok v h'):OpRes P o a κ h w v h':=by
  obtain ⟨u,h1,h2⟩:=withO_ok hs;have e1:=opnd_ok ht hx h1
  cases u <;> first | (simp at h2;done) | skip
  case nilslice =>
    simp only [VR] at e1;simp only [Out.ok.injEq] at h2;obtain ⟨rfl,rfl⟩:=h2;refine .pure (v':=.pointer none) hr (by simp only [VR]) (run_builtinOp ho hc fun cs=>?_);have hargs:c.args.map a.eval = #[.slice none 0 0]:=by rw [args_eq hl];simp [e1]
    simp only [hargs,builtin,Sem.run_bind,Lib.run_unsafeSliceData_nil,Result.andThen_ok,Sem.run_pure]
  case slice p q len cap =>
    simp only [VR] at e1;obtain ⟨s,ad,c',k1,k2,k3,k4,_⟩:=e1
    cases len with
    | zero=>simp at h2
    | succ len =>
    simp only [Out.ok.injEq] at h2;obtain ⟨rfl,rfl⟩:=h2
    rcases k4 with k4 | rfl
    · omega
    refine .pure (v':=.pointer (some ⟨s.b,s.d + q,none⟩)) hr (by simp only [VR];exact ⟨s,k1,rfl⟩) (run_builtinOp ho hc fun cs=>?_);have hargs:c.args.map a.eval = #[.slice (some ⟨s.b,s.d + q,none⟩) (len + 1) c']:=by rw [args_eq hl];simp [k2]
    simp only [hargs,builtin,Sem.run_bind,Lib.run_unsafeSliceData_row w _ _ _ _ c' (by omega),Result.andThen_ok,Sem.run_pure]

theorem loadBytes_ok {b:Nat} {arr:Array Value} {ty:TypeId} {fr:Nat × Nat} (hg:w.heap[b]? = some (.cells arr ty fr)):∀ (ns:List Int) (off:Nat) (acc:ByteArray),(∀ j,j < ns.length→arr[off + j]? = (ns.map (Value.int .u8))[j]?) →
    (loadBytes ⟨b,off,none⟩ acc ns.length).run P w = .ok (ns.foldl (fun r n=>r.push (UInt8.ofNat n.toNat)) acc) w
  | [],off,acc,h=>rfl
  | x :: ns,off,acc,h=>by
    have h0:arr[off]? = some (.int .u8 x):=by simpa using h 0 (by simp)
    have ih:=loadBytes_ok hg ns (off + 1) (acc.push (UInt8.ofNat x.toNat)) (fun j hj=>by
      have:=h (j + 1) (by simp;omega);rw [show off + 1 + j = off + (j + 1) by omega,this];simp)
    simp only [List.length_cons,loadBytes,Sem.run_bind,run_load_at hg h0,Result.andThen_ok,add_none,List.foldl_cons];exact ih
theorem run_unsafeString {ts:Array TypeId} {ty pt e:TypeId} {k:IntKind} {b off m:Nat} (hT:ts[0]? = some pt) (hp:P.underlying pt = some (.pointer e)) (hm:0 < m) (hmax:m ≤ 140737488355328) (hv:(variablesAt ⟨b,off,none⟩ e m).run P w = .ok true w) {s:ByteArray}
    (hl:(loadBytes ⟨b,off,none⟩ .empty m).run P w = .ok s w) {w':World} (hf:(freeze ⟨b,off,none⟩ m).run P w = .ok () w') :
    (Builtin.unsafeString_ ts ty #[.pointer (some ⟨b,off,none⟩),.int k (Int.ofNat m)]).run P w = .ok (.string s) w':=by
  obtain ⟨s1,s2,s3,s4,hdef⟩:∃ s1 s2 s3 s4:String,Builtin.unsafeString_ ts ty #[.pointer (some ⟨b,off,none⟩),.int k (Int.ofNat m)] =
      (do
        let n ← asInt (.int k (Int.ofNat m))
        let some pt:=ts[0]? | stuck s1
        if n < 0 then runtimePanic (.error s2)
        if n > IntKind.i64.max then unsupported (.unsafePointer s3)
        if n = 0 then pure (.string .empty)
        else if ← variablesAt ⟨b,off,none⟩ (← elemOf pt) n.toNat then do
          let s ← loadBytes ⟨b,off,none⟩ .empty n.toNat
          freeze ⟨b,off,none⟩ n.toNat
          pure (.string s)
        else unsupported (.unsafePointer s4)):=⟨_,_,_,_,rfl⟩
  have h1 : ¬ Int.ofNat m < 0:=by simp
  have h2 : ¬ Int.ofNat m > IntKind.i64.max:=by
    have:IntKind.i64.max = 9223372036854775807:=rfl;rw [this];simp only [Int.ofNat_eq_natCast];omega
  have h3 : ¬ Int.ofNat m = 0:=by simp only [Int.ofNat_eq_natCast];omega
  have h4:(Int.ofNat m).toNat = m:=rfl;rw [hdef];simp only [asInt,asIntOf,Sem.run_bind,Sem.run_pure,Result.andThen_ok,hT,h1,h2,h3,if_false,h4,elemOf,run_underlyingT hp,hv,if_true,hl,hf]
theorem run_unsafeString_zero {ts:Array TypeId} {ty pt:TypeId} {k:IntKind} (hT:ts[0]? = some pt) (p:Option Addr):(Builtin.unsafeString_ ts ty #[.pointer p,.int k (Int.ofNat 0)]).run P w = .ok (.string .empty) w:=by
  have h2 : ¬ Int.ofNat 0 > IntKind.i64.max:=by decide
  have h1 : ¬ Int.ofNat 0 < 0:=by decide
  cases p with
  | none =>
    obtain ⟨s1,s2,s3,s4,hdef⟩:∃ s1 s2 s3 s4:String,Builtin.unsafeString_ ts ty #[.pointer none,.int k (Int.ofNat 0)] =
        (do
          let n ← asInt (.int k (Int.ofNat 0))
          let some pt:=ts[0]? | stuck s1
          if n < 0 then runtimePanic (.error s2)
          if n > IntKind.i64.max then unsupported (.unsafePointer s3)
          if n = 0 then pure (.string .empty)
          else runtimePanic (.error s4)):=⟨_,_,_,_,rfl⟩
    rw [hdef];simp only [asInt,asIntOf,Sem.run_bind,Sem.run_pure,Result.andThen_ok,hT,h1,h2,if_false];rfl
  | some ad =>
    obtain ⟨s1,s2,s3,s4,hdef⟩:∃ s1 s2 s3 s4:String,Builtin.unsafeString_ ts ty #[.pointer (some ad),.int k (Int.ofNat 0)] =
      (do
        let n ← asInt (.int k (Int.ofNat 0))
        let some pt:=ts[0]? | stuck s1
        if n < 0 then runtimePanic (.error s2)
        if n > IntKind.i64.max then unsupported (.unsafePointer s3)
        if n = 0 then pure (.string .empty)
        else if ← variablesAt ad (← elemOf pt) n.toNat then do
          let s ← loadBytes ad .empty n.toNat
          freeze ad n.toNat
          pure (.string s)
        else unsupported (.unsafePointer s4)):=⟨_,_,_,_,rfl⟩
    rw [hdef];simp only [asInt,asIntOf,Sem.run_bind,Sem.run_pure,Result.andThen_ok,hT,h1,h2,if_false];rfl
theorem ustring_ok (hr:HR P κ h w) (ht:TR κ n tm a.tmps) {c:Call} (hc:c.callee = .builtin .unsafeString) {pt e:TypeId} (hT:c.argTypes[0]? = some pt) (hp:P.underlying pt = some (.pointer e)) (hsz:szOf P e = some 1)
    {x y:Operand} {xo yo:XO} (hl:c.args.toList = [x,y]) (hx:opnd x = some xo) (hy:opnd y = some yo) (ho:o.op = .call c) (hs:ustringS e xo yo tm h = .ok v h'):OpRes P o a κ h w v h':=by
  obtain ⟨u,h1,h2⟩:=withO_ok hs;obtain ⟨k,m,h3,h4⟩:=withN_ok h2;have e1:=opnd_ok ht hx h1;have e2:=opnd_ok ht hy h3;simp only [VR] at e2;have hcells:P.cellsOf e = 1:=by
    simp only [szOf] at hsz;simp [Program.cellsOf,hsz]
  have nothing:∀ {p:Option Addr},a.eval x = .pointer p→m = 0→h' = h→v = .str []→OpRes P o a κ h w v h':=by
    rintro p e3 rfl rfl rfl;refine .pure (v':=.string .empty) hr (by simp only [VR];exact ⟨.empty,rfl,rfl⟩) (run_builtinOp ho hc fun cs=>?_);have hargs:c.args.map a.eval = #[.pointer p,.int k (Int.ofNat 0)]:=by rw [args_eq hl];simp [e3,e2]
    simp only [hargs,builtin,Sem.run_bind,run_unsafeString_zero hT,Result.andThen_ok,Sem.run_pure]
  cases u <;> first | (simp at h4;done) | skip
  case nilptr =>
    simp only [VR] at e1
    cases m with
    | succ m=>simp at h4
    | zero=>simp only [Out.ok.injEq] at h4;exact nothing e1 rfl h4.2.symm h4.1.symm
  case ptr p off =>
    simp only [VR] at e1;obtain ⟨q,e1,e3⟩:=e1
    cases m with
    | zero=>simp only [Out.ok.injEq] at h4;exact nothing e3 rfl h4.2.symm h4.1.symm
    | succ m =>
    have h4:ustringAt e p off (m + 1) h = .ok v h':=h4;simp only [ustringAt] at h4;have hob:=hr.obj p q e1
    cases hg:h.get p <;> rw [hg] at h4 hob <;> first | (simp at h4;done) | skip
    rename_i ty cs sp
    have hsh:=shape_row' hr e1 hg;obtain ⟨arr,fr,g1,g2,g3,g4,g5,g6⟩:=hob;dsimp only at h4
    cases c1:Nat.beq ty e <;> cases c2:Nat.ble (m + 1) 140737488355328 <;> cases c3:sub cs off (m + 1) <;> rw [c1,c2,c3] at h4 <;> simp only [reduceCtorEq] at h4
    rename_i l
    have c1:=beq_iff'.1 c1;subst c1;have c2:=ble_iff.1 c2;obtain ⟨c4,rfl⟩:=sub_some c3
    cases hb:bytesOf ((cs.drop off).take (m + 1)) with
    | none=>rw [hb] at h4;simp at h4
    | some bs =>
    rw [hb] at h4;simp only [Heap.setK_eq,Out.ok.injEq] at h4;obtain ⟨rfl,rfl⟩:=h4;obtain ⟨vs,r1,r2,r3,r4,r5⟩:=g4.read off (m + 1) c4;obtain ⟨ns,rfl,f2⟩:=bytesOf_ok r2 hb;have hnl:ns.length = m + 1:=by simpa using r1
    have hload:=loadBytes_ok (P:=P) g1 ns (q.d + off) .empty (fun j hj=>by rw [Nat.add_assoc];exact r5 j (by omega));rw [hnl] at hload;have hvars:(variablesAt ⟨q.b,q.d + off,none⟩ ty (m + 1)).run P w = .ok true w:=by
      have hlies:liesAt P P.depth ty (q.n / P.cellsOf ty) (q.d + off) ty (m + 1) = true:=by
        have hdp:P.depth = (2 * (P.types.size + Made.depth) + 1) + 1:=rfl;rw [hdp];simp only [liesAt,Bool.or_eq_true]
        left
        rw [hdp,hcells,Nat.div_one];have:q.d + off + (m + 1) ≤ q.n:=by omega
        simp [rowAt,hcells,sameLayout,Nat.mod_one,this]
      simp [variablesAt,hsh,hlies]
    have hbk:=(Array.getElem?_eq_some_iff.1 g1).1;obtain ⟨lo,hi⟩:=fr
    let fr':Nat × Nat:=if lo == hi then (q.d + off,q.d + off + (m + 1)) else (min lo (q.d + off),max hi (q.d + off + (m + 1)))
    have hfz:(freeze ⟨q.b,q.d + off,none⟩ (m + 1)).run P w = .ok () (World.put w q.b (.cells arr ty fr')):=by
      simp only [freeze,Sem.run,World.freeze,Nat.add_one_ne_zero,if_false,World.put,Result.ok.injEq,true_and]
      congr 1
      apply Array.ext_getElem?
      intro i;rw [Array.getElem?_modify,Array.getElem?_setIfInBounds]
      by_cases hi':i = q.b
      · subst hi';have hget:w.heap[q.b] = .cells arr ty (lo,hi):=by rw [Array.getElem?_eq_getElem hbk] at g1;exact Option.some.inj g1
        simp [hbk,fr',hget]
      · have : ¬ q.b = i:=fun e=>hi' e.symm
        simp [this]
    refine .inl ⟨.value (.string (ns.foldl (fun r n=>r.push (UInt8.ofNat n.toNat)) ByteArray.empty)),_,κ,run_builtinOp ho hc fun cs=>?_,.inl ⟨_,rfl,?_⟩,Ext.update hr ⟨e1,by rw [hg];simp⟩ .dead (.cells arr ty fr') trivial⟩
    · have hargs:c.args.map a.eval = #[.pointer (some ⟨q.b,q.d + off,none⟩),.int k (Int.ofNat (m + 1))]:=by rw [args_eq hl];simp [e3,e2]
      simp only [hargs,builtin,Sem.run_bind,run_unsafeString hT hp (by omega) c2 hvars hload hfz,Result.andThen_ok,Sem.run_pure]
    · simp only [VR];refine ⟨_,rfl,?_⟩;rw [push_bytes,← f2];simp
end
end Go.X
