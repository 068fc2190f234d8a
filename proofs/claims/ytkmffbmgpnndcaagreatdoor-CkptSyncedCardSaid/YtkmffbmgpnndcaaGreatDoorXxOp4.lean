/- The instructions of X against the model's operations, 4: binary operations and equality as operations; unary ones, conversions of numbers. -/
import Derived.Test.YtkmffbmgpnndcaaGreatDoorXxOp1
import Derived.Laws.StructEq
namespace Go.X
open Go

section
variable {P:Program} {κ:Kp} {h h':Heap} {w:World} {n:Nat} {tm:Tm} {a:Act} {o:Oper} {v:AV}

theorem easy_int {k:IntKind} {x:Int}:Easy (.int k x):=⟨by simp,by simp⟩
theorem easy_str {s:ByteArray}:Easy (.string s):=⟨by simp,by simp⟩
theorem run_binOper {op:BinOp} {t yt:TypeId} {x y:Operand} (ho:o.op = .binOp op t x y yt) {v':Value} (hg:(eqGuard op t x y (a.eval x) (a.eval y)).run P w = .ok () w) (hb:(Go.binOp op t (a.eval x) (a.eval y)).run P w = .ok v' w) :
    (execOp a.eval o).run P w = .ok (.value v') w:=by simp [execOp,ho,hg,hb]
theorem bin_ok (hr:HR P κ h w) (ht:TR κ n tm a.tmps) {op:BinOp} {b:XB} (hb:binK op = some b) {t yt:TypeId} {x y:Operand} {xo yo:XO} (hx:opnd x = some xo) (hy:opnd y = some yo)
    (ho:o.op = .binOp op t x y yt) (hs:binS b xo yo tm h = .ok v h'):OpRes P o a κ h w v h':=by
  obtain ⟨u,h1,h2⟩:=withO_ok hs;obtain ⟨c,h3,h4⟩:=withO_ok h2;have e1:=opnd_ok ht hx h1;have e2:=opnd_ok ht hy h3;have fin:Easy (a.eval x)→(h' = h∧∃ v',(Go.binOp op t (a.eval x) (a.eval y)).run P w = .ok v' w∧VR κ v v')→OpRes P o a κ h w v h':=by
    rintro he ⟨rfl,v',h5,h6⟩;exact .pure hr h6 (run_binOper ho (guard_easy he) h5)
  cases u <;> cases c <;> first | (simp [binVV] at h4;done) | skip
  case int.int k z k' z' =>
    simp only [VR] at e1 e2;rw [e1,e2] at fin;refine fin easy_int ?_
    by_cases hb1:b = .shl
    · subst hb1;have:op = .shl:=by cases op <;> simp [binK] at hb ⊢
      subst this;exact shl_ok t h4
    · by_cases hb2:b = .shr
      · subst hb2;have:op = .shr:=by cases op <;> simp [binK] at hb ⊢
        subst this;exact shr_ok t h4
      · have h5:(match sameK k k' with | true=>binII b k z z' | false=>fun _=>.bad) h = .ok v h':=by
          cases b <;> first | (exact absurd rfl hb1) | (exact absurd rfl hb2) | exact h4
        cases hk:sameK k k' with
        | false=>rw [hk] at h5;simp at h5
        | true =>
          rw [hk] at h5;have:=(sameK_iff k k').1 hk;subst this;exact binII_ok hb hb1 hb2 t h5
  case str.str l l' =>
    simp only [VR] at e1 e2;obtain ⟨s,e1,rfl⟩:=e1;obtain ⟨s',e2,rfl⟩:=e2;rw [e1,e2] at fin;exact fin easy_str (binSS_ok hb t h4)

def fits (P:Program) (t:TypeId):SK→Prop
  | .bool=>P.underlying t = some .bool
  | .int=>∃ k,P.underlying t = some (.int k)
  | .str=>P.underlying t = some .string
  | .ptr=>∃ e s,P.underlying t = some (.pointer e)∧(P.info? e).map (·.size) = some (s + 1)
  | .slice=>∃ e,P.underlying t = some (.slice e)
  | .map=>∃ k e,P.underlying t = some (.map k e)
  | .func=>∃ x y z,P.underlying t = some (.func x y z)
  | .iface=>∃ ms,P.underlying t = some (.interface ms)
set_option maxHeartbeats 1000000 in
theorem equalIn_ok {t:TypeId} {k:SK} (hf:fits P t k) {x y:AV} {r:Bool} (hs:sameV k x y = some r) {x' y':Value} (hx:VR κ x x') (hy:VR κ y y') (d:Nat):(Op.equalIn (d + 1) t x' y').run P w = .ok r w:=by
  cases k <;> simp only [fits] at hf <;> simp only [sameV] at hs
  case bool =>
    cases x <;> cases y <;> simp only [sameBool,sJ,reduceCtorEq] at hs
    simp only [VR] at hx hy;subst hx;subst hy;subst hs
    rename_i b c
    simp only [Op.equalIn,underlying,Sem.run_bind,run_program,Result.andThen_ok,hf,Sem.run_pure]
    cases b <;> cases c <;> rfl
  case int =>
    obtain ⟨k,hf⟩:=hf
    cases x <;> cases y <;> simp only [sameInt,reduceCtorEq] at hs
    rename_i k1 a k2 b
    cases hk:sameK k1 k2 with
    | false=>rw [hk] at hs;simp at hs
    | true =>
      rw [hk] at hs;have:=(sameK_iff _ _).1 hk;subst this;simp only [sJ] at hs;simp only [VR] at hx hy;subst hx;subst hy;subst hs;simp only [Op.equalIn,underlying,Sem.run_bind,run_program,Result.andThen_ok,hf,Sem.run_pure,if_true,eqI_eq];rfl
  case str =>
    cases x <;> cases y <;> simp only [sameStr,sJ,reduceCtorEq] at hs
    simp only [VR] at hx hy;obtain ⟨s,rfl,rfl⟩:=hx;obtain ⟨s',rfl,rfl⟩:=hy;subst hs;simp only [Op.equalIn,underlying,Sem.run_bind,run_program,Result.andThen_ok,hf,Sem.run_pure,beqN_map]
    congr 1
    rw [beq_toListBytes,ByteArray.toList_eq,ByteArray.toList_eq]
  case ptr =>
    obtain ⟨e,s,hf,hsz⟩:=hf
    cases x <;> cases y <;> simp only [samePtr,sJ,reduceCtorEq] at hs
    case ptr.ptr p i q j =>
      simp only [VR] at hx hy;obtain ⟨u,hu,rfl⟩:=hx;obtain ⟨u',hu',rfl⟩:=hy
      cases hpq:p.beq q with
      | false=>rw [hpq] at hs;simp at hs
      | true =>
        rw [hpq] at hs;have:=Pos.beq_iff.1 hpq;subst this;rw [hu] at hu';simp only [sJ] at hu';subst hu';simp only [sJ] at hs;subst hs;obtain ⟨i0,hi0,hi1⟩:=Option.map_eq_some_iff.1 hsz;simp only [Op.equalIn,underlying,Sem.run_bind,run_program,Result.andThen_ok,hf,Sem.run_pure,sizeOf,typeInfo,hi0,hi1];simp only [ne_eq,Nat.add_eq_zero_iff,Nat.succ_ne_self,and_false,not_false_eq_true,if_true,sameAddr,beq_self_eq_true,Sem.run_pure,beq_dec]
        by_cases hij:i = j
        · subst hij;simp
        · simp [hij]
    all_goals
      simp only [VR] at hx hy
      first
        | (obtain ⟨u,_,rfl⟩:=hx;subst hy;subst hs;simp only [Op.equalIn,underlying,Sem.run_bind,run_program,Result.andThen_ok,hf,Sem.run_pure];try rfl)
        | (obtain ⟨u,_,rfl⟩:=hy;subst hx;subst hs;simp only [Op.equalIn,underlying,Sem.run_bind,run_program,Result.andThen_ok,hf,Sem.run_pure];try rfl)
        | (obtain ⟨u,_,_,_,rfl,_⟩:=hx;subst hy;subst hs;simp only [Op.equalIn,underlying,Sem.run_bind,run_program,Result.andThen_ok,hf,Sem.run_pure];try rfl)
        | (obtain ⟨u,_,_,_,rfl,_⟩:=hy;subst hx;subst hs;simp only [Op.equalIn,underlying,Sem.run_bind,run_program,Result.andThen_ok,hf,Sem.run_pure];try rfl)
        | (subst hx;subst hy;subst hs;simp only [Op.equalIn,underlying,Sem.run_bind,run_program,Result.andThen_ok,hf,Sem.run_pure];try rfl)
  case slice =>
    obtain ⟨e,hf⟩:=hf
    cases x <;> cases y <;> simp only [sameSlice,sJ,reduceCtorEq] at hs
    all_goals
      simp only [VR] at hx hy
      first
        | (obtain ⟨u,_,_,_,rfl,_⟩:=hx;subst hy;subst hs;simp only [Op.equalIn,underlying,Sem.run_bind,run_program,Result.andThen_ok,hf,Sem.run_pure];try rfl)
        | (obtain ⟨u,_,_,_,rfl,_⟩:=hy;subst hx;subst hs;simp only [Op.equalIn,underlying,Sem.run_bind,run_program,Result.andThen_ok,hf,Sem.run_pure];try rfl)
        | (obtain ⟨u,_,rfl,_⟩:=hx;subst hy;subst hs;simp only [Op.equalIn,underlying,Sem.run_bind,run_program,Result.andThen_ok,hf,Sem.run_pure];try rfl)
        | (obtain ⟨u,_,rfl,_⟩:=hy;subst hx;subst hs;simp only [Op.equalIn,underlying,Sem.run_bind,run_program,Result.andThen_ok,hf,Sem.run_pure];try rfl)
        | (subst hx;subst hy;subst hs;simp only [Op.equalIn,underlying,Sem.run_bind,run_program,Result.andThen_ok,hf,Sem.run_pure];try rfl)
  case map =>
    obtain ⟨e,e',hf⟩:=hf
    cases x <;> cases y <;> simp only [sameMap,sJ,reduceCtorEq] at hs
    all_goals
      simp only [VR] at hx hy
      first
        | (obtain ⟨u,_,rfl⟩:=hx;subst hy;subst hs;simp only [Op.equalIn,underlying,Sem.run_bind,run_program,Result.andThen_ok,hf,Sem.run_pure];try rfl)
        | (obtain ⟨u,_,rfl⟩:=hy;subst hx;subst hs;simp only [Op.equalIn,underlying,Sem.run_bind,run_program,Result.andThen_ok,hf,Sem.run_pure];try rfl)
        | (subst hx;subst hy;subst hs;simp only [Op.equalIn,underlying,Sem.run_bind,run_program,Result.andThen_ok,hf,Sem.run_pure];try rfl)
  case func =>
    obtain ⟨e,e',e'',hf⟩:=hf
    cases x <;> cases y <;> simp only [sameFunc,sJ,reduceCtorEq] at hs
    all_goals
      simp only [VR] at hx hy
      first
        | (obtain ⟨u,_,rfl,_⟩:=hx;subst hy;subst hs;simp only [Op.equalIn,underlying,Sem.run_bind,run_program,Result.andThen_ok,hf,Sem.run_pure];try rfl)
        | (obtain ⟨u,_,rfl,_⟩:=hy;subst hx;subst hs;simp only [Op.equalIn,underlying,Sem.run_bind,run_program,Result.andThen_ok,hf,Sem.run_pure];try rfl)
        | (subst hx;subst hy;subst hs;simp only [Op.equalIn,underlying,Sem.run_bind,run_program,Result.andThen_ok,hf,Sem.run_pure];try rfl)
  case iface =>
    obtain ⟨e,hf⟩:=hf
    cases x <;> cases y <;> simp only [sameIface,sJ,reduceCtorEq] at hs
    all_goals
      simp only [VR] at hx hy
      first
        | (obtain ⟨u,rfl,_⟩:=hx;subst hy;subst hs;simp only [Op.equalIn,underlying,Sem.run_bind,run_program,Result.andThen_ok,hf,Sem.run_pure];try rfl)
        | (obtain ⟨u,rfl,_⟩:=hy;subst hx;subst hs;simp only [Op.equalIn,underlying,Sem.run_bind,run_program,Result.andThen_ok,hf,Sem.run_pure];try rfl)
        | (subst hx;subst hy;subst hs;simp only [Op.equalIn,underlying,Sem.run_bind,run_program,Result.andThen_ok,hf,Sem.run_pure];try rfl)

def eqlOf:Bool→BinOp
  | false=>.eql
  | true=>.neq
theorem run_eqlOf (neg:Bool) {t:TypeId} {x y:Value} {r:Bool} (hb:∀ op:BinOp,(op = .eql→Go.binOp op t x y = do pure (.bool (← Op.equal t x y)))∧(op = .neq→Go.binOp op t x y = do pure (.bool !(← Op.equal t x y))))
    (he:(Op.equal t x y).run P w = .ok r w):(Go.binOp (eqlOf neg) t x y).run P w = .ok (.bool (negIf neg r)) w:=by
  cases neg with
  | false=>simp only [eqlOf];rw [(hb .eql).1 rfl];simp [he,negIf]
  | true=>rw [eqlOf,(hb .neq).2 rfl];simp only [Sem.run_bind,he,Result.andThen_ok,Sem.run_pure,negIf];cases r <;> rfl
def Plain (v:Value):Prop:=(∃ b,v = .bool b)∨(∃ a,v = .pointer a)∨(∃ a l c,v = .slice a l c)∨(∃ m,v = .map m)∨(∃ f x y,v = .func f x y)∨v = .nilFunc∨v = .nilIface∨(∃ t x,v = .iface t x)
theorem plain_ok {k:SK} (hk:k ≠ .int) (hk':k ≠ .str) {x y:AV} {r:Bool} (hs:sameV k x y = some r) {x' y':Value} (hx:VR κ x x') (hy:VR κ y y'):Plain x'∧Plain y':=by
  have hp:∀ {z:AV} {z':Value},VR κ z z'→(∀ kd n,z ≠ .int kd n)→(∀ l,z ≠ .str l)→z ≠ .any→z.one = true→Plain z':=by
    intro z z' hz h1 h2 h3 h4
    cases z <;> simp only [VR] at hz <;> simp only [Plain]
    case any=>exact absurd rfl h3
    case int=>exact absurd rfl (h1 _ _)
    case str=>exact absurd rfl (h2 _)
    case agg=>simp [AV.one] at h4
    case tuple=>simp [AV.one] at h4
    case bool=>subst hz;simp
    case nilptr=>subst hz;simp
    case ptr=>obtain ⟨_,_,rfl⟩:=hz;simp
    case gptr=>subst hz;simp
    case iptr=>obtain ⟨_,_,_,_,rfl,_⟩:=hz;simp
    case nilslice=>subst hz;simp
    case slice=>obtain ⟨_,_,_,_,rfl,_⟩:=hz;simp
    case imm=>obtain ⟨_,_,rfl,_⟩:=hz;simp
    case nilmap=>subst hz;simp
    case map=>obtain ⟨_,_,rfl⟩:=hz;simp
    case nilfunc=>subst hz;simp
    case func=>obtain ⟨_,_,rfl,_⟩:=hz;simp
    case yield=>obtain ⟨_,_,rfl⟩:=hz;simp
    case niliface=>subst hz;simp
    case iface=>obtain ⟨_,rfl,_⟩:=hz;simp
  have hone:∀ {x y:AV},sameV k x y = some r→(∀ kd n,x ≠ .int kd n)∧(∀ l,x ≠ .str l)∧x ≠ .any∧x.one = true∧(∀ kd n,y ≠ .int kd n)∧(∀ l,y ≠ .str l)∧y ≠ .any∧y.one = true:=by
    intro x y e
    cases k <;> first | (exact absurd rfl hk) | (exact absurd rfl hk') | skip
    all_goals
      simp only [sameV] at e
      cases x <;> cases y <;> first | (simp [sameBool,samePtr,sameSlice,sameMap,sameFunc,sameIface] at e;done) | simp [AV.one]
  obtain ⟨a1,a2,a3,a4,b1,b2,b3,b4⟩:=hone hs;exact ⟨hp hx a1 a2 a3 a4,hp hy b1 b2 b3 b4⟩
theorem binOp_plain {t:TypeId} {x y:Value} (hx:Plain x) (hy:Plain y) (op:BinOp):(op = .eql→Go.binOp op t x y = do pure (.bool (← Op.equal t x y)))∧(op = .neq→Go.binOp op t x y = do pure (.bool !(← Op.equal t x y))):=by
  constructor <;> rintro rfl <;>
  rcases hx with ⟨_,rfl⟩ | ⟨_,rfl⟩ | ⟨_,_,_,rfl⟩ | ⟨_,rfl⟩ | ⟨_,_,_,rfl⟩ | rfl | rfl | ⟨_,_,rfl⟩ <;>
  rcases hy with ⟨_,rfl⟩ | ⟨_,rfl⟩ | ⟨_,_,_,rfl⟩ | ⟨_,rfl⟩ | ⟨_,_,_,rfl⟩ | rfl | rfl | ⟨_,_,rfl⟩ <;> rfl
theorem same_ok (hr:HR P κ h w) (ht:TR κ n tm a.tmps) {k:SK} (hk:k ≠ .int) (hk':k ≠ .str) {neg:Bool} {t yt:TypeId} (hf:fits P t k) {x y:Operand} {xo yo:XO} (hx:opnd x = some xo) (hy:opnd y = some yo)
    (hnil:k = .iface→isNilC x = true∨isNilC y = true) (ho:o.op = .binOp (eqlOf neg) t x y yt) (hs:sameS neg k xo yo tm h = .ok v h'):OpRes P o a κ h w v h':=by
  obtain ⟨u,h1,h2⟩:=withO_ok hs;obtain ⟨c,h3,h4⟩:=withO_ok h2;have e1:=opnd_ok ht hx h1;have e2:=opnd_ok ht hy h3
  cases hv:sameV k u c with
  | none=>rw [hv] at h4;simp at h4
  | some r =>
    rw [hv] at h4;simp only [okB,Out.ok.injEq] at h4;obtain ⟨rfl,rfl⟩:=h4;obtain ⟨p1,p2⟩:=plain_ok hk hk' hv e1 e2;have he:=equalIn_ok (P:=P) (w:=w) hf hv e1 e2 9999;refine .pure (v':=.bool (negIf neg r)) hr (by simp only [VR]) (run_binOper ho ?_ (run_eqlOf neg (binOp_plain p1 p2) he));have hg:∀ {b c:Value},Plain b→Plain c→(b = .nilIface→c = .nilIface→isNilC x = true∨isNilC y = true)→(eqGuard (eqlOf neg) t x y b c).run P w = .ok () w:=by
      intro b c p1 p2 p3
      cases neg <;>
      (rcases p1 with ⟨_,rfl⟩ | ⟨_,rfl⟩ | ⟨_,_,_,rfl⟩ | ⟨_,rfl⟩ | ⟨_,_,_,rfl⟩ | rfl | rfl | ⟨_,_,rfl⟩ <;> first | (simp [eqGuard,eqlOf];done) | skip) <;>
      (rcases p2 with ⟨_,rfl⟩ | ⟨_,rfl⟩ | ⟨_,_,_,rfl⟩ | ⟨_,rfl⟩ | ⟨_,_,_,rfl⟩ | rfl | rfl | ⟨_,_,rfl⟩ <;> first | (simp [eqGuard,eqlOf];done) | skip) <;>
      (have hp:=p3 rfl rfl;cases x <;> cases y <;> first | (simp [isNilC] at hp;done) | simp [eqGuard,eqlOf])
    refine hg p1 p2 fun q q'=>?_
    have hki:k = .iface:=by
      rw [q] at e1
      cases k <;> first | rfl | (simp only [fits] at hf;exfalso;cases u <;> simp only [VR] at e1 <;> first | (simp [sameV,sameBool,samePtr,sameSlice,sameMap,sameFunc,sameInt,sameStr] at hv;done) | (simp at e1;done) | (obtain ⟨_,_,e1⟩:=e1;simp at e1;done) | (obtain ⟨_,_,e1,_⟩:=e1;simp at e1;done) | (obtain ⟨_,_,_,_,e1,_⟩:=e1;simp at e1;done))
    exact hnil hki
theorem un_ok (hr:HR P κ h w) (ht:TR κ n tm a.tmps) {u:UnOp} {xu:XU} (hu:(u = .neg∧xu = .neg)∨(u = .xor∧xu = .xor)∨(u = .not∧xu = .not)) {t:TypeId} {x:Operand} {xo:XO} (hx:opnd x = some xo)
    (ho:o.op = .unOp u t x) (hs:unS xu xo tm h = .ok v h'):OpRes P o a κ h w v h':=by
  rcases hu with ⟨rfl,rfl⟩ | ⟨rfl,rfl⟩ | ⟨rfl,rfl⟩ <;> simp only [unS] at hs
  · obtain ⟨k,m,h1,h2⟩:=withI_ok hs;have e:=opnd_ok ht hx h1;simp only [VR] at e;simp only [okI,Out.ok.injEq] at h2;obtain ⟨rfl,rfl⟩:=h2;exact .pure (v':=.int k (k.wrap (0 - m))) hr (by simp only [VR,wrapF_eq]) (by simp [execOp,ho,e,Op.unary,Op.intArith])
  · obtain ⟨k,m,h1,h2⟩:=withI_ok hs;have e:=opnd_ok ht hx h1;simp only [VR] at e;simp only [okI,Out.ok.injEq] at h2;obtain ⟨rfl,rfl⟩:=h2;exact .pure (v':=.int k (k.wrap (BitVec.ofInt k.bits (if k.signed then -1 else k.max) ^^^ BitVec.ofInt k.bits m).toNat)) hr (by simp only [VR,slowBits]) (by simp [execOp,ho,e,Op.unary,Op.intBits])
  · obtain ⟨b,h1,h2⟩:=withB_ok hs;have e:=opnd_ok ht hx h1;simp only [VR] at e;simp only [okB,Out.ok.injEq] at h2;obtain ⟨rfl,rfl⟩:=h2;exact .pure (v':=.bool !b) hr (by simp only [VR];cases b <;> rfl) (by simp [execOp,ho,e,Op.unary])
end
end Go.X

/- The instructions of X against the model's operations,5: conversions of numbers,parts,addresses,slices of strings,slices and arrays,type assertions,lengths. -/
namespace Go.X
open Go

section
variable {P:Program} {κ:Kp} {h h':Heap} {w:World} {n:Nat} {tm:Tm} {a:Act} {o:Oper} {v:AV}

/-! ### types -/
theorem run_underlyingT {t:TypeId} {d:TypeDesc} (h:P.underlying t = some d):(Go.underlying t).run P w = .ok d w:=by
  simp only [Go.underlying,Sem.run_bind,run_program,Result.andThen_ok,h,Sem.run_pure]
theorem run_sizeT {t:TypeId} {s:Nat} (h:szOf P t = some s):(sizeOf t).run P w = .ok s w:=by
  simp only [szOf,Option.map_eq_some_iff] at h;obtain ⟨i,h1,h2⟩:=h;simp only [sizeOf,typeInfo,Sem.run_bind,run_program,Result.andThen_ok,h1,Sem.run_pure,h2]
theorem run_zeroT {t:TypeId} {z:AV} (h:zeroOf P t = some z):∃ v,(∀ w,(zeroValue t).run P w = .ok v w)∧∀ κ,VR κ z v:=by
  simp only [zeroOf,bJ] at h;obtain ⟨v,⟨i,h1,h2⟩,h3⟩:=h;refine ⟨v,fun w=>?_,fun κ=>avOf_ok κ 4 v z h3⟩;simp only [zeroValue,typeInfo,Sem.run_bind,run_program,Result.andThen_ok,h1,Sem.run_pure,h2]
theorem run_isAggT {t:TypeId} {b:Bool} (h:isAggT P t = some b):(isAgg t).run P w = .ok b w:=by
  simp only [isAggT,Option.map_eq_some_iff] at h;obtain ⟨d,h1,h2⟩:=h;simp only [isAgg,Sem.run_bind,run_underlyingT h1,Result.andThen_ok]
  cases d <;> first | (subst h2;rfl) | rfl
theorem aggN_none {t:TypeId} (h:aggN P t = some none):isAggT P t = some false:=by
  simp only [aggN,Option.bind_eq_bind,bJ] at h;obtain ⟨b,h1,h2⟩:=h
  cases b with
  | false=>exact h1
  | true=>cases e:szOf P t <;> rw [e] at h2 <;> simp at h2
theorem aggN_some {t:TypeId} {s:Nat} (h:aggN P t = some (some s)):isAggT P t = some true∧szOf P t = some s:=by
  simp only [aggN,Option.bind_eq_bind,bJ] at h;obtain ⟨b,h1,h2⟩:=h
  cases b with
  | false=>simp at h2
  | true =>
    refine ⟨h1,?_⟩;simp only [if_true] at h2
    cases hs:szOf P t with
    | none=>rw [hs] at h2;simp at h2
    | some q=>rw [hs] at h2;simpa using h2
theorem add_none (b o n:Nat):(⟨b,o,none⟩:Addr).add n = ⟨b,o + n,none⟩:=by unfold Addr.add;split <;> simp_all
theorem Addr.eta_none {x:Addr} (h:x.spot = none):x = ⟨x.block,x.off,none⟩:=by cases x;simp_all
theorem ble_iff {a b:Nat}:Nat.ble a b = true ↔ a ≤ b:=by rw [Nat.ble_eq]
theorem ble_not {a b:Nat} (h:Nat.ble a b = false):b < a:=by
  by_cases h':a ≤ b
  · rw [ble_iff.2 h'] at h;simp at h
  · omega
theorem beq_iff' {a b:Nat}:Nat.beq a b = true ↔ a = b:=by rw [Nat.beq_eq]

/-! ### parts -/
theorem part_ok {t:TypeId} {m:Option Nat} (hm:aggN P t = some m) {cs:List AV} {vs:Array Value} (hl:VRl κ cs vs.toList) (hone:cs.all AV.one = true) {off:Nat} (hs:partOf cs off m h = .ok v h') :
    h' = h∧∃ v',(part t vs off).run P w = .ok v' w∧VR κ v v':=by
  obtain ⟨hlen,hat⟩:=VRl_iff.1 hl
  cases m with
  | none =>
    have e:=run_isAggT (w:=w) (aggN_none hm);simp only [partOf,nth_eq] at hs
    cases hc:cs[off]? with
    | none=>rw [hc] at hs;simp at hs
    | some c =>
      have hs':Out.ok c h = .ok v h':=by rw [hc] at hs;cases c <;> first | exact hs | (simp at hs;done)
      simp only [Out.ok.injEq] at hs';obtain ⟨rfl,rfl⟩:=hs';have hi:off < cs.length:=(List.getElem?_eq_some_iff.1 hc).1;have hV:vs.toList[off]? = some vs.toList[off]:=List.getElem?_eq_getElem (by omega);refine ⟨rfl,vs.toList[off],?_,hat off c _ hc hV⟩;simp only [Array.getElem?_toList] at hV;simp only [part,Sem.run_bind,e,Result.andThen_ok,Bool.false_eq_true,if_false,hV,Sem.run_pure]
  | some s =>
    obtain ⟨e1,e2⟩:=aggN_some hm;have e:=run_isAggT (w:=w) e1;simp only [partOf] at hs
    cases hc:sub cs off s with
    | none=>rw [hc] at hs;simp at hs
    | some l =>
      rw [hc] at hs;simp only [Out.ok.injEq] at hs;obtain ⟨rfl,rfl⟩:=hs;obtain ⟨h1,h2⟩:=sub_some hc;refine ⟨rfl,.agg (vs.extract off (off + s)),?_,?_⟩
      · simp only [part,Sem.run_bind,e,Result.andThen_ok,if_true,run_sizeT e2,Sem.run_pure]
      · simp only [VR];refine ⟨_,rfl,?_,?_⟩
        · subst h2;rw [List.all_eq_true] at hone ⊢;exact fun x hx=>hone x (List.mem_of_mem_drop (List.mem_of_mem_take hx))
        · subst h2;refine VRl_iff.2 ⟨?_,fun i c x hc hx=>?_⟩
          · simp at hlen ⊢;omega
          · simp only [List.getElem?_take] at hc
            split at hc
            · rw [List.getElem?_drop] at hc;refine hat (off + i) c x hc ?_;rw [Array.getElem?_toList,Array.getElem?_extract] at hx
              split at hx
              · rw [Array.getElem?_toList];exact hx
              · simp at hx
            · simp at hc

/-! ### numbers,parts -/
theorem conv_ok (hr:HR P κ h w) (ht:TR κ n tm a.tmps) {s d:TypeId} {k ks:IntKind} (hsrc:P.underlying s = some (.int ks)) (hd:P.underlying d = some (.int k)) {x:Operand} {xo:XO} (hx:opnd x = some xo) (ho:o.op = .convert s d x)
    (hs:convS k xo tm h = .ok v h'):OpRes P o a κ h w v h':=by
  obtain ⟨kd,m,h1,h2⟩:=withI_ok hs;have e:=opnd_ok ht hx h1;simp only [VR] at e;simp only [okI,Out.ok.injEq] at h2;obtain ⟨rfl,rfl⟩:=h2;refine .pure (v':=.int k (k.wrap m)) hr (by simp only [VR,wrapF_eq]) ?_;simp only [execOp,ho,e,convert,Sem.run_bind,run_underlyingT hsrc,run_underlyingT hd,Result.andThen_ok,Conv.intToInt,Sem.run_pure]
theorem fieldOf_some {t:TypeId} {i:Nat} {f:Field} (h:fieldOf P t i = some f):∃ fs,P.underlying t = some (.struct fs)∧fs[i]? = some f:=by
  simp only [fieldOf] at h
  split at h
  · rename_i fs hfs;exact ⟨fs,hfs,h⟩
  · simp at h
theorem fld_ok (hr:HR P κ h w) (ht:TR κ n tm a.tmps) {t:TypeId} {i:Nat} {f:Field} (hf:fieldOf P t i = some f) {m:Option Nat} (hm:aggN P f.type = some m) {x:Operand} {xo:XO} (hx:opnd x = some xo) (ho:o.op = .field t x i)
    (hs:fldS f.offset m xo tm h = .ok v h'):OpRes P o a κ h w v h':=by
  obtain ⟨y,h1,h2⟩:=withO_ok hs;have e:=opnd_ok ht hx h1
  cases y <;> first | (simp at h2;done) | skip
  simp only [VR] at e;obtain ⟨vs,e1,e2,e3⟩:=e;obtain ⟨rfl,v',e4,e5⟩:=part_ok (w:=w) hm e3 e2 h2;obtain ⟨fs,e6,e7⟩:=fieldOf_some hf;refine .pure hr e5 ?_;simp only [execOp,ho,e1,Instr.field,Sem.run_bind,run_underlyingT e6,Result.andThen_ok,e7,asAgg,Sem.run_pure,e4]

theorem ptrAdd_ok {y:AV} {y':Value} (hy:VR κ y y') {m:Nat} (hs:ptrAdd y m h = .ok v h'):h' = h∧∃ b,y' = .pointer (some b)∧VR κ v (.pointer (some (b.add m))):=by
  cases y <;> first | (simp [ptrAdd] at hs;done) | skip
  case ptr p q =>
    simp only [ptrAdd,Out.ok.injEq] at hs;obtain ⟨rfl,rfl⟩:=hs;simp only [VR] at hy;obtain ⟨x,h1,rfl⟩:=hy;refine ⟨rfl,_,rfl,?_⟩;simp only [VR];exact ⟨x,h1,by rw [add_none,Nat.add_assoc]⟩
  case gptr g q =>
    simp only [ptrAdd,Out.ok.injEq] at hs;obtain ⟨rfl,rfl⟩:=hs;simp only [VR] at hy;subst hy;exact ⟨rfl,_,rfl,by simp only [VR,add_none]⟩
  case iptr cs =>
    simp only [ptrAdd] at hs
    cases hd:dropE m cs with
    | none=>rw [hd] at hs;simp at hs
    | some r =>
      rw [hd] at hs;simp only [Out.ok.injEq] at hs;obtain ⟨rfl,rfl⟩:=hs;simp only [VR] at hy;obtain ⟨b,arr,e,fr,rfl,h1,h2,h3⟩:=hy;obtain ⟨h4,h5⟩:=dropE_some hd;refine ⟨rfl,b,rfl,?_⟩;rw [Addr.eta_none h1,add_none];simp only [VR];refine ⟨_,arr,e,fr,rfl,rfl,h2,?_⟩;subst h5;refine VRm_iff.2 fun i c hc=>?_
      rw [List.getElem?_drop] at hc
      simpa [Nat.add_assoc] using VRm_iff.1 h3 (m + i) c hc
theorem faddr_ok (hr:HR P κ h w) (ht:TR κ n tm a.tmps) {t:TypeId} {i:Nat} {f:Field} (hf:fieldOf P t i = some f) {s:Nat} (hsz:szOf P f.type = some s) (hz:s ≠ 0) {x:Operand} {xo:XO} (hx:opnd x = some xo) (ho:o.op = .fieldAddr t x i)
    (hs:faddrS f.offset xo tm h = .ok v h'):OpRes P o a κ h w v h':=by
  obtain ⟨y,h1,h2⟩:=withO_ok hs;have e:=opnd_ok ht hx h1;obtain ⟨rfl,b,e1,e2⟩:=ptrAdd_ok e h2;obtain ⟨fs,e6,e7⟩:=fieldOf_some hf;refine .pure hr e2 ?_;simp only [execOp,ho,e1,Instr.fieldAt,Sem.run_bind,run_underlyingT e6,Result.andThen_ok,e7,Instr.sureAddr,fieldPlace,run_sizeT hsz,if_neg hz,Sem.run_pure]
theorem iaddrA_ok (hr:HR P κ h w) (ht:TR κ n tm a.tmps) {t e:TypeId} {len esz:Nat} (hu:P.underlying t = some (.array len e)) (hsz:szOf P e = some esz) {x i:Operand} {xo io:XO} (hx:opnd x = some xo) (hi:opnd i = some io)
    (ho:o.op = .indexAddr t x i) (hs:iaddrAS len esz xo io tm h = .ok v h'):OpRes P o a κ h w v h':=by
  obtain ⟨y,h1,h2⟩:=withO_ok hs;obtain ⟨kd,m,h3,h4⟩:=withN_ok h2;have e1:=opnd_ok ht hx h1;have e2:=opnd_ok ht hi h3;simp only [VR] at e2
  cases hb:Nat.blt m len with
  | false=>rw [hb] at h4;simp at h4
  | true =>
    rw [hb] at h4;obtain ⟨rfl,b,e3,e4⟩:=ptrAdd_ok e1 h4;have hlt:=blt_iff.1 hb;refine .pure hr e4 ?_;have hc:(0:Int) ≤ Int.ofNat m∧Int.ofNat m < (len:Int):=by simp only [Int.ofNat_eq_natCast];omega
    simp only [execOp,ho,e2,e3,Instr.indexAt,Sem.run_bind,asIntOf,run_underlyingT hu,Result.andThen_ok,Instr.sureAddr,Sem.run_pure,hc,and_self,if_true,run_sizeT hsz];rfl
theorem iaddrS_ok (hr:HR P κ h w) (ht:TR κ n tm a.tmps) {t e:TypeId} {esz:Nat} (hu:P.underlying t = some (.slice e)) (hsz:szOf P e = some esz) {x i:Operand} {xo io:XO} (hx:opnd x = some xo) (hi:opnd i = some io)
    (ho:o.op = .indexAddr t x i) (hs:iaddrSS esz xo io tm h = .ok v h'):OpRes P o a κ h w v h':=by
  obtain ⟨y,h1,h2⟩:=withO_ok hs;obtain ⟨kd,m,h3,h4⟩:=withN_ok h2;have e1:=opnd_ok ht hx h1;have e2:=opnd_ok ht hi h3;simp only [VR] at e2;have fin:∀ {b:Addr} {len c:Nat},a.eval x = .slice (some b) len c→m < len→h' = h→VR κ v (.pointer (some (b.add (m * esz))))→OpRes P o a κ h w v h':=by
    rintro b len c e3 hlt rfl e4;refine .pure hr e4 ?_;have hc:(0:Int) ≤ Int.ofNat m∧Int.ofNat m < (len:Int):=by simp only [Int.ofNat_eq_natCast];omega
    simp only [execOp,ho,e2,e3,Instr.indexAt,Sem.run_bind,asIntOf,run_underlyingT hu,Result.andThen_ok,Instr.sureAddr,Sem.run_pure,hc,and_self,if_true,run_sizeT hsz];rfl
  cases y <;> first | (simp at h4;done) | skip
  case slice p q len cap =>
    simp only [VR] at e1;obtain ⟨s,b,c,k1,k2,k3,k4,_⟩:=e1;dsimp only at h4
    cases hb:Nat.blt m len with
    | false=>rw [hb] at h4;simp at h4
    | true =>
      rw [hb] at h4;simp only [Out.ok.injEq] at h4;obtain ⟨rfl,rfl⟩:=h4;have hlt:=blt_iff.1 hb;refine fin k2 hlt rfl ?_
      rcases k4 with k4 | rfl
      · omega
      · simp only [VR];exact ⟨s,k1,by rw [add_none,Nat.add_assoc]⟩
  case imm cs len full =>
    simp only [VR] at e1;obtain ⟨b,c,k1,k2,_,k3⟩:=e1;dsimp only at h4
    cases hb:Nat.blt m len with
    | false=>rw [hb] at h4;simp at h4
    | true =>
      rw [hb] at h4;have hlt:=blt_iff.1 hb
      cases hd:dropE (m * esz) cs with
      | none=>rw [hd] at h4;simp at h4
      | some r =>
        obtain ⟨h5,h6⟩:=dropE_some hd
        cases r with
        | nil=>rw [hd] at h4;simp at h4
        | cons c0 r0 =>
          rw [hd] at h4;simp only [Out.ok.injEq] at h4;obtain ⟨rfl,rfl⟩:=h4;refine fin k1 hlt rfl ?_
          rcases k3 with rfl | rfl | ⟨k3,arr,ty,fr,k5,k6⟩
          · simp at h6
          · omega
          · rw [Addr.eta_none k3,add_none];simp only [VR];refine ⟨_,arr,ty,fr,rfl,rfl,k5,?_⟩;rw [h6];show VRm κ _ _;refine VRm_iff.2 fun j c hc=>?_
            rw [List.getElem?_drop] at hc
            simpa [Nat.add_assoc] using VRm_iff.1 k6 (m * esz + j) c hc
theorem idxA_ok (hr:HR P κ h w) (ht:TR κ n tm a.tmps) {t e:TypeId} {len esz:Nat} {sz:Option Nat} (hu:P.underlying t = some (.array len e)) (hsz:szOf P e = some esz) (hag:aggN P e = some sz) {x i:Operand} {xo io:XO} (hx:opnd x = some xo) (hi:opnd i = some io)
    (ho:o.op = .index t x i) (hs:idxAS len esz sz xo io tm h = .ok v h'):OpRes P o a κ h w v h':=by
  obtain ⟨y,h1,h2⟩:=withO_ok hs;obtain ⟨kd,m,h3,h4⟩:=withN_ok h2;have e1:=opnd_ok ht hx h1;have e2:=opnd_ok ht hi h3;simp only [VR] at e2
  cases y <;> first | (simp at h4;done) | skip
  simp only [VR] at e1;obtain ⟨vs,e3,e4,e5⟩:=e1;dsimp only at h4
  cases hb:Nat.blt m len with
  | false=>rw [hb] at h4;simp at h4
  | true =>
    rw [hb] at h4;have hlt:=blt_iff.1 hb;obtain ⟨rfl,v',e6,e7⟩:=part_ok (w:=w) hag e5 e4 h4;refine .pure hr e7 ?_;have hc:(0:Int) ≤ Int.ofNat m∧Int.ofNat m < (len:Int):=by simp only [Int.ofNat_eq_natCast];omega
    simp only [execOp,ho,e2,e3,Instr.index,Sem.run_bind,asIntOf,run_underlyingT hu,Result.andThen_ok,Sem.run_pure,hc,and_self,if_true,run_sizeT hsz];have:(Int.ofNat m).toNat = m:=rfl;rw [this,e6];rfl
theorem bytes_get {s:ByteArray} {l:List Nat} (hs:s.data.toList.map UInt8.toNat = l) {m b:Nat} (hb:l[m]? = some b):∃ c:UInt8,s[m]? = some c∧c.toNat = b:=by
  subst hs;rw [List.getElem?_map,Option.map_eq_some_iff] at hb;obtain ⟨c,h1,h2⟩:=hb;refine ⟨c,?_,h2⟩;obtain ⟨h3,h4⟩:=List.getElem?_eq_some_iff.1 h1;have h5:m < s.size:=by simpa using h3
  rw [getElem?_pos s m h5];simp only [Array.getElem_toList] at h4;rw [← h4];rfl
theorem idxS_ok (hr:HR P κ h w) (ht:TR κ n tm a.tmps) {t:TypeId} (hu:P.underlying t = some .string) {x i:Operand} {xo io:XO} (hx:opnd x = some xo) (hi:opnd i = some io)
    (ho:o.op = .index t x i) (hs:idxSS xo io tm h = .ok v h'):OpRes P o a κ h w v h':=by
  obtain ⟨y,h1,h2⟩:=withO_ok hs;obtain ⟨kd,m,h3,h4⟩:=withN_ok h2;have e1:=opnd_ok ht hx h1;have e2:=opnd_ok ht hi h3;simp only [VR] at e2
  cases y <;> first | (simp at h4;done) | skip
  rename_i l
  simp only [VR] at e1;obtain ⟨s,e3,e4⟩:=e1;simp only [nth_eq] at h4
  cases hb:l[m]? with
  | none=>rw [hb] at h4;simp at h4
  | some b =>
    rw [hb] at h4;simp only [okI,Out.ok.injEq] at h4;obtain ⟨rfl,rfl⟩:=h4;obtain ⟨c,e5,rfl⟩:=bytes_get e4 hb;refine .pure (v':=.int .u8 c.toNat) hr (by simp only [VR];rfl) ?_;have hc:(0:Int) ≤ Int.ofNat m:=by simp
    have:(Int.ofNat m).toNat = m:=rfl;simp only [execOp,ho,e2,e3,Instr.index,Sem.run_bind,asIntOf,run_underlyingT hu,Result.andThen_ok,Sem.run_pure,hc,if_true,this,e5]
end
end Go.X

/- The instructions of X against the model's operations,6: slices of strings,slices and arrays,type assertions,lengths. -/
namespace Go.X
open Go

section
variable {P:Program} {κ:Kp} {h h':Heap} {w:World} {n:Nat} {tm:Tm} {a:Act} {o:Oper} {v:AV}

def Bnd (y:Option Value) (d m:Nat):Prop:=(y = none∧m = d)∨∃ kd,y = some (.int kd (m:Int))
theorem withNo_ok (ht:TR κ n tm a.tmps) {x:Option Operand} {xo:Option XO} (hx:opndO x = some xo) {d:Nat} {k:Nat→Out AV} (hs:withNo xo d tm k = .ok v h') :
    ∃ m,Bnd (x.map a.eval) d m∧(xo = none→m = d)∧(xo = none ↔ x = none)∧k m = .ok v h':=by
  cases x with
  | none =>
    simp only [opndO,sJ] at hx;subst hx;exact ⟨d,.inl ⟨rfl,rfl⟩,fun _=>rfl,by simp,hs⟩
  | some x =>
    simp only [opndO,Option.map_eq_some_iff] at hx;obtain ⟨y,h1,rfl⟩:=hx;obtain ⟨kd,m,h2,h3⟩:=withN_ok hs;have e:=opnd_ok ht h1 h2;simp only [VR] at e;exact ⟨m,.inr ⟨kd,by simp [e]⟩,by simp,by simp,h3⟩
theorem run_sliceBound {kd:IntKind} {m y:Nat} {c:BoundsCode} (h:m ≤ y):(Instr.sliceBound (.int kd (m:Int)) y c).run P w = .ok m w:=by
  have hc:(0:Int) ≤ (m:Int)∧(m:Int) ≤ (y:Int):=by omega
  simp only [Instr.sliceBound,asIntOf,Sem.run_bind,Sem.run_pure,Result.andThen_ok,hc,and_self,if_true];rfl
theorem run_sliceBounds {sl:Bool} {len cap:Nat} {lo hi mx:Option Value} {b e m:Nat} (hlo:Bnd lo 0 b) (hhi:Bnd hi len e) (hmx:Bnd mx cap m) (hsm:hi = none→mx = none) (h1:m ≤ cap) (h2:e ≤ m) (h3:b ≤ e) :
    (Instr.sliceBounds sl len cap lo hi mx).run P w = .ok (b,e,m) w:=by
  rcases hmx with ⟨rfl,rfl⟩ | ⟨k1,rfl⟩ <;> rcases hhi with ⟨rfl,rfl⟩ | ⟨k2,rfl⟩ <;> rcases hlo with ⟨rfl,rfl⟩ | ⟨k3,rfl⟩ <;>
    first | (simp at hsm;done) | simp only [Instr.sliceBounds,Sem.run_bind,Sem.run_pure,Result.andThen_ok,run_sliceBound h1,run_sliceBound h2,run_sliceBound h3]
theorem extract_map {s:ByteArray} {l:List Nat} (hs:s.data.toList.map UInt8.toNat = l) (b e:Nat):(s.extract b e).data.toList.map UInt8.toNat = (l.drop b).take (e - b):=by
  subst hs;simp [ByteArray.data_extract]
theorem size_of {s:ByteArray} {l:List Nat} (hs:s.data.toList.map UInt8.toNat = l):s.size = l.length:=by subst hs;simp
theorem cutStr_ok (hr:HR P κ h w) (ht:TR κ n tm a.tmps) {t:TypeId} (hu:P.underlying t = some .string) {x:Operand} {xo:XO} {lo hi:Option Operand} {xlo xhi:Option XO} (hx:opnd x = some xo) (hlo:opndO lo = some xlo) (hhi:opndO hi = some xhi)
    (ho:o.op = .slice t x lo hi none) (hs:cutStrS xo xlo xhi tm h = .ok v h'):OpRes P o a κ h w v h':=by
  obtain ⟨y,h1,h2⟩:=withO_ok hs;have e1:=opnd_ok ht hx h1
  cases y <;> first | (simp at h2;done) | skip
  rename_i l
  simp only [VR] at e1;obtain ⟨s,e3,e4⟩:=e1;have hsz:=size_of e4;have fin:∀ {b e:Nat},Bnd (lo.map a.eval) 0 b→Bnd (hi.map a.eval) s.size e→e ≤ s.size→b ≤ e→h' = h→v = .str ((l.drop b).take (e - b))→OpRes P o a κ h w v h':=by
    rintro b e k1 k2 k3 k4 rfl rfl;refine .pure (v':=.string (s.extract b e)) hr ?_ ?_
    · simp only [VR];exact ⟨_,rfl,extract_map e4 b e⟩
    · simp only [execOp,ho,e3,Instr.sliceAt,Instr.slice,Sem.run_bind,run_underlyingT hu,Result.andThen_ok,Option.map_none,Option.isSome_none,Bool.false_eq_true,if_false,Sem.run_pure,
        run_sliceBounds (sl:=false) (cap:=s.size) (mx:=none) (m:=s.size) k1 k2 (.inl ⟨rfl,rfl⟩) (fun _=>rfl) (Nat.le_refl _) k3 k4]
  cases xhi with
  | none =>
    dsimp only at h2;obtain ⟨b,k1,_,_,k2⟩:=withNo_ok ht hlo h2;have hhn:hi = none:=by cases hi <;> simp [opndO] at hhi ⊢
    cases hd:dropE b l with
    | none=>rw [hd] at k2;simp at k2
    | some r =>
      rw [hd] at k2;simp only [Out.ok.injEq] at k2;obtain ⟨rfl,rfl⟩:=k2;obtain ⟨k3,rfl⟩:=dropE_some hd;refine fin (e:=s.size) k1 (.inl ⟨by simp [hhn],rfl⟩) (Nat.le_refl _) (by omega) rfl ?_;rw [hsz,List.take_of_length_le (by simp)]
  | some xh =>
    dsimp only at h2;have h2':withNo (some xh) s.size tm (fun e=>withNo xlo 0 tm fun b=>match Nat.ble b e with
      | true=>(match sub l b (e - b) with | some r=>.ok (.str r) h | none=>.bad)
      | false=>.bad) = .ok v h':=h2
    obtain ⟨e,k1,_,_,k2⟩:=withNo_ok ht hhi h2';obtain ⟨b,k3,_,_,k4⟩:=withNo_ok ht hlo k2
    cases hb:Nat.ble b e with
    | false=>rw [hb] at k4;simp at k4
    | true =>
      rw [hb] at k4;have hbe:=ble_iff.1 hb
      cases hd:sub l b (e - b) with
      | none=>rw [hd] at k4;simp at k4
      | some r =>
        rw [hd] at k4;simp only [Out.ok.injEq] at k4;obtain ⟨rfl,rfl⟩:=k4;obtain ⟨k5,rfl⟩:=sub_some hd;exact fin k3 k1 (by omega) hbe rfl rfl

theorem opndO_none {x:Option Operand} (h:opndO x = some none):x = none:=by cases x <;> simp [opndO] at h ⊢
theorem cutSl_ok (hr:HR P κ h w) (ht:TR κ n tm a.tmps) {t e:TypeId} {esz:Nat} (hu:P.underlying t = some (.slice e)) (hsz:szOf P e = some esz) {x:Operand} {xo:XO} {lo hi mx:Option Operand} {xlo xhi xmx:Option XO} (hx:opnd x = some xo)
    (hlo:opndO lo = some xlo) (hhi:opndO hi = some xhi) (hmx:opndO mx = some xmx) (hsm:hi = none→mx = none)
    (ho:o.op = .slice t x lo hi mx) (hs:cutSlS esz xo xlo xhi xmx tm h = .ok v h'):OpRes P o a κ h w v h':=by
  obtain ⟨y,h1,h2⟩:=withO_ok hs;have e1:=opnd_ok ht hx h1;have hsm':hi.map a.eval = none→mx.map a.eval = none:=fun q=>by
    have:=hsm (by simpa using q);simp [this]
  -- what the model comes to
  have fin:∀ {q:Option Addr} {len c b e m:Nat},a.eval x = .slice q len c→Bnd (lo.map a.eval) 0 b→Bnd (hi.map a.eval) len e→Bnd (mx.map a.eval) c m→m ≤ c→e ≤ m→b ≤ e→h' = h →
      VR κ v (.slice (if m = b then q else q.map (·.add (b * esz))) (e - b) (m - b))→OpRes P o a κ h w v h':=by
    rintro q len c b e m k0 k1 k2 k3 k4 k5 k6 rfl k7;refine .pure hr k7 ?_;simp only [execOp,ho,k0,Instr.sliceAt,Instr.slice,Sem.run_bind,run_underlyingT hu,Result.andThen_ok,Sem.run_pure,run_sliceBounds k1 k2 k3 hsm' k4 k5 k6,run_sizeT hsz]
  cases y <;> first | (simp at h2;done) | skip
  case nilslice =>
    simp only [VR] at e1;dsimp only at h2;obtain ⟨e,k1,_,_,h3⟩:=withNo_ok ht hhi h2;obtain ⟨b,k2,_,_,h4⟩:=withNo_ok ht hlo h3;obtain ⟨m,k3,_,_,h5⟩:=withNo_ok ht hmx h4
    cases e <;> cases b <;> cases m <;> simp only [Out.ok.injEq,reduceCtorEq] at h5
    obtain ⟨rfl,rfl⟩:=h5;exact fin e1 k2 k1 k3 (Nat.le_refl _) (Nat.le_refl _) (Nat.le_refl _) rfl (by simp [VR])
  case slice p q len cap =>
    simp only [VR] at e1;obtain ⟨s,d,c,k1,k2,k3,k4,k5⟩:=e1;have hplace:∀ {b e m:Nat} {cp:Cap},e ≤ m→b ≤ e→m ≤ c→(match cp with | .ex r=>m - b = r | .up z=>s.d + (q + b * esz) + (m - b) * z = s.n∧0 < z) →
        VR κ (.slice p (q + b * esz) (e - b) cp) (.slice (if m = b then some d else (some d:Option Addr).map (·.add (b * esz))) (e - b) (m - b)):=by
      intro b e m cp q1 q2 q3 q4;simp only [VR]
      by_cases hmb:m = b
      · rw [if_pos hmb];exact ⟨s,d,m - b,k1,rfl,by omega,.inl (by omega),q4⟩
      · rw [if_neg hmb];refine ⟨s,_,m - b,k1,rfl,by omega,.inr ?_,q4⟩
        rcases k4 with k4 | k4
        · omega
        · simp only [k4,add_none,Nat.add_assoc]
    cases cap with
    | ex c' =>
      dsimp only at k5;subst k5;dsimp only at h2;obtain ⟨m,q1,_,_,h3⟩:=withNo_ok ht hmx h2;obtain ⟨e,q2,_,_,h4⟩:=withNo_ok ht hhi h3;obtain ⟨b,q3,_,_,h5⟩:=withNo_ok ht hlo h4
      cases c1:Nat.ble m c <;> cases c2:Nat.ble e m <;> cases c3:Nat.ble b e <;> rw [c1,c2,c3] at h5 <;> simp only [Out.ok.injEq,reduceCtorEq] at h5
      obtain ⟨rfl,rfl⟩:=h5;have c1:=ble_iff.1 c1;have c2:=ble_iff.1 c2;have c3:=ble_iff.1 c3;exact fin k2 q3 q2 q1 c1 c2 c3 rfl (hplace c2 c3 c1 rfl)
    | up z =>
      dsimp only at k5;obtain ⟨k5,k6⟩:=k5;dsimp only at h2;obtain ⟨e,q2,_,_,h3⟩:=withNo_ok ht hhi h2;obtain ⟨b,q3,_,_,h4⟩:=withNo_ok ht hlo h3
      cases c1:Nat.ble b e <;> cases c2:Nat.beq z esz <;> rw [c1,c2] at h4 <;> simp only [reduceCtorEq] at h4
      have c1:=ble_iff.1 c1;have c2:=beq_iff'.1 c2;subst c2
      split at h4
      · simp at h4
      · rename_i hknown
        have hec:e ≤ c:=by
          cases c3:Nat.ble e len with
          | true=>have:=ble_iff.1 c3;omega
          | false =>
            rw [c3] at hknown
            cases hg:h.get p <;> rw [hg] at hknown <;> first | (simp at hknown;done) | skip
            rename_i ty cs sp
            dsimp only at hknown
            cases hd:dropE (q + e * z) cs with
            | none=>rw [hd] at hknown;simp at hknown
            | some r =>
              obtain ⟨g1,_⟩:=dropE_some hd;have ho':=hr.obj p s k1;rw [hg] at ho';obtain ⟨arr,fr,g2,g3,g4,_⟩:=ho';have:e * z ≤ c * z:=by omega
              exact Nat.le_of_mul_le_mul_right this k6
        cases xmx with
        | none =>
          simp only [Out.ok.injEq] at h4;obtain ⟨rfl,rfl⟩:=h4;have:=opndO_none hmx;refine fin k2 q3 q2 (m:=c) (.inl ⟨by simp [this],rfl⟩) (Nat.le_refl _) hec c1 rfl (hplace hec c1 (Nat.le_refl _) ⟨?_,k6⟩);have hbc:b ≤ c:=by omega
          have:b * z + (c - b) * z = c * z:=by rw [← Nat.add_mul];congr 1;omega
          omega
        | some xm =>
          dsimp only at h4;have h4':withNo (some xm) c tm (fun m=>match Nat.ble e m,Nat.ble m len with
            | true,true=>.ok (.slice p (q + b * z) (e - b) (.ex (m - b))) h
            | _,_=>.bad) = .ok v h':=h4
          obtain ⟨m,q1,_,_,h5⟩:=withNo_ok ht hmx h4'
          cases c2:Nat.ble e m <;> cases c3:Nat.ble m len <;> rw [c2,c3] at h5 <;> simp only [Out.ok.injEq,reduceCtorEq] at h5
          obtain ⟨rfl,rfl⟩:=h5;have c2:=ble_iff.1 c2;have c3:=ble_iff.1 c3;exact fin k2 q3 q2 q1 (by omega) c2 c1 rfl (hplace c2 c1 (by omega) rfl)
  case imm cs len full =>
    simp only [VR] at e1;obtain ⟨d,c,k2,k3,k4,k5⟩:=e1;dsimp only at h2;obtain ⟨e,q2,_,_,h3⟩:=withNo_ok ht hhi h2;obtain ⟨b,q3,_,_,h4⟩:=withNo_ok ht hlo h3
    cases c1:Nat.ble b e <;> cases c2:Nat.ble e len <;> rw [c1,c2] at h4 <;> simp only [reduceCtorEq] at h4
    have c1:=ble_iff.1 c1;have c2:=ble_iff.1 c2;have hplace:∀ {m:Nat} {fl:Bool} {r:List AV},dropE (b * esz) cs = some r→e ≤ m→(fl = true→m - b = e - b)→VR κ (.imm r (e - b) fl) (.slice (if m = b then some d else (some d:Option Addr).map (·.add (b * esz))) (e - b) (m - b)):=by
      intro m fl r g1 g2 g3;obtain ⟨g4,rfl⟩:=dropE_some g1;simp only [VR]
      by_cases hmb:m = b
      · rw [if_pos hmb];exact ⟨d,_,rfl,by omega,g3,.inr (.inl (by omega))⟩
      · rw [if_neg hmb];refine ⟨_,_,rfl,by omega,g3,?_⟩
        rcases k5 with rfl | k5 | ⟨g5,arr,ty,fr,g6,g7⟩
        · exact .inl (by simp)
        · exact .inr (.inl (by omega))
        · refine .inr (.inr ?_);rw [Addr.eta_none g5];dsimp only;rw [add_none];refine ⟨rfl,arr,ty,fr,g6,VRm_iff.2 fun i c hc=>?_⟩;rw [List.getElem?_drop] at hc
          simpa [Nat.add_assoc] using VRm_iff.1 g7 (b * esz + i) c hc
    cases xmx with
    | none =>
      dsimp only at h4;have:=opndO_none hmx
      cases hd:dropE (b * esz) cs with
      | none=>rw [hd] at h4;simp at h4
      | some r =>
        rw [hd] at h4;simp only [Out.ok.injEq] at h4;obtain ⟨rfl,rfl⟩:=h4;refine fin k2 q3 q2 (m:=c) (.inl ⟨by simp [this],rfl⟩) (Nat.le_refl _) (by omega) c1 rfl (hplace hd (by omega) fun hf=>?_)
        cases full with
        | false=>simp at hf
        | true=>have:=beq_iff'.1 hf;have:=k4 rfl;omega
    | some xm =>
      dsimp only at h4;have h4':withNo (some xm) c tm (fun m=>match Nat.beq m e with
        | true=>(match dropE (b * esz) cs with | some r=>.ok (.imm r (e - b) true) h | none=>.bad)
        | false=>.bad) = .ok v h':=h4
      obtain ⟨m,q1,_,_,h5⟩:=withNo_ok ht hmx h4'
      cases c3:Nat.beq m e with
      | false=>rw [c3] at h5;simp at h5
      | true =>
        rw [c3] at h5;have c3:=beq_iff'.1 c3;subst c3
        cases hd:dropE (b * esz) cs with
        | none=>rw [hd] at h5;simp at h5
        | some r =>
          rw [hd] at h5;simp only [Out.ok.injEq] at h5;obtain ⟨rfl,rfl⟩:=h5;exact fin k2 q3 q2 q1 (by omega) (Nat.le_refl _) c1 rfl (hplace hd (Nat.le_refl _) fun _=>rfl)
theorem cutArr_ok (hr:HR P κ h w) (ht:TR κ n tm a.tmps) {t e:TypeId} {len esz:Nat} (hu:P.underlying t = some (.array len e)) (hsz:szOf P e = some esz) {x:Operand} {xo:XO} {lo hi mx:Option Operand} {xlo xhi xmx:Option XO} (hx:opnd x = some xo)
    (hlo:opndO lo = some xlo) (hhi:opndO hi = some xhi) (hmx:opndO mx = some xmx) (hsm:hi = none→mx = none)
    (ho:o.op = .slice t x lo hi mx) (hs:cutArrS len esz xo xlo xhi xmx tm h = .ok v h'):OpRes P o a κ h w v h':=by
  obtain ⟨y,h1,h2⟩:=withO_ok hs;have e1:=opnd_ok ht hx h1;have hsm':hi.map a.eval = none→mx.map a.eval = none:=fun q=>by
    have:=hsm (by simpa using q);simp [this]
  cases y <;> first | (simp at h2;done) | skip
  rename_i p q
  simp only [VR] at e1;obtain ⟨s,k1,k2⟩:=e1;dsimp only at h2;obtain ⟨m,q1,_,_,h3⟩:=withNo_ok ht hmx h2;obtain ⟨e',q2,_,_,h4⟩:=withNo_ok ht hhi h3;obtain ⟨b,q3,_,_,h5⟩:=withNo_ok ht hlo h4
  cases c1:Nat.ble m len <;> cases c2:Nat.ble e' m <;> cases c3:Nat.ble b e' <;> rw [c1,c2,c3] at h5 <;> simp only [Out.ok.injEq,reduceCtorEq] at h5
  obtain ⟨rfl,rfl⟩:=h5;have c1:=ble_iff.1 c1;have c2:=ble_iff.1 c2;have c3:=ble_iff.1 c3;refine .pure (v':=.slice (some (if m = b then ⟨s.b,s.d + q,none⟩ else (⟨s.b,s.d + q,none⟩:Addr).add (b * esz))) (e' - b) (m - b)) hr ?_ ?_
  · simp only [VR]
    by_cases hmb:m = b
    · rw [if_pos hmb];exact ⟨s,_,m - b,k1,rfl,by omega,.inl (by omega),rfl⟩
    · rw [if_neg hmb];exact ⟨s,_,m - b,k1,rfl,by omega,.inr (by simp only [add_none,Nat.add_assoc]),rfl⟩
  · simp only [execOp,ho,k2,Instr.sliceAt,Instr.sureAddr,Sem.run_bind,run_underlyingT hu,Result.andThen_ok,Sem.run_pure,run_sliceBounds q3 q2 q1 hsm' c1 c2 c3,run_sizeT hsz]

theorem tas_ok (hr:HR P κ h w) (ht:TR κ n tm a.tmps) {t xt:TypeId} {z:AV} {ok:Bool} {d:TypeDesc} (hd:P.underlying t = some d) (hi:∀ ms,d ≠ .interface ms) (hz:zeroOf P t = some z) {x:Operand} {xo:XO} (hx:opnd x = some xo)
    (ho:o.op = .typeAssert x xt t ok) (hs:tasS t z ok xo tm h = .ok v h'):OpRes P o a κ h w v h':=by
  obtain ⟨y,h1,h2⟩:=withO_ok hs;have e1:=opnd_ok ht hx h1;obtain ⟨zv,hz1,hz2⟩:=run_zeroT hz
  cases y <;> first | (simp at h2;done) | skip
  case niliface =>
    simp only [VR] at e1
    cases ok with
    | false=>simp at h2
    | true =>
      simp only [Out.ok.injEq] at h2;obtain ⟨rfl,rfl⟩:=h2;refine .pure (v':=.tuple #[zv,.bool false]) hr ?_ ?_
      · simp only [VR];exact ⟨_,rfl,by simp [VRl,VR,hz2]⟩
      · simp only [execOp,ho,e1,Instr.typeAssert,Sem.run_bind,run_underlyingT hd,Result.andThen_ok,Sem.run_pure]
        cases d <;> first | (exact absurd rfl (hi _)) | simp [hz1]
  case iface t' u =>
    simp only [VR] at e1;obtain ⟨u',e1,e2⟩:=e1;dsimp only at h2
    cases c1:Nat.beq t' t with
    | true =>
      have c1:=beq_iff'.1 c1;subst c1;have:Nat.beq t' t' = true:=Nat.beq_refl _
      cases ok with
      | true =>
        rw [this] at h2;simp only [Out.ok.injEq] at h2;obtain ⟨rfl,rfl⟩:=h2;refine .pure (v':=.tuple #[u',.bool true]) hr ?_ ?_
        · simp only [VR];exact ⟨_,rfl,by simp [VRl,VR,e2]⟩
        · simp only [execOp,ho,e1,Instr.typeAssert,Sem.run_bind,run_underlyingT hd,Result.andThen_ok,Sem.run_pure]
          cases d <;> first | (exact absurd rfl (hi _)) | simp
      | false =>
        rw [this] at h2;simp only [Out.ok.injEq] at h2;obtain ⟨rfl,rfl⟩:=h2;refine .pure (v':=u') hr e2 ?_;simp only [execOp,ho,e1,Instr.typeAssert,Sem.run_bind,run_underlyingT hd,Result.andThen_ok,Sem.run_pure]
        cases d <;> first | (exact absurd rfl (hi _)) | simp
    | false =>
      have hne:t' ≠ t:=fun e=>by rw [beq_iff'.2 e] at c1;simp at c1
      rw [c1] at h2
      cases ok with
      | false=>simp at h2
      | true =>
        simp only [Out.ok.injEq] at h2;obtain ⟨rfl,rfl⟩:=h2;refine .pure (v':=.tuple #[zv,.bool false]) hr ?_ ?_
        · simp only [VR];exact ⟨_,rfl,by simp [VRl,VR,hz2]⟩
        · simp only [execOp,ho,e1,Instr.typeAssert,Sem.run_bind,run_underlyingT hd,Result.andThen_ok,Sem.run_pure]
          cases d <;> first | (exact absurd rfl (hi _)) | simp [hz1,hne]
end
end Go.X
