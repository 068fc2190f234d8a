/- The instructions of X against the model's operations, 4: binary operations and equality as operations; unary ones, conversions of numbers. -/
import Derived.Test.YtplboahkpmiofaaGreatDoorXxOp1
import Derived.Laws.StructEq
namespace Go.X
open Go

section
variable {P : Program} {κ : Kp} {h h' : Heap} {w : World} {n : Nat} {tm : Tm} {a : Act} {o : Oper} {v : AV}

theorem easy_int {k : IntKind} {x : Int} : Easy (.int k x) := ⟨by simp, by simp⟩
theorem easy_str {s : ByteArray} : Easy (.string s) := ⟨by simp, by simp⟩
theorem run_binOper {op : BinOp} {t yt : TypeId} {x y : Operand} (ho : o.op = .binOp op t x y yt) {v' : Value} (hg : (eqGuard op t x y (a.eval x) (a.eval y)).run P w = .ok () w) (hb : (Go.binOp op t (a.eval x) (a.eval y)).run P w = .ok v' w) :
    (execOp a.eval o).run P w = .ok (.value v') w := by simp [execOp, ho, hg, hb]
theorem bin_ok (hr : HR P κ h w) (ht : TR κ n tm a.tmps) {op : BinOp} {b : XB} (hb : binK op = some b) {t yt : TypeId} {x y : Operand} {xo yo : XO} (hx : opnd x = some xo) (hy : opnd y = some yo)
    (ho : o.op = .binOp op t x y yt) (hs : binS b xo yo tm h = .ok v h') : OpRes P o a κ h w v h' := by
  obtain ⟨u, h1, h2⟩ := withO_ok hs
  obtain ⟨c, h3, h4⟩ := withO_ok h2
  have e1 := opnd_ok ht hx h1
  have e2 := opnd_ok ht hy h3
  have fin : Easy (a.eval x) → (h' = h ∧ ∃ v', (Go.binOp op t (a.eval x) (a.eval y)).run P w = .ok v' w ∧ VR κ v v') → OpRes P o a κ h w v h' := by
    rintro he ⟨rfl, v', h5, h6⟩
    exact .pure hr h6 (run_binOper ho (guard_easy he) h5)
  cases u <;> cases c <;> first | (simp [binVV] at h4; done) | skip
  case int.int k z k' z' =>
    simp only [VR] at e1 e2
    rw [e1, e2] at fin
    refine fin easy_int ?_
    by_cases hb1 : b = .shl
    · subst hb1
      have : op = .shl := by cases op <;> simp [binK] at hb ⊢
      subst this
      exact shl_ok t h4
    · by_cases hb2 : b = .shr
      · subst hb2
        have : op = .shr := by cases op <;> simp [binK] at hb ⊢
        subst this
        exact shr_ok t h4
      · have h5 : (match sameK k k' with | true => binII b k z z' | false => fun _ => .bad) h = .ok v h' := by
          cases b <;> first | (exact absurd rfl hb1) | (exact absurd rfl hb2) | exact h4
        cases hk : sameK k k' with
        | false => rw [hk] at h5; simp at h5
        | true =>
          rw [hk] at h5
          have := (sameK_iff k k').1 hk
          subst this
          exact binII_ok hb hb1 hb2 t h5
  case str.str l l' =>
    simp only [VR] at e1 e2
    obtain ⟨s, e1, rfl⟩ := e1
    obtain ⟨s', e2, rfl⟩ := e2
    rw [e1, e2] at fin
    exact fin easy_str (binSS_ok hb t h4)

/-- What a type must be for an equality of a kind. -/
def fits (P : Program) (t : TypeId) : SK → Prop
  | .bool => P.underlying t = some .bool
  | .int => ∃ k, P.underlying t = some (.int k)
  | .str => P.underlying t = some .string
  | .ptr => ∃ e s, P.underlying t = some (.pointer e) ∧ (P.info? e).map (·.size) = some (s + 1)
  | .slice => ∃ e, P.underlying t = some (.slice e)
  | .map => ∃ k e, P.underlying t = some (.map k e)
  | .func => ∃ x y z, P.underlying t = some (.func x y z)
  | .iface => ∃ ms, P.underlying t = some (.interface ms)
set_option maxHeartbeats 1000000 in
theorem equalIn_ok {t : TypeId} {k : SK} (hf : fits P t k) {x y : AV} {r : Bool} (hs : sameV k x y = some r) {x' y' : Value} (hx : VR κ x x') (hy : VR κ y y') (d : Nat) : (Op.equalIn (d + 1) t x' y').run P w = .ok r w := by
  cases k <;> simp only [fits] at hf <;> simp only [sameV] at hs
  case bool =>
    cases x <;> cases y <;> simp only [sameBool, Option.some.injEq, reduceCtorEq] at hs
    simp only [VR] at hx hy
    subst hx; subst hy; subst hs
    rename_i b c
    simp only [Op.equalIn, underlying, Sem.run_bind, run_program, Result.andThen_ok, hf, Sem.run_pure]
    cases b <;> cases c <;> rfl
  case int =>
    obtain ⟨k, hf⟩ := hf
    cases x <;> cases y <;> simp only [sameInt, reduceCtorEq] at hs
    rename_i k1 a k2 b
    cases hk : sameK k1 k2 with
    | false => rw [hk] at hs; simp at hs
    | true =>
      rw [hk] at hs
      have := (sameK_iff _ _).1 hk
      subst this
      simp only [Option.some.injEq] at hs
      simp only [VR] at hx hy
      subst hx; subst hy; subst hs
      simp only [Op.equalIn, underlying, Sem.run_bind, run_program, Result.andThen_ok, hf, Sem.run_pure, if_true, eqI_eq]
      rfl
  case str =>
    cases x <;> cases y <;> simp only [sameStr, Option.some.injEq, reduceCtorEq] at hs
    simp only [VR] at hx hy
    obtain ⟨s, rfl, rfl⟩ := hx
    obtain ⟨s', rfl, rfl⟩ := hy
    subst hs
    simp only [Op.equalIn, underlying, Sem.run_bind, run_program, Result.andThen_ok, hf, Sem.run_pure, beqN_map]
    congr 1
    rw [beq_toListBytes, ByteArray.toList_eq, ByteArray.toList_eq]
  case ptr =>
    obtain ⟨e, s, hf, hsz⟩ := hf
    cases x <;> cases y <;> simp only [samePtr, Option.some.injEq, reduceCtorEq] at hs
    case ptr.ptr p i q j =>
      simp only [VR] at hx hy
      obtain ⟨u, hu, rfl⟩ := hx
      obtain ⟨u', hu', rfl⟩ := hy
      cases hpq : p.beq q with
      | false => rw [hpq] at hs; simp at hs
      | true =>
        rw [hpq] at hs
        have := Pos.beq_iff.1 hpq
        subst this
        rw [hu] at hu'
        simp only [Option.some.injEq] at hu'
        subst hu'
        simp only [Option.some.injEq] at hs
        subst hs
        obtain ⟨i0, hi0, hi1⟩ := Option.map_eq_some_iff.1 hsz
        simp only [Op.equalIn, underlying, Sem.run_bind, run_program, Result.andThen_ok, hf, Sem.run_pure, sizeOf, typeInfo, hi0, hi1]
        simp only [ne_eq, Nat.add_eq_zero_iff, Nat.succ_ne_self, and_false, not_false_eq_true, if_true, sameAddr, beq_self_eq_true, Sem.run_pure, beq_dec]
        by_cases hij : i = j
        · subst hij; simp
        · simp [hij]
    all_goals
      simp only [VR] at hx hy
      first
        | (obtain ⟨u, _, rfl⟩ := hx; subst hy; subst hs; simp only [Op.equalIn, underlying, Sem.run_bind, run_program, Result.andThen_ok, hf, Sem.run_pure]; try rfl)
        | (obtain ⟨u, _, rfl⟩ := hy; subst hx; subst hs; simp only [Op.equalIn, underlying, Sem.run_bind, run_program, Result.andThen_ok, hf, Sem.run_pure]; try rfl)
        | (obtain ⟨u, _, _, _, rfl, _⟩ := hx; subst hy; subst hs; simp only [Op.equalIn, underlying, Sem.run_bind, run_program, Result.andThen_ok, hf, Sem.run_pure]; try rfl)
        | (obtain ⟨u, _, _, _, rfl, _⟩ := hy; subst hx; subst hs; simp only [Op.equalIn, underlying, Sem.run_bind, run_program, Result.andThen_ok, hf, Sem.run_pure]; try rfl)
        | (subst hx; subst hy; subst hs; simp only [Op.equalIn, underlying, Sem.run_bind, run_program, Result.andThen_ok, hf, Sem.run_pure]; try rfl)
  case slice =>
    obtain ⟨e, hf⟩ := hf
    cases x <;> cases y <;> simp only [sameSlice, Option.some.injEq, reduceCtorEq] at hs
    all_goals
      simp only [VR] at hx hy
      first
        | (obtain ⟨u, _, _, _, rfl, _⟩ := hx; subst hy; subst hs; simp only [Op.equalIn, underlying, Sem.run_bind, run_program, Result.andThen_ok, hf, Sem.run_pure]; try rfl)
        | (obtain ⟨u, _, _, _, rfl, _⟩ := hy; subst hx; subst hs; simp only [Op.equalIn, underlying, Sem.run_bind, run_program, Result.andThen_ok, hf, Sem.run_pure]; try rfl)
        | (obtain ⟨u, _, rfl, _⟩ := hx; subst hy; subst hs; simp only [Op.equalIn, underlying, Sem.run_bind, run_program, Result.andThen_ok, hf, Sem.run_pure]; try rfl)
        | (obtain ⟨u, _, rfl, _⟩ := hy; subst hx; subst hs; simp only [Op.equalIn, underlying, Sem.run_bind, run_program, Result.andThen_ok, hf, Sem.run_pure]; try rfl)
        | (subst hx; subst hy; subst hs; simp only [Op.equalIn, underlying, Sem.run_bind, run_program, Result.andThen_ok, hf, Sem.run_pure]; try rfl)
  case map =>
    obtain ⟨e, e', hf⟩ := hf
    cases x <;> cases y <;> simp only [sameMap, Option.some.injEq, reduceCtorEq] at hs
    all_goals
      simp only [VR] at hx hy
      first
        | (obtain ⟨u, _, rfl⟩ := hx; subst hy; subst hs; simp only [Op.equalIn, underlying, Sem.run_bind, run_program, Result.andThen_ok, hf, Sem.run_pure]; try rfl)
        | (obtain ⟨u, _, rfl⟩ := hy; subst hx; subst hs; simp only [Op.equalIn, underlying, Sem.run_bind, run_program, Result.andThen_ok, hf, Sem.run_pure]; try rfl)
        | (subst hx; subst hy; subst hs; simp only [Op.equalIn, underlying, Sem.run_bind, run_program, Result.andThen_ok, hf, Sem.run_pure]; try rfl)
  case func =>
    obtain ⟨e, e', e'', hf⟩ := hf
    cases x <;> cases y <;> simp only [sameFunc, Option.some.injEq, reduceCtorEq] at hs
    all_goals
      simp only [VR] at hx hy
      first
        | (obtain ⟨u, _, rfl, _⟩ := hx; subst hy; subst hs; simp only [Op.equalIn, underlying, Sem.run_bind, run_program, Result.andThen_ok, hf, Sem.run_pure]; try rfl)
        | (obtain ⟨u, _, rfl, _⟩ := hy; subst hx; subst hs; simp only [Op.equalIn, underlying, Sem.run_bind, run_program, Result.andThen_ok, hf, Sem.run_pure]; try rfl)
        | (subst hx; subst hy; subst hs; simp only [Op.equalIn, underlying, Sem.run_bind, run_program, Result.andThen_ok, hf, Sem.run_pure]; try rfl)
  case iface =>
    obtain ⟨e, hf⟩ := hf
    cases x <;> cases y <;> simp only [sameIface, Option.some.injEq, reduceCtorEq] at hs
    all_goals
      simp only [VR] at hx hy
      first
        | (obtain ⟨u, rfl, _⟩ := hx; subst hy; subst hs; simp only [Op.equalIn, underlying, Sem.run_bind, run_program, Result.andThen_ok, hf, Sem.run_pure]; try rfl)
        | (obtain ⟨u, rfl, _⟩ := hy; subst hx; subst hs; simp only [Op.equalIn, underlying, Sem.run_bind, run_program, Result.andThen_ok, hf, Sem.run_pure]; try rfl)
        | (subst hx; subst hy; subst hs; simp only [Op.equalIn, underlying, Sem.run_bind, run_program, Result.andThen_ok, hf, Sem.run_pure]; try rfl)

theorem negIf_eq (neg b : Bool) : negIf neg b = if neg then !b else b := by cases neg <;> cases b <;> rfl
def eqlOf : Bool → BinOp
  | false => .eql
  | true => .neq
/-- Equality, behind its guard: not of two values that the model compares by themselves. -/
theorem run_eqlOf (neg : Bool) {t : TypeId} {x y : Value} {r : Bool} (hb : ∀ op : BinOp, (op = .eql → Go.binOp op t x y = do pure (.bool (← Op.equal t x y))) ∧ (op = .neq → Go.binOp op t x y = do pure (.bool !(← Op.equal t x y))))
    (he : (Op.equal t x y).run P w = .ok r w) : (Go.binOp (eqlOf neg) t x y).run P w = .ok (.bool (negIf neg r)) w := by
  cases neg with
  | false => simp only [eqlOf]; rw [(hb .eql).1 rfl]; simp [he, negIf]
  | true => rw [eqlOf, (hb .neq).2 rfl]; simp only [Sem.run_bind, he, Result.andThen_ok, Sem.run_pure, negIf]; cases r <;> rfl
/-- The values of an equality of a kind that goes by 'equal'. -/
def Plain (v : Value) : Prop := (∃ b, v = .bool b) ∨ (∃ a, v = .pointer a) ∨ (∃ a l c, v = .slice a l c) ∨ (∃ m, v = .map m) ∨ (∃ f x y, v = .func f x y) ∨ v = .nilFunc ∨ v = .nilIface ∨ (∃ t x, v = .iface t x)
theorem plain_ok {k : SK} (hk : k ≠ .int) (hk' : k ≠ .str) {x y : AV} {r : Bool} (hs : sameV k x y = some r) {x' y' : Value} (hx : VR κ x x') (hy : VR κ y y') : Plain x' ∧ Plain y' := by
  have hp : ∀ {z : AV} {z' : Value}, VR κ z z' → (∀ kd n, z ≠ .int kd n) → (∀ l, z ≠ .str l) → z ≠ .any → z.one = true → Plain z' := by
    intro z z' hz h1 h2 h3 h4
    cases z <;> simp only [VR] at hz <;> simp only [Plain]
    case any => exact absurd rfl h3
    case int => exact absurd rfl (h1 _ _)
    case str => exact absurd rfl (h2 _)
    case agg => simp [AV.one] at h4
    case tuple => simp [AV.one] at h4
    case bool => subst hz; simp
    case nilptr => subst hz; simp
    case ptr => obtain ⟨_, _, rfl⟩ := hz; simp
    case gptr => subst hz; simp
    case iptr => obtain ⟨_, _, _, _, rfl, _⟩ := hz; simp
    case nilslice => subst hz; simp
    case slice => obtain ⟨_, _, _, _, rfl, _⟩ := hz; simp
    case imm => obtain ⟨_, _, rfl, _⟩ := hz; simp
    case nilmap => subst hz; simp
    case map => obtain ⟨_, _, rfl⟩ := hz; simp
    case nilfunc => subst hz; simp
    case func => obtain ⟨_, _, rfl, _⟩ := hz; simp
    case yield => obtain ⟨_, _, rfl⟩ := hz; simp
    case niliface => subst hz; simp
    case iface => obtain ⟨_, rfl, _⟩ := hz; simp
  have hone : ∀ {x y : AV}, sameV k x y = some r → (∀ kd n, x ≠ .int kd n) ∧ (∀ l, x ≠ .str l) ∧ x ≠ .any ∧ x.one = true ∧ (∀ kd n, y ≠ .int kd n) ∧ (∀ l, y ≠ .str l) ∧ y ≠ .any ∧ y.one = true := by
    intro x y e
    cases k <;> first | (exact absurd rfl hk) | (exact absurd rfl hk') | skip
    all_goals
      simp only [sameV] at e
      cases x <;> cases y <;> first | (simp [sameBool, samePtr, sameSlice, sameMap, sameFunc, sameIface] at e; done) | simp [AV.one]
  obtain ⟨a1, a2, a3, a4, b1, b2, b3, b4⟩ := hone hs
  exact ⟨hp hx a1 a2 a3 a4, hp hy b1 b2 b3 b4⟩
theorem binOp_plain {t : TypeId} {x y : Value} (hx : Plain x) (hy : Plain y) (op : BinOp) : (op = .eql → Go.binOp op t x y = do pure (.bool (← Op.equal t x y))) ∧ (op = .neq → Go.binOp op t x y = do pure (.bool !(← Op.equal t x y))) := by
  constructor <;> rintro rfl <;>
  rcases hx with ⟨_, rfl⟩ | ⟨_, rfl⟩ | ⟨_, _, _, rfl⟩ | ⟨_, rfl⟩ | ⟨_, _, _, rfl⟩ | rfl | rfl | ⟨_, _, rfl⟩ <;>
  rcases hy with ⟨_, rfl⟩ | ⟨_, rfl⟩ | ⟨_, _, _, rfl⟩ | ⟨_, rfl⟩ | ⟨_, _, _, rfl⟩ | rfl | rfl | ⟨_, _, rfl⟩ <;> rfl
theorem same_ok (hr : HR P κ h w) (ht : TR κ n tm a.tmps) {k : SK} (hk : k ≠ .int) (hk' : k ≠ .str) {neg : Bool} {t yt : TypeId} (hf : fits P t k) {x y : Operand} {xo yo : XO} (hx : opnd x = some xo) (hy : opnd y = some yo)
    (hnil : k = .iface → isNilC x = true ∨ isNilC y = true) (ho : o.op = .binOp (eqlOf neg) t x y yt) (hs : sameS neg k xo yo tm h = .ok v h') : OpRes P o a κ h w v h' := by
  obtain ⟨u, h1, h2⟩ := withO_ok hs
  obtain ⟨c, h3, h4⟩ := withO_ok h2
  have e1 := opnd_ok ht hx h1
  have e2 := opnd_ok ht hy h3
  cases hv : sameV k u c with
  | none => rw [hv] at h4; simp at h4
  | some r =>
    rw [hv] at h4
    simp only [okB, Out.ok.injEq] at h4
    obtain ⟨rfl, rfl⟩ := h4
    obtain ⟨p1, p2⟩ := plain_ok hk hk' hv e1 e2
    have he := equalIn_ok (P := P) (w := w) hf hv e1 e2 9999
    refine .pure (v' := .bool (negIf neg r)) hr (by simp only [VR]) (run_binOper ho ?_ (run_eqlOf neg (binOp_plain p1 p2) he))
    have hg : ∀ {b c : Value}, Plain b → Plain c → (b = .nilIface → c = .nilIface → isNilC x = true ∨ isNilC y = true) → (eqGuard (eqlOf neg) t x y b c).run P w = .ok () w := by
      intro b c p1 p2 p3
      cases neg <;>
      (rcases p1 with ⟨_, rfl⟩ | ⟨_, rfl⟩ | ⟨_, _, _, rfl⟩ | ⟨_, rfl⟩ | ⟨_, _, _, rfl⟩ | rfl | rfl | ⟨_, _, rfl⟩ <;> first | (simp [eqGuard, eqlOf]; done) | skip) <;>
      (rcases p2 with ⟨_, rfl⟩ | ⟨_, rfl⟩ | ⟨_, _, _, rfl⟩ | ⟨_, rfl⟩ | ⟨_, _, _, rfl⟩ | rfl | rfl | ⟨_, _, rfl⟩ <;> first | (simp [eqGuard, eqlOf]; done) | skip) <;>
      (have hp := p3 rfl rfl; cases x <;> cases y <;> first | (simp [isNilC] at hp; done) | simp [eqGuard, eqlOf])
    refine hg p1 p2 fun q q' => ?_
    have hki : k = .iface := by
      rw [q] at e1
      cases k <;> first | rfl | (simp only [fits] at hf; exfalso; cases u <;> simp only [VR] at e1 <;> first | (simp [sameV, sameBool, samePtr, sameSlice, sameMap, sameFunc, sameInt, sameStr] at hv; done) | (simp at e1; done) | (obtain ⟨_, _, e1⟩ := e1; simp at e1; done) | (obtain ⟨_, _, e1, _⟩ := e1; simp at e1; done) | (obtain ⟨_, _, _, _, e1, _⟩ := e1; simp at e1; done))
    exact hnil hki
theorem un_ok (hr : HR P κ h w) (ht : TR κ n tm a.tmps) {u : UnOp} {xu : XU} (hu : (u = .neg ∧ xu = .neg) ∨ (u = .xor ∧ xu = .xor) ∨ (u = .not ∧ xu = .not)) {t : TypeId} {x : Operand} {xo : XO} (hx : opnd x = some xo)
    (ho : o.op = .unOp u t x) (hs : unS xu xo tm h = .ok v h') : OpRes P o a κ h w v h' := by
  rcases hu with ⟨rfl, rfl⟩ | ⟨rfl, rfl⟩ | ⟨rfl, rfl⟩ <;> simp only [unS] at hs
  · obtain ⟨k, m, h1, h2⟩ := withI_ok hs
    have e := opnd_ok ht hx h1
    simp only [VR] at e
    simp only [okI, Out.ok.injEq] at h2
    obtain ⟨rfl, rfl⟩ := h2
    exact .pure (v' := .int k (k.wrap (0 - m))) hr (by simp only [VR, wrapF_eq]) (by simp [execOp, ho, e, Op.unary, Op.intArith])
  · obtain ⟨k, m, h1, h2⟩ := withI_ok hs
    have e := opnd_ok ht hx h1
    simp only [VR] at e
    simp only [okI, Out.ok.injEq] at h2
    obtain ⟨rfl, rfl⟩ := h2
    exact .pure (v' := .int k (k.wrap (BitVec.ofInt k.bits (if k.signed then -1 else k.max) ^^^ BitVec.ofInt k.bits m).toNat)) hr (by simp only [VR, slowBits]) (by simp [execOp, ho, e, Op.unary, Op.intBits])
  · obtain ⟨b, h1, h2⟩ := withB_ok hs
    have e := opnd_ok ht hx h1
    simp only [VR] at e
    simp only [okB, Out.ok.injEq] at h2
    obtain ⟨rfl, rfl⟩ := h2
    exact .pure (v' := .bool !b) hr (by simp only [VR]; cases b <;> rfl) (by simp [execOp, ho, e, Op.unary])
end
end Go.X
