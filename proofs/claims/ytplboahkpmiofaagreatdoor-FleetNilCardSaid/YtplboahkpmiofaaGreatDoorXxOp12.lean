/- The instructions of X against the model's operations, 12: maps. -/
import Derived.Test.YtplboahkpmiofaaGreatDoorXxOp11
import Derived.MapKept
namespace Go.X
open Go

section
variable {P : Program} {κ : Kp} {h h' : Heap} {w : World} {n : Nat} {tm : Tm} {a : Act} {o : Oper} {v : AV}

theorem run_getMap {r : Nat} {es : Array MapEntry} {clock : Nat} (hb : w.heap[r]? = some (.map es clock)) : (getObj r).run P w = .ok (.map es clock) w := by simp [getObj, Sem.run, hb]
theorem run_setMap {r : Nat} {es : Array MapEntry} {clock : Nat} (o : Obj) (hb : w.heap[r]? = some (.map es clock)) : (setObj r o).run P w = .ok () (World.put w r o) := by simp [setObj, Sem.run, hb, World.put]
theorem run_findKeyX {kt : TypeId} {d : TypeDesc} {k : Value} {l : List MapEntry} {b : Option (Nat × Value)} (hd : P.underlying kt = some d) (h : Instr.findNow d k l 0 = some b) : (Instr.findKey kt k l).run P w = .ok b w := by
  simp only [Instr.findKey, Sem.run_bind, run_underlyingT hd, Result.andThen_ok, h, Sem.run_pure]
/-- A type of map keys: strings ('s'), or numbers. -/
def KeyT (P : Program) (kt : TypeId) (s : Bool) : Prop := if s then P.underlying kt = some .string else ∃ k, P.underlying kt = some (.int k)
theorem keyT_ok {t : TypeId} {s : Bool} (h : keyT P t = some s) : ∃ kt e, P.underlying t = some (.map kt e) ∧ KeyT P kt s := by
  simp only [keyT] at h
  split at h
  · rename_i k e hu
    refine ⟨k, e, hu, ?_⟩
    split at h <;> first | (simp at h; done) | skip
    · rename_i q hq
      simp only [Option.some.injEq] at h; subst h
      simp [KeyT, hq]
    · rename_i hq
      simp only [Option.some.injEq] at h; subst h
      simp [KeyT, hq]
  · simp at h
theorem run_checkKeyX {kt : TypeId} {s : Bool} (hk : KeyT P kt s) (em : Bool) (m : Nat) (x : Value) : (Instr.checkKey em (m + 1) kt x).run P w = .ok () w := by
  cases s with
  | true =>
    simp only [KeyT, if_true] at hk
    unfold Instr.checkKey
    simp only [Sem.run_bind, run_underlyingT hk, Result.andThen_ok]
    cases x <;> rfl
  | false =>
    simp only [KeyT, Bool.false_eq_true, if_false] at hk
    obtain ⟨k, hk⟩ := hk
    unfold Instr.checkKey
    simp only [Sem.run_bind, run_underlyingT hk, Result.andThen_ok]
    cases x <;> rfl
theorem keyIs_ok {kt : TypeId} {s : Bool} (hk : KeyT P kt s) {x y : AV} {x' y' : Value} (hx : VR κ x x') (hy : VR κ y y') (hs : isKey s x = true) {r : Bool} (hr : keyIs x y = some r) :
    ∃ d, P.underlying kt = some d ∧ Instr.sameNow d x' y' = some r ∧ (r = true → VR κ y x' ∧ ∀ m, Instr.sameBits m y' x' = true) := by
  cases x <;> simp only [isKey] at hs <;> first | (simp at hs; done) | skip
  case int k a =>
    cases s with
    | true => simp at hs
    | false =>
      simp only [KeyT, Bool.false_eq_true, if_false] at hk
      obtain ⟨q, hk⟩ := hk
      cases y <;> simp only [keyIs, reduceCtorEq] at hr
      rename_i k' b
      cases hkk : sameK k k' with
      | false => rw [hkk] at hr; simp at hr
      | true =>
        rw [hkk] at hr
        have := (sameK_iff _ _).1 hkk
        subst this
        simp only [Option.some.injEq] at hr
        rw [eqI_eq] at hr
        simp only [VR] at hx hy
        subst hx; subst hy; subst hr
        refine ⟨_, hk, by simp only [Instr.sameNow, if_true, Option.some.injEq]; cases hab : (a == b) <;> simp_all, fun e => ?_⟩
        have e : a = b := by simpa using e
        subst e
        exact ⟨by simp only [VR], fun m => by cases m <;> simp [Instr.sameBits]⟩
  case str l =>
    subst hs
    simp only [KeyT, if_true] at hk
    cases y <;> simp only [keyIs, reduceCtorEq, Option.some.injEq] at hr
    rename_i l'
    simp only [VR] at hx hy
    obtain ⟨b, rfl, rfl⟩ := hx
    obtain ⟨b', rfl, rfl⟩ := hy
    rw [beqN_map] at hr
    refine ⟨_, hk, ?_, fun e => ?_⟩
    · simp only [Instr.sameNow]
      rw [← hr, beq_toListBytes, ByteArray.toList_eq, ByteArray.toList_eq]
    · subst hr
      have hd : b.data.toList = b'.data.toList := by simpa using e
      have hb : b = b' := by
        cases b; cases b'
        simp only [ByteArray.mk.injEq]
        exact Array.ext' hd
      subst hb
      have hbb : (b == b) = true := by rw [beq_toListBytes]; simp
      exact ⟨by simp only [VR]; exact ⟨b, rfl, rfl⟩, fun m => by cases m <;> simp [Instr.sameBits, hbb]⟩

theorem VRe_get : ∀ {es : List (AV × AV × Nat)} {l : List MapEntry}, VRe κ es l → es.length = l.length ∧ ∀ (i : Nat) (k x : AV) (b : Nat), es[i]? = some (k, x, b) → ∃ e, l[i]? = some e ∧ VR κ k e.key ∧ VR κ x e.val ∧ e.born = b
  | [], l, h => by simp only [VRe] at h; subst h; simp
  | (k, x, b) :: es, l, h => by
    obtain ⟨e, r, rfl, h1, h2, h3, h4⟩ := h
    obtain ⟨g1, g2⟩ := VRe_get h4
    refine ⟨by simp [g1], fun i k' x' b' hi => ?_⟩
    cases i with
    | zero =>
      simp only [List.getElem?_cons_zero, Option.some.injEq, Prod.mk.injEq] at hi
      obtain ⟨rfl, rfl, rfl⟩ := hi
      exact ⟨e, rfl, h1, h2, h3⟩
    | succ i => simpa using g2 i k' x' b' (by simpa using hi)
/-- A key looked for, in X and in the model. -/
theorem findE_ok {kt : TypeId} {s : Bool} (hk : KeyT P kt s) {d : TypeDesc} (hd : P.underlying kt = some d) {x : AV} {x' : Value} (hx : VR κ x x') (hs : isKey s x = true) : ∀ {es : List (AV × AV × Nat)} {l : List MapEntry} {i : Nat} {r : Option (Nat × AV)}, VRe κ es l → findE x es i = some r →
    (r = none ∧ Instr.findNow d x' l i = some none) ∨ ∃ j u e k, r = some (i + j, u) ∧ l[j]? = some e ∧ es[j]? = some (k, u, e.born) ∧ VR κ u e.val ∧ VR κ k x' ∧ (∀ m, Instr.sameBits m e.key x' = true) ∧ Instr.findNow d x' l i = some (some (i + j, e.val))
  | [], l, i, r, he, hf => by
    simp only [VRe] at he; subst he
    simp only [findE, Option.some.injEq] at hf
    subst hf
    exact .inl ⟨rfl, rfl⟩
  | (k, u, b) :: es, l, i, r, he, hf => by
    obtain ⟨e, q, rfl, h1, h2, h3, h4⟩ := he
    simp only [findE] at hf
    cases hki : keyIs x k with
    | none => rw [hki] at hf; simp at hf
    | some t =>
      rw [hki] at hf
      obtain ⟨d', hd', hn, hy⟩ := keyIs_ok hk hx h1 hs hki
      have : d' = d := Option.some.inj (hd'.symm.trans hd)
      subst this
      cases t with
      | true =>
        simp only [Option.some.injEq] at hf
        subst hf
        obtain ⟨y1, y2⟩ := hy rfl
        exact .inr ⟨0, u, e, k, by simp, by simp, by simp [h3], h2, y1, y2, by simp [Instr.findNow, hn]⟩
      | false =>
        rcases findE_ok hk hd hx hs (i := i + 1) h4 hf with ⟨g1, g2⟩ | ⟨j, u', e', k', g1, g2, g3, g4, g5, g6, g7⟩
        · exact .inl ⟨g1, by simp [Instr.findNow, hn, g2]⟩
        · refine .inr ⟨j + 1, u', e', k', by rw [g1]; congr 2; omega, by simpa using g2, by simpa using g3, g4, g5, g6, ?_⟩
          simp only [Instr.findNow, hn, g7]
          congr 3; omega
theorem VRe_setVal : ∀ {es : List (AV × AV × Nat)} {l : List MapEntry} {i : Nat} {k u x : AV} {b : Nat} {k' x' : Value}, VRe κ es l → es[i]? = some (k, u, b) → VR κ k k' → VR κ x x' → VRe κ (setVal x es i) (l.modify i fun e => { e with key := k', val := x' })
  | [], l, i, k, u, x, b, k', x', he, hi, hk, hx => by simp at hi
  | (k0, u0, b0) :: es, l, i, k, u, x, b, k', x', he, hi, hk, hx => by
    obtain ⟨e, q, rfl, h1, h2, h3, h4⟩ := he
    cases i with
    | zero =>
      simp only [List.getElem?_cons_zero, Option.some.injEq, Prod.mk.injEq] at hi
      obtain ⟨rfl, rfl, rfl⟩ := hi
      exact ⟨_, _, rfl, hk, hx, h3, h4⟩
    | succ i =>
      exact ⟨e, _, rfl, h1, h2, h3, VRe_setVal h4 (by simpa using hi) hk hx⟩
theorem setVal_self : ∀ (es : List (AV × AV × Nat)) (i : Nat) (k u : AV) (b : Nat), es[i]? = some (k, u, b) → setVal u es i = es
  | [], i, k, u, b, h => by simp at h
  | (k0, u0, b0) :: es, i, k, u, b, h => by
    cases i with
    | zero =>
      simp only [List.getElem?_cons_zero, Option.some.injEq, Prod.mk.injEq] at h
      obtain ⟨rfl, rfl, rfl⟩ := h
      rfl
    | succ i => simp only [setVal, setVal_self es i k u b (by simpa using h)]
theorem VRe_push {es : List (AV × AV × Nat)} {l : List MapEntry} (he : VRe κ es l) {k x : AV} {e : MapEntry} (hk : VR κ k e.key) (hx : VR κ x e.val) : VRe κ (es ++ [(k, x, e.born)]) (l ++ [e]) := by
  induction es generalizing l with
  | nil => simp only [VRe] at he; subst he; exact ⟨e, [], rfl, hk, hx, rfl, rfl⟩
  | cons c es ih =>
    obtain ⟨k0, x0, b0⟩ := c
    obtain ⟨f, q, rfl, h1, h2, h3, h4⟩ := he
    exact ⟨f, _, rfl, h1, h2, h3, ih h4⟩
theorem VRe_erase : ∀ {es : List (AV × AV × Nat)} {l : List MapEntry} (i : Nat), VRe κ es l → VRe κ (eraseAt es i) (l.eraseIdx i)
  | [], l, i, he => by simp only [VRe] at he; subst he; rfl
  | (k0, x0, b0) :: es, l, i, he => by
    obtain ⟨f, q, rfl, h1, h2, h3, h4⟩ := he
    cases i with
    | zero => exact h4
    | succ i => exact ⟨f, _, rfl, h1, h2, h3, VRe_erase i h4⟩
theorem bornAt_eq : ∀ {es : List (AV × AV × Nat)} {i : Nat} {k u : AV} {b : Nat}, es[i]? = some (k, u, b) → bornAt es i = b
  | [], i, k, u, b, h => by simp at h
  | (k0, u0, b0) :: es, i, k, u, b, h => by
    cases i with
    | zero =>
      simp only [List.getElem?_cons_zero, Option.some.injEq, Prod.mk.injEq] at h
      exact h.2.2
    | succ i => exact bornAt_eq (es := es) (by simpa using h)

/-- The map behind an abstract one. -/
theorem map_of (hr : HR P κ h w) {p : Pos} {x : Spot} (hp : κ.ρ p = some x) {es : List (AV × AV × Nat)} {cl : Nat} (hg : h.get p = .map es cl) : ∃ arr : Array MapEntry, w.heap[x.b]? = some (.map arr cl) ∧ VRe κ es arr.toList := by
  have := hr.obj p x hp
  rw [hg] at this
  exact this
theorem setMap (hr : HR P κ h w) {p : Pos} {x : Spot} (hp : κ.ρ p = some x) {es : List (AV × AV × Nat)} {cl : Nat} (hg : h.get p = .map es cl) {arr : Array MapEntry} (ha : w.heap[x.b]? = some (.map arr cl)) {es' : List (AV × AV × Nat)} {cl' : Nat} {arr' : Array MapEntry} (he : VRe κ es' arr'.toList) :
    (setObj x.b (.map arr' cl')).run P w = .ok () (World.put w x.b (.map arr' cl')) ∧ Ext P κ h w κ (h.set p (.map es' cl')) (World.put w x.b (.map arr' cl')) := by
  refine ⟨run_setMap _ ha, Ext.update hr ⟨hp, by rw [hg]; simp⟩ _ _ ⟨arr', put_heap_same _ _ _ (Array.getElem?_eq_some_iff.1 ha).1, he⟩⟩

theorem lookup_ok (hr : HR P κ h w) (ht : TR κ n tm a.tmps) {t e : TypeId} {s ok : Bool} {kt : TypeId} (hu : P.underlying t = some (.map kt e)) (hk : KeyT P kt s) {z : AV} (hz : zeroOf P e = some z) {x y : Operand} {xo yo : XO} (hx : opnd x = some xo) (hy : opnd y = some yo)
    (ho : o.op = .lookup t x y ok) (hs : lookupS s z ok xo yo tm h = .ok v h') : OpRes P o a κ h w v h' := by
  obtain ⟨u, h1, h2⟩ := withO_ok hs
  obtain ⟨c, h3, h4⟩ := withO_ok h2
  have e1 := opnd_ok ht hx h1
  have e2 := opnd_ok ht hy h3
  obtain ⟨zv, z1, z2⟩ := run_zeroT hz
  obtain ⟨d, hd⟩ : ∃ d, P.underlying kt = some d := by
    cases s with
    | true => exact ⟨_, hk⟩
    | false => obtain ⟨q, hk⟩ := hk; exact ⟨_, hk⟩
  cases hkey : isKey s c with
  | false => rw [hkey] at h4; simp at h4
  | true =>
  rw [hkey] at h4
  have miss : ∀ {r : Option (Option (Nat × AV))}, r = some none → lookRes z ok r h = .ok v h' → h' = h ∧ VR κ v (if ok then .tuple #[zv, .bool false] else zv) := by
    rintro r rfl hl
    cases ok with
    | true =>
      simp only [lookRes, Out.ok.injEq] at hl
      obtain ⟨rfl, rfl⟩ := hl
      exact ⟨rfl, by simp only [VR, if_true]; exact ⟨_, rfl, by simp [VRl, VR, z2]⟩⟩
    | false =>
      simp only [lookRes, Out.ok.injEq] at hl
      obtain ⟨rfl, rfl⟩ := hl
      exact ⟨rfl, by simpa using z2 κ⟩
  cases u <;> first | (simp at h4; done) | skip
  case nilmap =>
    simp only [VR] at e1
    obtain ⟨rfl, g⟩ := miss rfl h4
    refine .pure hr g ?_
    simp only [execOp, ho, e1, Instr.lookup, Sem.run_bind, run_underlyingT hu, Result.andThen_ok, Sem.run_pure, run_checkKeyX hk]
    rw [run_findKeyX hd (b := none) (l := (#[] : Array MapEntry).toList) (k := a.eval y) rfl]
    cases ok <;> simp [z1]
  case map p =>
    simp only [VR] at e1
    obtain ⟨q, e1, e3⟩ := e1
    dsimp only at h4
    cases hg : h.get p <;> rw [hg] at h4 <;> first | (simp at h4; done) | skip
    rename_i es cl
    obtain ⟨arr, g1, g2⟩ := map_of hr e1 hg
    dsimp only at h4
    cases hf : findE c es 0 with
    | none => rw [hf] at h4; simp [lookRes] at h4
    | some r =>
      rw [hf] at h4
      rcases findE_ok hk hd e2 hkey g2 hf with ⟨rfl, f1⟩ | ⟨j, u', e', k', rfl, f2, f3, f4, f5, f6, f7⟩
      · obtain ⟨rfl, g⟩ := miss rfl h4
        refine .pure hr g ?_
        simp only [execOp, ho, e3, Instr.lookup, Sem.run_bind, run_underlyingT hu, Result.andThen_ok, Sem.run_pure, run_checkKeyX hk, run_getMap g1, run_findKeyX hd f1]
        cases ok <;> simp [z1]
      · have hval : h' = h ∧ VR κ v (if ok then .tuple #[e'.val, .bool true] else e'.val) := by
          cases ok with
          | true =>
            simp only [lookRes, Out.ok.injEq] at h4
            obtain ⟨rfl, rfl⟩ := h4
            exact ⟨rfl, by simp only [VR, if_true]; exact ⟨_, rfl, by simp [VRl, VR, f4]⟩⟩
          | false =>
            simp only [lookRes, Out.ok.injEq] at h4
            obtain ⟨rfl, rfl⟩ := h4
            exact ⟨rfl, by simpa using f4⟩
        obtain ⟨rfl, g⟩ := hval
        refine .pure hr g ?_
        simp only [execOp, ho, e3, Instr.lookup, Sem.run_bind, run_underlyingT hu, Result.andThen_ok, Sem.run_pure, run_checkKeyX hk, run_getMap g1, run_findKeyX hd f7]
theorem lenM_ok (hr : HR P κ h w) (ht : TR κ n tm a.tmps) {c : Call} (hc : c.callee = .builtin .len) {t kt e : TypeId} (hT : c.argTypes[0]? = some t) (hu : P.underlying t = some (.map kt e)) {x : Operand} {xo : XO} (hl : c.args.toList = [x]) (hx : opnd x = some xo)
    (ho : o.op = .call c) (hs : lenMS xo tm h = .ok v h') : OpRes P o a κ h w v h' := by
  obtain ⟨u, h1, h2⟩ := withO_ok hs
  have e1 := opnd_ok ht hx h1
  cases u <;> first | (simp at h2; done) | skip
  case nilmap =>
    simp only [VR] at e1
    simp only [okI, Out.ok.injEq] at h2
    obtain ⟨rfl, rfl⟩ := h2
    refine .pure (v' := goInt 0) hr (by simp only [VR, goInt]; rfl) (run_builtinOp ho hc fun cs => ?_)
    rw [args_eq hl]
    simp [builtin, Builtin.len_, hT, e1, run_underlyingT hu]
  case map p =>
    simp only [VR] at e1
    obtain ⟨q, e1, e3⟩ := e1
    dsimp only at h2
    cases hg : h.get p <;> rw [hg] at h2 <;> first | (simp at h2; done) | skip
    rename_i es cl
    obtain ⟨arr, g1, g2⟩ := map_of hr e1 hg
    simp only [okI, Out.ok.injEq] at h2
    obtain ⟨rfl, rfl⟩ := h2
    have hlen := (VRe_get g2).1
    refine .pure (v' := goInt arr.size) hr ?_ (run_builtinOp ho hc fun cs => ?_)
    · simp only [VR, goInt, lenN_eq, hlen]; simp
    · rw [args_eq hl]
      simp [builtin, Builtin.len_, hT, e3, run_underlyingT hu, run_getMap g1]

theorem KeyT.under {kt : TypeId} {s : Bool} (hk : KeyT P kt s) : ∃ d, P.underlying kt = some d := by
  cases s with
  | true => exact ⟨_, hk⟩
  | false => obtain ⟨q, hk⟩ := hk; exact ⟨_, hk⟩
theorem unit_ok (κ : Kp) : VR κ unit (.tuple #[]) := by simp only [unit, VR]; exact ⟨#[], rfl, by simp [VRl]⟩
theorem delete_ok (hr : HR P κ h w) (ht : TR κ n tm a.tmps) {c : Call} (hc : c.callee = .builtin .delete) {t e kt : TypeId} {s : Bool} (hT : c.argTypes[0]? = some t) (hu : P.underlying t = some (.map kt e)) (hk : KeyT P kt s)
    {x y : Operand} {xo yo : XO} (hl : c.args.toList = [x, y]) (hx : opnd x = some xo) (hy : opnd y = some yo) (ho : o.op = .call c) (hs : deleteS s xo yo tm h = .ok v h') : OpRes P o a κ h w v h' := by
  obtain ⟨u, h1, h2⟩ := withO_ok hs
  obtain ⟨d, h3, h4⟩ := withO_ok h2
  have e1 := opnd_ok ht hx h1
  have e2 := opnd_ok ht hy h3
  obtain ⟨ds, hd⟩ := hk.under
  cases hkey : isKey s d with
  | false => rw [hkey] at h4; simp at h4
  | true =>
  rw [hkey] at h4
  cases u <;> first | (simp at h4; done) | skip
  case nilmap =>
    simp only [VR] at e1
    simp only [Out.ok.injEq] at h4
    obtain ⟨rfl, rfl⟩ := h4
    refine .pure (v' := .tuple #[]) hr (unit_ok κ) (run_builtinOp ho hc fun cs => ?_)
    rw [args_eq hl]
    simp [builtin, Builtin.delete_, hT, e1, run_underlyingT hu, run_checkKeyX hk]
  case map p =>
    simp only [VR] at e1
    obtain ⟨q, e1, e3⟩ := e1
    dsimp only at h4
    cases hg : h.get p <;> rw [hg] at h4 <;> first | (simp at h4; done) | skip
    rename_i es cl
    obtain ⟨arr, g1, g2⟩ := map_of hr e1 hg
    dsimp only at h4
    cases hf : findE d es 0 with
    | none => rw [hf] at h4; simp at h4
    | some r =>
      rw [hf] at h4
      rcases findE_ok hk hd e2 hkey g2 hf with ⟨rfl, f1⟩ | ⟨j, u', e', k', rfl, f2, f3, f4, f5, f6, f7⟩
      · simp only [Out.ok.injEq] at h4
        obtain ⟨rfl, rfl⟩ := h4
        refine .pure (v' := .tuple #[]) hr (unit_ok κ) (run_builtinOp ho hc fun cs => ?_)
        rw [args_eq hl]
        have hset := run_setMap (P := P) (.map arr cl) g1
        rw [put_same _ _ _ g1] at hset
        simp [builtin, Builtin.delete_, hT, e3, run_underlyingT hu, run_checkKeyX hk, run_getMap g1, run_findKeyX hd f1, hset]
      · simp only [Heap.setK_eq, Out.ok.injEq, Nat.zero_add] at h4
        obtain ⟨rfl, rfl⟩ := h4
        obtain ⟨s1, s2⟩ := setMap (arr' := arr.eraseIdxIfInBounds j) (es' := eraseAt es j) (cl' := cl) hr e1 hg g1 (by
          have : (arr.eraseIdxIfInBounds j).toList = arr.toList.eraseIdx j := by
            unfold Array.eraseIdxIfInBounds
            split
            · simp
            · rename_i hlt; rw [List.eraseIdx_of_length_le]; simpa using hlt
          rw [this]; exact VRe_erase j g2)
        refine .inl ⟨.value (.tuple #[]), _, κ, run_builtinOp ho hc fun cs => ?_, .inl ⟨_, rfl, unit_ok κ⟩, s2⟩
        rw [args_eq hl]
        simp [builtin, Builtin.delete_, hT, e3, run_underlyingT hu, run_checkKeyX hk, run_getMap g1, run_findKeyX hd f7, s1]
theorem clearM_ok (hr : HR P κ h w) (ht : TR κ n tm a.tmps) {c : Call} (hc : c.callee = .builtin .clear) {t e kt : TypeId} (hT : c.argTypes[0]? = some t) (hu : P.underlying t = some (.map kt e))
    {x : Operand} {xo : XO} (hl : c.args.toList = [x]) (hx : opnd x = some xo) (ho : o.op = .call c) (hs : clearMS xo tm h = .ok v h') : OpRes P o a κ h w v h' := by
  obtain ⟨u, h1, h2⟩ := withO_ok hs
  have e1 := opnd_ok ht hx h1
  cases u <;> first | (simp at h2; done) | skip
  case nilmap =>
    simp only [VR] at e1
    simp only [Out.ok.injEq] at h2
    obtain ⟨rfl, rfl⟩ := h2
    refine .pure (v' := .tuple #[]) hr (unit_ok κ) (run_builtinOp ho hc fun cs => ?_)
    rw [args_eq hl]
    simp [builtin, Builtin.clear_, hT, e1, run_underlyingT hu]
  case map p =>
    simp only [VR] at e1
    obtain ⟨q, e1, e3⟩ := e1
    dsimp only at h2
    cases hg : h.get p <;> rw [hg] at h2 <;> first | (simp at h2; done) | skip
    rename_i es cl
    obtain ⟨arr, g1, g2⟩ := map_of hr e1 hg
    simp only [Heap.setK_eq, Out.ok.injEq] at h2
    obtain ⟨rfl, rfl⟩ := h2
    obtain ⟨s1, s2⟩ := setMap (arr' := #[]) (es' := []) (cl' := cl) hr e1 hg g1 rfl
    refine .inl ⟨.value (.tuple #[]), _, κ, run_builtinOp ho hc fun cs => ?_, .inl ⟨_, rfl, unit_ok κ⟩, s2⟩
    rw [args_eq hl]
    simp [builtin, Builtin.clear_, hT, e3, run_underlyingT hu, run_getMap g1, s1]
theorem run_keyStays {old new : Value} (h : ∀ m, Instr.sameBits m old new = true) : (Instr.keyThatStays old new).run P w = .ok new w := by
  simp only [Instr.keyThatStays, h, if_true, Sem.run_pure]
theorem mapUpd_ok (hr : HR P κ h w) (ht : TR κ n tm a.tmps) {t e kt : TypeId} {s : Bool} (hu : P.underlying t = some (.map kt e)) (hk : KeyT P kt s) {x y z : Operand} {xo yo zo : XO} (hx : opnd x = some xo) (hy : opnd y = some yo) (hz : opnd z = some zo)
    (ho : o.op = .mapUpdate t x y z ∨ o.op = .insert t x y z) (hs : mapUpdS s xo yo zo tm h = .ok v h') : OpRes P o a κ h w v h' := by
  obtain ⟨u, h1, h2⟩ := withO_ok hs
  obtain ⟨d, h3, h4⟩ := withO_ok h2
  obtain ⟨c, h5, h6⟩ := withO_ok h4
  have e1 := opnd_ok ht hx h1
  have e2 := opnd_ok ht hy h3
  have e3 := opnd_ok ht hz h5
  obtain ⟨ds, hd⟩ := hk.under
  have fin : ∀ {w' : World} {κ' : Kp}, (Instr.mapUpdate t (a.eval x) (a.eval y) (a.eval z)).run P w = .ok () w' → v = unit → Ext P κ h w κ' h' w' → OpRes P o a κ h w v h' := by
    rintro w' κ' q1 rfl q2
    refine .inl ⟨.skip, w', κ', ?_, .inr ⟨rfl, rfl⟩, q2⟩
    rcases ho with ho | ho <;> simp only [execOp, ho, Sem.run_bind, q1, Result.andThen_ok, Sem.run_pure]
  cases hkey : isKey s d <;> cases u <;> rw [hkey] at h6 <;> first | (simp at h6; done) | skip
  rename_i p
  simp only [VR] at e1
  obtain ⟨q, e1, e4⟩ := e1
  dsimp only at h6
  cases hg : h.get p <;> rw [hg] at h6 <;> first | (simp at h6; done) | skip
  rename_i es cl
  obtain ⟨arr, g1, g2⟩ := map_of hr e1 hg
  dsimp only at h6
  cases hf : findE d es 0 with
  | none => rw [hf] at h6; simp at h6
  | some r =>
    rw [hf] at h6
    rcases findE_ok hk hd e2 hkey g2 hf with ⟨rfl, f1⟩ | ⟨j, u', e', k', rfl, f2, f3, f4, f5, f6, f7⟩
    · simp only [Heap.setK_eq, Out.ok.injEq] at h6
      obtain ⟨rfl, rfl⟩ := h6
      obtain ⟨s1, s2⟩ := setMap (arr' := arr.push { key := a.eval y, val := a.eval z, born := cl }) (es' := es ++ [(d, c, cl)]) (cl' := cl + 1) hr e1 hg g1 (by
        rw [Array.toList_push]; exact VRe_push (e := { key := a.eval y, val := a.eval z, born := cl }) g2 e2 e3)
      refine fin ?_ rfl s2
      simp only [Instr.mapUpdate, e4, Sem.run_bind, run_underlyingT hu, Result.andThen_ok, run_getMap g1, run_checkKeyX hk, run_findKeyX hd f1, s1]
    · simp only [Heap.setK_eq, Out.ok.injEq, Nat.zero_add] at h6
      obtain ⟨rfl, rfl⟩ := h6
      obtain ⟨s1, s2⟩ := setMap (arr' := arr.modify j fun e => { e with key := a.eval y, val := a.eval z }) (es' := setVal c es j) (cl' := cl) hr e1 hg g1 (by
        rw [Array.toList_modify]; exact VRe_setVal g2 f3 f5 e3)
      refine fin ?_ rfl s2
      have f2' : arr[j]? = some e' := by simpa using f2
      have hks := run_keyStays (P := P) (w := w) f6
      simp only [Instr.mapUpdate, e4, Sem.run_bind, run_underlyingT hu, Result.andThen_ok, run_getMap g1, run_checkKeyX hk, run_findKeyX hd f7, Nat.zero_add, f2', Option.map_some, Option.getD_some, hks, s1]
theorem mapEntry_ok (hr : HR P κ h w) (ht : TR κ n tm a.tmps) {t e kt : TypeId} {s : Bool} (hu : P.underlying t = some (.map kt e)) (hk : KeyT P kt s) {z : AV} (hz : zeroOf P e = some z) {x y : Operand} {xo yo : XO} (hx : opnd x = some xo) (hy : opnd y = some yo)
    (ho : o.op = .mapEntry t x y) (hs : mapEntryS s z xo yo tm h = .ok v h') : OpRes P o a κ h w v h' := by
  obtain ⟨u, h1, h2⟩ := withO_ok hs
  obtain ⟨d, h3, h6⟩ := withO_ok h2
  have e1 := opnd_ok ht hx h1
  have e2 := opnd_ok ht hy h3
  obtain ⟨ds, hd⟩ := hk.under
  obtain ⟨zv, z1, z2⟩ := run_zeroT hz
  cases hkey : isKey s d <;> cases u <;> rw [hkey] at h6 <;> first | (simp at h6; done) | skip
  rename_i p
  simp only [VR] at e1
  obtain ⟨q, e1, e4⟩ := e1
  dsimp only at h6
  cases hg : h.get p <;> rw [hg] at h6 <;> first | (simp at h6; done) | skip
  rename_i es cl
  obtain ⟨arr, g1, g2⟩ := map_of hr e1 hg
  dsimp only at h6
  cases hf : findE d es 0 with
  | none => rw [hf] at h6; simp at h6
  | some r =>
    rw [hf] at h6
    rcases findE_ok hk hd e2 hkey g2 hf with ⟨rfl, f1⟩ | ⟨j, u', e', k', rfl, f2, f3, f4, f5, f6, f7⟩
    · simp only [Heap.setK_eq, Out.ok.injEq] at h6
      obtain ⟨rfl, rfl⟩ := h6
      obtain ⟨s1, s2⟩ := setMap (arr' := arr.push { key := a.eval y, val := zv, born := cl }) (es' := es ++ [(d, z, cl)]) (cl' := cl + 1) hr e1 hg g1 (by
        rw [Array.toList_push]; exact VRe_push (e := { key := a.eval y, val := zv, born := cl }) g2 e2 (z2 κ))
      refine .inl ⟨.value (.tuple #[zv, goInt cl]), _, κ, ?_, .inl ⟨_, rfl, ?_⟩, s2⟩
      · simp only [execOp, ho, Instr.mapEntry, e4, Sem.run_bind, run_underlyingT hu, Result.andThen_ok, run_getMap g1, run_checkKeyX hk, run_findKeyX hd f1, z1, s1, Sem.run_pure]
      · simp only [VR]; exact ⟨_, rfl, by simp [VRl, VR, z2, goInt]⟩
    · simp only [Out.ok.injEq, Nat.zero_add] at h6
      obtain ⟨rfl, rfl⟩ := h6
      have f2' : arr[j]? = some e' := by simpa using f2
      have hks := run_keyStays (P := P) (w := w) f6
      -- the key stays what it is, in X
      have hset : (arr.modify j fun e => { e with key := a.eval y }) = arr.modify j fun e => { e with key := a.eval y, val := e.val } := rfl
      have he : VRe κ es (arr.modify j fun e => { e with key := a.eval y }).toList := by
        have hs' := VRe_setVal g2 f3 f5 f4
        rw [setVal_self _ _ _ _ _ f3] at hs'
        rw [Array.toList_modify]
        have : arr.toList.modify j (fun e => { e with key := a.eval y }) = arr.toList.modify j fun e => { e with key := a.eval y, val := e'.val } := by
          apply List.ext_getElem?
          intro i
          rw [List.getElem?_modify, List.getElem?_modify]
          by_cases hij : j = i
          · subst hij; simp [f2']
          · simp [hij]
        rw [this]; exact hs'
      obtain ⟨s1, s2⟩ := setMap (arr' := arr.modify j fun e => { e with key := a.eval y }) (es' := es) (cl' := cl) hr e1 hg g1 he
      -- X leaves the block as it is
      have s3 : Ext P κ h w κ h (World.put w q.b (.map (arr.modify j fun e => { e with key := a.eval y }) cl)) := by
        have hget : ∀ r, (h.set p (.map es cl)).get r = h.get r := by
          intro r
          by_cases hr' : r = p
          · subst hr'; rw [Heap.get_set_same, hg]
          · rw [Heap.get_set_ne _ _ (fun e => hr' e.symm)]
        have hlive : ∀ r y, Live κ (h.set p (.map es cl)) r y ↔ Live κ h r y := fun r y => by simp only [Live, hget]
        refine ⟨s2.le, rfl, ⟨fun r y hy => ?_, fun r r' y y' l1 l2 => s2.hr.apart r r' y y' ((hlive _ _).2 l1) ((hlive _ _).2 l2), s2.hr.frozen, fun r y l => s2.hr.off r y ((hlive _ _).2 l), s2.hr.top, fun r hr' => by have := s2.hr.clean r hr'; rw [hget] at this; exact this⟩, s2.next, s2.size, s2.fc, ?_, ?_, s2.os, s2.output, s2.tape⟩
        · have := s2.hr.obj r y hy; rw [hget] at this; exact this
        · intro r y l hlt; exact s2.lr r y ((hlive _ _).2 l) hlt
        · intro r h1 h2; exact ⟨h2, rfl⟩
      refine .inl ⟨.value (.tuple #[e'.val, goInt e'.born]), _, κ, ?_, .inl ⟨_, rfl, ?_⟩, s3⟩
      · simp only [execOp, ho, Instr.mapEntry, e4, Sem.run_bind, run_underlyingT hu, Result.andThen_ok, run_getMap g1, run_checkKeyX hk, run_findKeyX hd f7, Nat.zero_add, f2', Option.map_some, Option.getD_some, hks, s1, Sem.run_pure]
      · simp only [VR]; exact ⟨_, rfl, by simp [VRl, VR, f4, goInt, bornAt_eq f3]⟩
end
end Go.X
