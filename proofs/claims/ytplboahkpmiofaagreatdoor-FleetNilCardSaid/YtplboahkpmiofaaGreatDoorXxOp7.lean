/- The instructions of X against the model's operations, 7: lengths, least and greatest, composite values, equality of structs. -/
import Derived.Test.YtplboahkpmiofaaGreatDoorXxOp6
namespace Go.X
open Go

section
variable {P : Program} {κ : Kp} {h h' : Heap} {w : World} {n : Nat} {tm : Tm} {a : Act} {o : Oper} {v : AV}

/-! ### calls of builtins -/
theorem run_builtinOp {c : Call} {b : Builtin} (ho : o.op = .call c) (hc : c.callee = .builtin b) {r : Result Next} (hb : ∀ cs, (builtin b c.argTypes o.type cs (c.args.map a.eval)).run P w = r) : (execOp a.eval o).run P w = r := by
  simp only [execOp, ho, resolve, hc, Sem.run_bind, Sem.run_pure, Result.andThen_ok, invoke]
  exact hb _
theorem args_eq {xs : Array Operand} {l : List Operand} (h : xs.toList = l) : xs.map a.eval = (l.map a.eval).toArray := by
  apply Array.ext'
  simp [h]
theorem mapM_one {α β : Type} {f : α → Option β} {l : List α} {y : β} (h : l.mapM f = some [y]) : ∃ x, l = [x] ∧ f x = some y := by
  match l with
  | [] => simp at h
  | [x] =>
    simp only [List.mapM_cons, List.mapM_nil, Option.bind_eq_bind, Option.bind_eq_some_iff, Option.pure_def, Option.some.injEq] at h
    obtain ⟨p, h1, q, rfl, h3⟩ := h
    simp only [List.cons.injEq, and_true] at h3
    subst h3
    exact ⟨x, rfl, h1⟩
  | x :: x' :: r =>
    simp only [List.mapM_cons, Option.bind_eq_bind, Option.bind_eq_some_iff, Option.pure_def, Option.some.injEq] at h
    obtain ⟨_, _, _, ⟨_, _, _, _, rfl⟩, h⟩ := h
    simp at h
theorem mapM_two {α β : Type} {f : α → Option β} {l : List α} {y z : β} (h : l.mapM f = some [y, z]) : ∃ x u, l = [x, u] ∧ f x = some y ∧ f u = some z := by
  match l with
  | [] => simp at h
  | x :: r =>
    simp only [List.mapM_cons, Option.bind_eq_bind, Option.bind_eq_some_iff, Option.pure_def, Option.some.injEq] at h
    obtain ⟨p, h1, q, h2, h3⟩ := h
    simp only [List.cons.injEq] at h3
    obtain ⟨rfl, rfl⟩ := h3
    obtain ⟨u, rfl, h4⟩ := mapM_one h2
    exact ⟨x, u, rfl, h1, h4⟩
theorem mapM_nil {α β : Type} {f : α → Option β} {l : List α} (h : l.mapM f = some []) : l = [] := by
  cases l with
  | nil => rfl
  | cons x r =>
    simp only [List.mapM_cons, Option.bind_eq_bind, Option.bind_eq_some_iff, Option.pure_def, Option.some.injEq] at h
    obtain ⟨_, _, _, _, h⟩ := h
    simp at h

/-! ### lengths -/
theorem lenStr_ok (hr : HR P κ h w) (ht : TR κ n tm a.tmps) {c : Call} (hc : c.callee = .builtin .len) {t : TypeId} (hT : c.argTypes[0]? = some t) (hu : P.underlying t = some .string) {x : Operand} {xo : XO} (hl : c.args.toList = [x]) (hx : opnd x = some xo)
    (ho : o.op = .call c) (hs : lenS true xo tm h = .ok v h') : OpRes P o a κ h w v h' := by
  obtain ⟨y, h1, h2⟩ := withO_ok hs
  have e1 := opnd_ok ht hx h1
  cases y <;> first | (simp at h2; done) | skip
  rename_i l
  simp only [VR] at e1
  obtain ⟨s, e3, e4⟩ := e1
  simp only [okI, Out.ok.injEq] at h2
  obtain ⟨rfl, rfl⟩ := h2
  refine .pure (v' := goInt s.size) hr ?_ (run_builtinOp ho hc fun cs => ?_)
  · simp only [VR, goInt, lenN_eq, Nat.add_zero, size_of e4]; rfl
  · rw [args_eq hl]
    simp [builtin, Builtin.len_, hT, e3, run_underlyingT hu]
theorem lenSl_ok (hr : HR P κ h w) (ht : TR κ n tm a.tmps) {c : Call} (hc : c.callee = .builtin .len) {t e : TypeId} (hT : c.argTypes[0]? = some t) (hu : P.underlying t = some (.slice e)) {x : Operand} {xo : XO} (hl : c.args.toList = [x]) (hx : opnd x = some xo)
    (ho : o.op = .call c) (hs : lenS false xo tm h = .ok v h') : OpRes P o a κ h w v h' := by
  obtain ⟨y, h1, h2⟩ := withO_ok hs
  have e1 := opnd_ok ht hx h1
  have fin : ∀ {q : Option Addr} {m k : Nat}, a.eval x = .slice q m k → okI .i64 (.ofNat m) h = .ok v h' → OpRes P o a κ h w v h' := by
    intro q m k e3 e4
    simp only [okI, Out.ok.injEq] at e4
    obtain ⟨rfl, rfl⟩ := e4
    refine .pure (v' := goInt m) hr (by simp only [VR, goInt]; rfl) (run_builtinOp ho hc fun cs => ?_)
    rw [args_eq hl]
    simp [builtin, Builtin.len_, hT, e3, run_underlyingT hu]
  cases y <;> first | (simp at h2; done) | skip
  case nilslice => simp only [VR] at e1; exact fin e1 h2
  case slice => simp only [VR] at e1; obtain ⟨_, _, _, _, e1, _⟩ := e1; exact fin e1 h2
  case imm => simp only [VR] at e1; obtain ⟨_, _, e1, _⟩ := e1; exact fin e1 h2
theorem lenC_ok (hr : HR P κ h w) {c : Call} (hc : c.callee = .builtin .len) {t e : TypeId} {m : Nat} (hT : c.argTypes[0]? = some t) (hu : P.underlying t = some (.array m e) ∨ ∃ q, P.underlying t = some (.pointer q) ∧ P.underlying q = some (.array m e)) {x : Operand} (hl : c.args.toList = [x])
    (ho : o.op = .call c) (hs : okI .i64 (.ofNat m) h = .ok v h') : OpRes P o a κ h w v h' := by
  simp only [okI, Out.ok.injEq] at hs
  obtain ⟨rfl, rfl⟩ := hs
  refine .pure (v' := goInt m) hr (by simp only [VR, goInt]; rfl) (run_builtinOp ho hc fun cs => ?_)
  rw [args_eq hl]
  rcases hu with hu | ⟨q, hu, hq⟩
  · simp [builtin, Builtin.len_, hT, run_underlyingT hu]
  · simp [builtin, Builtin.len_, hT, run_underlyingT hu, run_underlyingT hq]
theorem cap_ok (hr : HR P κ h w) (ht : TR κ n tm a.tmps) {c : Call} (hc : c.callee = .builtin .cap) {t e : TypeId} (hT : c.argTypes[0]? = some t) (hu : P.underlying t = some (.slice e)) {x : Operand} {xo : XO} (hl : c.args.toList = [x]) (hx : opnd x = some xo)
    (ho : o.op = .call c) (hs : capS xo tm h = .ok v h') : OpRes P o a κ h w v h' := by
  obtain ⟨y, h1, h2⟩ := withO_ok hs
  have e1 := opnd_ok ht hx h1
  have fin : ∀ {q : Option Addr} {m k : Nat}, a.eval x = .slice q m k → okI .i64 (.ofNat k) h = .ok v h' → OpRes P o a κ h w v h' := by
    intro q m k e3 e4
    simp only [okI, Out.ok.injEq] at e4
    obtain ⟨rfl, rfl⟩ := e4
    refine .pure (v' := goInt k) hr (by simp only [VR, goInt]; rfl) (run_builtinOp ho hc fun cs => ?_)
    rw [args_eq hl]
    simp [builtin, Builtin.cap_, hT, e3, run_underlyingT hu]
  cases y <;> first | (simp at h2; done) | skip
  case nilslice => simp only [VR] at e1; exact fin e1 h2
  case slice p q len cp =>
    simp only [VR] at e1; obtain ⟨_, _, _, _, e1, _, _, e2⟩ := e1
    cases cp with
    | ex r => dsimp only at e2; subst e2; exact fin e1 h2
    | up z => simp at h2
  case imm cs len full =>
    simp only [VR] at e1; obtain ⟨_, _, e1, _, e2, _⟩ := e1
    cases full with
    | true => have := e2 rfl; subst this; exact fin e1 h2
    | false => simp at h2

/-! ### least and greatest -/
theorem minmaxL_ok (mx : Bool) : ∀ {l : List AV} {ls : List Value} {k : IntKind} {x : Int}, VRl κ l ls → minmaxL mx l k x h = .ok v h' →
    h' = h ∧ ∃ v', (ls.foldlM (if mx then Builtin.max2 else Builtin.min2) (.int k x)).run P w = .ok v' w ∧ VR κ v v'
  | [], ls, k, x, hl, hs => by
    simp only [VRl] at hl; subst hl
    simp only [minmaxL, okI, Out.ok.injEq] at hs
    obtain ⟨rfl, rfl⟩ := hs
    exact ⟨rfl, _, by simp only [List.foldlM_nil, Sem.run_pure]; rfl, by simp only [VR]⟩
  | c :: l, ls, k, x, hl, hs => by
    simp only [VRl] at hl
    obtain ⟨u, r, rfl, h1, h2⟩ := hl
    simp only [minmaxL] at hs
    cases c <;> first | (simp at hs; done) | skip
    rename_i k' b
    simp only [VR] at h1; subst h1
    cases mx with
    | false =>
      dsimp only at hs
      cases hlt : ltI b x with
      | true =>
        rw [hlt] at hs
        obtain ⟨e1, v', e2, e3⟩ := minmaxL_ok false h2 hs
        refine ⟨e1, v', ?_, e3⟩
        rw [ltI_eq] at hlt
        have hlt : b < x := by simpa using hlt
        simp only [List.foldlM_cons, Bool.false_eq_true, if_false, Builtin.min2, Sem.run_bind, Sem.run_pure, Result.andThen_ok, if_pos hlt] at e2 ⊢
        exact e2
      | false =>
        rw [hlt] at hs
        obtain ⟨e1, v', e2, e3⟩ := minmaxL_ok false h2 hs
        refine ⟨e1, v', ?_, e3⟩
        rw [ltI_eq] at hlt
        have hlt : ¬ b < x := by simpa using hlt
        simp only [List.foldlM_cons, Bool.false_eq_true, if_false, Builtin.min2, Sem.run_bind, Sem.run_pure, Result.andThen_ok, if_neg hlt] at e2 ⊢
        exact e2
    | true =>
      dsimp only at hs
      cases hlt : ltI x b with
      | true =>
        rw [hlt] at hs
        obtain ⟨e1, v', e2, e3⟩ := minmaxL_ok true h2 hs
        refine ⟨e1, v', ?_, e3⟩
        rw [ltI_eq] at hlt
        have hlt : b > x := by simpa using hlt
        simp only [List.foldlM_cons, if_true, Builtin.max2, Sem.run_bind, Sem.run_pure, Result.andThen_ok, if_pos hlt] at e2 ⊢
        exact e2
      | false =>
        rw [hlt] at hs
        obtain ⟨e1, v', e2, e3⟩ := minmaxL_ok true h2 hs
        refine ⟨e1, v', ?_, e3⟩
        rw [ltI_eq] at hlt
        have hlt : ¬ b > x := by simpa using hlt
        simp only [List.foldlM_cons, if_true, Builtin.max2, Sem.run_bind, Sem.run_pure, Result.andThen_ok, if_neg hlt] at e2 ⊢
        exact e2
theorem minmax_ok (hr : HR P κ h w) (ht : TR κ n tm a.tmps) {c : Call} {mx : Bool} (hc : c.callee = .builtin (if mx then .max else .min)) {xs : List XO} (hx : c.args.toList.mapM opnd = some xs)
    (ho : o.op = .call c) (hs : minmaxS mx xs tm h = .ok v h') : OpRes P o a κ h w v h' := by
  obtain ⟨vs, h1, h2⟩ := withL_ok hs
  have e1 := opnds_ok ht hx h1
  cases vs with
  | nil => simp at h2
  | cons y l =>
    cases y <;> first | (simp at h2; done) | skip
    rename_i k x
    simp only [VRl] at e1
    obtain ⟨u, r, e2, e3, e4⟩ := e1
    simp only [VR] at e3; subst e3
    obtain ⟨rfl, v', e5, e6⟩ := minmaxL_ok (P := P) (w := w) mx e4 h2
    refine .pure hr e6 (run_builtinOp ho hc fun cs => ?_)
    rw [args_eq rfl, e2]
    cases mx with
    | true => simp only [if_true] at e5 ⊢; simp only [builtin, Builtin.max_, Sem.run_bind, e5, Result.andThen_ok, Sem.run_pure]
    | false => simp only [Bool.false_eq_true, if_false] at e5 ⊢; simp only [builtin, Builtin.min_, Sem.run_bind, e5, Result.andThen_ok, Sem.run_pure]

/-! ### composite values -/
theorem foldl_put : ∀ (l : List Value) (j off : Nat) (cs : Array Value), ((l.zipIdx j).foldl (fun (cs : Array Value) (x : Value × Nat) => cs.setIfInBounds (off + x.2) x.1) cs).size = cs.size ∧
    ∀ i, ((l.zipIdx j).foldl (fun (cs : Array Value) (x : Value × Nat) => cs.setIfInBounds (off + x.2) x.1) cs)[i]? = if off + j ≤ i ∧ i < off + j + l.length ∧ i < cs.size then l[i - (off + j)]? else cs[i]?
  | [], j, off, cs => by simp; intro i h1 h2; omega
  | c :: l, j, off, cs => by
    obtain ⟨h1, h2⟩ := foldl_put l (j + 1) off (cs.setIfInBounds (off + j) c)
    simp only [List.zipIdx_cons, List.foldl_cons, List.length_cons]
    refine ⟨by rw [h1]; simp, fun i => ?_⟩
    rw [h2 i]
    simp only [Array.size_setIfInBounds, Array.getElem?_setIfInBounds]
    by_cases hi : i = off + j
    · subst hi
      rw [if_neg (by omega)]
      by_cases hlt : off + j < cs.size
      · rw [if_pos rfl, if_pos hlt, if_pos (by omega)]; simp
      · rw [if_pos rfl, if_neg hlt, if_neg (by omega)]
        rw [Array.getElem?_eq_none (by omega)]
    · rw [if_neg (show ¬ off + j = i from fun e => hi e.symm)]
      by_cases hc : off + (j + 1) ≤ i ∧ i < off + (j + 1) + l.length ∧ i < cs.size
      · rw [if_pos hc, if_pos (by omega)]
        have : i - (off + j) = (i - (off + (j + 1))) + 1 := by omega
        rw [this]; simp
      · rw [if_neg hc, if_neg (by omega)]
theorem zipIdx_foldl (vs cs : Array Value) (off : Nat) (hle : off + vs.size ≤ cs.size) :
    vs.zipIdx.foldl (fun (cs : Array Value) (x : Value × Nat) => cs.setIfInBounds (off + x.2) x.1) cs = spliced cs off vs.toList := by
  rw [← Array.foldl_toList, Array.toList_zipIdx]
  obtain ⟨h1, h2⟩ := foldl_put vs.toList 0 off cs
  apply Array.ext_getElem?
  intro i
  rw [h2 i, get_spliced (by simpa using hle)]
  simp only [Nat.add_zero, Array.length_toList]
  by_cases hc : off ≤ i ∧ i < off + vs.size
  · rw [if_pos (by omega), if_pos hc]
  · rw [if_neg (by omega), if_neg hc]
theorem VRl_splice {cs xs : List AV} {vs ys : List Value} (h1 : VRl κ cs vs) (h2 : VRl κ xs ys) (o : Nat) : VRl κ (cs.take o ++ (xs ++ cs.drop (o + xs.length))) (vs.take o ++ (ys ++ vs.drop (o + ys.length))) := by
  obtain ⟨l1, g1⟩ := VRl_iff.1 h1
  have l2 := h2.length
  refine VRl.append (VRl_iff.2 ⟨by simp [l1], fun i c x hc hx => ?_⟩) (h2.append (VRl_iff.2 ⟨by simp [l1, l2], fun i c x hc hx => ?_⟩))
  · rw [List.getElem?_take] at hc hx
    split at hc
    · rename_i hlt
      rw [if_pos hlt] at hx
      exact g1 i c x hc hx
    · simp at hc
  · rw [List.getElem?_drop] at hc hx
    rw [← l2] at hx
    exact g1 _ c x hc hx
theorem all_splice {cs xs : List AV} (h1 : cs.all AV.one = true) (h2 : xs.all AV.one = true) (o p : Nat) : (cs.take o ++ (xs ++ cs.drop p)).all AV.one = true := by
  rw [List.all_eq_true] at *
  intro x hx
  simp only [List.mem_append] at hx
  rcases hx with hx | hx | hx
  · exact h1 x (List.mem_of_mem_take hx)
  · exact h2 x hx
  · exact h1 x (List.mem_of_mem_drop hx)
/-- What fills a composite value, on both sides. -/
theorem fillK_ok (ht : TR κ n tm a.tmps) {placeX place : Nat → Option (Nat × Nat)} (hp : ∀ i y, placeX i = some y → place i = some y) {k : List AV → Out AV} : ∀ {ps : List (Nat × Operand)} {xs : List (Nat × Nat × XO)} {cs : List AV} {vs : Array Value}, copParts placeX ps = some xs →
    VRl κ cs vs.toList → cs.all AV.one = true → fillK .bad xs tm cs k = .ok v h' →
    ∃ cs' vs', Instr.fill place vs (ps.map fun x => (x.1, a.eval x.2)) = some vs' ∧ VRl κ cs' vs'.toList ∧ cs'.all AV.one = true ∧ vs'.size = vs.size ∧ k cs' = .ok v h'
  | [], xs, cs, vs, hc, hl, h1, hs => by
    simp only [copParts, Option.some.injEq] at hc
    subst hc
    exact ⟨cs, vs, rfl, hl, h1, rfl, hs⟩
  | (i, x) :: ps, xs, cs, vs, hc, hl, h1, hs => by
    simp only [copParts, Option.bind_eq_bind, Option.bind_eq_some_iff] at hc
    obtain ⟨⟨off, m⟩, hc1, hc2⟩ := hc
    simp only [Option.some.injEq] at hc2
    obtain ⟨xo, hc3, r, hc4, rfl⟩ := hc2
    simp only [fillK] at hs
    obtain ⟨y, h2, h3⟩ := withO_ok hs
    have e := opnd_ok ht hc3 h2
    cases hcs : y.cellsO with
    | none => rw [hcs] at h3; simp at h3
    | some ys =>
      rw [hcs] at h3
      dsimp only at h3
      obtain ⟨h4, h5⟩ := cellsO_some e hcs
      have h4' := h4.length
      cases hlen : lengthIs ys m with
      | false => rw [hlen] at h3; simp at h3
      | true =>
        rw [hlen] at h3
        have hlen := (lengthIs_iff _ _).1 hlen
        dsimp only at h3
        rw [spliceK_eq] at h3
        split at h3
        · rename_i hle
          have hl' := hl.length
          have hvs : off + (a.eval x).cells.size ≤ vs.size := by simp at h4' hl'; omega
          have hm : (a.eval x).cells.size = m := by simp at h4'; omega
          obtain ⟨cs', vs', g1, g2, g3, g4, g5⟩ := fillK_ok ht hp (vs := spliced vs off (a.eval x).cells.toList) hc4 (by simp only [spliced]; exact VRl_splice hl h4 off) (all_splice h1 h5 _ _) h3
          refine ⟨cs', vs', ?_, g2, g3, ?_, g5⟩
          · simp only [List.map_cons, Instr.fill, hp i _ hc1]
            have hcond : (decide ((a.eval x).cells.size ≠ m) || decide (off + (a.eval x).cells.size > vs.size)) = false := by simp; omega
            rw [if_neg (by rw [hcond]; simp)]
            rw [← zipIdx_foldl _ _ _ hvs] at g1
            exact g1
          · rw [g4, size_spliced]; simpa using hvs
        · simp at h3

theorem zeroC_ok {t : TypeId} {cs : List AV} (hz : zeroC P t = some cs) : ∃ v, (∀ w, (zeroValue t).run P w = .ok v w) ∧ (∀ κ, VRl κ cs v.cells.toList) ∧ cs.all AV.one = true ∧ szOf P t = some cs.length := by
  simp only [zeroC, Option.bind_eq_bind, Option.bind_eq_some_iff] at hz
  obtain ⟨z, h1, cs', h2, h3⟩ := hz
  obtain ⟨v, h4, h5⟩ := run_zeroT h1
  split at h3
  · rename_i hsz
    simp only [Option.some.injEq] at h3
    subst h3
    exact ⟨v, h4, fun κ => (cellsO_some (h5 κ) h2).1, (cellsO_some (h5 ⟨fun _ => none, fun _ => none⟩) h2).2, by simpa using hsz⟩
  · simp at h3
theorem run_places {fs : List Field} {ps : List (Nat × Nat)} (h : fs.mapM (fun f => (szOf P f.type).map fun n => (f.offset, n)) = some ps) : (fs.mapM (fun f => do pure (f.offset, ← sizeOf f.type) : Field → Sem (Nat × Nat))).run P w = .ok ps w := by
  induction fs generalizing ps with
  | nil => simp at h; subst h; simp
  | cons f fs ih =>
    simp only [List.mapM_cons, Option.bind_eq_bind, Option.bind_eq_some_iff, Option.pure_def, Option.some.injEq] at h
    obtain ⟨y, h1, r, h2, rfl⟩ := h
    simp only [Option.map_eq_some_iff] at h1
    obtain ⟨s, h3, rfl⟩ := h1
    simp only [List.mapM_cons, Sem.run_bind, run_sizeT h3, Result.andThen_ok, Sem.run_pure, ih h2]
theorem build_ok (hr : HR P κ h w) (ht : TR κ n tm a.tmps) {t : TypeId} {z : List AV} (hz : zeroC P t = some z) {parts : Array (Nat × Operand)} {placeX : Nat → Option (Nat × Nat)} {xs : List (Nat × Nat × XO)} (hc : copParts placeX parts.toList = some xs)
    (hplace : (∃ fs ps, P.underlying t = some (.struct fs) ∧ placesOf P fs = some ps ∧ placeX = fun i => ps[i]?) ∨ (∃ m e s, P.underlying t = some (.array m e) ∧ szOf P e = some s ∧ placeX = fun i => some (i * s, s)))
    (ho : o.op = .build t parts) (hs : buildS z xs tm h = .ok v h') : OpRes P o a κ h w v h' := by
  obtain ⟨zv, z1, z2, z3, z4⟩ := zeroC_ok hz
  rcases hplace with ⟨fs, ps, hu, hps, rfl⟩ | ⟨m, e, s, hu, hsz, rfl⟩
  · obtain ⟨cs', vs', g1, g2, g3, g4, g5⟩ := fillK_ok ht (place := fun i => ps.toArray[i]?) (fun i y hy => by simpa using hy) hc (z2 κ) z3 hs
    simp only [Out.ok.injEq] at g5
    obtain ⟨rfl, rfl⟩ := g5
    refine .pure (v' := .agg vs') hr (by simp only [VR]; exact ⟨vs', rfl, g3, g2⟩) ?_
    have hm : (fs.mapM (fun f => do pure (f.offset, ← sizeOf f.type) : Field → Sem (Nat × Nat))).run P w = .ok ps.toArray w := by
      rw [Array.mapM_eq_mapM_toList, ← bind_pure_comp, Sem.run_bind, run_places hps]; rfl
    simp only [execOp, ho, Instr.build, Sem.run_bind, z1, Result.andThen_ok, run_underlyingT hu, hm, Array.toList_map]
    rw [g1]
    simp
  · obtain ⟨cs', vs', g1, g2, g3, g4, g5⟩ := fillK_ok ht (place := fun i => some (i * s, s)) (fun i y hy => hy) hc (z2 κ) z3 hs
    simp only [Out.ok.injEq] at g5
    obtain ⟨rfl, rfl⟩ := g5
    refine .pure (v' := .agg vs') hr (by simp only [VR]; exact ⟨vs', rfl, g3, g2⟩) ?_
    simp only [execOp, ho, Instr.build, Sem.run_bind, z1, Result.andThen_ok, run_underlyingT hu, run_sizeT hsz, Array.toList_map]
    rw [g1]
    simp

/-! ### equality of structs -/
theorem plainK_ok {t : TypeId} {k : SK} (h : plainK P t = some k) : fits P t k ∧ (k = .bool ∨ k = .int ∨ k = .str) ∧ isAggT P t = some false := by
  simp only [plainK] at h
  split at h <;> first | (simp at h; done) | skip
  all_goals
    simp only [Option.some.injEq] at h
    subst h
    rename_i hu
    simp [fits, hu, isAggT]
theorem run_partOne {t : TypeId} (hag : isAggT P t = some false) {vs : Array Value} {i : Nat} {x : Value} (hx : vs[i]? = some x) : (part t vs i).run P w = .ok x w := by
  simp only [part, Sem.run_bind, run_isAggT hag, Result.andThen_ok, Bool.false_eq_true, if_false, hx, Sem.run_pure]
theorem eqFields_ok (d : Nat) {xs ys : Array Value} : ∀ {fs : List Field} {i : Nat} {mask : List (Option SK)} {as bs : List AV} {r : Bool}, maskFs P fs i = some mask → VRl κ as (xs.toList.drop i) → VRl κ bs (ys.toList.drop i) → sameL mask as bs = some r →
    (Op.eqFields (d + 1) xs ys fs).run P w = .ok r w
  | [], i, mask, as, bs, r, hm, ha, hb, hs => by
    simp only [maskFs, Option.some.injEq] at hm
    subst hm
    cases as <;> cases bs <;> simp [sameL] at hs
    subst hs; rfl
  | f :: fs, i, mask, as, bs, r, hm, ha, hb, hs => by
    simp only [maskFs] at hm
    split at hm
    · rename_i hoff
      have hoff : f.offset = i := by simpa using hoff
      simp only [Option.bind_eq_bind, Option.bind_eq_some_iff, Option.some.injEq] at hm
      obtain ⟨k, h1, ms, h2, rfl⟩ := hm
      cases as <;> cases bs <;> simp only [sameL, reduceCtorEq] at hs
      rename_i c as e bs
      simp only [VRl] at ha hb
      obtain ⟨x, X, a1, a2, a3⟩ := ha
      obtain ⟨y, Y, b1, b2, b3⟩ := hb
      have hX : X = xs.toList.drop (i + 1) := by rw [← List.drop_drop, a1]; rfl
      have hY : Y = ys.toList.drop (i + 1) := by rw [← List.drop_drop, b1]; rfl
      subst hX; subst hY
      have hx : xs[i]? = some x := by
        have := congrArg (·[0]?) a1
        simpa using this
      have hy : ys[i]? = some y := by
        have := congrArg (·[0]?) b1
        simpa using this
      obtain ⟨f1, f2, f3⟩ := plainK_ok h1
      by_cases hn : f.name = "_"
      · simp only [hn, beq_self_eq_true, if_true] at hs
        simp only [Op.eqFields, hn, ne_eq, not_true_eq_false, if_false]
        exact eqFields_ok d h2 a3 b3 hs
      · simp only [hn, beq_iff_eq, if_false] at hs
        cases hv : sameV k c e with
        | none => rw [hv] at hs; simp at hs
        | some q =>
          rw [hv] at hs
          have he := equalIn_ok (P := P) (w := w) f1 hv a2 b2 d
          simp only [Op.eqFields, ne_eq, hn, not_false_eq_true, if_true, Sem.run_bind, hoff, run_partOne f3 hx, run_partOne f3 hy, Result.andThen_ok, he]
          cases q with
          | true => simp only [Bool.not_true, Bool.false_eq_true, if_false]; exact eqFields_ok d h2 a3 b3 hs
          | false =>
            simp only [Option.some.injEq] at hs
            subst hs
            simp
    · simp at hm
theorem sameCells_ok (hr : HR P κ h w) (ht : TR κ n tm a.tmps) {neg : Bool} {t yt : TypeId} {fs : Array Field} (hu : P.underlying t = some (.struct fs)) {mask : List (Option SK)} (hm : maskOf P t = some mask) {x y : Operand} {xo yo : XO} (hx : opnd x = some xo) (hy : opnd y = some yo)
    (ho : o.op = .binOp (eqlOf neg) t x y yt) (hs : sameCellsS neg mask xo yo tm h = .ok v h') : OpRes P o a κ h w v h' := by
  obtain ⟨u, h1, h2⟩ := withO_ok hs
  obtain ⟨c, h3, h4⟩ := withO_ok h2
  have e1 := opnd_ok ht hx h1
  have e2 := opnd_ok ht hy h3
  cases u <;> cases c <;> first | (simp at h4; done) | skip
  rename_i as bs
  simp only [VR] at e1 e2
  obtain ⟨xs, e1, _, a1⟩ := e1
  obtain ⟨ys, e2, _, b1⟩ := e2
  dsimp only at h4
  cases hv : sameL mask as bs with
  | none => rw [hv] at h4; simp at h4
  | some r =>
    rw [hv] at h4
    simp only [okB, Out.ok.injEq] at h4
    obtain ⟨rfl, rfl⟩ := h4
    simp only [maskOf, hu] at hm
    split at hm
    · simp at hm
    · rename_i hcond
      simp only [Bool.or_eq_true, not_or, Bool.not_eq_true] at hcond
      have hfo : P.fieldsOf t = fs := by simp only [Program.fieldsOf, hu]
      have he : (Op.equal t (.agg xs) (.agg ys)).run P w = .ok r w := by
        have := run_equalIn_struct (P := P) w 9999 t xs ys (by rw [hfo]; exact hu) hcond.1
        simp only [Op.equal, Op.maxDepth]
        rw [this, hfo]
        exact eqFields_ok 9998 hm (by simpa using a1) (by simpa using b1) hv
      refine .pure (v' := .bool (negIf neg r)) hr (by simp only [VR]) (run_binOper ho ?_ ?_)
      · rw [e1, e2]; exact run_eqGuard_agg w _ t x y xs ys hcond.2
      · rw [e1, e2]
        exact run_eqlOf neg (fun op => ⟨fun q => by subst q; rfl, fun q => by subst q; rfl⟩) he
end
end Go.X
