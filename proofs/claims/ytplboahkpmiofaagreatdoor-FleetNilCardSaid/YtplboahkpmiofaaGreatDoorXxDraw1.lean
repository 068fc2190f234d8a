/- Regions whose order is open: what the compiler looked at; what an operation looks at. -/
import Derived.Test.YtplboahkpmiofaaGreatDoorXxCode
import Derived.Test.YtplboahkpmiofaaGreatDoorXxGhost
namespace Go.X
open Go

/-! ### temporaries left out -/
def PT.del {α : Type} : PT α → BP → PT α
  | .leaf, _ => .leaf
  | .node l _ r, .u => .node l none r
  | .node l v r, .o p => .node (PT.del l p) v r
  | .node l v r, .i p => .node l v (PT.del r p)
theorem PT.get_del {α : Type} (t : PT α) (p q : BP) : (PT.del t p).get q = if q = p then none else t.get q := by
  induction t generalizing p q with
  | leaf => cases p <;> simp [PT.del, PT.get_leaf]
  | node l v r ihl ihr => cases p <;> cases q <;> simp [PT.del, PT.get, ihl, ihr]
def TT.del {α : Type} (t : TT α) (p : Slot) : TT α := match p with
  | .lo a b => ⟨t.lo.set a ((t.lo.get a).set b none), t.hi⟩
  | .hi p => ⟨t.lo, PT.del t.hi p⟩
theorem TT.get_del {α : Type} (t : TT α) (p q : Slot) : (TT.del t p).get q = if q = p then none else t.get q := by
  cases p with
  | hi p => cases q with
    | lo a b => simp [TT.del, TT.get]
    | hi q => simp [TT.del, TT.get, PT.get_del]
  | lo a b => cases q with
    | hi q => simp [TT.del, TT.get]
    | lo d e =>
      simp only [TT.del, TT.get, Slot.lo.injEq]
      by_cases ha : a = d
      · subst ha
        rw [N16.get_set_same]
        by_cases hb : b = e
        · subst hb; simp [N16.get_set_same]
        · rw [N16.get_set_ne _ _ hb, if_neg fun e => hb e.2.symm]
      · rw [N16.get_set_ne _ _ ha, if_neg fun e => ha e.1.symm]
def dels (tm : Tm) : List Slot → Tm
  | [] => tm
  | p :: L => TT.del (dels tm L) p
theorem get_dels (tm : Tm) (q : Slot) : ∀ L : List Slot, (dels tm L).get q = if q ∈ L then none else tm.get q
  | [] => by simp [dels]
  | p :: L => by
    rw [dels, TT.get_del, get_dels tm q L]
    by_cases h : q = p
    · subst h; simp
    · simp [h]

/-! ### what an operation looks at -/
noncomputable section
variable {E : XEnv} {call : CallK} {tm tmP : Tm} {ds : List Dfd} {pan : Pan} {h : Heap}
theorem agree_slots : ∀ {l : List XO}, (∀ p ∈ slotsOf l, tm.get p = tmP.get p) → ∀ x ∈ l, Agree tm tmP x
  | [], _, _, hx => by simp at hx
  | y :: l, h, x, hx => by
    have h2 : ∀ p ∈ slotsOf l, tm.get p = tmP.get p := fun p hp => h p (by cases y <;> simp [slotsOf, hp])
    rcases List.mem_cons.1 hx with rfl | hx
    · cases x with
      | c v => trivial
      | t p => exact h p (by simp [slotsOf])
    · exact agree_slots h2 x hx
theorem withF_agree {x : XO} (h : Agree tm tmP x) : withF x tm = withF x tmP := by
  funext k
  cases x with
  | c v => rfl
  | t p =>
    show getF tm p k = getF tmP p k
    rw [getF_eq, getF_eq, show tm.get p = tmP.get p from h]
theorem withLF_agree : ∀ {l : List XO}, (∀ x ∈ l, Agree tm tmP x) → withLF l tm = withLF l tmP
  | [], _ => rfl
  | x :: l, h => by
    funext k
    show withF x tm (fun v => withLF l tm fun vs => k (v :: vs)) = withF x tmP fun v => withLF l tmP fun vs => k (v :: vs)
    rw [withF_agree (h x (by simp)), withLF_agree fun y hy => h y (List.mem_cons_of_mem _ hy)]
theorem wantF_agree {g : Option (Slot × Bool)} (h : ∀ p b, g = some (p, b) → tm.get p = tmP.get p) : wantF g tm = wantF g tmP := by
  funext k
  cases g with
  | none => rfl
  | some pb =>
    obtain ⟨p, b⟩ := pb
    show getF tm p _ = getF tmP p _
    rw [getF_eq, getF_eq, h p b rfl]
abbrev KV := AV → List Dfd → Pan → Heap → R
def callV (f : AV) (vs : List AV) (call : CallK) (ds : List Dfd) (pan : Pan) (h : Heap) (K : KV) (KP : AV → Heap → R) : R := call f vs .off h (fun v _ h => K v ds pan h) (fun v _ h => KP v h)
def opV (E : XEnv) (call : CallK) (tm : Tm) (ds : List Dfd) (pan : Pan) (h : Heap) (K : KV) (KP : AV → Heap → R) : XC → R
  | .ins i => semF i tm h fun v h => K v ds pan h
  | .call f args => withLF args tm fun vs => callV (.func f [] []) vs call ds pan h K KP
  | .callv f args => withF f tm fun fv => withLF args tm fun vs => callV fv vs call ds pan h K KP
  | .invoke r name args => withF r tm fun rv => withLF args tm fun vs => kIface rv fun t v => Option.rec (motive := fun _ => R) .bad (fun f => callV (.func f [] []) (v :: vs) call ds pan h K KP) (E.meth t name)
  | .defer f args => withF f tm fun fv => isFunc fv (withLF args tm fun vs => K unit ((fv, vs) :: ds) pan h)
  | .recover => Pan.rec (motive := fun _ => R) (K .niliface ds .off h) (fun v => K v ds .off h) pan
  | .panic a => withF a tm fun v => isIface v (KP v h)
theorem putF_fun (d : Option Slot) (tm : Tm) (k : Tm → AV → Heap → R) : (fun (v : AV) (h : Heap) => putF d v tm fun tm => k tm v h) = fun v h => k (putT d v tm) v h := by
  funext v h
  rw [putF_eq]
theorem op_nat {op : XC} (hag : ∀ x ∈ op.ops, Agree tm tmP x) {d : Option Slot} {k : KS} {kp : KP} : opF E op call d tmP ds pan h k kp = opV E call tm ds pan h (fun v ds pan h => k (putT d v tmP) ds pan h) (fun v h => kp v tmP ds pan h) op := by
  cases op with
  | ins i =>
    show semF i tmP h (fun v h => putF d v tmP fun tm => k tm ds pan h) = semF i tm h _
    rw [semF_eq, semF_eq, sem_congr hag]
    congr 1
    funext v h
    rw [putF_eq]
  | call f args =>
    show withLF args tmP _ = withLF args tm _
    rw [withLF_agree (l := args) hag]
    congr 1
    funext vs
    simp only [callF, callV, putF_eq]
  | callv f args =>
    show withF f tmP _ = withF f tm _
    rw [withF_agree (hag f (by simp [XC.ops])), withLF_agree (l := args) fun y hy => hag y (by simp [XC.ops, hy])]
    congr 1
    funext fv
    congr 1
    funext vs
    simp only [callF, callV, putF_eq]
  | invoke ro s args =>
    show withF ro tmP _ = withF ro tm _
    rw [withF_agree (hag ro (by simp [XC.ops])), withLF_agree (l := args) fun y hy => hag y (by simp [XC.ops, hy])]
    congr 1
    funext fv
    congr 1
    funext vs
    congr 1
    funext t v
    cases E.meth t s with
    | none => rfl
    | some f => simp only [callF, callV, putF_eq]
  | defer f args =>
    show withF f tmP _ = withF f tm _
    rw [withF_agree (hag f (by simp [XC.ops])), withLF_agree (l := args) fun y hy => hag y (by simp [XC.ops, hy])]
    simp only [putF_eq]
  | recover =>
    cases pan with
    | off =>
      show putF d .niliface tmP (fun tm => k tm ds .off h) = k (putT d .niliface tmP) ds .off h
      exact putF_eq _ _ _ _
    | on v =>
      show putF d v tmP (fun tm => k tm ds .off h) = k (putT d v tmP) ds .off h
      exact putF_eq _ _ _ _
  | panic a =>
    show withF a tmP _ = withF a tm _
    rw [withF_agree (hag a (by simp [XC.ops]))]
def xopV (E : XEnv) (o : XOp) (call : CallK) (tm : Tm) (ds : List Dfd) (pan : Pan) (h : Heap) (K : KV) (KP : AV → Heap → R) : R :=
  wantF o.guard tm fun b => match b with | false => K unit ds pan h | true => opV E call tm ds pan h K KP o.op
/-- An operation looks at its operands alone, and writes where it has to. -/
theorem xop_nat {o : XOp} (hag : ∀ p ∈ o.names, tm.get p = tmP.get p) {k : KS} {kp : KP} : xopF E o call tmP ds pan h k kp = xopV E o call tm ds pan h (fun v ds pan h => k (putT o.dst v tmP) ds pan h) (fun v h => kp v tmP ds pan h) := by
  obtain ⟨d, g, op⟩ := o
  have h1 : ∀ x ∈ op.ops, Agree tm tmP x := agree_slots fun p hp => hag p (by cases g <;> simp [XOp.names, hp])
  have h2 : wantF g tm = wantF g tmP := wantF_agree fun p b e => hag p (by subst e; simp [XOp.names])
  show wantF g tmP _ = wantF g tm _
  rw [h2]
  congr 1
  funext b
  cases b with
  | false => exact putF_eq _ _ _ _
  | true => exact op_nat h1
end

/-! ### sets, as numbers -/
theorem testBit_lor' (a b j : Nat) : (Nat.lor a b).testBit j = (a.testBit j || b.testBit j) := Nat.testBit_or a b j
theorem subM_iff {a b : Nat} (h : subM a b = true) (j : Nat) (hj : a.testBit j = true) : b.testBit j = true := by
  have h : Nat.land a b = a := Nat.eq_of_beq_eq_true h
  have h2 : (Nat.land a b).testBit j = (a.testBit j && b.testBit j) := Nat.testBit_and a b j
  rw [h, hj] at h2
  simpa using h2.symm
theorem subM_of {a b : Nat} (h : ∀ j, a.testBit j = true → b.testBit j = true) : subM a b = true := by
  have : Nat.land a b = a := by
    apply Nat.eq_of_testBit_eq
    intro j
    have h2 : (Nat.land a b).testBit j = (a.testBit j && b.testBit j) := Nat.testBit_and a b j
    rw [h2]
    cases ha : a.testBit j with
    | false => rfl
    | true => rw [h j ha]; rfl
  unfold subM
  rw [this]
  exact Nat.beq_refl a
theorem maskOfL_iff (j : Nat) : ∀ l : List Nat, (maskOfL l).testBit j = true ↔ j ∈ l
  | [] => by simp [maskOfL]
  | i :: l => by
    rw [maskOfL, testBit_lor', Bool.or_eq_true, maskOfL_iff j l, Nat.testBit_two_pow, decide_eq_true_eq, List.mem_cons]
    exact ⟨fun h => h.imp Eq.symm id, fun h => h.imp Eq.symm id⟩
theorem testBit_add (can i j : Nat) : (Nat.lor can (2 ^ i)).testBit j = true ↔ can.testBit j = true ∨ j = i := by
  rw [testBit_lor', Bool.or_eq_true, Nat.testBit_two_pow, decide_eq_true_eq]
  exact ⟨fun h => h.imp id Eq.symm, fun h => h.imp id Eq.symm⟩

/-! ### the compiler's looks -/
section
variable {P : Program} {n : Nat} {rnd : Bool} {ops : Array Oper}
theorem rosFrom_mem {b : Array Nat} {r : RO} : ∀ {l : List Oper} {j : Nat}, r ∈ rosFrom P n rnd ops b j l → ∃ m o, l[m]? = some o ∧ r = roOf P n rnd ops b (j + m) o
  | [], _, h => by simp [rosFrom] at h
  | o :: l, j, h => by
    rcases List.mem_cons.1 h with h | h
    · exact ⟨0, o, rfl, h⟩
    · obtain ⟨m, o', h1, h2⟩ := rosFrom_mem h
      exact ⟨m + 1, o', by simpa using h1, by rw [h2]; congr 1; omega⟩
theorem rosFrom_get {b : Array Nat} {o : Oper} : ∀ {l : List Oper} {j m : Nat}, l[m]? = some o → roOf P n rnd ops b (j + m) o ∈ rosFrom P n rnd ops b j l
  | [], _, _, h => by simp at h
  | o' :: l, j, 0, h => by
    simp only [List.getElem?_cons_zero, Option.some.injEq] at h
    subst h
    exact List.mem_cons_self
  | o' :: l, j, m + 1, h => by
    refine List.mem_cons_of_mem _ ?_
    have := rosFrom_get (b := b) (j := j + 1) (l := l) (m := m) (by simpa using h)
    rwa [show j + 1 + m = j + (m + 1) by omega] at this
theorem hasS_iff {d : Slot} : ∀ {l : List Slot}, hasS d l = true ↔ d ∈ l
  | [] => by simp [hasS]
  | u :: l => by
    simp only [hasS]
    cases h : d.beq u with
    | true => simp [Slot.beq_iff.1 h]
    | false =>
      have : d ≠ u := fun e => by rw [Slot.beq_iff.2 e] at h; simp at h
      simp [this, hasS_iff (l := l)]
theorem aboutS_dst {d : Slot} {o : XOp} (h : o.dst = some d) : aboutS d o = true := by
  unfold aboutS
  rw [h]
  simp [Slot.beq_iff.2 rfl]
theorem aboutS_name {d : Slot} {o : XOp} (h : d ∈ o.names) : aboutS d o = true := by
  unfold aboutS
  split
  · rfl
  · exact hasS_iff.2 h
theorem orBefs_iff {m j : Nat} : ∀ {l : List RO}, (orBefs m l).testBit j = true → ∃ q ∈ l, m.testBit q.i = true ∧ q.bef.testBit j = true
  | [], h => by simp [orBefs] at h
  | q :: l, h => by
    simp only [orBefs] at h
    cases hq : Nat.testBit m q.i with
    | false =>
      rw [hq] at h
      obtain ⟨q', h1, h2⟩ := orBefs_iff h
      exact ⟨q', List.mem_cons_of_mem _ h1, h2⟩
    | true =>
      rw [hq] at h
      dsimp only at h
      rw [testBit_lor', Bool.or_eq_true] at h
      rcases h with h | h
      · exact ⟨q, List.mem_cons_self, hq, h⟩
      · obtain ⟨q', h1, h2⟩ := orBefs_iff h
        exact ⟨q', List.mem_cons_of_mem _ h1, h2⟩
theorem befsOk_mem {all : List RO} {r : RO} : ∀ {l : List RO}, befsOk all l = true → r ∈ l → r.deps < 2 ^ r.i ∧ subM r.bef (Nat.lor r.deps (orBefs r.deps all)) = true
  | [], _, h => by simp at h
  | q :: l, h, hr => by
    simp only [befsOk] at h
    cases h1 : Nat.blt q.deps (2 ^ q.i) <;> cases h2 : subM q.bef (Nat.lor q.deps (orBefs q.deps all)) <;> rw [h1, h2] at h <;> simp only [Bool.false_eq_true] at h
    rcases List.mem_cons.1 hr with rfl | hr
    · exact ⟨Nat.le_of_ble_eq_true h1, h2⟩
    · exact befsOk_mem h hr
theorem apart1_mem {d : Slot} {r q : RO} : ∀ {l : List RO}, apart1 d r l = true → q ∈ l → q.i ≠ r.i → aboutS d q.x = true → q.bef.testBit r.i = true ∨ (r.loud = true ∧ r.bef.testBit q.i = true)
  | [], _, h, _, _ => by simp at h
  | p :: l, h, hq, hne, hab => by
    simp only [apart1] at h
    have h' : apart1 d r l = true := by
      repeat' (split at h)
      all_goals first | exact h | simp at h
    rcases List.mem_cons.1 hq with rfl | hq
    · have h0 : Nat.beq r.i q.i = false := by
        cases hb : Nat.beq r.i q.i with
        | false => rfl
        | true => exact absurd (Nat.eq_of_beq_eq_true hb).symm hne
      rw [h0, hab] at h
      cases h1 : Nat.testBit q.bef r.i with
      | true => exact .inl rfl
      | false =>
        rw [h1] at h
        cases h2 : r.loud <;> cases h3 : Nat.testBit r.bef q.i <;> rw [h2, h3] at h <;> simp at h
        exact .inr ⟨rfl, rfl⟩
    · exact apart1_mem h' hq hne hab
theorem apartAll_mem {all : List RO} {r : RO} {d : Slot} : ∀ {l : List RO}, apartAll all l = true → r ∈ l → r.x.dst = some d → apart1 d r all = true ∧ selfOk d r = true
  | [], _, h, _ => by simp at h
  | p :: l, h, hr, hd => by
    simp only [apartAll] at h
    rcases List.mem_cons.1 hr with rfl | hr
    · rw [hd] at h
      dsimp only at h
      cases h1 : apart1 d r all <;> cases h2 : selfOk d r <;> rw [h1, h2] at h <;> simp only [Bool.false_eq_true] at h
      exact ⟨rfl, rfl⟩
    · refine apartAll_mem (l := l) ?_ hr hd
      repeat' (split at h)
      all_goals first | exact h | simp at h

/-- What is known of a region's operations. -/
structure DrawL (P : Program) (n : Nat) (rnd : Bool) (ops : Array Oper) (l : List RO) : Prop where
  mem : ∀ r ∈ l, ∃ o, ops[r.i]? = some o ∧ r.x = copOper P n rnd ops o ∧ (∀ j, r.deps.testBit j = true ↔ j ∈ depsOf o) ∧ (r.loud = false → kindOf r.x.op ≤ 2)
  all : ∀ i, i < ops.size → ∃ r ∈ l, r.i = i
  inj : ∀ r ∈ l, ∀ q ∈ l, r.i = q.i → r = q
  lt : ∀ r ∈ l, ∀ j, r.deps.testBit j = true → j < r.i
  bef : ∀ r ∈ l, ∀ j, r.bef.testBit j = true → r.deps.testBit j = true ∨ ∃ q ∈ l, r.deps.testBit q.i = true ∧ q.bef.testBit j = true
  apart : ∀ r ∈ l, ∀ d, r.x.dst = some d → ∀ q ∈ l, q.i ≠ r.i → aboutS d q.x = true → q.bef.testBit r.i = true ∨ (r.loud = true ∧ r.bef.testBit q.i = true)
  self : ∀ r ∈ l, r.loud = false → ∀ d, r.x.dst = some d → d ∉ r.x.names
theorem drawL (h1 : apartAll (rosOf P n rnd ops) (rosOf P n rnd ops) = true) (h2 : befsOk (rosOf P n rnd ops) (rosOf P n rnd ops) = true) : DrawL P n rnd ops (rosOf P n rnd ops) := by
  have hm : ∀ r ∈ rosOf P n rnd ops, ∃ o, ops[r.i]? = some o ∧ r = roOf P n rnd ops (Region.before ops) r.i o := by
    intro r hr
    obtain ⟨m, o, ho, e⟩ := rosFrom_mem hr
    have hi : r.i = m := by rw [e]; simp [roOf]
    refine ⟨o, by rw [hi]; simpa using ho, by rw [hi]; simpa using e⟩
  refine ⟨fun r hr => ?_, fun i hi => ?_, fun r hr q hq e => ?_, fun r hr j hj => ?_, fun r hr j hj => ?_, fun r hr d hd q hq hne hab => apart1_mem (apartAll_mem h1 hr hd).1 hq hne hab, fun r hr hl d hd hn => ?_⟩
  · obtain ⟨o, ho, e⟩ := hm r hr
    refine ⟨o, ho, by rw [e]; rfl, fun j => by rw [e]; exact maskOfL_iff j _, fun hl => ?_⟩
    rw [e] at hl ⊢
    simp only [roOf] at hl ⊢
    cases hk : Nat.ble 3 (kindOf (copOper P n rnd ops o).op) with
    | true => rw [hk] at hl; simp at hl
    | false =>
      refine Classical.byContradiction fun hgt => ?_
      rw [Nat.ble_eq_true_of_le (show 3 ≤ kindOf (copOper P n rnd ops o).op by omega)] at hk
      simp at hk
  · have ho : ops.toList[i]? = some ops[i] := by simp [hi]
    have := rosFrom_get (P := P) (n := n) (rnd := rnd) (ops := ops) (b := Region.before ops) (j := 0) ho
    exact ⟨_, this, by simp [roOf]⟩
  · obtain ⟨o, ho, e1⟩ := hm r hr
    obtain ⟨o', ho', e2⟩ := hm q hq
    rw [e] at ho e1
    rw [ho, Option.some.injEq] at ho'
    subst ho'
    rw [e1, ← e2]
  · refine Classical.byContradiction fun hge => ?_
    have := Nat.testBit_lt_two_pow (x := r.deps) (i := j) (Nat.lt_of_lt_of_le (befsOk_mem h2 hr).1 (Nat.pow_le_pow_right (by omega) (by omega)))
    rw [this] at hj; simp at hj
  · have := subM_iff (befsOk_mem h2 hr).2 j hj
    rw [testBit_lor', Bool.or_eq_true] at this
    rcases this with h | h
    · exact .inl h
    · exact .inr (orBefs_iff h)
  · have := (apartAll_mem h1 hr hd).2
    rw [selfOk, hl, hasS_iff.2 hn] at this
    simp at this
section
variable {l : List RO} (L : DrawL P n rnd ops l)
include L
theorem DrawL.bef_lt : ∀ m, ∀ r ∈ l, r.i = m → ∀ j, r.bef.testBit j = true → j < r.i := by
  intro m
  induction m using Nat.strongRecOn with
  | _ m ih =>
    intro r hr hm j hj
    rcases L.bef r hr j hj with h | ⟨q, hq, h1, h2⟩
    · exact L.lt r hr j h
    · have h3 := L.lt r hr q.i h1
      have := ih q.i (by omega) q hq rfl j h2
      omega
/-- What is done, with what is ahead of it. -/
theorem DrawL.closed {S : Nat → Prop} (hS : ∀ r ∈ l, S r.i → ∀ j, r.deps.testBit j = true → S j) : ∀ m, ∀ r ∈ l, r.i = m → S r.i → ∀ j, r.bef.testBit j = true → S j := by
  intro m
  induction m using Nat.strongRecOn with
  | _ m ih =>
    intro r hr hm hs j hj
    rcases L.bef r hr j hj with h | ⟨q, hq, h1, h2⟩
    · exact hS r hr hs j h
    · exact ih q.i (by have := L.lt r hr q.i h1; omega) q hq rfl (hS r hr hs q.i h1) j h2
/-- The same, of one whose deps are done. -/
theorem DrawL.closed' {S : Nat → Prop} (hS : ∀ r ∈ l, S r.i → ∀ j, r.deps.testBit j = true → S j) {r : RO} (hr : r ∈ l) (hd : ∀ j, r.deps.testBit j = true → S j) : ∀ j, r.bef.testBit j = true → S j := by
  intro j hj
  rcases L.bef r hr j hj with h | ⟨q, hq, h1, h2⟩
  · exact hd j h
  · exact L.closed hS q.i q hq rfl (hd _ h1) j h2
/-- A quiet operation's temporary is no other's that might come ahead of it: an operation that is about it has it behind. -/
theorem DrawL.behind {q r : RO} (hq : q ∈ l) (hr : r ∈ l) (hl : q.loud = false) {d : Slot} (hd : q.x.dst = some d) (hne : r.i ≠ q.i) (hab : aboutS d r.x = true) : r.bef.testBit q.i = true := by
  rcases L.apart q hq d hd r hr hne hab with h | ⟨h, _⟩
  · exact h
  · rw [hl] at h; simp at h
/-- No two quiet operations write one temporary. -/
theorem DrawL.once {q r : RO} (hq : q ∈ l) (hr : r ∈ l) (hl : q.loud = false) (hl' : r.loud = false) {d : Slot} (hd : q.x.dst = some d) (hd' : r.x.dst = some d) : r = q := by
  refine Classical.byContradiction fun hne => ?_
  have hni : r.i ≠ q.i := fun e => hne (L.inj r hr q hq e)
  have h1 := L.behind hq hr hl hd hni (aboutS_dst hd')
  have h2 := L.behind hr hq hl' hd' (Ne.symm hni) (aboutS_dst hd)
  have h3 := L.bef_lt _ r hr rfl _ h1
  have h4 := L.bef_lt _ q hq rfl _ h2
  omega
end
theorem pickQ_some {can : Nat} {r : RO} : ∀ {l : List RO}, pickQ can l = some r → r ∈ l ∧ r.loud = false ∧ can.testBit r.i = false ∧ subM r.deps can = true
  | [], h => by simp [pickQ] at h
  | q :: l, h => by
    simp only [pickQ] at h
    split at h
    · rename_i h1 h2 h3
      simp only [Option.some.injEq] at h
      subst h
      exact ⟨List.mem_cons_self, h1, h2, h3⟩
    · obtain ⟨a, b⟩ := pickQ_some h
      exact ⟨List.mem_cons_of_mem _ a, b⟩
theorem pickL_some {can : Nat} {r : RO} : ∀ {l : List RO}, pickL can l = some r → r ∈ l ∧ r.loud = true ∧ can.testBit r.i = false ∧ subM r.deps can = true
  | [], h => by simp [pickL] at h
  | q :: l, h => by
    simp only [pickL] at h
    split at h
    · rename_i h1 h2 h3
      simp only [Option.some.injEq] at h
      subst h
      exact ⟨List.mem_cons_self, h1, h2, h3⟩
    · obtain ⟨a, b⟩ := pickL_some h
      exact ⟨List.mem_cons_of_mem _ a, b⟩
theorem pickQ_none {can : Nat} {r : RO} : ∀ {l : List RO}, pickQ can l = none → r ∈ l → r.loud = false → subM r.deps can = true → can.testBit r.i = true
  | [], _, h, _, _ => by simp at h
  | q :: l, h, hr, h1, h2 => by
    simp only [pickQ] at h
    split at h
    · simp at h
    · rename_i hno
      rcases List.mem_cons.1 hr with rfl | hr
      · cases hc : Nat.testBit can r.i with
        | true => rfl
        | false => exact absurd h2 (hno h1 hc)
      · exact pickQ_none h hr h1 h2
theorem pendOf_mem {can past : Nat} {r : RO} : ∀ {l : List RO}, r ∈ l → r.loud = false → can.testBit r.i = true → past.testBit r.i = false → r ∈ pendOf can past l
  | [], h, _, _, _ => by simp at h
  | q :: l, h, h1, h2, h3 => by
    simp only [pendOf]
    rcases List.mem_cons.1 h with rfl | h
    · rw [h1, h2, h3]; exact List.mem_cons_self
    · have := pendOf_mem h h1 h2 h3
      split
      · exact List.mem_cons_of_mem _ this
      · exact this
theorem xsOf_eq : ∀ l : List RO, xsOf l = l.map RO.x
  | [] => rfl
  | r :: l => by rw [xsOf, xsOf_eq l, List.map_cons]
theorem quietsOf_mono {l : List RO} : ∀ {m can : Nat} {qs : List RO} {can' : Nat}, quietsOf l m can = (qs, can') → ∀ j, can.testBit j = true → can'.testBit j = true
  | 0, can, qs, can', h, j, hj => by simp only [quietsOf, Prod.mk.injEq] at h; rw [← h.2]; exact hj
  | m + 1, can, qs, can', h, j, hj => by
    simp only [quietsOf] at h
    split at h
    · simp only [Prod.mk.injEq] at h
      rw [← h.2]
      exact quietsOf_mono (m := m) (qs := _) rfl j ((testBit_add _ _ _).2 (.inl hj))
    · simp only [Prod.mk.injEq] at h; rw [← h.2]; exact hj
theorem quietsOf_new {l : List RO} (L : DrawL P n rnd ops l) : ∀ {m can : Nat} {qs : List RO} {can' : Nat}, quietsOf l m can = (qs, can') → ∀ r ∈ l, can.testBit r.i = false → can'.testBit r.i = true → r.loud = false
  | 0, can, qs, can', h, r, hr, h1, h2 => by simp only [quietsOf, Prod.mk.injEq] at h; rw [← h.2, h1] at h2; simp at h2
  | m + 1, can, qs, can', h, r, hr, h1, h2 => by
    simp only [quietsOf] at h
    split at h
    · rename_i q hq
      simp only [Prod.mk.injEq] at h
      obtain ⟨g1, g2, g3, g4⟩ := pickQ_some hq
      by_cases e : r.i = q.i
      · rw [L.inj r hr q g1 e]; exact g2
      · rw [← h.2] at h2
        refine quietsOf_new L (m := m) (qs := _) rfl r hr ?_ h2
        cases hb : (Nat.lor can (2 ^ q.i)).testBit r.i with
        | false => rfl
        | true => rcases (testBit_add _ _ _).1 hb with h | h
                  · rw [h1] at h; simp at h
                  · exact absurd h e
    · simp only [Prod.mk.injEq] at h; rw [← h.2, h1] at h2; simp at h2
theorem mkPair_some {l qs : List RO} {can past louds : Nat} {r q : RO} {rest : Option XCode} {c : XCode} (h : mkPair l qs can past louds r q rest = some c) : ∃ n1 a1 x1 n2 a2 x2 c', storeOf r.x = some (n1, a1, x1) ∧ storeOf q.x = some (n2, a2, x2) ∧ subM louds r.bef = true ∧ subM louds q.bef = true ∧
    pickQ (Nat.lor can (2 ^ r.i)) l = none ∧ pickQ (Nat.lor can (2 ^ q.i)) l = none ∧ rest = some c' ∧
    c = .pair (xsOf qs) (xsOf (pendOf can past l)) n1 a1 x1 (xsOf (pendOf (Nat.lor can (2 ^ r.i)) (Nat.lor past r.bef) l)) n2 a2 x2 (xsOf (pendOf (Nat.lor can (2 ^ q.i)) (Nat.lor past q.bef) l)) c' := by
  unfold mkPair at h
  split at h
  · rename_i n1 a1 x1 n2 a2 x2 h1 h2 h3 h4
    split at h
    · rename_i c' h5 h6
      simp only [Option.some.injEq] at h
      exact ⟨n1, a1, x1, n2, a2, x2, c', h1, h2, h3, h4, h5, h6, rfl, h.symm⟩
    · simp at h
  · simp at h
theorem pairOf_some {can : Nat} {r q : RO} {l : List RO} (h : pairOf can r l = some q) : q ∈ l ∧ q.loud = true ∧ can.testBit q.i = false ∧ q.i ≠ r.i := by
  unfold pairOf at h
  cases hp : pickL (Nat.lor can (2 ^ r.i)) l with
  | none => rw [hp] at h; simp at h
  | some q' =>
    rw [hp] at h
    dsimp only at h
    split at h
    · simp only [Option.some.injEq] at h
      subst h
      obtain ⟨h1, h2, h3, _⟩ := pickL_some hp
      refine ⟨h1, h2, ?_, fun e => ?_⟩
      · cases hb : can.testBit q'.i with
        | false => rfl
        | true => rw [(testBit_add _ _ _).2 (.inl hb)] at h3; simp at h3
      · rw [(testBit_add _ _ _).2 (.inr e)] at h3; simp at h3
    · simp at h
/-- The loud ones come in one order, but for pairs of stores. -/
theorem louds_before {l : List RO} (L : DrawL P n rnd ops l) : ∀ {m can past louds : Nat} {c : XCode}, mkPhases l (2 ^ ops.size - 1) m can past louds = some c → ∀ r ∈ l, r.loud = true → can.testBit r.i = false → ∀ j, louds.testBit j = true → r.bef.testBit j = true
  | 0, can, past, louds, c, h, _, _, _, _, _, _ => by simp [mkPhases] at h
  | m + 1, can, past, louds, c, h, r, hr, hl, hc, j, hj => by
    simp only [mkPhases] at h
    cases hq : quietsOf l (m + 1) can with
    | mk qs can1 =>
      rw [hq] at h
      dsimp only at h
      have hc1 : can1.testBit r.i = false := by
        cases hb : can1.testBit r.i with
        | false => rfl
        | true => have := quietsOf_new L hq r hr hc hb; rw [hl] at this; simp at this
      have hadd : ∀ {D i : Nat}, D.testBit r.i = false → r.i ≠ i → (Nat.lor D (2 ^ i)).testBit r.i = false := by
        intro D i h0 hne
        cases hb : (Nat.lor D (2 ^ i)).testBit r.i with
        | false => rfl
        | true => rcases (testBit_add _ _ _).1 hb with h | h
                  · rw [h0] at h; simp at h
                  · exact absurd h hne
      cases hp : pickQ can1 l with
      | some _ => rw [hp] at h; simp at h
      | none =>
        rw [hp] at h
        dsimp only at h
        cases hpl : pickL can1 l with
        | none =>
          rw [hpl] at h
          dsimp only at h
          cases hb : Nat.beq can1 (2 ^ ops.size - 1) with
          | false => rw [hb] at h; simp at h
          | true =>
            rw [Nat.eq_of_beq_eq_true hb, Nat.testBit_two_pow_sub_one] at hc1
            obtain ⟨o, ho, _⟩ := L.mem r hr
            have := (Array.getElem?_eq_some_iff.1 ho).1
            simp [this] at hc1
        | some rr =>
          rw [hpl] at h
          dsimp only at h
          cases hpo : pairOf can1 rr l with
          | some r2 =>
            rw [hpo] at h
            dsimp only at h
            obtain ⟨_, _, _, _, _, _, c', _, _, hs1, hs2, _, _, hm, _⟩ := mkPair_some h
            by_cases e : r.i = rr.i
            · rw [L.inj r hr rr (pickL_some hpl).1 e]
              exact subM_iff hs1 j hj
            by_cases e2 : r.i = r2.i
            · rw [L.inj r hr r2 (pairOf_some hpo).1 e2]
              exact subM_iff hs2 j hj
            exact louds_before L hm r hr hl (hadd (hadd hc1 e) e2) j ((testBit_add _ _ _).2 (.inl ((testBit_add _ _ _).2 (.inl hj))))
          | none =>
            rw [hpo] at h
            dsimp only at h
            cases hs : subM louds rr.bef with
            | false => rw [hs] at h; simp at h
            | true =>
              cases hm : mkPhases l (2 ^ ops.size - 1) m (Nat.lor can1 (2 ^ rr.i)) (Nat.lor past rr.bef) (Nat.lor louds (2 ^ rr.i)) with
              | none => rw [hs, hm] at h; simp at h
              | some c' =>
                by_cases e : r.i = rr.i
                · rw [L.inj r hr rr (pickL_some hpl).1 e]
                  exact subM_iff hs j hj
                · exact louds_before L hm r hr hl (hadd hc1 e) j ((testBit_add _ _ _).2 (.inl hj))
end
end Go.X
