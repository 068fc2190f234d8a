/- What an operation of X looks at: its operands; quiet instructions leave memory as it is, or make one block. -/
import Derived.Test.YtplboahkpmiofaaGreatDoorXxSt
namespace Go.X
open Go

def Agree (tm tm' : Tm) : XO → Prop
  | .t p => tm.get p = tm'.get p
  | .c _ => True
section
variable {tm tm' : Tm}
theorem withO_congr {x : XO} (h : Agree tm tm' x) : x.withO tm = x.withO tm' := by
  funext k
  cases x with
  | c v => rfl
  | t p => simp only [XO.withO]; rw [show tm.get p = tm'.get p from h]
theorem withI_congr {x : XO} (h : Agree tm tm' x) : x.withI tm = x.withI tm' := by funext k; simp only [XO.withI, withO_congr h]
theorem withB_congr {x : XO} (h : Agree tm tm' x) : x.withB tm = x.withB tm' := by funext k; simp only [XO.withB, withO_congr h]
theorem withN_congr {x : XO} (h : Agree tm tm' x) : x.withN tm = x.withN tm' := by funext k; simp only [XO.withN, withI_congr h]
theorem withNo_congr {x : Option XO} {d : Nat} (h : ∀ y ∈ optL x, Agree tm tm' y) : withNo x d tm = withNo x d tm' := by
  funext k
  cases x with
  | none => rfl
  | some y => simp only [withNo, withN_congr (h y (by simp [optL]))]
theorem withL_congr : ∀ {l : List XO}, (∀ y ∈ l, Agree tm tm' y) → withL l tm = withL l tm'
  | [], _ => rfl
  | x :: l, h => by
    funext k
    simp only [withL, withO_congr (h x (by simp)), withL_congr fun y hy => h y (List.mem_cons_of_mem _ hy)]
theorem fillK_congr {no : Out AV} : ∀ {l : List (Nat × Nat × XO)}, (∀ y ∈ partsL l, Agree tm tm' y) → fillK no l tm = fillK no l tm'
  | [], _ => rfl
  | (o, n, x) :: l, h => by
    funext cs k
    simp only [fillK, withO_congr (h x (by simp [partsL])), fillK_congr fun y hy => h y (by simp [partsL]; exact .inr hy)]
/-- An instruction looks at its operands alone. -/
theorem sem_congr {i : XI} (h : ∀ x ∈ i.ops, Agree tm tm' x) : i.sem tm = i.sem tm' := by
  have a1 : ∀ x ∈ i.ops, x.withO tm = x.withO tm' := fun x hx => withO_congr (h x hx)
  have a2 : ∀ x ∈ i.ops, x.withI tm = x.withI tm' := fun x hx => withI_congr (h x hx)
  have a3 : ∀ x ∈ i.ops, x.withB tm = x.withB tm' := fun x hx => withB_congr (h x hx)
  have a4 : ∀ x ∈ i.ops, x.withN tm = x.withN tm' := fun x hx => withN_congr (h x hx)
  funext hp
  cases i <;> try rfl
  case un u a => cases u <;> simp only [XI.sem, unS, a2 a (by simp [XI.ops]), a3 a (by simp [XI.ops])]
  case mkfn f a c => simp only [XI.sem, mkfnS, withL_congr (l := a) fun y hy => h y (by simp [XI.ops, hy]), withL_congr (l := c) fun y hy => h y (by simp [XI.ops, hy])]
  case minmax m l => simp only [XI.sem, minmaxS, withL_congr (l := l) fun y hy => h y (by simp [XI.ops, hy])]
  case build z ps => simp only [XI.sem, buildS, fillK_congr (l := ps) fun y hy => h y hy]
  case bslice t e n z ps => simp only [XI.sem, bsliceS, fillK_congr (l := ps) fun y hy => h y hy]
  case cutStr a lo hi =>
    have b1 : ∀ y ∈ optL hi, Agree tm tm' y := fun y hy => h y (by simp [XI.ops, hy])
    simp only [XI.sem, cutStrS, a1 a (by simp [XI.ops]), withNo_congr (x := lo) fun y hy => h y (by simp [XI.ops, hy])]
    congr 1; funext v
    cases v <;> try rfl
    cases hi with
    | none => rfl
    | some e => simp only [withN_congr (b1 e (by simp [optL]))]
  case cutSl e a lo hi mx =>
    have b1 : ∀ y ∈ optL mx, Agree tm tm' y := fun y hy => h y (by simp [XI.ops, hy])
    simp only [XI.sem, cutSlS, a1 a (by simp [XI.ops]), withNo_congr (x := lo) fun y hy => h y (by simp [XI.ops, hy]), withNo_congr (x := hi) fun y hy => h y (by simp [XI.ops, hy]), withNo_congr (x := mx) fun y hy => h y (by simp [XI.ops, hy])]
    cases mx with
    | none => rfl
    | some e => simp only [withN_congr (b1 e (by simp [optL]))]
  case cutArr l e a lo hi mx =>
    simp only [XI.sem, cutArrS, a1 a (by simp [XI.ops]), withNo_congr (x := lo) fun y hy => h y (by simp [XI.ops, hy]), withNo_congr (x := hi) fun y hy => h y (by simp [XI.ops, hy]), withNo_congr (x := mx) fun y hy => h y (by simp [XI.ops, hy])]
  case range s a => cases s <;> simp only [XI.sem, rangeS, rangeMapS, rangeStrS, a1 a (by simp [XI.ops])]
  case next s a => cases s <;> simp only [XI.sem, nextS, nextMapS, nextStrS, a1 a (by simp [XI.ops])]
  all_goals
    simp only [XI.ops, List.mem_cons, List.not_mem_nil, or_false, forall_eq_or_imp, forall_eq] at a1 a2 a3 a4
    simp only [XI.sem, mvS, pickS, nilckS, binS, sameS, sameCellsS, convS, mkifS, fldS, faddrS, iaddrAS, iaddrSS, idxAS, idxSS, extrS, tasS, lenS, capS, loadS, lookupS, lenMS, toStrS, boxS, mksliceS, toBytesS, markS, storeS, appendS, appendZS, copyS, deleteS, clearMS, clearSS, mapUpdS, mapEntryS, entryStoreS, entryS, uptrS, ustringS, sdataS, cmpstrS, mkbytesS, a1, a2, a3, a4]
end
end Go.X

/- Quiet instructions: those that leave memory as it is; those that make one block. -/
namespace Go.X
open Go

/-- What comes of it leaves memory as it is. -/
def Still (h : Heap) (r : Out AV) : Prop := ∀ v h', r = .ok v h' → h' = h
theorem still_ok {h : Heap} {v : AV} : Still h (.ok v h) := fun _ _ e => by simp only [Out.ok.injEq] at e; exact e.2.symm
theorem still_bad {h : Heap} : Still h .bad := fun _ _ e => by simp at e
theorem still_withO {h : Heap} {x : XO} {tm : Tm} {k : AV → Out AV} (hk : ∀ v, Still h (k v)) : Still h (x.withO tm k) := fun v h' e => by
  obtain ⟨y, _, h2⟩ := withO_ok e
  exact hk y v h' h2
theorem still_withI {h : Heap} {x : XO} {tm : Tm} {k : IntKind → Int → Out AV} (hk : ∀ a b, Still h (k a b)) : Still h (x.withI tm k) := still_withO fun v => by cases v <;> first | exact hk _ _ | exact still_bad
theorem still_withB {h : Heap} {x : XO} {tm : Tm} {k : Bool → Out AV} (hk : ∀ a, Still h (k a)) : Still h (x.withB tm k) := still_withO fun v => by cases v <;> first | exact hk _ | exact still_bad
theorem still_withN {h : Heap} {x : XO} {tm : Tm} {k : Nat → Out AV} (hk : ∀ a, Still h (k a)) : Still h (x.withN tm k) := still_withI fun _ n => by cases n <;> first | exact hk _ | exact still_bad
theorem still_withNo {h : Heap} {x : Option XO} {d : Nat} {tm : Tm} {k : Nat → Out AV} (hk : ∀ a, Still h (k a)) : Still h (withNo x d tm k) := by
  cases x with
  | none => exact hk d
  | some x => exact still_withN hk
theorem still_withL {h : Heap} {tm : Tm} : ∀ {l : List XO} {k : List AV → Out AV}, (∀ a, Still h (k a)) → Still h (withL l tm k)
  | [], _, hk => hk []
  | _ :: _, _, hk => still_withO fun v => still_withL fun vs => hk (v :: vs)
theorem still_fillK {h : Heap} {tm : Tm} : ∀ {l : List (Nat × Nat × XO)} {cs : List AV} {k : List AV → Out AV}, (∀ a, Still h (k a)) → Still h (fillK .bad l tm cs k)
  | [], cs, _, hk => hk cs
  | (o, n, x) :: l, cs, k, hk => still_withO fun v => by
    cases v.cellsO with
    | none => exact still_bad
    | some vs =>
      dsimp only
      cases lengthIs vs n with
      | false => exact still_bad
      | true =>
        dsimp only
        rw [spliceK_eq]
        split
        · exact still_fillK hk
        · exact still_bad
theorem still_okI {h : Heap} {k : IntKind} {n : Int} : Still h (okI k n h) := still_ok
theorem still_okB {h : Heap} {b : Bool} : Still h (okB h b) := still_ok
theorem still_bitsI {h : Heap} {f : Nat → Nat → Nat} {s : Int} {k : IntKind} {a b : Int} : Still h (bitsI f s k a b h) := by
  unfold bitsI
  repeat' first | exact still_okI | exact still_bad | split
theorem still_binII {h : Heap} {b : XB} {k : IntKind} {x y : Int} : Still h (binII b k x y h) := by
  cases b <;> first | exact still_okI | exact still_okB | exact still_bad | exact still_bitsI | skip
  · show Still h (quoI k x y h)
    unfold quoI; split <;> first | exact still_bad | exact still_okI
  · show Still h (remI k x y h)
    unfold remI; split <;> first | exact still_bad | exact still_okI
theorem still_binSS {h : Heap} {b : XB} {x y : List Nat} : Still h (binSS b x y h) := by
  cases b <;> first | exact still_okB | exact still_bad | skip
  show Still h (match Nat.ble (lenN x (lenN y 0)) 1099511627776 with | true => .ok (.str (x ++ y)) h | false => .bad)
  split <;> first | exact still_bad | exact still_ok
theorem still_binVV {h : Heap} {b : XB} {x y : AV} : Still h (binVV b x y h) := by
  unfold binVV
  split
  · split
    · unfold shlI; repeat' first | exact still_okI | exact still_bad | split
    · unfold shrI; repeat' first | exact still_okI | exact still_bad | split
    · cases sameK _ _ <;> first | exact still_binII | exact still_bad
  · exact still_binSS
  · exact still_bad
theorem still_minmax {h : Heap} {mx : Bool} : ∀ {l : List AV} {k : IntKind} {a : Int}, Still h (minmaxL mx l k a h)
  | [], k, a => still_okI
  | v :: vs, k, a => by
    unfold minmaxL
    repeat' first | exact still_minmax | exact still_bad | split
theorem still_part {h : Heap} {cs : List AV} {o : Nat} {n : Option Nat} : Still h (partOf cs o n h) := by
  unfold partOf
  repeat' first | exact still_ok | exact still_bad | split
theorem still_ptrAdd {h : Heap} {v : AV} {n : Nat} : Still h (ptrAdd v n h) := by
  unfold ptrAdd
  repeat' first | exact still_ok | exact still_bad | split
theorem still_look {h : Heap} {z : AV} {ok : Bool} {r : Option (Option (Nat × AV))} : Still h (lookRes z ok r h) := by
  unfold lookRes
  repeat' first | exact still_ok | exact still_bad | split
/-- The instructions that look alone. -/
def XI.looks : XI → Bool
  | .mv _ | .pick .. | .nilck _ | .bin .. | .same .. | .sameCells .. | .un .. | .conv .. | .mkif .. | .mkfn .. | .fld .. | .faddr .. | .iaddrA .. | .iaddrS .. | .idxA .. | .idxS .. | .cutStr .. | .cutArr .. | .extr ..
  | .tas .. | .len .. | .lenC _ | .cap _ | .minmax .. | .build .. | .sdata _ | .cutSl .. | .load .. | .lookup .. | .lenM _ | .toStr _ | .entry _ => true
  | _ => false
theorem looks_still {i : XI} (hi : i.looks = true) (tm : Tm) (h : Heap) : Still h (i.sem tm h) := by
  cases i <;> first | (simp [XI.looks] at hi; done) | skip
  case un u a => cases u <;> simp only [XI.sem, unS] <;> first | exact still_withI fun _ _ => still_okI | exact still_withB fun _ => still_okB
  case lenC n => exact still_okI
  case minmax m l => exact still_withL fun vs => by repeat' first | exact still_minmax | exact still_bad | split
  case build z ps => exact still_fillK fun _ => still_ok
  case mkfn f a c => exact still_withL fun _ => still_withL fun _ => still_ok
  all_goals
    simp only [XI.sem, mvS, pickS, nilckS, binS, sameS, sameCellsS, convS, mkifS, fldS, faddrS, iaddrAS, iaddrSS, idxAS, idxSS, extrS, tasS, lenS, capS, loadS, lookupS, lenMS, toStrS, entryS, entryAt, sdataS, cutStrS, cutSlS, cutArrS]
    repeat' first
      | exact still_ok | exact still_bad | exact still_okI | exact still_okB | exact still_binVV | exact still_part | exact still_ptrAdd | exact still_look
      | (with_reducible refine still_withO fun _ => ?_) | (with_reducible refine still_withI fun _ _ => ?_) | (with_reducible refine still_withB fun _ => ?_) | (with_reducible refine still_withN fun _ => ?_) | (with_reducible refine still_withNo fun _ => ?_)
      | split
      | (dsimp only)

/-! ### new blocks -/
theorem isNew_push {i : XI} (hi : i.isNew = true) {tm : Tm} {h h' : Heap} {v : AV} (hs : i.sem tm h = .ok v h') : ∃ o, o ≠ .dead ∧ h' = h.push o ∧ v.pos = some h.next := by
  cases i <;> first | (simp [XI.isNew] at hi; done) | skip
  case alloc t z =>
    simp only [XI.sem, allocS, Heap.pushK_eq, Out.ok.injEq] at hs
    obtain ⟨rfl, rfl⟩ := hs
    exact ⟨_, by simp, rfl, rfl⟩
  case box t a =>
    obtain ⟨y, _, h2⟩ := withO_ok hs
    cases hc : y.cellsO with
    | none => rw [hc] at h2; simp at h2
    | some cs =>
      rw [hc] at h2
      simp only [Heap.pushK_eq, Out.ok.injEq] at h2
      obtain ⟨rfl, rfl⟩ := h2
      exact ⟨_, by simp, rfl, rfl⟩
  case mkmap =>
    simp only [XI.sem, mkmapS, Heap.pushK_eq, Out.ok.injEq] at hs
    obtain ⟨rfl, rfl⟩ := hs
    exact ⟨_, by simp, rfl, rfl⟩
  case mkslice t b z x y =>
    obtain ⟨_, l, _, h2⟩ := withN_ok hs
    obtain ⟨_, c, _, h4⟩ := withN_ok h2
    cases c1 : Nat.ble l c <;> cases c2 : small c b <;> cases c3 : Nat.ble c 1099511627776 <;> rw [c1, c2, c3] at h4 <;> simp only [Heap.pushK_eq, Out.ok.injEq, reduceCtorEq] at h4
    obtain ⟨rfl, rfl⟩ := h4
    exact ⟨_, by simp, rfl, rfl⟩
  case bslice t e n z ps =>
    have key : ∀ (l : List (Nat × Nat × XO)) (cs : List AV), fillK .bad l tm cs (fun cs => h.pushK (.row t cs false) fun p h => .ok (.slice p 0 n (.ex n)) h) = .ok v h' → ∃ o, o ≠ .dead ∧ h' = h.push o ∧ v.pos = some h.next := by
      intro l
      induction l with
      | nil =>
        intro cs hs
        simp only [fillK, Heap.pushK_eq, Out.ok.injEq] at hs
        obtain ⟨rfl, rfl⟩ := hs
        exact ⟨_, by simp, rfl, rfl⟩
      | cons p l ih =>
        obtain ⟨o, m, x⟩ := p
        intro cs hs
        obtain ⟨y, _, h2⟩ := withO_ok hs
        cases hc : y.cellsO with
        | none => rw [hc] at h2; simp at h2
        | some vs =>
          rw [hc] at h2
          dsimp only at h2
          cases hl : lengthIs vs m with
          | false => rw [hl] at h2; simp at h2
          | true =>
            rw [hl] at h2
            dsimp only at h2
            rw [spliceK_eq] at h2
            split at h2
            · exact ih _ h2
            · simp at h2
    exact key ps z hs
end Go.X
