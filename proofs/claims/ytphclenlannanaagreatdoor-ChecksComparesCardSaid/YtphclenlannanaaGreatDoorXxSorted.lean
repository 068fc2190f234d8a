/- slices.Sorted over maps.Keys, keys of 64 bits: X's meaning against the library's contract. -/
import Derived.Test.YtphclenlannanaaGreatDoorXxTab
import Derived.Shelf.SlIterI.Nil
import Derived.Shelf.SlIterI.Sorted
namespace Go.X
open Go

/-! ### sorting -/
theorem leZ_iff {a b : Int} : leZ a b = true ↔ a ≤ b := by
  cases a <;> cases b <;> simp only [leZ, Nat.ble_eq, Bool.false_eq_true, true_iff, false_iff, Int.ofNat_eq_natCast, Int.negSucc_eq] <;> omega
theorem insZ_perm (x : Int) : ∀ l : List Int, (insZ x l).Perm (x :: l)
  | [] => .refl _
  | y :: l => by
    simp only [insZ]
    cases leZ x y with
    | true => exact .refl _
    | false => exact ((insZ_perm x l).cons y).trans (.swap x y l)
theorem insZ_sorted (x : Int) : ∀ {l : List Int}, l.Pairwise (· ≤ ·) → (insZ x l).Pairwise (· ≤ ·)
  | [], _ => by simp [insZ]
  | y :: l, h => by
    have h' := h
    rw [List.pairwise_cons] at h
    simp only [insZ]
    cases hxy : leZ x y with
    | true =>
      have hle := leZ_iff.1 hxy
      rw [List.pairwise_cons]
      refine ⟨fun z hz => ?_, h'⟩
      rcases List.mem_cons.1 hz with rfl | hz
      · exact hle
      · exact Int.le_trans hle (h.1 z hz)
    | false =>
      have hle : ¬ x ≤ y := fun e => by rw [leZ_iff.2 e] at hxy; simp at hxy
      dsimp only
      rw [List.pairwise_cons]
      refine ⟨fun z hz => ?_, insZ_sorted x h.2⟩
      rcases List.mem_cons.1 ((insZ_perm x l).mem_iff.1 hz) with rfl | hz
      · omega
      · exact h.1 z hz
theorem sortZ_perm : ∀ l : List Int, (sortZ l).Perm l
  | [] => .refl _
  | x :: l => (insZ_perm x _).trans ((sortZ_perm l).cons x)
theorem sortZ_sorted : ∀ l : List Int, (sortZ l).Pairwise (· ≤ ·)
  | [] => .nil
  | x :: l => insZ_sorted x (sortZ_sorted l)
theorem sortZ_eq {xs ss : List Int} (h : ss.Perm xs) : ss.mergeSort (fun x y => decide (x ≤ y)) = sortZ xs := by
  have tr : ∀ a b c : Int, decide (a ≤ b) = true → decide (b ≤ c) = true → decide (a ≤ c) = true := fun a b c h1 h2 => by simp only [decide_eq_true_eq] at *; omega
  have to : ∀ a b : Int, (decide (a ≤ b) || decide (b ≤ a)) = true := fun a b => by simp only [Bool.or_eq_true, decide_eq_true_eq]; omega
  refine List.Perm.eq_of_pairwise (le := fun a b => a ≤ b) (fun a b _ _ h1 h2 => Int.le_antisymm h1 h2) ?_ (sortZ_sorted xs) (((List.mergeSort_perm ss _).trans h).trans (sortZ_perm xs).symm)
  exact (List.pairwise_mergeSort tr to ss).imp fun h => by simpa using h

/-! ### keys -/
theorem keysV_val {κ : Kp} {cl : Nat} : ∀ {es : List (AV × AV × Nat)} {xs : List Int} {bs : List Nat} {l : List MapEntry}, keysV cl es = some (xs, bs) → VRe κ es l →
    l.map (·.key) = xs.map (Value.int .i64) ∧ l.map (·.born) = bs ∧ xs.Nodup ∧ bs.Nodup ∧ (∀ b ∈ bs, b < cl) ∧ ∀ x ∈ xs, (Lit.int .i64 x).wf = true
  | [], xs, bs, l, h, hl => by
    simp only [keysV, Option.some.injEq, Prod.mk.injEq] at h
    obtain ⟨rfl, rfl⟩ := h
    have hl : l = [] := hl
    subst hl
    simp
  | (k, v, b) :: es, xs, bs, l, h, hl => by
    obtain ⟨e, r, rfl, hk, hv, rfl, hr⟩ := hl
    simp only [keysV] at h
    split at h
    · rename_i n l' bs' hrec
      split at h
      · rename_i h1 h2
        simp only [Option.some.injEq, Prod.mk.injEq] at h
        obtain ⟨rfl, rfl⟩ := h
        obtain ⟨i1, i2, i3, i4, i5, i6⟩ := keysV_val hrec hr
        simp only [Bool.or_eq_false_iff, List.contains_eq_mem, decide_eq_false_iff_not] at h1
        simp only [Bool.and_eq_true, leZ_iff] at h2
        have hk : e.key = .int .i64 n := by simpa only [VR] using hk
        have hlt := Nat.le_of_ble_eq_true h2.1
        refine ⟨by simp [hk, i1], by simp [i2], List.nodup_cons.2 ⟨h1.1, i3⟩, List.nodup_cons.2 ⟨h1.2, i4⟩, fun b hb => ?_, fun x hx => ?_⟩
        · rcases List.mem_cons.1 hb with rfl | hb
          · exact hlt
          · exact i5 b hb
        · rcases List.mem_cons.1 hx with rfl | hx
          · have e1 : (IntKind.i64).min = -9223372036854775808 := rfl
            have e2 : (IntKind.i64).max = 9223372036854775807 := rfl
            simp only [Lit.wf, e1, e2, Bool.and_eq_true, decide_eq_true_eq]
            exact h2.2
          · exact i6 x hx
      · simp at h
    · simp at h

section
open Go.WideElems (rg rd Fit)
variable {P : Program}
theorem rg_int {k : TypeId} (hk : P.underlying k = some (.int .i64)) {e : MapEntry} {x : Int} (he : e.key = .int .i64 x) (hw : (Lit.int .i64 x).wf = true) :
    rd (H := Nat) P k (fun _ => some (.nil, [])) e = some (.int .i64 x, .nil) := by
  simp [rd, Go.keyOf, hk, mapKey, he, hw]
theorem keys_rg {k : TypeId} (hk : P.underlying k = some (.int .i64)) : ∀ {l : List MapEntry} {xs : List Int}, l.map (·.key) = xs.map (Value.int .i64) → (∀ x ∈ xs, (Lit.int .i64 x).wf = true) →
    (l.map (rg (H := Nat) P k (fun _ => some (.nil, [])))).map (fun p => intOf p.1) = xs ∧ ∀ e ∈ l, ∃ y, rd (H := Nat) P k (fun _ => some (.nil, [])) e = some y
  | [], xs, h, _ => by
    cases xs with
    | nil => simp
    | cons => simp at h
  | e :: l, xs, h, hw => by
    cases xs with
    | nil => simp at h
    | cons x xs =>
      simp only [List.map_cons, List.cons.injEq] at h
      obtain ⟨i1, i2⟩ := keys_rg hk h.2 fun y hy => hw y (List.mem_cons_of_mem _ hy)
      have hr := rg_int (P := P) hk h.1 (hw x List.mem_cons_self)
      refine ⟨?_, fun e' he' => ?_⟩
      · rw [List.map_cons, List.map_cons, i1]; simp only [rg, hr, Option.getD_some, intOf]
      · rcases List.mem_cons.1 he' with rfl | he'
        · exact ⟨_, hr⟩
        · exact i2 e' he'
theorem ownsMap_of {κ : Kp} {es : List (AV × AV × Nat)} {xs : List Int} {bs : List Nat} {cl : Nat} {arr : Array MapEntry} {w : World} {b : Nat} {k : TypeId} (hk : P.underlying k = some (.int .i64))
    (hm : w.heap[b]? = some (.map arr cl)) (hx : keysV cl es = some (xs, bs)) (he : VRe κ es arr.toList) (hn : xs.length ≤ maxLen) :
    ∃ D : DataW Nat, w.ownsMap P k (fun _ => some (.nil, [])) b xs.length D ∧ (intKeys D).Perm xs ∧ Maps.size D = xs.length := by
  obtain ⟨i1, i2, i3, i4, i5, i6⟩ := keysV_val hx he
  obtain ⟨j1, j2⟩ := keys_rg (P := P) hk i1 i6
  have hlen : arr.size = xs.length := by have := congrArg List.length i1; simpa using this
  refine ⟨_, ⟨arr, cl, hm, ⟨by omega, ⟨fun x hx => i5 _ (by rw [← i2]; exact List.mem_map_of_mem hx), by rw [i2]; exact i4, ?_⟩, j2⟩, by omega, rfl⟩, ?_, ?_⟩
  · rw [i1]; exact List.pairwise_map.2 (i3.imp fun hne e => hne (by simpa using e))
  · have := (WideShapes.sorted_perm (arr.toList.map (rg (H := Nat) P k (fun _ => some (.nil, []))))).map fun p => intOf p.1
    rw [j1] at this; exact this
  · show (List.foldr DataW.insert [] _).length = _
    rw [Go.length_sorted]; simpa using hlen
end

/-! ### memory -/
theorem Ext.fresh {P : Program} {κ : Kp} {h : Heap} {w w' : World} (hr : HR P κ h w) (hb : Go.RowKit.Below w.heap.size w w') : Ext P κ h w κ h w' := by
  refine ⟨.refl κ, rfl, ⟨fun p x e => ?_, hr.apart, fun b o e => by rw [hb.block b (hr.frozen_lt e)]; exact hr.frozen b o e, hr.off, hr.top, hr.clean⟩, Nat.le_refl _, hb.size, fun b hlt _ => hb.block b hlt, fun p x hl _ => ⟨p, x, hl, rfl⟩, fun p _ hp => ⟨hp, rfl⟩, hb.os, hb.output, hb.tape⟩
  by_cases hd : h.get p = .dead
  · rw [hd]; trivial
  · exact OR.mono (.refl κ) (hb.block _ (hr.live_lt ⟨e, hd⟩)) (hr.obj p x e)
theorem Ext.adopt {P : Program} {κ : Kp} {h : Heap} {w w' : World} (hr : HR P κ h w) (hb : Go.RowKit.Below w.heap.size w w') {g n : Nat} (hg : w.heap.size ≤ g) (o : AObj)
    (ho : OR P (κ.at h.next ⟨g, 0, n⟩) ⟨g, 0, n⟩ w' o) : Ext P κ h w (κ.at h.next ⟨g, 0, n⟩) (h.push o) w' := by
  have hle := Kp.at_le (x := ⟨g, 0, n⟩) hr.next_none
  have hcase : ∀ q y, (κ.at h.next ⟨g, 0, n⟩).ρ q = some y → (q = h.next ∧ y = ⟨g, 0, n⟩) ∨ (q ≠ h.next ∧ κ.ρ q = some y) := by
    intro q y e
    by_cases hq : q = h.next
    · subst hq; rw [Kp.at_same] at e; exact .inl ⟨rfl, (Option.some.inj e).symm⟩
    · rw [Kp.at_ne _ _ hq] at e; exact .inr ⟨hq, e⟩
  have hlive : ∀ q y, Live (κ.at h.next ⟨g, 0, n⟩) (h.push o) q y → (q = h.next ∧ y = ⟨g, 0, n⟩) ∨ (q ≠ h.next ∧ Live κ h q y) := by
    intro q y ⟨h1, h2⟩
    rcases hcase q y h1 with h3 | ⟨h3, h4⟩
    · exact .inl h3
    · refine .inr ⟨h3, h4, ?_⟩
      rw [Heap.get_push_lt o (hr.top q y h4)] at h2; exact h2
  refine ⟨hle, rfl, ⟨?_, ?_, ?_, ?_, ?_, fun q hq => by rw [Heap.next_push] at hq; rw [Heap.get_push_ne h o (fun e => by rw [e] at hq; omega)]; exact hr.clean q (by omega)⟩, by rw [Heap.next_push]; omega, hb.size, fun b hlt _ => hb.block b hlt, ?_, ?_, hb.os, hb.output, hb.tape⟩
  · intro q y e
    rcases hcase q y e with ⟨rfl, rfl⟩ | ⟨h3, h4⟩
    · rw [Heap.get_push_same]; exact ho
    · rw [Heap.get_push_lt o (hr.top q y h4)]
      by_cases hd : h.get q = .dead
      · rw [hd]; trivial
      · exact OR.mono hle (hb.block _ (hr.live_lt ⟨h4, hd⟩)) (hr.obj q y h4)
  · intro q r y z h1 h2 hne
    rcases hlive q y h1 with ⟨rfl, rfl⟩ | ⟨h3, h4⟩ <;> rcases hlive r z h2 with ⟨rfl, rfl⟩ | ⟨h5, h6⟩
    · exact absurd rfl hne
    · have := hr.live_lt h6; simp only; omega
    · have := hr.live_lt h4; simp only; omega
    · exact hr.apart q r y z h4 h6 hne
  · intro b ob' hm
    rw [hb.block b (hr.frozen_lt hm)]; exact hr.frozen b ob' hm
  · intro q y h1
    rcases hlive q y h1 with ⟨rfl, rfl⟩ | ⟨h3, h4⟩
    · cases hm : κ.M g with
      | none => exact hm
      | some o' => exact absurd (hr.frozen_lt hm) (by omega)
    · exact hr.off q y h4
  · intro q y e
    rw [Heap.next_push]
    rcases hcase q y e with ⟨rfl, rfl⟩ | ⟨h3, h4⟩
    · omega
    · have := hr.top q y h4; omega
  · intro q y h1 hy
    rcases hlive q y h1 with ⟨rfl, rfl⟩ | ⟨h3, h4⟩
    · simp only at hy; omega
    · exact ⟨q, y, h4, rfl⟩
  · intro q hq hnn
    have hne : q ≠ h.next := fun e => by rw [e] at hq; omega
    exact ⟨by rw [Kp.at_ne _ _ hne]; exact hnn, Heap.get_push_lt o hq⟩
theorem VRm_ints {κ : Kp} : ∀ {l : List Int} {f : Nat → Option Value}, (∀ i, (hi : i < l.length) → f i = some (.int .i64 l[i])) → VRm κ (l.map (AV.int .i64)) f
  | [], _, _ => by simp only [List.map_nil, VRm]
  | x :: l, f, h => by
    simp only [List.map_cons, VRm]
    refine ⟨⟨_, h 0 (by simp), rfl, by simp only [VR, List.getElem_cons_zero]⟩, VRm_ints fun i hi => ?_⟩
    have := h (i + 1) (by simpa using hi)
    simpa using this

section
open Go.Proofs Go.RowKit Go.Shelf
variable {P : Program} {ρ ρk : Ren}
theorem sortedOK_of (L : SlLaysZI.n6 P ρ) (Lk : SlLaysZI.n10 P ρk) (hs : ∀ m, AnyZI.SortsIn P ρ Fence.wide m) (h9 : Enters P (ρ.f 9)) : SortedOK P (ρ.f 6) (ρk.f 10) (ρ.t 26) := by
  refine ⟨fun κ h w args v h' hv hr A hA => ?_⟩
  unfold sortedV at hv
  split at hv
  case h_2 => simp at hv
  rename_i g' q
  split at hv
  case h_2 => simp at hv
  rename_i ty p hg hq
  have hg := Nat.eq_of_beq_eq_true hg
  subst hg
  split at hv
  case h_2 => simp at hv
  rename_i es cl hp
  split at hv
  case h_2 => simp at hv
  rename_i xs bs hx
  -- the arguments
  simp only [VRl, VR] at hA
  obtain ⟨f0, r0, hA, ⟨A0, C0, rfl, hA0, hC0⟩, rfl⟩ := hA
  obtain ⟨c0, r1, hC0, ⟨x, hρ, rfl⟩, rfl⟩ := hC0
  have hA0 : A0 = #[] := by simpa using hA0
  subst hA0
  have ho := hr.obj q x hρ
  rw [hq] at ho
  obtain ⟨arr, fr, o1, o2, o3, o4, o5, o6⟩ := ho
  obtain ⟨hd, hn⟩ := o5 rfl
  simp only [VRm, VR, hd] at o4
  obtain ⟨⟨m, hm, _, y, hy, rfl⟩, _⟩ := o4
  have hmap := hr.obj p y hy
  rw [hp] at hmap
  obtain ⟨ents, hents, he⟩ := hmap
  have hC0 : C0 = #[.pointer (some ⟨x.b, 0, none⟩)] := by
    apply Array.toList_inj.1; rw [hC0, hd]
  have hA : A = #[.func (.func (ρk.f 10)) #[] #[.pointer (some ⟨x.b, 0, none⟩)]] := by
    apply Array.toList_inj.1; rw [hA, hC0]
  subst hA
  have hlen : xs.length ≤ 1000000 := by
    cases hb : Nat.ble xs.length 1000000 with
    | true => exact Nat.le_of_ble_eq_true hb
    | false => rw [hb] at hv; simp at hv
  obtain ⟨D, hown, hperm, hsize⟩ := ownsMap_of (P := P) (w := w) Lk.t26 hents hx he (by unfold maxLen; omega)
  have hcell : w.cell? ⟨x.b, 0, none⟩ = some (.map (some y.b)) := by
    simp only [World.cell?, o1]; simpa using hm
  have hseq := AnyZI.keys_gives (ρ := ρk) Lk Fence.wide 2 trivial rfl (by omega) x.b y.b xs.length D w (Array.getElem?_eq_some_iff.1 o1).1 hcell hown
  have c := callsIn_wide.1 (AnyZI.sorted_in L Fence.wide 5 trivial trivial trivial trivial rfl (by omega) (hs _) h9 (ρk.f 10) #[.pointer (some ⟨x.b, 0, none⟩)] trivial (Lk.f10.enters rfl) _ _ (by rw [hsize]; unfold maxLen; omega) (by rw [hsize]; omega) w hseq)
  obtain ⟨nm, hnm, hf⟩ := L.f6
  refine ⟨⟨_, _, hf, rfl, by simpa using hnm⟩, fun _ => Calls.mono c ?_, fun hD => by simp [oneFn, AV.isFn] at hD⟩
  rintro e w' ⟨v', ss, rfl, hss, hrow, hnil, hb⟩
  have hss := hss.trans hperm
  rw [sortZ_eq hss] at hrow
  have hl := hss.length_eq
  rw [Nat.ble_eq_true_of_le hlen] at hv
  cases xs with
  | nil =>
    simp only [Option.some.injEq, Prod.mk.injEq] at hv
    obtain ⟨rfl, rfl⟩ := hv
    have : v' = .slice none 0 0 := hnil.2 (List.eq_nil_of_length_eq_zero hl)
    exact .inr ⟨κ, by subst this; simp only [ResE, VR], Ext.fresh hr hb⟩
  | cons x0 xs =>
    simp only [Option.some.injEq, Prod.mk.injEq] at hv
    obtain ⟨rfl, rfl⟩ := hv
    rcases hrow.2 with ⟨_, hz⟩ | ⟨gb, cap, cur, rfl, hbase, hgb, r1, r2, r3, r4⟩
    · simp at hl; omega
    · have hsl : (sortZ (x0 :: xs)).length = (x0 :: xs).length := (sortZ_perm _).length_eq
      have hcap : cur.size = cap := by omega
      refine .inr ⟨κ.at h.next ⟨gb, 0, cap⟩, ?_, Ext.adopt hr hb hbase _ ⟨cur, (0, 0), hgb, hcap, ?_, VRm_ints fun i hi => ?_, fun e => by simp at e, .inl rfl⟩⟩
      · simp only [ResE, VR]
        exact ⟨⟨gb, 0, cap⟩, ⟨gb, 0, none⟩, cap, Kp.at_same _ _ _, by rw [hl], by omega, .inr (by simp), by simp, by omega⟩
      · simp only [List.length_map]; omega
      · have h1 : (cur.toList.take (ss.length * 1))[i]? = some (.int .i64 (sortZ (x0 :: xs))[i]) := by
          rw [r4]; simp [hi]
        rw [List.getElem?_take] at h1
        split at h1
        · simpa using h1
        · simp at h1
end
end Go.X
