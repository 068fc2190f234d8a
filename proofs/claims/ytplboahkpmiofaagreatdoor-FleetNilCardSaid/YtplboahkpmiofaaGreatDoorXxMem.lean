/- Lists, cells and memory: the small lemmas under the instructions. -/
import Derived.Test.YtplboahkpmiofaaGreatDoorXxRel
import Derived.Laws.Cells
namespace Go.X
open Go

/-! ### lists -/
theorem nth_eq {α : Type} : ∀ (l : List α) (n : Nat), nth l n = l[n]?
  | [], _ => rfl
  | x :: xs, 0 => rfl
  | x :: xs, n + 1 => by simp only [nth, List.getElem?_cons_succ]; exact nth_eq xs n
theorem takeE_some {α : Type} : ∀ {n : Nat} {l r : List α}, takeE n l = some r → n ≤ l.length ∧ r = l.take n
  | 0, l, r, h => by simp only [takeE, Option.some.injEq] at h; subst h; simp
  | n + 1, [], r, h => by simp [takeE] at h
  | n + 1, x :: xs, r, h => by
    simp only [takeE] at h
    cases e : takeE n xs with
    | none => rw [e] at h; simp at h
    | some l =>
      rw [e] at h; simp only [Option.some.injEq] at h
      obtain ⟨h1, h2⟩ := takeE_some e
      subst h; subst h2; simp; exact h1
theorem dropE_some {α : Type} : ∀ {n : Nat} {l r : List α}, dropE n l = some r → n ≤ l.length ∧ r = l.drop n
  | 0, l, r, h => by simp only [dropE, Option.some.injEq] at h; subst h; simp
  | n + 1, [], r, h => by simp [dropE] at h
  | n + 1, x :: xs, r, h => by
    simp only [dropE] at h
    obtain ⟨h1, h2⟩ := dropE_some h
    subst h2; simp; exact h1
theorem dropE_none {α : Type} : ∀ {n : Nat} {l : List α}, dropE n l = none → l.length < n
  | 0, l, h => by simp [dropE] at h
  | n + 1, [], _ => by simp
  | n + 1, x :: xs, h => by simp only [dropE] at h; have := dropE_none h; simp; omega
theorem sub_some {α : Type} {l r : List α} {off n : Nat} (h : sub l off n = some r) : off + n ≤ l.length ∧ r = (l.drop off).take n := by
  simp only [sub] at h
  cases e : dropE off l with
  | none => rw [e] at h; simp at h
  | some d =>
    rw [e] at h
    obtain ⟨h1, h2⟩ := dropE_some e
    obtain ⟨h3, h4⟩ := takeE_some h
    subst h2
    simp at h3
    exact ⟨by omega, h4⟩
theorem overK_eq {α β : Type} (no : β) : ∀ (xs cs : List α) (k : List α → β), overK no xs cs k = if xs.length ≤ cs.length then k (xs ++ cs.drop xs.length) else no
  | [], cs, k => by simp [overK]
  | x :: xs, [], k => by simp [overK]
  | x :: xs, c :: cs, k => by simp only [overK, overK_eq no xs cs, List.length_cons, Nat.add_le_add_iff_right, List.drop_succ_cons, List.cons_append]
theorem spliceK_eq {α β : Type} (no : β) : ∀ (o : Nat) (xs cs : List α) (k : List α → β), spliceK no o xs cs k = if o + xs.length ≤ cs.length ∧ o ≤ cs.length then k (cs.take o ++ (xs ++ cs.drop (o + xs.length))) else no
  | 0, xs, cs, k => by simp [spliceK, overK_eq]
  | o + 1, xs, [], k => by simp [spliceK]
  | o + 1, xs, c :: cs, k => by
    simp only [spliceK, spliceK_eq no o xs cs, List.length_cons, List.take_succ_cons, List.cons_append]
    have e : o + 1 + xs.length = (o + xs.length) + 1 := by omega
    rw [e, List.drop_succ_cons]
    by_cases hc : o + xs.length ≤ cs.length ∧ o ≤ cs.length
    · rw [if_pos hc, if_pos (by omega)]
    · rw [if_neg hc, if_neg (by omega)]
theorem repeatL_eq {α : Type} : ∀ (n : Nat) (l : List α), repeatL n l = (List.replicate n l).flatten
  | 0, _ => rfl
  | n + 1, l => by simp only [repeatL, repeatL_eq n l, List.replicate_succ, List.flatten_cons]
theorem lengthIs_iff {α : Type} : ∀ (l : List α) (n : Nat), lengthIs l n = true ↔ l.length = n
  | [], 0 => by simp [lengthIs]
  | [], n + 1 => by simp [lengthIs]
  | x :: xs, 0 => by simp [lengthIs]
  | x :: xs, n + 1 => by simp only [lengthIs, lengthIs_iff xs n, List.length_cons, Nat.add_right_cancel_iff]
theorem lenN_eq {α : Type} : ∀ (l : List α) (n : Nat), lenN l n = l.length + n
  | [], n => by simp [lenN]
  | x :: xs, n => by simp only [lenN, lenN_eq xs, List.length_cons]; omega
theorem beqN_iff : ∀ (a b : List Nat), beqN a b = true ↔ a = b
  | [], [] => by simp [beqN]
  | [], _ :: _ => by simp [beqN]
  | _ :: _, [] => by simp [beqN]
  | x :: a, y :: b => by
    simp only [beqN]
    cases e : Nat.beq x y with
    | false => have : x ≠ y := fun h => by rw [h, Nat.beq_refl] at e; simp at e
               simp [this]
    | true => rw [beqN_iff a b]; simp [Nat.eq_of_beq_eq_true e]

/-! ### values, cells -/
theorem VR.oneCell {κ : Kp} {a : AV} {v : Value} (h : VR κ a v) (h1 : a.one = true) : v.oneCell' = true := by
  cases a <;> simp only [VR] at h
  case any => cases v <;> simp [Value.oneCell'] <;> first | exact h.1 _ rfl | exact h.2 _ rfl
  case agg => simp [AV.one] at h1
  case tuple => simp [AV.one] at h1
  case bool => subst h; rfl
  case int => subst h; rfl
  case str => obtain ⟨s, h, _⟩ := h; subst h; rfl
  case nilptr => subst h; rfl
  case ptr => obtain ⟨x, _, h⟩ := h; subst h; rfl
  case gptr => subst h; rfl
  case iptr => obtain ⟨x, _, _, _, h, _⟩ := h; subst h; rfl
  case nilslice => subst h; rfl
  case slice => obtain ⟨x, _, _, _, h, _⟩ := h; subst h; rfl
  case imm => obtain ⟨x, _, h, _⟩ := h; subst h; rfl
  case nilmap => subst h; rfl
  case map => obtain ⟨x, _, h⟩ := h; subst h; rfl
  case nilfunc => subst h; rfl
  case func => obtain ⟨x, _, h, _⟩ := h; subst h; rfl
  case yield => obtain ⟨x, _, h⟩ := h; subst h; rfl
  case niliface => subst h; rfl
  case iface => obtain ⟨x, h, _⟩ := h; subst h; rfl

theorem VRl_iff {κ : Kp} : ∀ {cs : List AV} {vs : List Value}, VRl κ cs vs ↔ cs.length = vs.length ∧ ∀ (i : Nat) (c : AV) (v : Value), cs[i]? = some c → vs[i]? = some v → VR κ c v
  | [], vs => by
    simp only [VRl]
    constructor
    · rintro rfl; simp
    · rintro ⟨h, _⟩; exact (List.length_eq_zero_iff.1 h.symm)
  | c :: cs, vs => by
    simp only [VRl]
    constructor
    · rintro ⟨v, r, rfl, h1, h2⟩
      obtain ⟨h3, h4⟩ := VRl_iff.1 h2
      refine ⟨by simp [h3], fun i a b ha hb => ?_⟩
      cases i with
      | zero => simp at ha hb; subst ha; subst hb; exact h1
      | succ i => simp at ha hb; exact h4 i a b ha hb
    · rintro ⟨h1, h2⟩
      cases vs with
      | nil => simp at h1
      | cons v r =>
        refine ⟨v, r, rfl, h2 0 c v (by simp) (by simp), VRl_iff.2 ⟨by simpa using h1, fun i a b ha hb => h2 (i + 1) a b (by simpa using ha) (by simpa using hb)⟩⟩
theorem VRm_iff {κ : Kp} : ∀ {cs : List AV} {f : Nat → Option Value}, VRm κ cs f ↔ ∀ (i : Nat) (c : AV), cs[i]? = some c → ∃ v, f i = some v ∧ c.one = true ∧ VR κ c v
  | [], f => by simp [VRm]
  | c :: cs, f => by
    simp only [VRm]
    constructor
    · rintro ⟨h1, h2⟩ i a ha
      cases i with
      | zero => simp at ha; subst ha; exact h1
      | succ i => simp at ha; exact VRm_iff.1 h2 i a ha
    · intro h
      exact ⟨h 0 c (by simp), VRm_iff.2 fun i a ha => h (i + 1) a (by simpa using ha)⟩
theorem VRl.append {κ : Kp} {a b : List AV} {v w : List Value} (h : VRl κ a v) (h' : VRl κ b w) : VRl κ (a ++ b) (v ++ w) := by
  obtain ⟨h1, h2⟩ := VRl_iff.1 h
  obtain ⟨h3, h4⟩ := VRl_iff.1 h'
  refine VRl_iff.2 ⟨by simp [h1, h3], fun i c x hc hx => ?_⟩
  by_cases hi : i < a.length
  · rw [List.getElem?_append_left hi] at hc
    rw [List.getElem?_append_left (by omega)] at hx
    exact h2 i c x hc hx
  · rw [List.getElem?_append_right (by omega)] at hc
    rw [List.getElem?_append_right (by omega), ← h1] at hx
    exact h4 _ c x hc hx
theorem VRl.length {κ : Kp} {a : List AV} {v : List Value} (h : VRl κ a v) : a.length = v.length := (VRl_iff.1 h).1
theorem VRl.toArray {κ : Kp} {a : List AV} {v : List Value} (h : VRl κ a v) : VRl κ a v.toArray.toList := by simpa using h

/-- Cells read out of memory. -/
theorem VRm.read {κ : Kp} {cs : List AV} {f : Nat → Option Value} (h : VRm κ cs f) (o n : Nat) (hn : o + n ≤ cs.length) :
    ∃ vs : List Value, vs.length = n ∧ VRl κ ((cs.drop o).take n) vs ∧ ((cs.drop o).take n).all AV.one = true ∧ (∀ v ∈ vs, v.oneCell' = true) ∧ ∀ j, j < n → f (o + j) = vs[j]? := by
  induction n with
  | zero => exact ⟨[], rfl, by simp [VRl], by simp, by simp, by simp⟩
  | succ n ih =>
    obtain ⟨vs, h1, h2, h3, h4, h5⟩ := ih (by omega)
    have hlt : o + n < cs.length := by omega
    obtain ⟨v, hv1, hv2, hv3⟩ := VRm_iff.1 h (o + n) cs[o + n] (List.getElem?_eq_getElem hlt)
    have e : (cs.drop o).take (n + 1) = (cs.drop o).take n ++ [cs[o + n]] := by
      rw [List.take_succ_eq_append_getElem (by simp; omega)]; simp
    refine ⟨vs ++ [v], by simp [h1], ?_, ?_, ?_, ?_⟩
    · rw [e]; exact h2.append (by simp [VRl, hv3])
    · rw [e]; simp only [List.all_append, h3, List.all_cons, hv2, List.all_nil, Bool.and_self]
    · intro x hx
      simp only [List.mem_append, List.mem_singleton] at hx
      rcases hx with hx | rfl
      · exact h4 x hx
      · exact hv3.oneCell hv2
    · intro j hj
      by_cases hjn : j < n
      · rw [h5 j hjn, List.getElem?_append_left (by omega)]
      · have : j = n := by omega
        subst this
        rw [hv1, List.getElem?_append_right (by omega), h1]; simp
/-- Cells of which each lies there. -/
theorem VRm.of_list {κ : Kp} {cs : List AV} {vs : List Value} (h : VRl κ cs vs) (h1 : cs.all AV.one = true) {f : Nat → Option Value} (hf : ∀ j, j < vs.length → f j = vs[j]?) : VRm κ cs f := by
  obtain ⟨h2, h3⟩ := VRl_iff.1 h
  refine VRm_iff.2 fun i c hc => ?_
  have hi : i < cs.length := (List.getElem?_eq_some_iff.1 hc).1
  have hv : vs[i]? = some vs[i] := List.getElem?_eq_getElem (by omega)
  exact ⟨vs[i], by rw [hf i (by omega), hv], List.all_eq_true.1 h1 c (List.mem_of_getElem? hc), h3 i c _ hc hv⟩

theorem cellsO_some {κ : Kp} {a : AV} {v : Value} {cs : List AV} (h : VR κ a v) (hc : a.cellsO = some cs) : VRl κ cs v.cells.toList ∧ cs.all AV.one = true := by
  cases a <;> simp only [AV.cellsO, Option.some.injEq] at hc <;> first | (simp at hc; done) | skip
  case agg l =>
    simp only [VR] at h
    obtain ⟨vs, rfl, h1, h2⟩ := h
    subst hc
    exact ⟨h2, h1⟩
  all_goals
    subst hc
    have h1 := h.oneCell rfl
    refine ⟨?_, rfl⟩
    cases v <;> simp_all [Value.cells, Value.oneCell', VRl]

/-! ### memory -/
theorem put_heap_same (w : World) (b : Nat) (o : Obj) (h : b < w.heap.size) : (World.put w b o).heap[b]? = some o := by simp [World.put, h]
theorem put_put (w : World) (b : Nat) (o o' : Obj) : World.put (World.put w b o) b o' = World.put w b o' := by simp [World.put]

theorem cell_of {w : World} {b o : Nat} {arr : Array Value} {t : TypeId} {fr : Nat × Nat} (hg : w.heap[b]? = some (.cells arr t fr)) : w.cell? ⟨b, o, none⟩ = arr[o]? := by simp [World.cell?, hg]
theorem run_store_cell (P : Program) {w : World} {b o : Nat} {arr : Array Value} {t : TypeId} {fr : Nat × Nat} {v : Value} (hg : w.heap[b]? = some (.cells arr t fr)) (ho : o < arr.size)
    (hf : ¬ (fr.1 ≤ o ∧ o < fr.2)) (hv : v.oneCell' = true) : (store ⟨b, o, none⟩ v).run P w = .ok () (World.put w b (.cells (arr.setIfInBounds o v) t fr)) := by
  obtain ⟨lo, hi⟩ := fr
  have hb : b < w.heap.size := (Array.getElem?_eq_some_iff.1 hg).1
  rw [run_store P w _ v _ hv, cell_of hg, Array.getElem?_eq_getElem ho]
  have : w.frozen? ⟨b, o, none⟩ = false := by
    simp only [World.frozen?, hg]
    simp only at hf
    by_cases h1 : lo ≤ o
    · have : ¬ o < hi := fun h2 => hf ⟨h1, h2⟩
      simp [this]
    · simp [h1]
  simp only [this, Bool.false_eq_true, if_false, Result.ok.injEq, true_and]
  simp only [World.setCell, World.put]
  congr 1
  apply Array.ext_getElem?
  intro i
  rw [Array.getElem?_modify, Array.getElem?_setIfInBounds]
  by_cases hi' : i = b
  · subst hi'
    have e : w.heap[i] = .cells arr t (lo, hi) := by
      rw [Array.getElem?_eq_getElem hb] at hg; exact Option.some.inj hg
    simp [hb, e]
  · have : b ≠ i := fun e => hi' e.symm
    simp [this]
/-- Cells laid over others. -/
def spliced (arr : Array Value) (o : Nat) (vs : List Value) : Array Value := (arr.toList.take o ++ (vs ++ arr.toList.drop (o + vs.length))).toArray
theorem size_spliced {arr : Array Value} {o : Nat} {vs : List Value} (h : o + vs.length ≤ arr.size) : (spliced arr o vs).size = arr.size := by simp [spliced]; omega
theorem get_spliced {arr : Array Value} {o : Nat} {vs : List Value} (h : o + vs.length ≤ arr.size) (i : Nat) :
    (spliced arr o vs)[i]? = if o ≤ i ∧ i < o + vs.length then vs[i - o]? else arr[i]? := by
  simp only [spliced, List.getElem?_toArray]
  by_cases h1 : i < o
  · rw [List.getElem?_append_left (by simp; omega), if_neg (by omega), List.getElem?_take, if_pos h1]; simp
  · rw [List.getElem?_append_right (by simp; omega)]
    have e : (List.take o arr.toList).length = o := by simp; omega
    rw [e]
    by_cases h2 : i - o < vs.length
    · rw [List.getElem?_append_left h2, if_pos (by omega)]
    · rw [List.getElem?_append_right (by omega), if_neg (by omega), List.getElem?_drop]
      simp only [Array.getElem?_toList]
      congr 1; omega
theorem run_storeCells_put (P : Program) {b : Nat} {t : TypeId} {fr : Nat × Nat} (o : Nat) : ∀ (vs : List Value) (i : Nat) (arr : Array Value) (w : World), w.heap[b]? = some (.cells arr t fr) → o + i + vs.length ≤ arr.size →
    (∀ j, o + i ≤ j → j < o + i + vs.length → ¬ (fr.1 ≤ j ∧ j < fr.2)) → (∀ v ∈ vs, v.oneCell' = true) →
    (storeCells ⟨b, o, none⟩ vs i).run P w = .ok () (World.put w b (.cells (spliced arr (o + i) vs) t fr))
  | [], i, arr, w, hg, _, _, _ => by
    have hb : b < w.heap.size := (Array.getElem?_eq_some_iff.1 hg).1
    simp only [storeCells, Sem.run_pure, Result.ok.injEq, true_and, spliced, List.nil_append, List.length_nil, Nat.add_zero, List.take_append_drop, Array.toArray_toList]
    simp only [World.put]
    have : w.heap.setIfInBounds b (.cells arr t fr) = w.heap := by
      apply Array.ext_getElem?
      intro j
      rw [Array.getElem?_setIfInBounds]
      by_cases hj : b = j
      · subst hj; rw [if_pos rfl, if_pos hb, hg]
      · simp [hj]
    rw [this]
  | v :: vs, i, arr, w, hg, hl, hf, h1 => by
    have hb : b < w.heap.size := (Array.getElem?_eq_some_iff.1 hg).1
    simp only [List.length_cons] at hl hf
    have hadd : (⟨b, o, none⟩ : Addr).add i = ⟨b, o + i, none⟩ := by unfold Addr.add; split <;> simp_all
    have hs := run_store_cell P (v := v) hg (o := o + i) (by omega) (hf (o + i) (by omega) (by omega)) (h1 v (by simp))
    have ih := run_storeCells_put P (b := b) (t := t) (fr := fr) o vs (i + 1) (arr.setIfInBounds (o + i) v) (World.put w b (.cells (arr.setIfInBounds (o + i) v) t fr)) (put_heap_same _ _ _ hb) (by simp; omega)
      (fun j hj1 hj2 => hf j (by omega) (by omega)) (fun x hx => h1 x (by simp [hx]))
    simp only [storeCells, Sem.run_bind, hadd, hs, Result.andThen_ok, ih, put_put]
    congr 3
    apply Array.ext_getElem?
    intro j
    rw [get_spliced (by simp; omega), get_spliced (by simp; omega), Array.getElem?_setIfInBounds]
    simp only [List.length_cons]
    by_cases h2 : o + i = j
    · subst h2
      rw [if_neg (by omega), if_pos rfl, if_pos (by omega), if_pos (by omega)]
      simp
    · by_cases h3 : o + (i + 1) ≤ j ∧ j < o + (i + 1) + vs.length
      · rw [if_pos h3, if_pos (by omega)]
        have : j - (o + i) = (j - (o + (i + 1))) + 1 := by omega
        rw [this]; simp
      · rw [if_neg h3, if_neg h2, if_neg (by omega)]

theorem run_loadCells_of (P : Program) {w : World} {b o : Nat} {arr : Array Value} {t : TypeId} {fr : Nat × Nat} (hg : w.heap[b]? = some (.cells arr t fr)) (vs : List Value) (h : ∀ j, j < vs.length → arr[o + j]? = vs[j]?) :
    (loadCells ⟨b, o, none⟩ vs.length).run P w = .ok vs.toArray w := by
  refine run_loadCells_list w ⟨b, o, none⟩ vs fun j v hj => ?_
  have hlt : j < vs.length := (List.getElem?_eq_some_iff.1 hj).1
  have hadd : (⟨b, o, none⟩ : Addr).add j = ⟨b, o + j, none⟩ := by unfold Addr.add; split <;> simp_all
  rw [hadd, cell_of hg, h j hlt, hj]

end Go.X
