/- The instructions of X against the model's operations, 8: loads, stores, new variables and rows. -/
import Derived.Test.YtplboahkpmiofaaGreatDoorXxOp7
import Derived.Laws.MakeOwn
import Derived.Laws.BytesString
import Derived.Laws.Append
namespace Go.X
open Go

section
variable {P : Program} {κ : Kp} {h h' : Heap} {w : World} {n : Nat} {tm : Tm} {a : Act} {o : Oper} {v : AV}

theorem put_same (w : World) (b : Nat) (o : Obj) (h : w.heap[b]? = some o) : World.put w b o = w := by
  obtain ⟨hb, h⟩ := Array.getElem?_eq_some_iff.1 h
  simp only [World.put]
  have : w.heap.setIfInBounds b o = w.heap := by
    apply Array.ext_getElem?
    intro j
    rw [Array.getElem?_setIfInBounds]
    by_cases hj : b = j
    · subst hj; rw [if_pos rfl, if_pos hb, ← h, Array.getElem?_eq_getElem hb]
    · simp [hj]
  rw [this]

/-! ### loads -/
theorem run_load_at {b o : Nat} {arr : Array Value} {ty : TypeId} {fr : Nat × Nat} (hg : w.heap[b]? = some (.cells arr ty fr)) {x : Value} (hx : arr[o]? = some x) : (load ⟨b, o, none⟩).run P w = .ok x w := by
  simp only [load, Sem.run, cell_of hg, hx]
theorem loadVar_ok {t : TypeId} {m : Option Nat} (hm : aggN P t = some m) {b d : Nat} {arr : Array Value} {ty : TypeId} {fr : Nat × Nat} (hg : w.heap[b]? = some (.cells arr ty fr)) {cs : List AV} (hl : VRm κ cs (fun i => arr[d + i]?)) {off : Nat}
    (hs : partOf cs off m h = .ok v h') : h' = h ∧ ∃ v', (loadVar t ⟨b, d + off, none⟩).run P w = .ok v' w ∧ VR κ v v' := by
  cases m with
  | none =>
    have e := run_isAggT (w := w) (aggN_none hm)
    simp only [partOf, nth_eq] at hs
    cases hc : cs[off]? with
    | none => rw [hc] at hs; simp at hs
    | some c =>
      have hs' : Out.ok c h = .ok v h' := by rw [hc] at hs; cases c <;> first | exact hs | (simp at hs; done)
      simp only [Out.ok.injEq] at hs'
      obtain ⟨rfl, rfl⟩ := hs'
      obtain ⟨x, h1, h2, h3⟩ := VRm_iff.1 hl off c hc
      refine ⟨rfl, x, ?_, h3⟩
      simp only [loadVar, Sem.run_bind, e, Result.andThen_ok, Bool.false_eq_true, if_false, run_load_at hg h1]
  | some s =>
    obtain ⟨e1, e2⟩ := aggN_some hm
    have e := run_isAggT (w := w) e1
    simp only [partOf] at hs
    cases hc : sub cs off s with
    | none => rw [hc] at hs; simp at hs
    | some l =>
      rw [hc] at hs
      simp only [Out.ok.injEq] at hs
      obtain ⟨rfl, rfl⟩ := hs
      obtain ⟨h1, rfl⟩ := sub_some hc
      obtain ⟨vs, g1, g2, g3, g4, g5⟩ := hl.read off s h1
      refine ⟨rfl, .agg vs.toArray, ?_, ?_⟩
      · have := run_loadCells_of P hg (o := d + off) vs (fun j hj => by rw [Nat.add_assoc]; exact g5 j (by omega))
        rw [g1] at this
        simp only [loadVar, Sem.run_bind, e, Result.andThen_ok, if_true, run_sizeT e2, this, Sem.run_pure]
      · simp only [VR]; exact ⟨_, rfl, g3, by simpa using g2⟩
theorem load_ok (hr : HR P κ h w) (ht : TR κ n tm a.tmps) {t : TypeId} {m : Option Nat} (hm : aggN P t = some m) {x : Operand} {xo : XO} (hx : opnd x = some xo) (ho : o.op = .load t x)
    (hs : loadS m xo tm h = .ok v h') : OpRes P o a κ h w v h' := by
  obtain ⟨y, h1, h2⟩ := withO_ok hs
  have e1 := opnd_ok ht hx h1
  cases y <;> first | (simp at h2; done) | skip
  case ptr p q =>
    simp only [VR] at e1
    obtain ⟨s, e1, e2⟩ := e1
    dsimp only at h2
    have hob := hr.obj p s e1
    cases hg : h.get p <;> rw [hg] at h2 hob <;> first | (simp at h2; done) | skip
    rename_i ty cs sp
    obtain ⟨arr, fr, g1, _, _, g4, _⟩ := hob
    obtain ⟨rfl, v', g5, g6⟩ := loadVar_ok hm g1 g4 h2
    refine .pure hr g6 ?_
    simp only [execOp, ho, e2, Instr.loadAt, Instr.sureAddr, Sem.run_bind, Sem.run_pure, Result.andThen_ok, g5]
  case iptr cs =>
    simp only [VR] at e1
    obtain ⟨b, arr, e, fr, e1, e2, e3, e4⟩ := e1
    obtain ⟨rfl, v', g5, g6⟩ := loadVar_ok hm (hr.frozen _ _ e3) e4 h2
    refine .pure hr g6 ?_
    rw [Addr.eta_none e2] at e1
    simp only [Nat.add_zero] at g5
    simp only [execOp, ho, e1, Instr.loadAt, Instr.sureAddr, Sem.run_bind, Sem.run_pure, Result.andThen_ok, g5]

/-! ### stores -/
theorem VRm_splice {cs xs : List AV} {ys : List Value} {arr : Array Value} {d o : Nat} (hl : VRm κ cs (fun i => arr[d + i]?)) (h2 : VRl κ xs ys) (h3 : xs.all AV.one = true) (hle : o + xs.length ≤ cs.length) (hsz : d + cs.length ≤ arr.size) :
    VRm κ (cs.take o ++ (xs ++ cs.drop (o + xs.length))) (fun i => (spliced arr (d + o) ys)[d + i]?) := by
  obtain ⟨l2, g2⟩ := VRl_iff.1 h2
  refine VRm_iff.2 fun i c hc => ?_
  rw [get_spliced (by omega)]
  by_cases h4 : i < o
  · rw [List.getElem?_append_left (by simp; omega), List.getElem?_take, if_pos h4] at hc
    rw [if_neg (by omega)]
    exact VRm_iff.1 hl i c hc
  · rw [List.getElem?_append_right (by simp; omega)] at hc
    have e : (List.take o cs).length = o := by simp; omega
    rw [e] at hc
    by_cases h5 : i - o < xs.length
    · rw [List.getElem?_append_left h5] at hc
      rw [if_pos (by omega)]
      have hy : ys[d + i - (d + o)]? = some ys[i - o] := by
        rw [show d + i - (d + o) = i - o by omega]; exact List.getElem?_eq_getElem (by omega)
      exact ⟨_, hy, List.all_eq_true.1 h3 c (List.mem_of_getElem? hc), g2 (i - o) c _ hc (List.getElem?_eq_getElem (by omega))⟩
    · rw [List.getElem?_append_right (by omega), List.getElem?_drop] at hc
      rw [if_neg (by omega)]
      have e2 : o + xs.length + (i - o - xs.length) = i := by omega
      rw [e2] at hc
      exact VRm_iff.1 hl i c hc
theorem VRl.ones {cs : List AV} {vs : List Value} (hl : VRl κ cs vs) (h1 : cs.all AV.one = true) : ∀ x ∈ vs, x.oneCell' = true := by
  intro x hx
  obtain ⟨l1, g⟩ := VRl_iff.1 hl
  obtain ⟨i, hi, rfl⟩ := List.getElem_of_mem hx
  have hc : cs[i]? = some cs[i] := List.getElem?_eq_getElem (by omega)
  exact (g i _ _ hc (List.getElem?_eq_getElem hi)).oneCell (List.all_eq_true.1 h1 _ (List.mem_of_getElem? hc))
theorem writeAt_ok (hr : HR P κ h w) {p : Pos} {x : Spot} (hp : κ.ρ p = some x) {q : Nat} {xs : List AV} {vs : List Value} (hl : VRl κ xs vs) (h1 : xs.all AV.one = true) {r : AV} (hs : writeAt p q xs r h = .ok v h') :
    v = r ∧ ∃ w', (storeCells ⟨x.b, x.d + q, none⟩ vs).run P w = .ok () w' ∧ Ext P κ h w κ h' w' := by
  simp only [writeAt] at hs
  have hob := hr.obj p x hp
  cases hg : h.get p <;> rw [hg] at hs hob <;> first | (simp at hs; done) | skip
  rename_i ty cs sp
  obtain ⟨arr, fr, g1, g2, g3, g4, g5, g6⟩ := hob
  dsimp only at hs
  rw [spliceK_eq] at hs
  split at hs
  · rename_i hle
    rw [Heap.setK_eq] at hs
    simp only [Out.ok.injEq] at hs
    obtain ⟨rfl, rfl⟩ := hs
    have hlen := hl.length
    have hst := run_storeCells_put P (b := x.b) (t := ty) (fr := fr) (x.d + q) vs 0 arr w g1 (by omega) (fun j h1 h2 => unfrozen g6 j (by omega)) (hl.ones h1)
    rw [Nat.add_zero] at hst
    refine ⟨rfl, _, hst, ?_⟩
    have hb : x.b < w.heap.size := (Array.getElem?_eq_some_iff.1 g1).1
    refine Ext.update hr ⟨hp, by rw [hg]; simp⟩ _ _ ⟨spliced arr (x.d + q) vs, fr, put_heap_same _ _ _ hb, ?_, ?_, VRm_splice g4 hl h1 hle.1 (by omega), ?_, g6⟩
    · rw [size_spliced (by omega), g2]
    · simp; omega
    · intro hsp
      obtain ⟨e1, e2⟩ := g5 hsp
      exact ⟨e1, by simp; omega⟩
  · simp at hs
theorem store_ok (hr : HR P κ h w) (ht : TR κ n tm a.tmps) {t : TypeId} {s : Nat} (hsz : szOf P t = some s) {x y : Operand} {xo yo : XO} (hx : opnd x = some xo) (hy : opnd y = some yo) (ho : o.op = .store t x y)
    (hs : storeS s xo yo tm h = .ok v h') : OpRes P o a κ h w v h' := by
  obtain ⟨u, h1, h2⟩ := withO_ok hs
  obtain ⟨c, h3, h4⟩ := withO_ok h2
  have e1 := opnd_ok ht hx h1
  have e2 := opnd_ok ht hy h3
  cases u <;> first | (simp at h4; done) | skip
  rename_i p q
  dsimp only at h4
  cases hc : c.cellsO with
  | none => rw [hc] at h4; simp at h4
  | some cs =>
    rw [hc] at h4
    dsimp only at h4
    obtain ⟨g1, g2⟩ := cellsO_some e2 hc
    cases hl : lengthIs cs s with
    | false => rw [hl] at h4; simp at h4
    | true =>
      rw [hl] at h4
      simp only [VR] at e1
      obtain ⟨sp, e1, e3⟩ := e1
      obtain ⟨rfl, w', g3, g4⟩ := writeAt_ok hr e1 g1 g2 h4
      have hl := (lengthIs_iff _ _).1 hl
      have hsize : (a.eval y).cells.size = s := by have := g1.length; simp at this; omega
      refine .inl ⟨.skip, w', κ, ?_, .inr ⟨rfl, rfl⟩, g4⟩
      simp only [execOp, ho, e3, Instr.storeAt, Instr.sureAddr, storeVar, Sem.run_bind, Sem.run_pure, Result.andThen_ok, run_sizeT hsz, hsize, ne_eq, not_true_eq_false, if_false, g3]

/-! ### new rows -/
theorem new_heap_same (w : World) (o : Obj) : (World.new w o).heap[w.heap.size]? = some o := Array.getElem?_push_size

theorem newRow_ok (hr : HR P κ h w) {cs : List AV} {vs : List Value} (hl : VRl κ cs vs) (h1 : cs.all AV.one = true) (ty : TypeId) :
    Ext P κ h w (κ.at h.next ⟨w.heap.size, 0, vs.length⟩) (h.push (.row ty cs false)) (World.new w (.cells vs.toArray ty)) := by
  have hle := Kp.at_le (x := ⟨w.heap.size, 0, vs.length⟩) hr.next_none
  refine Ext.alloc hr _ _ _ ⟨vs.toArray, (0, 0), new_heap_same _ _, by simp, by simp [hl.length], ?_, fun _ => ⟨rfl, hl.length⟩, .inl rfl⟩
  exact VRm.of_list (VRl.mono hle _ _ hl) h1 (fun j hj => by simp)
/-- A new row with spare cells behind, which may be frozen behind its end. -/
theorem newRowS_ok (hr : HR P κ h w) {cs : List AV} {vs rest : List Value} (hl : VRl κ cs vs) (h1 : cs.all AV.one = true) (ty : TypeId) {fr : Nat × Nat} (hfr : fr.1 = fr.2 ∨ vs.length + rest.length ≤ fr.1) :
    Ext P κ h w (κ.at h.next ⟨w.heap.size, 0, vs.length + rest.length⟩) (h.push (.row ty cs true)) (World.new w (.cells (vs ++ rest).toArray ty fr)) := by
  have hle := Kp.at_le (x := ⟨w.heap.size, 0, vs.length + rest.length⟩) hr.next_none
  refine Ext.alloc hr _ _ _ ⟨(vs ++ rest).toArray, fr, new_heap_same _ _, by simp, by simp [hl.length], ?_, fun h => by simp at h, hfr⟩
  refine VRm.of_list (VRl.mono hle _ _ hl) h1 (fun j hj => ?_)
  simp only [Nat.zero_add, List.getElem?_toArray]
  rw [List.getElem?_append_left hj]
theorem new_ptr {x : Spot} {b : Nat} (hx : x.b = b) (hd : x.d = 0) (κ : Kp) (p : Pos) : VR (κ.at p x) (.ptr p 0) (.pointer (some ⟨b, 0, none⟩)) := by
  simp only [VR]; exact ⟨x, Kp.at_same κ p x, by rw [hx, hd]⟩
theorem alloc_ok (hr : HR P κ h w) {t : TypeId} {z : List AV} (hz : zeroC P t = some z) (ho : o.op = .alloc t) (hs : allocS t z tm h = .ok v h') : OpRes P o a κ h w v h' := by
  obtain ⟨zv, z1, z2, z3, z4⟩ := zeroC_ok hz
  simp only [allocS, Heap.pushK_eq, Out.ok.injEq] at hs
  obtain ⟨rfl, rfl⟩ := hs
  refine .inl ⟨.value (.pointer (some ⟨w.heap.size, 0, none⟩)), _, _, ?_, .inl ⟨_, rfl, new_ptr rfl rfl κ h.next⟩, newRow_ok hr (z2 κ) z3 t⟩
  simp only [execOp, ho, Instr.alloc, Sem.run_bind, z1, Result.andThen_ok, newVar, newRow, newObj, Sem.run, Sem.run_pure]
  simp [World.new]
theorem box_ok (hr : HR P κ h w) (ht : TR κ n tm a.tmps) {t : TypeId} {x : Operand} {xo : XO} (hx : opnd x = some xo) (ho : o.op = .box t x) (hs : boxS t xo tm h = .ok v h') : OpRes P o a κ h w v h' := by
  obtain ⟨y, h1, h2⟩ := withO_ok hs
  have e1 := opnd_ok ht hx h1
  cases hc : y.cellsO with
  | none => rw [hc] at h2; simp at h2
  | some cs =>
    rw [hc] at h2
    simp only [Heap.pushK_eq, Out.ok.injEq] at h2
    obtain ⟨rfl, rfl⟩ := h2
    obtain ⟨g1, g2⟩ := cellsO_some e1 hc
    refine .inl ⟨.value (.pointer (some ⟨w.heap.size, 0, none⟩)), _, _, ?_, .inl ⟨_, rfl, new_ptr rfl rfl κ h.next⟩, newRow_ok hr g1 g2 t⟩
    simp only [execOp, ho, Instr.box, Sem.run_bind, Result.andThen_ok, newVar, newRow, newObj, Sem.run, Sem.run_pure]
    simp [World.new]
theorem mkmap_ok (hr : HR P κ h w) {t : TypeId} (ho : o.op = .makeMap t none) (hs : mkmapS tm h = .ok v h') : OpRes P o a κ h w v h' := by
  simp only [mkmapS, Heap.pushK_eq, Out.ok.injEq] at hs
  obtain ⟨rfl, rfl⟩ := hs
  refine .inl ⟨.value (.map (some w.heap.size)), World.new w (.map #[] 0), _, ?_, .inl ⟨_, rfl, ?_⟩, Ext.alloc hr _ _ 0 ⟨#[], new_heap_same _ _, by simp [VRe]⟩⟩
  · simp [execOp, ho, Instr.makeMap, newObj, Sem.run, World.new]
  · simp only [VR]; exact ⟨_, Kp.at_same κ h.next _, rfl⟩
end
end Go.X
