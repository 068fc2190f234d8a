/- The instructions of X against the model's operations, 9: rows made, bytes and strings, append. -/
import Derived.Test.YtplboahkpmiofaaGreatDoorXxOp8
namespace Go.X
open Go

section
variable {P : Program} {κ : Kp} {h h' : Heap} {w : World} {n : Nat} {tm : Tm} {a : Act} {o : Oper} {v : AV}

theorem zeroC_info {t : TypeId} {cs : List AV} (hz : zeroC P t = some cs) : ∃ i z, P.info? t = some i ∧ i.zero = some z ∧ (∀ κ, VRl κ cs z.cells.toList) ∧ cs.all AV.one = true ∧ i.size = cs.length := by
  simp only [zeroC, Option.bind_eq_bind, Option.bind_eq_some_iff] at hz
  obtain ⟨z, h1, cs', h2, h3⟩ := hz
  simp only [zeroOf, Option.bind_eq_some_iff] at h1
  obtain ⟨zv, ⟨i, h4, h5⟩, h6⟩ := h1
  have h7 := fun κ => avOf_ok κ 4 zv z h6
  split at h3
  · rename_i hsz
    simp only [Option.some.injEq] at h3
    subst h3
    refine ⟨i, zv, h4, h5, fun κ => (cellsO_some (h7 κ) h2).1, (cellsO_some (h7 ⟨fun _ => none, fun _ => none⟩) h2).2, ?_⟩
    simpa [szOf, h4] using hsz
  · simp at h3
theorem byOf_info {t : TypeId} {b : Nat} {i : TypeInfo} (h : byOf P t = some b) (hi : P.info? t = some i) : i.bytes = b := by simpa [byOf, hi] using h
theorem szOf_info {t : TypeId} {b : Nat} {i : TypeInfo} (h : szOf P t = some b) (hi : P.info? t = some i) : i.size = b := by simpa [szOf, hi] using h

/-! ### repeated cells -/
theorem repeatL_length {α : Type} : ∀ (n : Nat) (l : List α), (repeatL n l).length = n * l.length
  | 0, l => by simp [repeatL]
  | n + 1, l => by simp only [repeatL, List.length_append, repeatL_length n l]; rw [Nat.add_mul]; omega
theorem repeatL_get {α : Type} : ∀ (n : Nat) (l : List α) (i : Nat), i < n * l.length → (repeatL n l)[i]? = l[i % l.length]?
  | 0, l, i, h => by simp at h
  | n + 1, l, i, h => by
    simp only [repeatL]
    by_cases hi : i < l.length
    · rw [List.getElem?_append_left hi, Nat.mod_eq_of_lt hi]
    · rw [Nat.add_mul] at h
      rw [List.getElem?_append_right (by omega), repeatL_get n l _ (by omega), ← Nat.mod_eq_sub_mod (by omega : i ≥ l.length)]
theorem repeatL_all {zs : List AV} (h1 : zs.all AV.one = true) : ∀ n, (repeatL n zs).all AV.one = true
  | 0 => rfl
  | n + 1 => by simp only [repeatL, List.all_append, h1, repeatL_all h1 n, Bool.and_self]
theorem rep_ok {zs : List AV} {z : Array Value} (hz : VRl κ zs z.toList) (n : Nat) : VRl κ (repeatL n zs) (madeCells z (n * z.size)).toList := by
  obtain ⟨h1, h2⟩ := VRl_iff.1 hz
  have h1' : zs.length = z.size := by simpa using h1
  refine VRl_iff.2 ⟨by rw [repeatL_length, h1', Array.length_toList, size_madeCells], fun i c x hc hx => ?_⟩
  have hi : i < n * z.size := by
    have := (List.getElem?_eq_some_iff.1 hx).1
    simpa [size_madeCells] using this
  rw [repeatL_get n zs i (by rw [h1']; exact hi), h1'] at hc
  have hpos : 0 < z.size := by
    rcases Nat.eq_zero_or_pos z.size with h0 | h0
    · rw [h0] at hi; simp at hi
    · exact h0
  have hm := Nat.mod_lt i hpos
  refine h2 (i % z.size) c x hc ?_
  rw [← hx, madeCells]
  simp only [Array.toList_map, Array.toList_range, List.getElem?_map, List.getElem?_range hi, Option.map_some, Array.getElem?_toList]
  rw [Array.getElem?_eq_getElem hm, getElem!_pos z _ hm]

/-! ### rows made -/
theorem mkslice_ok (hr : HR P κ h w) (ht : TR κ n tm a.tmps) {t e : TypeId} (hu : P.underlying t = some (.slice e)) {by_ : Nat} (hb : byOf P e = some by_) {z : List AV} (hz : zeroC P e = some z) {x y : Operand} {xo yo : XO} (hx : opnd x = some xo) (hy : opnd y = some yo)
    (ho : o.op = .makeSlice t x y) (hs : mksliceS e by_ z xo yo tm h = .ok v h') : OpRes P o a κ h w v h' := by
  obtain ⟨i, zv, z1, z2, z3, z4, z5⟩ := zeroC_info hz
  obtain ⟨k1, l, h1, h2⟩ := withN_ok hs
  obtain ⟨k2, c, h3, h4⟩ := withN_ok h2
  have e1 := opnd_ok ht hx h1
  have e2 := opnd_ok ht hy h3
  simp only [VR] at e1 e2
  cases c1 : Nat.ble l c <;> cases c2 : small c by_ <;> cases c3 : Nat.ble c 1099511627776 <;> rw [c1, c2, c3] at h4 <;> simp only [Heap.pushK_eq, Out.ok.injEq, reduceCtorEq] at h4
  obtain ⟨rfl, rfl⟩ := h4
  have c1 := ble_iff.1 c1
  have c2 := ble_iff.1 c2
  have c3 := ble_iff.1 c3
  have hbi := byOf_info hb z1
  have hm := run_make (P := P) w t e i zv hu z1 z2 k1 k2 (Int.ofNat l) (Int.ofNat c) (Int.natCast_nonneg l) (Int.ofNat_le.2 c1) (by
    rw [hbi, Int.mul_comm]
    have : ((c * by_ : Nat) : Int) ≤ 1099511627776 := Int.ofNat_le.2 c2
    simp only [Int.natCast_mul] at this
    simp only [Int.ofNat_eq_natCast]; omega) (by simp only [Int.ofNat_eq_natCast]; omega)
  have hsz : i.size = zv.cells.size := by rw [z5, (z3 κ).length]; simp
  have hrep := rep_ok (z3 κ) c
  rw [← hsz] at hrep
  refine .inl ⟨.value (.slice (some ⟨w.heap.size, 0, none⟩) l c), _, _, ?_, .inl ⟨_, rfl, ?_⟩, newRow_ok hr hrep (repeatL_all z4 c) e⟩
  · simp only [execOp, ho, e1, e2, Sem.run_bind, hm, Result.andThen_ok, Sem.run_pure]
    rfl
  · simp only [VR]
    exact ⟨_, _, c, Kp.at_same κ h.next _, rfl, c1, .inr rfl, rfl⟩
theorem bslice_ok (hr : HR P κ h w) (ht : TR κ n tm a.tmps) {t e : TypeId} {len esz : Nat} (hu : P.underlying t = some (.slice e)) (hsz : szOf P e = some esz) (hfew : ¬ len * esz > 2 ^ 24) {z : List AV} (hz : zeroC P e = some z) {parts : Array (Nat × Operand)} {xs : List (Nat × Nat × XO)}
    (hc : copParts (fun i => some (i * esz, esz)) parts.toList = some xs) (ho : o.op = .buildSlice t len parts) (hs : bsliceS e len (repeatL len z) xs tm h = .ok v h') : OpRes P o a κ h w v h' := by
  obtain ⟨i, zv, z1, z2, z3, z4, z5⟩ := zeroC_info hz
  have hsi := szOf_info hsz z1
  have hz' : esz = zv.cells.size := by rw [← hsi, z5, (z3 κ).length]; simp
  have hrep := rep_ok (z3 κ) len
  rw [← hz'] at hrep
  obtain ⟨cs', vs', g1, g2, g3, g4, g5⟩ := fillK_ok ht (place := fun i => some (i * esz, esz)) (fun i y hy => hy) hc hrep (repeatL_all z4 len) hs
  rw [Heap.pushK_eq] at g5
  simp only [Out.ok.injEq] at g5
  obtain ⟨rfl, rfl⟩ := g5
  refine .inl ⟨.value (.slice (some ⟨w.heap.size, 0, none⟩) len len), _, _, ?_, .inl ⟨_, rfl, ?_⟩, newRow_ok hr g2 g3 e⟩
  · simp only [execOp, ho, Instr.buildSlice, Sem.run_bind, run_underlyingT hu, Result.andThen_ok, run_sizeT hsz, if_neg hfew, Array.toList_map, Sem.run_pure]
    by_cases h0 : len * esz = 0
    · simp only [h0, if_true, Sem.run_bind, Sem.run_pure, Result.andThen_ok]
      have : (Array.map (fun x => (#[] : Array Value)[x % (#[] : Array Value).size]!) (Array.range 0)) = madeCells zv.cells (len * esz) := by rw [h0]; simp [madeCells]
      rw [this, g1]
      simp [newRow, newObj, Sem.run, World.new]
    · simp only [h0, if_false, Sem.run_bind, Sem.run_pure, Result.andThen_ok, zeroValue, typeInfo, run_program, z1, z2]
      have : (Array.map (fun x => zv.cells[x % zv.cells.size]!) (Array.range (len * esz))) = madeCells zv.cells (len * esz) := rfl
      rw [this, g1]
      simp [newRow, newObj, Sem.run, World.new]
  · simp only [VR]
    exact ⟨_, _, len, Kp.at_same κ h.next _, rfl, Nat.le_refl _, .inr rfl, rfl⟩

/-! ### bytes -/
theorem avBytes_ok : ∀ (bs : List UInt8), VRl κ (avBytes (bs.map UInt8.toNat)) (bs.map fun b => Value.int .u8 b.toNat) ∧ (avBytes (bs.map UInt8.toNat)).all AV.one = true
  | [] => by simp [avBytes, VRl]
  | b :: bs => by
    obtain ⟨h1, h2⟩ := avBytes_ok bs
    simp only [List.map_cons, avBytes, VRl, List.all_cons, h2, Bool.and_true]
    exact ⟨⟨_, _, rfl, by simp only [VR]; rfl, h1⟩, rfl⟩
theorem freeze_new (w : World) (arr : Array Value) (e : TypeId) (g : Nat) : World.freeze { w with heap := w.heap.push (.cells arr e (0, 0)) } ⟨w.heap.size, g, none⟩ 1 = World.new w (.cells arr e (g, g + 1)) := by
  simp only [World.freeze, World.new, Nat.one_ne_zero, if_false]
  congr 1
  apply Array.ext_getElem?
  intro i
  rw [Array.getElem?_modify, Array.getElem?_push, Array.getElem?_push]
  by_cases hi : i = w.heap.size
  · subst hi; simp
  · have hi' : ¬ w.heap.size = i := fun e => hi e.symm
    simp [hi, hi']
theorem toBytes_ok (hr : HR P κ h w) (ht : TR κ n tm a.tmps) {s d e : TypeId} (hsrc : P.underlying s = some .string) (hd : P.underlying d = some (.slice e)) (he : P.underlying e = some (.int .u8)) {x : Operand} {xo : XO} (hx : opnd x = some xo) (ho : o.op = .convert s d x)
    (hs : toBytesS e xo tm h = .ok v h') : OpRes P o a κ h w v h' := by
  obtain ⟨y, h1, h2⟩ := withO_ok hs
  have e1 := opnd_ok ht hx h1
  cases y <;> first | (simp at h2; done) | skip
  rename_i l
  simp only [VR] at e1
  obtain ⟨bs, e1, rfl⟩ := e1
  simp only [Heap.pushK_eq, Out.ok.injEq] at h2
  obtain ⟨rfl, rfl⟩ := h2
  obtain ⟨g1, g2⟩ := avBytes_ok (κ := κ) bs.data.toList
  have hd' := Ext.draw hr
  let g := grownCap w bs.size 0 e
  have hg : bs.size ≤ g := grownCap_ge w bs.size 0 e
  have hlen : (bs.data.toList.map fun b => Value.int .u8 b.toNat).length = bs.size := by simp
  have hx' := newRowS_ok hd'.hr (rest := List.replicate (g - bs.size) (.int .u8 0)) g1 g2 e (fr := (g, g + 1)) (.inr (by rw [hlen, List.length_replicate]; simp only; omega))
  refine .inl ⟨.value (.slice (some ⟨w.heap.size, 0, none⟩) bs.size g), _, _, ?_, .inl ⟨_, rfl, ?_⟩, hd'.trans hx'⟩
  · have hcut : (Question.appendCap bs.size 0 e).cut (w.tape w.drawn (Question.appendCap bs.size 0 e)) = g := rfl
    let rowL : List Value := (bs.data.toList.map fun (b : UInt8) => Value.int .u8 b.toNat) ++ List.replicate (g - bs.size) (Value.int .u8 0)
    have harr : bs.data.map (fun (b : UInt8) => Value.int .u8 b.toNat) ++ Array.replicate (g - bs.size) (Value.int .u8 0) = rowL.toArray := by
      apply Array.ext'; simp [rowL]
    have hsize : rowL.toArray.size = g := by simp [rowL]; omega
    have hrun : (Conv.stringToBytes e bs).run P w = .ok (.slice (some ⟨w.heap.size, 0, none⟩) bs.size g) (World.new (World.draw w) (.cells rowL.toArray e (g, g + 1))) := by
      simp only [Conv.stringToBytes, choose, Sem.run_bind, Sem.run, Question.forced, Bool.false_eq_true, if_false, hcut, Result.andThen_ok, harr, newRow, newObj, markStringish, shape, World.shape?, Array.getElem?_push_size, freeze, hsize, Sem.run_pure]
      congr 1
      exact freeze_new (World.draw w) rowL.toArray e g
    simp only [execOp, ho, e1, convert, Sem.run_bind, run_underlyingT hsrc, run_underlyingT hd, run_underlyingT he, Result.andThen_ok, hrun, Sem.run_pure]
    rfl
  · simp only [VR]
    refine ⟨_, _, g, Kp.at_same κ h.next _, ?_, ?_, .inr rfl, ?_, by omega⟩
    · rw [lenN_eq]; simp; rfl
    · rw [lenN_eq]; simpa using hg
    · simp; omega
theorem bytesOf_ok : ∀ {cs : List AV} {vs : List Value} {l : List Nat}, VRl κ cs vs → bytesOf cs = some l → ∃ ns : List Int, vs = ns.map (Value.int .u8) ∧ ns.map (fun n => (UInt8.ofNat n.toNat).toNat) = l
  | [], vs, l, hl, hb => by
    simp only [VRl] at hl; subst hl
    simp only [bytesOf, Option.some.injEq] at hb; subst hb
    exact ⟨[], rfl, rfl⟩
  | c :: cs, vs, l, hl, hb => by
    simp only [VRl] at hl
    obtain ⟨x, r, rfl, h1, h2⟩ := hl
    simp only [bytesOf] at hb
    split at hb
    · rename_i m
      cases hr' : bytesOf cs with
      | none => rw [hr'] at hb; simp at hb
      | some l' =>
        rw [hr'] at hb
        simp only [Option.some.injEq] at hb
        subst hb
        obtain ⟨ns, rfl, h4⟩ := bytesOf_ok h2 hr'
        simp only [VR] at h1
        exact ⟨Int.ofNat m :: ns, by rw [h1]; rfl, by simp [← h4]⟩
    · simp at hb
theorem push_bytes : ∀ (ns : List Int) (s : ByteArray), (ns.foldl (fun r n => r.push (UInt8.ofNat n.toNat)) s).data.toList = s.data.toList ++ ns.map fun n => UInt8.ofNat n.toNat
  | [], s => by simp
  | n :: ns, s => by
    simp only [List.foldl_cons, List.map_cons, push_bytes ns]
    simp [ByteArray.push]

/-- What a slice or a string yields, in X and in the model. -/
theorem src_ok (hr : HR P κ h w) {x : AV} {x' : Value} (hx : VR κ x x') {esz m : Nat} {xs : List AV} (hs : srcOf esz x h = some (m, xs)) :
    ∃ vs : List Value, VRl κ xs vs ∧ xs.all AV.one = true ∧ vs.length = m * esz ∧ (∀ w', (Builtin.lenOf x').run P w' = .ok m w') ∧
      (∀ k, k ≤ m → ∀ w' : World, w'.heap = w.heap → (Builtin.firstCells esz k x').run P w' = .ok (vs.take (k * esz)).toArray w') ∧ (∀ q l c, x' = .slice q l c → l = m) := by
  have none_ok : ∀ {q : Option Addr} {c : Nat}, x' = .slice q m c → m * esz = 0 → xs = [] → ∃ vs : List Value, VRl κ xs vs ∧ xs.all AV.one = true ∧ vs.length = m * esz ∧ (∀ w', (Builtin.lenOf x').run P w' = .ok m w') ∧
      (∀ k, k ≤ m → ∀ w' : World, w'.heap = w.heap → (Builtin.firstCells esz k x').run P w' = .ok (vs.take (k * esz)).toArray w') ∧ (∀ q l c, x' = .slice q l c → l = m) := by
    rintro q c rfl h0 rfl
    refine ⟨[], by simp [VRl], by simp, by simp [h0], fun w' => rfl, fun k hk w' _ => ?_, fun _ _ _ e => by cases e; rfl⟩
    have : k * esz = 0 := Nat.le_zero.1 (h0 ▸ Nat.mul_le_mul_right esz hk)
    cases q <;> simp [Builtin.firstCells, this, loadCells, loadCellsFrom]
  have some_ok : ∀ {b q c : Nat} {arr : Array Value} {ty : TypeId} {fr : Nat × Nat} {vs : List Value}, x' = .slice (some ⟨b, q, none⟩) m c → w.heap[b]? = some (.cells arr ty fr) → VRl κ xs vs → xs.all AV.one = true → vs.length = m * esz → (∀ j, j < m * esz → arr[q + j]? = vs[j]?) →
      ∃ vs : List Value, VRl κ xs vs ∧ xs.all AV.one = true ∧ vs.length = m * esz ∧ (∀ w', (Builtin.lenOf x').run P w' = .ok m w') ∧
      (∀ k, k ≤ m → ∀ w' : World, w'.heap = w.heap → (Builtin.firstCells esz k x').run P w' = .ok (vs.take (k * esz)).toArray w') ∧ (∀ q l c, x' = .slice q l c → l = m) := by
    rintro b q c arr ty fr vs rfl hg g1 g2 g3 g4
    refine ⟨vs, g1, g2, g3, fun w' => rfl, fun k hk w' hw => ?_, fun _ _ _ e => by cases e; rfl⟩
    have hle : k * esz ≤ m * esz := Nat.mul_le_mul_right esz hk
    have hlt : (vs.take (k * esz)).length = k * esz := by simp; omega
    have := run_loadCells_of P (w := w') (b := b) (o := q) (arr := arr) (t := ty) (fr := fr) (by rw [hw]; exact hg) (vs.take (k * esz)) (fun j hj => by
      rw [hlt] at hj
      rw [g4 j (by omega), List.getElem?_take, if_pos hj])
    rw [hlt] at this
    simp only [Builtin.firstCells, this]
  cases x <;> simp only [srcOf, Option.some.injEq, Prod.mk.injEq, reduceCtorEq] at hs
  case nilslice =>
    simp only [VR] at hx
    obtain ⟨rfl, rfl⟩ := hs
    exact none_ok hx (by simp) rfl
  case slice p q len cap =>
    simp only [VR] at hx
    obtain ⟨s, ad, c, k1, k2, k3, k4, _⟩ := hx
    cases len with
    | zero =>
      simp only [Option.some.injEq, Prod.mk.injEq] at hs
      obtain ⟨rfl, rfl⟩ := hs
      exact none_ok k2 (by simp) rfl
    | succ len =>
      have hob := hr.obj p s k1
      cases hg : h.get p <;> rw [hg] at hs hob <;> first | (simp at hs; done) | skip
      rename_i ty cs sp
      dsimp only at hs
      cases hsub : sub cs q ((len + 1) * esz) with
      | none => rw [hsub] at hs; simp at hs
      | some l =>
        rw [hsub] at hs
        simp only [Option.some.injEq, Prod.mk.injEq] at hs
        obtain ⟨rfl, rfl⟩ := hs
        obtain ⟨g1, rfl⟩ := sub_some hsub
        obtain ⟨arr, fr, f1, f2, f3, f4, _⟩ := hob
        obtain ⟨vs, r1, r2, r3, r4, r5⟩ := f4.read q ((len + 1) * esz) g1
        rcases k4 with k4 | rfl
        · omega
        · exact some_ok k2 f1 r2 r3 r1 (fun j hj => by rw [Nat.add_assoc]; exact r5 j hj)
  case imm cs len full =>
    simp only [VR] at hx
    obtain ⟨ad, c, k1, k2, _, k4⟩ := hx
    cases hsub : takeE (len * esz) cs with
    | none => rw [hsub] at hs; simp at hs
    | some l =>
      rw [hsub] at hs
      simp only [Option.some.injEq, Prod.mk.injEq] at hs
      obtain ⟨rfl, rfl⟩ := hs
      obtain ⟨g1, rfl⟩ := takeE_some hsub
      rcases k4 with rfl | rfl | ⟨k4, arr, ty, fr, k5, k6⟩
      · exact none_ok k1 (by simpa using g1) (by simp)
      · exact none_ok k1 (by simp) (by simp)
      · rw [Addr.eta_none k4] at k1
        obtain ⟨vs, r1, r2, r3, r4, r5⟩ := k6.read 0 (len * esz) (by omega)
        simp only [List.drop_zero] at r2 r3
        exact some_ok k1 (hr.frozen _ _ k5) r2 r3 r1 (fun j hj => by have := r5 j hj; simpa using this)
  case str l =>
    simp only [VR] at hx
    obtain ⟨s, rfl, rfl⟩ := hx
    cases hb : Nat.beq esz 1 with
    | false => rw [hb] at hs; simp at hs
    | true =>
      rw [hb] at hs
      simp only [Option.some.injEq, Prod.mk.injEq] at hs
      obtain ⟨rfl, rfl⟩ := hs
      have hb := beq_iff'.1 hb
      subst hb
      obtain ⟨g1, g2⟩ := avBytes_ok (κ := κ) s.data.toList
      refine ⟨_, g1, g2, by simp [lenN_eq], fun w' => by simp [Builtin.lenOf, lenN_eq], fun k hk w' _ => ?_, fun _ _ _ e => by simp at e⟩
      simp only [Builtin.firstCells, Sem.run_pure, Result.ok.injEq, and_true]
      apply Array.ext'
      simp [ByteArray.data_extract]
theorem toStr_ok (hr : HR P κ h w) (ht : TR κ n tm a.tmps) {s d e : TypeId} (hsrc : P.underlying s = some (.slice e)) (hd : P.underlying d = some .string) (he : P.underlying e = some (.int .u8)) {x : Operand} {xo : XO} (hx : opnd x = some xo) (ho : o.op = .convert s d x)
    (hs : toStrS xo tm h = .ok v h') : OpRes P o a κ h w v h' := by
  obtain ⟨y, h1, h2⟩ := withO_ok hs
  have e1 := opnd_ok ht hx h1
  have fin : ∀ {q : Option Addr} {m c : Nat} {cs : List AV} {l : List Nat}, a.eval x = .slice q m c → srcOf 1 y h = some (m, cs) → bytesOf cs = some l → v = .str l → h' = h → OpRes P o a κ h w v h' := by
    rintro q m c cs l e3 e4 e5 rfl rfl
    obtain ⟨vs, g1, g2, g3, g4, g5, _⟩ := src_ok hr e1 e4
    obtain ⟨ns, rfl, f2⟩ := bytesOf_ok g1 e5
    have hf := g5 m (Nat.le_refl _) w rfl
    rw [← g3, List.take_length] at hf
    rw [e3] at hf
    have hrun : (Conv.bytesToString (.slice q m c)).run P w = .ok (.string (ns.foldl (fun r n => r.push (UInt8.ofNat n.toNat)) ByteArray.empty)) w := by
      cases q with
      | none =>
        simp only [Builtin.firstCells, Sem.run_pure, Result.ok.injEq, and_true] at hf
        have : ns = [] := by
          have := congrArg Array.size hf
          simp at this
          exact List.length_eq_zero_iff.1 this.symm
        subst this
        rfl
      | some ad =>
        simp only [Builtin.firstCells, Nat.mul_one] at hf
        exact run_bytesToString w ad m c ns hf
    refine .pure (v' := .string (ns.foldl (fun r n => r.push (UInt8.ofNat n.toNat)) ByteArray.empty)) hr ?_ ?_
    · simp only [VR]
      refine ⟨ns.foldl (fun r n => r.push (UInt8.ofNat n.toNat)) ByteArray.empty, rfl, ?_⟩
      rw [push_bytes, ← f2]; simp
    · simp only [execOp, ho, e3, convert, Sem.run_bind, run_underlyingT hsrc, run_underlyingT hd, run_underlyingT he, Result.andThen_ok, hrun, Sem.run_pure]
  have get : ∀ {q : Option Addr} {m c : Nat}, a.eval x = .slice q m c → (match srcOf 1 y h with
    | some (_, cs) => (match bytesOf cs with | some l => Out.ok (AV.str l) h | none => .bad)
    | none => .bad) = .ok v h' → OpRes P o a κ h w v h' := by
    intro q m c e3 e4
    cases hsr : srcOf 1 y h with
    | none => rw [hsr] at e4; simp at e4
    | some r =>
      obtain ⟨m', cs⟩ := r
      rw [hsr] at e4
      dsimp only at e4
      cases hb : bytesOf cs with
      | none => rw [hb] at e4; simp at e4
      | some l =>
        rw [hb] at e4
        simp only [Out.ok.injEq] at e4
        obtain ⟨rfl, rfl⟩ := e4
        obtain ⟨_, _, _, _, _, _, g6⟩ := src_ok hr e1 hsr
        have := g6 q m c e3
        subst this
        exact fin e3 hsr hb rfl rfl
  cases y <;> first | (simp [srcOf] at h2; done) | skip
  case nilslice => simp only [VR] at e1; exact get e1 h2
  case slice => have e1' := e1; simp only [VR] at e1'; obtain ⟨_, _, _, _, e1', _⟩ := e1'; exact get e1' h2
  case imm => have e1' := e1; simp only [VR] at e1'; obtain ⟨_, _, e1', _⟩ := e1'; exact get e1' h2
end
end Go.X
