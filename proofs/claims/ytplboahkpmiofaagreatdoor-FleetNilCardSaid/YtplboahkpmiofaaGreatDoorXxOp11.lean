/- The instructions of X against the model's operations, 11: append of zeros, copy, clear, unsafe. -/
import Derived.Test.YtplboahkpmiofaaGreatDoorXxOp10
import Derived.Lib.UnsafeStr
namespace Go.X
open Go

section
variable {P : Program} {κ : Kp} {h h' : Heap} {w : World} {n : Nat} {tm : Tm} {a : Act} {o : Oper} {v : AV}

section
variable {ts : Array TypeId} {ty t tx e : TypeId} {args : Array Value} {base : Option Addr} {sLen sCap m esz bytes : Nat} {olds : List Value} {i : TypeInfo} {zv : Value} {kx kd : IntKind}
/-- The cells appended. -/
theorem run_zeros (hi : P.info? e = some i) (hz : i.zero = some zv) (hzs : zv.cells.size = esz) : (if m * esz = 0 then pure #[] else do pure (Builtin.zeroCells (← zeroValue e).cells m) : Sem (Array Value)).run P w = .ok (madeCells zv.cells (m * zv.cells.size)) w := by
  split
  · rename_i h0; rw [hzs, h0]; simp [madeCells]
  · simp only [zeroValue, typeInfo, Sem.run_bind, run_program, Result.andThen_ok, hi, Sem.run_pure, hz]; rfl
theorem run_appendZ_room (h0 : ts[0]? = some t) (h1 : ts[1]? = some tx) (ha : args[0]? = some (.slice base sLen sCap)) (hb : args[1]? = some (.int kx (Int.ofNat m))) (hu : P.underlying t = some (.slice e)) (hk : P.underlying tx = some (.int kd))
    (hi : P.info? e = some i) (hz : i.zero = some zv) (hsi : i.size = esz) (hbi : i.bytes = bytes) (hzs : zv.cells.size = esz) (hm : m ≤ 1099511627776) (hmb : m * bytes ≤ 1099511627776) (hle : sLen + m ≤ sCap) {w' : World}
    (hst : (match base with | some ad => storeCells (ad.add (sLen * esz)) (madeCells zv.cells (m * zv.cells.size)).toList | none => pure () : Sem Unit).run P w = .ok () w') :
    (Builtin.append_ ts ty args).run P w = .ok (.slice base (sLen + m) sCap) w' := by
  have hso : ∀ w : World, (sizeOf e).run P w = .ok esz w := fun w => by simp only [sizeOf, typeInfo, Sem.run_bind, run_program, hi, Result.andThen_ok, Sem.run_pure, hsi]
  have hti : ∀ w : World, (typeInfo e).run P w = .ok i w := fun w => by simp only [typeInfo, Sem.run_bind, run_program, Result.andThen_ok, hi, Sem.run_pure]
  have hw : IntKind.i64.wrap (Int.ofNat m) = Int.ofNat m := by rw [IntKind.wrap_i64]; simp only [Int.ofNat_eq_natCast]; omega
  have hneg : ¬ Int.ofNat m < 0 := by simp
  have h48 : ¬ Int.ofNat m * (bytes : Int) > 2 ^ 48 := by
    have : ((m * bytes : Nat) : Int) ≤ 1099511627776 := Int.ofNat_le.2 hmb
    simp only [Int.natCast_mul] at this
    simp only [Int.ofNat_eq_natCast]; omega
  have htn : (Int.ofNat m).toNat = m := rfl
  have hz' := run_zeros (P := P) (w := w) (m := m) hi hz hzs
  simp only [Builtin.append_, h0, h1, ha, hb, Sem.run_bind, run_underlyingT hu, run_underlyingT hk, Result.andThen_ok, hso, hti, Sem.run_pure, if_true, asInt, asIntOf, hw, hneg, if_false, hbi, h48, htn, hle, Bool.not_true, Bool.false_eq_true, hz']
  cases base with
  | none => simp only [Sem.run_pure, Result.ok.injEq, true_and] at hst; subst hst; rfl
  | some ad => dsimp only at hst ⊢; simp only [Sem.run_bind, hst, Result.andThen_ok, Sem.run_pure]
theorem run_appendZ_grow (h0 : ts[0]? = some t) (h1 : ts[1]? = some tx) (ha : args[0]? = some (.slice base sLen sCap)) (hb : args[1]? = some (.int kx (Int.ofNat m))) (hu : P.underlying t = some (.slice e)) (hk : P.underlying tx = some (.int kd))
    (hi : P.info? e = some i) (hz : i.zero = some zv) (hsi : i.size = esz) (hbi : i.bytes = bytes) (hzs : zv.cells.size = esz) (hm : m ≤ 1099511627776) (hmb : m * bytes ≤ 1099511627776)
    (hold : (Builtin.firstCells esz sLen (.slice base sLen sCap)).run P (World.draw w) = .ok olds.toArray (World.draw w)) (hgt : sCap < sLen + m) (hb1 : (sLen + m) * bytes ≤ 1099511627776) (hb2 : bytes ≠ 0) :
    (Builtin.append_ ts ty args).run P w = .ok (.slice (some ⟨w.heap.size, 0, none⟩) (sLen + m) (grownCap w (sLen + m) sCap e))
      (World.new (World.draw w) (.cells ((olds ++ (madeCells zv.cells (m * zv.cells.size)).toList) ++ (Builtin.zeroCells zv.cells (grownCap w (sLen + m) sCap e - (sLen + m))).toList).toArray e (0, 0))) := by
  have hle : ¬ (sLen + m ≤ sCap) := by omega
  have h63 := need_small hb1 hb2
  have h63' : ¬ ((sLen + m : Nat) : Int) > IntKind.i64.max := by
    have : IntKind.i64.max = 9223372036854775807 := by decide
    rw [this]; omega
  have h48 : ¬ Builtin.nextslicecap (sLen + m) sCap * bytes > 2 ^ 48 := by
    have := growslice_fits (bytes := bytes) hgt (by omega); omega
  have hch : (choose (.appendCap (sLen + m) sCap e)).run P w = .ok (grownCap w (sLen + m) sCap e) (World.draw w) := rfl
  have hroom : ∀ k (w : World), (askRoom k).run P w = .ok () w := fun k w => by unfold askRoom; split <;> rfl
  have hti : ∀ w : World, (typeInfo e).run P w = .ok i w := fun w => by simp only [typeInfo, Sem.run_bind, run_program, Result.andThen_ok, hi, Sem.run_pure]
  have hso : ∀ w : World, (sizeOf e).run P w = .ok esz w := fun w => by simp only [sizeOf, Sem.run_bind, hti, Result.andThen_ok, Sem.run_pure, hsi]
  have hzv : ∀ w : World, (zeroValue e).run P w = .ok zv w := fun w => by simp only [zeroValue, Sem.run_bind, hti, Result.andThen_ok, hz, Sem.run_pure]
  have hw : IntKind.i64.wrap (Int.ofNat m) = Int.ofNat m := by rw [IntKind.wrap_i64]; simp only [Int.ofNat_eq_natCast]; omega
  have hneg : ¬ Int.ofNat m < 0 := by simp
  have h48' : ¬ Int.ofNat m * (bytes : Int) > 2 ^ 48 := by
    have : ((m * bytes : Nat) : Int) ≤ 1099511627776 := Int.ofNat_le.2 hmb
    simp only [Int.natCast_mul] at this
    simp only [Int.ofNat_eq_natCast]; omega
  have htn : (Int.ofNat m).toNat = m := rfl
  have hz' := run_zeros (P := P) (w := World.draw w) (m := m) hi hz hzs
  have harr : olds.toArray ++ madeCells zv.cells (m * zv.cells.size) ++ Builtin.zeroCells zv.cells (grownCap w (sLen + m) sCap e - (sLen + m)) = ((olds ++ (madeCells zv.cells (m * zv.cells.size)).toList) ++ (Builtin.zeroCells zv.cells (grownCap w (sLen + m) sCap e - (sLen + m))).toList).toArray := by
    apply Array.ext'; simp
  rw [← harr]
  simp only [Builtin.append_, h0, h1, ha, hb, Sem.run_bind, run_underlyingT hu, run_underlyingT hk, Result.andThen_ok, hso, hti, hbi, Sem.run_pure, if_true, asInt, asIntOf, hw, hneg, if_false, h48', htn, hle, Bool.not_true, Bool.false_eq_true, h63', false_and, h48, hch, hroom, hold, hz', hzv, newRow, newObj, Sem.run]
  rfl
end
theorem appendZ_ok (hr : HR P κ h w) (ht : TR κ n tm a.tmps) {c : Call} (hc : c.callee = .builtin .append) {t tx e : TypeId} {kd : IntKind} (hT : c.argTypes[0]? = some t) (hT1 : c.argTypes[1]? = some tx) (hu : P.underlying t = some (.slice e)) (hk : P.underlying tx = some (.int kd))
    {z : List AV} {bytes : Nat} (hz : zeroC P e = some z) (hb : byOf P e = some bytes) {x y : Operand} {xo yo : XO} (hl : c.args.toList = [x, y]) (hx : opnd x = some xo) (hy : opnd y = some yo)
    (ho : o.op = .call c) (hs : appendZS e bytes z xo yo tm h = .ok v h') : OpRes P o a κ h w v h' := by
  obtain ⟨u, h1, h2⟩ := withO_ok hs
  obtain ⟨k, m, h3, h4⟩ := withN_ok h2
  have e1 := opnd_ok ht hx h1
  have e2 := opnd_ok ht hy h3
  simp only [VR] at e2
  cases c1 : Nat.ble m 1099511627776 <;> cases c2 : small m bytes <;> rw [c1, c2] at h4 <;> simp only [reduceCtorEq] at h4
  have c1 := ble_iff.1 c1
  have c2 := ble_iff.1 c2
  obtain ⟨i, zv, z1, z2, z3, z4, z5⟩ := zeroC_info hz
  have hbi := byOf_info hb z1
  have hzl : lenN z 0 = i.size := by rw [lenN_eq, z5]; rfl
  rw [hzl] at h4
  have hzs : zv.cells.size = i.size := by rw [z5, (z3 κ).length]; simp
  have hrep := rep_ok (z3 κ) m
  obtain ⟨base, sLen, sCap, g0, g⟩ := appendTo_ok (P := P) hr e1 hrep (repeatL_all z4 m) (by rw [Array.length_toList, size_madeCells, hzs]) h4
  have ha0 : (c.args.map a.eval)[0]? = some (.slice base sLen sCap) := by rw [args_eq hl]; simp [g0]
  have ha1 : (c.args.map a.eval)[1]? = some (.int k (Int.ofNat m)) := by rw [args_eq hl]; simp [e2]
  rcases g with ⟨g1, w', g2, κ', g3, g4⟩ | ⟨g1, g2, g3, olds, g4, g5⟩
  · refine .inl ⟨_, w', κ', run_builtinOp ho hc fun cs => ?_, .inl ⟨_, rfl, g3⟩, g4⟩
    simp only [builtin, Sem.run_bind, run_appendZ_room hT hT1 ha0 ha1 hu hk z1 z2 rfl hbi hzs c1 c2 g1 g2, Result.andThen_ok, Sem.run_pure]
  · obtain ⟨κ', g6, g7⟩ := g5 (grownCap w (sLen + m) sCap e) _ (grownCap_ge w (sLen + m) sCap e) (zeros_length (k := grownCap w (sLen + m) sCap e - (sLen + m)) hzs)
    refine .inl ⟨_, _, κ', run_builtinOp ho hc fun cs => ?_, .inl ⟨_, rfl, g6⟩, g7⟩
    have hold := g4 (World.draw w) rfl
    rw [g0] at hold
    simp only [builtin, Sem.run_bind, run_appendZ_grow hT hT1 ha0 ha1 hu hk z1 z2 rfl hbi hzs c1 c2 hold g1 g2 g3, Result.andThen_ok, Sem.run_pure]

/-! ### copy, clear -/
theorem copy_ok (hr : HR P κ h w) (ht : TR κ n tm a.tmps) {c : Call} (hc : c.callee = .builtin .copy) {t e : TypeId} {esz : Nat} (hT : c.argTypes[0]? = some t) (hu : P.underlying t = some (.slice e)) (hsz : szOf P e = some esz)
    {x y : Operand} {xo yo : XO} (hl : c.args.toList = [x, y]) (hx : opnd x = some xo) (hy : opnd y = some yo) (ho : o.op = .call c) (hs : copyS esz xo yo tm h = .ok v h') : OpRes P o a κ h w v h' := by
  obtain ⟨u, h1, h2⟩ := withO_ok hs
  obtain ⟨d, h3, h4⟩ := withO_ok h2
  have e1 := opnd_ok ht hx h1
  have e2 := opnd_ok ht hy h3
  cases hsrc : srcOf esz d h with
  | none => rw [hsrc] at h4; simp at h4
  | some r =>
    obtain ⟨m, xs⟩ := r
    rw [hsrc] at h4
    obtain ⟨vs, s1, s2, s3, s4, s5, _⟩ := src_ok (P := P) hr e2 hsrc
    have model : ∀ {base : Option Addr} {len cap k : Nat} {w' : World}, a.eval x = .slice base len cap → k = Nat.min m len → (match base with | some ad => storeCells ad (vs.take (k * esz)) | none => pure () : Sem Unit).run P w = .ok () w' →
        (execOp a.eval o).run P w = .ok (.value (goInt k)) w' := by
      rintro base len cap k w' e3 rfl hst
      refine run_builtinOp ho hc fun cs => ?_
      have ha0 : (c.args.map a.eval)[0]? = some (.slice base len cap) := by rw [args_eq hl]; simp [e3]
      have ha1 : (c.args.map a.eval)[1]? = some (a.eval y) := by rw [args_eq hl]; simp
      have hf := s5 (Nat.min m len) (Nat.min_le_left _ _) w rfl
      cases base with
      | none =>
        simp only [Sem.run_pure, Result.ok.injEq, true_and] at hst; subst hst
        simp only [builtin, Builtin.copy_, hT, ha0, ha1, Sem.run_bind, run_underlyingT hu, Result.andThen_ok, s4, run_sizeT hsz, hf, Sem.run_pure]
      | some ad =>
        dsimp only at hst
        simp only [builtin, Builtin.copy_, hT, ha0, ha1, Sem.run_bind, run_underlyingT hu, Result.andThen_ok, s4, run_sizeT hsz, hf, hst, Sem.run_pure]
    have zero : ∀ {base : Option Addr} {len cap : Nat}, a.eval x = .slice base len cap → Nat.min m len = 0 → okI .i64 (.ofNat 0) h = .ok v h' → OpRes P o a κ h w v h' := by
      intro base len cap e3 e4 e5
      simp only [okI, Out.ok.injEq] at e5
      obtain ⟨rfl, rfl⟩ := e5
      refine .pure (v' := goInt 0) hr (by simp only [VR, goInt]; rfl) (model (k := 0) (w' := w) e3 e4.symm ?_)
      cases base <;> simp [storeCells]
    cases u <;> first | (simp at h4; done) | skip
    case nilslice =>
      simp only [VR] at e1
      exact zero e1 (Nat.min_zero m) h4
    case slice p q len cap =>
      simp only [VR] at e1
      obtain ⟨s, ad, c', k1, k2, k3, k4, _⟩ := e1
      dsimp only at h4
      have hk : minN m len = Nat.min m len := by
        simp only [minN]
        cases hb : Nat.ble m len with
        | true => have := ble_iff.1 hb; exact (Nat.min_eq_left this).symm
        | false => have := ble_not hb; exact (Nat.min_eq_right (by omega : len ≤ m)).symm
      rw [hk] at h4
      cases hmin : Nat.min m len with
      | zero => rw [hmin] at h4; exact zero k2 hmin h4
      | succ k =>
        rw [hmin] at h4
        have hlen : k + 1 ≤ len := by rw [← hmin]; exact Nat.min_le_right _ _
        have h4 : (match takeE ((k + 1) * esz) xs with | some ys => writeAt p q ys (.int .i64 (.ofNat (k + 1))) h | none => .bad) = .ok v h' := h4
        cases htk : takeE ((k + 1) * esz) xs with
        | none => rw [htk] at h4; simp at h4
        | some ys =>
          rw [htk] at h4
          obtain ⟨t1, rfl⟩ := takeE_some htk
          have hl' : VRl κ (xs.take ((k + 1) * esz)) (vs.take ((k + 1) * esz)) := by
            obtain ⟨l1, l2⟩ := VRl_iff.1 s1
            refine VRl_iff.2 ⟨by simp [l1], fun i c0 y0 hc0 hy0 => ?_⟩
            rw [List.getElem?_take] at hc0 hy0
            split at hc0
            · rename_i hlt; rw [if_pos hlt] at hy0; exact l2 i c0 y0 hc0 hy0
            · simp at hc0
          have hone : (xs.take ((k + 1) * esz)).all AV.one = true := by
            rw [List.all_eq_true] at s2 ⊢
            exact fun z hz => s2 z (List.mem_of_mem_take hz)
          obtain ⟨rfl, w', g1, g2⟩ := writeAt_ok hr k1 hl' hone h4
          rcases k4 with k4 | rfl
          · omega
          · exact .inl ⟨_, w', κ, model k2 hmin.symm g1, .inl ⟨_, rfl, by simp only [VR, goInt]; rfl⟩, g2⟩
theorem clearS_ok (hr : HR P κ h w) (ht : TR κ n tm a.tmps) {c : Call} (hc : c.callee = .builtin .clear) {t e : TypeId} (hT : c.argTypes[0]? = some t) (hu : P.underlying t = some (.slice e)) {z : List AV} (hz : zeroC P e = some z)
    {x : Operand} {xo : XO} (hl : c.args.toList = [x]) (hx : opnd x = some xo) (ho : o.op = .call c) (hs : clearSS z xo tm h = .ok v h') : OpRes P o a κ h w v h' := by
  obtain ⟨u, h1, h2⟩ := withO_ok hs
  have e1 := opnd_ok ht hx h1
  obtain ⟨zv, z1, z2, z3, z4⟩ := zeroC_ok hz
  cases u <;> first | (simp at h2; done) | skip
  case nilslice =>
    simp only [VR] at e1
    simp only [Out.ok.injEq] at h2
    obtain ⟨rfl, rfl⟩ := h2
    refine .pure (v' := .tuple #[]) hr (by simp only [unit, VR]; exact ⟨#[], rfl, by simp [VRl]⟩) (run_builtinOp ho hc fun cs => ?_)
    rw [args_eq hl]
    simp [builtin, Builtin.clear_, hT, e1, run_underlyingT hu]
  case slice p q len cap =>
    simp only [VR] at e1
    obtain ⟨s, ad, c', k1, k2, k3, k4, _⟩ := e1
    dsimp only at h2
    cases len with
    | zero =>
      simp only [Out.ok.injEq] at h2
      obtain ⟨rfl, rfl⟩ := h2
      refine .pure (v' := .tuple #[]) hr (by simp only [unit, VR]; exact ⟨#[], rfl, by simp [VRl]⟩) (run_builtinOp ho hc fun cs => ?_)
      rw [args_eq hl]
      simp [builtin, Builtin.clear_, hT, k2, run_underlyingT hu]
    | succ len =>
      have hrep := rep_ok (z2 κ) (len + 1)
      obtain ⟨rfl, w', g1, g2⟩ := writeAt_ok hr k1 hrep (repeatL_all z3 (len + 1)) h2
      rcases k4 with k4 | rfl
      · omega
      · refine .inl ⟨.value (.tuple #[]), w', κ, run_builtinOp ho hc fun cs => ?_, .inl ⟨_, rfl, by simp only [unit, VR]; exact ⟨#[], rfl, by simp [VRl]⟩⟩, g2⟩
        rw [args_eq hl]
        have hzc : Builtin.zeroCells zv.cells (len + 1) = madeCells zv.cells ((len + 1) * zv.cells.size) := rfl
        simp [builtin, Builtin.clear_, hT, k2, run_underlyingT hu, z1, hzc, g1]
end
end Go.X
