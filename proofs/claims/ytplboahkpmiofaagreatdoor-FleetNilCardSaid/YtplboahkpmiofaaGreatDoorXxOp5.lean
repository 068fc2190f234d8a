/- The instructions of X against the model's operations, 5: conversions of numbers, parts, addresses, slices of strings, slices and arrays, type assertions, lengths. -/
import Derived.Test.YtplboahkpmiofaaGreatDoorXxOp4
namespace Go.X
open Go

section
variable {P : Program} {κ : Kp} {h h' : Heap} {w : World} {n : Nat} {tm : Tm} {a : Act} {o : Oper} {v : AV}

/-! ### types -/
theorem run_underlyingT {t : TypeId} {d : TypeDesc} (h : P.underlying t = some d) : (Go.underlying t).run P w = .ok d w := by
  simp only [Go.underlying, Sem.run_bind, run_program, Result.andThen_ok, h, Sem.run_pure]
theorem run_sizeT {t : TypeId} {s : Nat} (h : szOf P t = some s) : (sizeOf t).run P w = .ok s w := by
  simp only [szOf, Option.map_eq_some_iff] at h
  obtain ⟨i, h1, h2⟩ := h
  simp only [sizeOf, typeInfo, Sem.run_bind, run_program, Result.andThen_ok, h1, Sem.run_pure, h2]
theorem run_zeroT {t : TypeId} {z : AV} (h : zeroOf P t = some z) : ∃ v, (∀ w, (zeroValue t).run P w = .ok v w) ∧ ∀ κ, VR κ z v := by
  simp only [zeroOf, Option.bind_eq_some_iff] at h
  obtain ⟨v, ⟨i, h1, h2⟩, h3⟩ := h
  refine ⟨v, fun w => ?_, fun κ => avOf_ok κ 4 v z h3⟩
  simp only [zeroValue, typeInfo, Sem.run_bind, run_program, Result.andThen_ok, h1, Sem.run_pure, h2]
theorem run_isAggT {t : TypeId} {b : Bool} (h : isAggT P t = some b) : (isAgg t).run P w = .ok b w := by
  simp only [isAggT, Option.map_eq_some_iff] at h
  obtain ⟨d, h1, h2⟩ := h
  simp only [isAgg, Sem.run_bind, run_underlyingT h1, Result.andThen_ok]
  cases d <;> first | (subst h2; rfl) | rfl
theorem aggN_none {t : TypeId} (h : aggN P t = some none) : isAggT P t = some false := by
  simp only [aggN, Option.bind_eq_bind, Option.bind_eq_some_iff] at h
  obtain ⟨b, h1, h2⟩ := h
  cases b with
  | false => exact h1
  | true => cases e : szOf P t <;> rw [e] at h2 <;> simp at h2
theorem aggN_some {t : TypeId} {s : Nat} (h : aggN P t = some (some s)) : isAggT P t = some true ∧ szOf P t = some s := by
  simp only [aggN, Option.bind_eq_bind, Option.bind_eq_some_iff] at h
  obtain ⟨b, h1, h2⟩ := h
  cases b with
  | false => simp at h2
  | true =>
    refine ⟨h1, ?_⟩
    simp only [if_true] at h2
    cases hs : szOf P t with
    | none => rw [hs] at h2; simp at h2
    | some q => rw [hs] at h2; simpa using h2
theorem add_none (b o n : Nat) : (⟨b, o, none⟩ : Addr).add n = ⟨b, o + n, none⟩ := by unfold Addr.add; split <;> simp_all
theorem Addr.eta_none {x : Addr} (h : x.spot = none) : x = ⟨x.block, x.off, none⟩ := by cases x; simp_all
theorem ble_iff {a b : Nat} : Nat.ble a b = true ↔ a ≤ b := by rw [Nat.ble_eq]
theorem ble_not {a b : Nat} (h : Nat.ble a b = false) : b < a := by
  by_cases h' : a ≤ b
  · rw [ble_iff.2 h'] at h; simp at h
  · omega
theorem beq_iff' {a b : Nat} : Nat.beq a b = true ↔ a = b := by rw [Nat.beq_eq]

/-! ### parts -/
theorem part_ok {t : TypeId} {m : Option Nat} (hm : aggN P t = some m) {cs : List AV} {vs : Array Value} (hl : VRl κ cs vs.toList) (hone : cs.all AV.one = true) {off : Nat} (hs : partOf cs off m h = .ok v h') :
    h' = h ∧ ∃ v', (part t vs off).run P w = .ok v' w ∧ VR κ v v' := by
  obtain ⟨hlen, hat⟩ := VRl_iff.1 hl
  cases m with
  | none =>
    have e := run_isAggT (w := w) (aggN_none hm)
    simp only [partOf, nth_eq] at hs
    cases hc : cs[off]? with
    | none => rw [hc] at hs; simp at hs
    | some c =>
      have hs' : Out.ok c h = .ok v h' := by rw [hc] at hs; cases c <;> first | exact hs | (simp at hs; done)
      simp only [Out.ok.injEq] at hs'
      obtain ⟨rfl, rfl⟩ := hs'
      have hi : off < cs.length := (List.getElem?_eq_some_iff.1 hc).1
      have hV : vs.toList[off]? = some vs.toList[off] := List.getElem?_eq_getElem (by omega)
      refine ⟨rfl, vs.toList[off], ?_, hat off c _ hc hV⟩
      simp only [Array.getElem?_toList] at hV
      simp only [part, Sem.run_bind, e, Result.andThen_ok, Bool.false_eq_true, if_false, hV, Sem.run_pure]
  | some s =>
    obtain ⟨e1, e2⟩ := aggN_some hm
    have e := run_isAggT (w := w) e1
    simp only [partOf] at hs
    cases hc : sub cs off s with
    | none => rw [hc] at hs; simp at hs
    | some l =>
      rw [hc] at hs
      simp only [Out.ok.injEq] at hs
      obtain ⟨rfl, rfl⟩ := hs
      obtain ⟨h1, h2⟩ := sub_some hc
      refine ⟨rfl, .agg (vs.extract off (off + s)), ?_, ?_⟩
      · simp only [part, Sem.run_bind, e, Result.andThen_ok, if_true, run_sizeT e2, Sem.run_pure]
      · simp only [VR]
        refine ⟨_, rfl, ?_, ?_⟩
        · subst h2
          rw [List.all_eq_true] at hone ⊢
          exact fun x hx => hone x (List.mem_of_mem_drop (List.mem_of_mem_take hx))
        · subst h2
          refine VRl_iff.2 ⟨?_, fun i c x hc hx => ?_⟩
          · simp at hlen ⊢; omega
          · simp only [List.getElem?_take] at hc
            split at hc
            · rw [List.getElem?_drop] at hc
              refine hat (off + i) c x hc ?_
              rw [Array.getElem?_toList, Array.getElem?_extract] at hx
              split at hx
              · rw [Array.getElem?_toList]; exact hx
              · simp at hx
            · simp at hc

/-! ### numbers, parts -/
theorem conv_ok (hr : HR P κ h w) (ht : TR κ n tm a.tmps) {s d : TypeId} {k ks : IntKind} (hsrc : P.underlying s = some (.int ks)) (hd : P.underlying d = some (.int k)) {x : Operand} {xo : XO} (hx : opnd x = some xo) (ho : o.op = .convert s d x)
    (hs : convS k xo tm h = .ok v h') : OpRes P o a κ h w v h' := by
  obtain ⟨kd, m, h1, h2⟩ := withI_ok hs
  have e := opnd_ok ht hx h1
  simp only [VR] at e
  simp only [okI, Out.ok.injEq] at h2
  obtain ⟨rfl, rfl⟩ := h2
  refine .pure (v' := .int k (k.wrap m)) hr (by simp only [VR, wrapF_eq]) ?_
  simp only [execOp, ho, e, convert, Sem.run_bind, run_underlyingT hsrc, run_underlyingT hd, Result.andThen_ok, Conv.intToInt, Sem.run_pure]
theorem fieldOf_some {t : TypeId} {i : Nat} {f : Field} (h : fieldOf P t i = some f) : ∃ fs, P.underlying t = some (.struct fs) ∧ fs[i]? = some f := by
  simp only [fieldOf] at h
  split at h
  · rename_i fs hfs; exact ⟨fs, hfs, h⟩
  · simp at h
theorem fld_ok (hr : HR P κ h w) (ht : TR κ n tm a.tmps) {t : TypeId} {i : Nat} {f : Field} (hf : fieldOf P t i = some f) {m : Option Nat} (hm : aggN P f.type = some m) {x : Operand} {xo : XO} (hx : opnd x = some xo) (ho : o.op = .field t x i)
    (hs : fldS f.offset m xo tm h = .ok v h') : OpRes P o a κ h w v h' := by
  obtain ⟨y, h1, h2⟩ := withO_ok hs
  have e := opnd_ok ht hx h1
  cases y <;> first | (simp at h2; done) | skip
  simp only [VR] at e
  obtain ⟨vs, e1, e2, e3⟩ := e
  obtain ⟨rfl, v', e4, e5⟩ := part_ok (w := w) hm e3 e2 h2
  obtain ⟨fs, e6, e7⟩ := fieldOf_some hf
  refine .pure hr e5 ?_
  simp only [execOp, ho, e1, Instr.field, Sem.run_bind, run_underlyingT e6, Result.andThen_ok, e7, asAgg, Sem.run_pure, e4]

theorem ptrAdd_ok {y : AV} {y' : Value} (hy : VR κ y y') {m : Nat} (hs : ptrAdd y m h = .ok v h') : h' = h ∧ ∃ b, y' = .pointer (some b) ∧ VR κ v (.pointer (some (b.add m))) := by
  cases y <;> first | (simp [ptrAdd] at hs; done) | skip
  case ptr p q =>
    simp only [ptrAdd, Out.ok.injEq] at hs
    obtain ⟨rfl, rfl⟩ := hs
    simp only [VR] at hy
    obtain ⟨x, h1, rfl⟩ := hy
    refine ⟨rfl, _, rfl, ?_⟩
    simp only [VR]
    exact ⟨x, h1, by rw [add_none, Nat.add_assoc]⟩
  case gptr g q =>
    simp only [ptrAdd, Out.ok.injEq] at hs
    obtain ⟨rfl, rfl⟩ := hs
    simp only [VR] at hy
    subst hy
    exact ⟨rfl, _, rfl, by simp only [VR, add_none]⟩
  case iptr cs =>
    simp only [ptrAdd] at hs
    cases hd : dropE m cs with
    | none => rw [hd] at hs; simp at hs
    | some r =>
      rw [hd] at hs
      simp only [Out.ok.injEq] at hs
      obtain ⟨rfl, rfl⟩ := hs
      simp only [VR] at hy
      obtain ⟨b, arr, e, fr, rfl, h1, h2, h3⟩ := hy
      obtain ⟨h4, h5⟩ := dropE_some hd
      refine ⟨rfl, b, rfl, ?_⟩
      rw [Addr.eta_none h1, add_none]
      simp only [VR]
      refine ⟨_, arr, e, fr, rfl, rfl, h2, ?_⟩
      subst h5
      refine VRm_iff.2 fun i c hc => ?_
      rw [List.getElem?_drop] at hc
      simpa [Nat.add_assoc] using VRm_iff.1 h3 (m + i) c hc
theorem faddr_ok (hr : HR P κ h w) (ht : TR κ n tm a.tmps) {t : TypeId} {i : Nat} {f : Field} (hf : fieldOf P t i = some f) {s : Nat} (hsz : szOf P f.type = some s) (hz : s ≠ 0) {x : Operand} {xo : XO} (hx : opnd x = some xo) (ho : o.op = .fieldAddr t x i)
    (hs : faddrS f.offset xo tm h = .ok v h') : OpRes P o a κ h w v h' := by
  obtain ⟨y, h1, h2⟩ := withO_ok hs
  have e := opnd_ok ht hx h1
  obtain ⟨rfl, b, e1, e2⟩ := ptrAdd_ok e h2
  obtain ⟨fs, e6, e7⟩ := fieldOf_some hf
  refine .pure hr e2 ?_
  simp only [execOp, ho, e1, Instr.fieldAt, Sem.run_bind, run_underlyingT e6, Result.andThen_ok, e7, Instr.sureAddr, fieldPlace, run_sizeT hsz, if_neg hz, Sem.run_pure]
theorem iaddrA_ok (hr : HR P κ h w) (ht : TR κ n tm a.tmps) {t e : TypeId} {len esz : Nat} (hu : P.underlying t = some (.array len e)) (hsz : szOf P e = some esz) {x i : Operand} {xo io : XO} (hx : opnd x = some xo) (hi : opnd i = some io)
    (ho : o.op = .indexAddr t x i) (hs : iaddrAS len esz xo io tm h = .ok v h') : OpRes P o a κ h w v h' := by
  obtain ⟨y, h1, h2⟩ := withO_ok hs
  obtain ⟨kd, m, h3, h4⟩ := withN_ok h2
  have e1 := opnd_ok ht hx h1
  have e2 := opnd_ok ht hi h3
  simp only [VR] at e2
  cases hb : Nat.blt m len with
  | false => rw [hb] at h4; simp at h4
  | true =>
    rw [hb] at h4
    obtain ⟨rfl, b, e3, e4⟩ := ptrAdd_ok e1 h4
    have hlt := blt_iff.1 hb
    refine .pure hr e4 ?_
    have hc : (0 : Int) ≤ Int.ofNat m ∧ Int.ofNat m < (len : Int) := by simp only [Int.ofNat_eq_natCast]; omega
    simp only [execOp, ho, e2, e3, Instr.indexAt, Sem.run_bind, asIntOf, run_underlyingT hu, Result.andThen_ok, Instr.sureAddr, Sem.run_pure, hc, and_self, if_true, run_sizeT hsz]
    rfl
theorem iaddrS_ok (hr : HR P κ h w) (ht : TR κ n tm a.tmps) {t e : TypeId} {esz : Nat} (hu : P.underlying t = some (.slice e)) (hsz : szOf P e = some esz) {x i : Operand} {xo io : XO} (hx : opnd x = some xo) (hi : opnd i = some io)
    (ho : o.op = .indexAddr t x i) (hs : iaddrSS esz xo io tm h = .ok v h') : OpRes P o a κ h w v h' := by
  obtain ⟨y, h1, h2⟩ := withO_ok hs
  obtain ⟨kd, m, h3, h4⟩ := withN_ok h2
  have e1 := opnd_ok ht hx h1
  have e2 := opnd_ok ht hi h3
  simp only [VR] at e2
  have fin : ∀ {b : Addr} {len c : Nat}, a.eval x = .slice (some b) len c → m < len → h' = h → VR κ v (.pointer (some (b.add (m * esz)))) → OpRes P o a κ h w v h' := by
    rintro b len c e3 hlt rfl e4
    refine .pure hr e4 ?_
    have hc : (0 : Int) ≤ Int.ofNat m ∧ Int.ofNat m < (len : Int) := by simp only [Int.ofNat_eq_natCast]; omega
    simp only [execOp, ho, e2, e3, Instr.indexAt, Sem.run_bind, asIntOf, run_underlyingT hu, Result.andThen_ok, Instr.sureAddr, Sem.run_pure, hc, and_self, if_true, run_sizeT hsz]
    rfl
  cases y <;> first | (simp at h4; done) | skip
  case slice p q len cap =>
    simp only [VR] at e1
    obtain ⟨s, b, c, k1, k2, k3, k4, _⟩ := e1
    dsimp only at h4
    cases hb : Nat.blt m len with
    | false => rw [hb] at h4; simp at h4
    | true =>
      rw [hb] at h4
      simp only [Out.ok.injEq] at h4
      obtain ⟨rfl, rfl⟩ := h4
      have hlt := blt_iff.1 hb
      refine fin k2 hlt rfl ?_
      rcases k4 with k4 | rfl
      · omega
      · simp only [VR]; exact ⟨s, k1, by rw [add_none, Nat.add_assoc]⟩
  case imm cs len full =>
    simp only [VR] at e1
    obtain ⟨b, c, k1, k2, _, k3⟩ := e1
    dsimp only at h4
    cases hb : Nat.blt m len with
    | false => rw [hb] at h4; simp at h4
    | true =>
      rw [hb] at h4
      have hlt := blt_iff.1 hb
      cases hd : dropE (m * esz) cs with
      | none => rw [hd] at h4; simp at h4
      | some r =>
        obtain ⟨h5, h6⟩ := dropE_some hd
        cases r with
        | nil => rw [hd] at h4; simp at h4
        | cons c0 r0 =>
          rw [hd] at h4
          simp only [Out.ok.injEq] at h4
          obtain ⟨rfl, rfl⟩ := h4
          refine fin k1 hlt rfl ?_
          rcases k3 with rfl | rfl | ⟨k3, arr, ty, fr, k5, k6⟩
          · simp at h6
          · omega
          · rw [Addr.eta_none k3, add_none]
            simp only [VR]
            refine ⟨_, arr, ty, fr, rfl, rfl, k5, ?_⟩
            rw [h6]
            show VRm κ _ _
            refine VRm_iff.2 fun j c hc => ?_
            rw [List.getElem?_drop] at hc
            simpa [Nat.add_assoc] using VRm_iff.1 k6 (m * esz + j) c hc
theorem idxA_ok (hr : HR P κ h w) (ht : TR κ n tm a.tmps) {t e : TypeId} {len esz : Nat} {sz : Option Nat} (hu : P.underlying t = some (.array len e)) (hsz : szOf P e = some esz) (hag : aggN P e = some sz) {x i : Operand} {xo io : XO} (hx : opnd x = some xo) (hi : opnd i = some io)
    (ho : o.op = .index t x i) (hs : idxAS len esz sz xo io tm h = .ok v h') : OpRes P o a κ h w v h' := by
  obtain ⟨y, h1, h2⟩ := withO_ok hs
  obtain ⟨kd, m, h3, h4⟩ := withN_ok h2
  have e1 := opnd_ok ht hx h1
  have e2 := opnd_ok ht hi h3
  simp only [VR] at e2
  cases y <;> first | (simp at h4; done) | skip
  simp only [VR] at e1
  obtain ⟨vs, e3, e4, e5⟩ := e1
  dsimp only at h4
  cases hb : Nat.blt m len with
  | false => rw [hb] at h4; simp at h4
  | true =>
    rw [hb] at h4
    have hlt := blt_iff.1 hb
    obtain ⟨rfl, v', e6, e7⟩ := part_ok (w := w) hag e5 e4 h4
    refine .pure hr e7 ?_
    have hc : (0 : Int) ≤ Int.ofNat m ∧ Int.ofNat m < (len : Int) := by simp only [Int.ofNat_eq_natCast]; omega
    simp only [execOp, ho, e2, e3, Instr.index, Sem.run_bind, asIntOf, run_underlyingT hu, Result.andThen_ok, Sem.run_pure, hc, and_self, if_true, run_sizeT hsz]
    have : (Int.ofNat m).toNat = m := rfl
    rw [this, e6]; rfl
theorem bytes_get {s : ByteArray} {l : List Nat} (hs : s.data.toList.map UInt8.toNat = l) {m b : Nat} (hb : l[m]? = some b) : ∃ c : UInt8, s[m]? = some c ∧ c.toNat = b := by
  subst hs
  rw [List.getElem?_map, Option.map_eq_some_iff] at hb
  obtain ⟨c, h1, h2⟩ := hb
  refine ⟨c, ?_, h2⟩
  obtain ⟨h3, h4⟩ := List.getElem?_eq_some_iff.1 h1
  have h5 : m < s.size := by simpa using h3
  rw [getElem?_pos s m h5]
  simp only [Array.getElem_toList] at h4
  rw [← h4]; rfl
theorem idxS_ok (hr : HR P κ h w) (ht : TR κ n tm a.tmps) {t : TypeId} (hu : P.underlying t = some .string) {x i : Operand} {xo io : XO} (hx : opnd x = some xo) (hi : opnd i = some io)
    (ho : o.op = .index t x i) (hs : idxSS xo io tm h = .ok v h') : OpRes P o a κ h w v h' := by
  obtain ⟨y, h1, h2⟩ := withO_ok hs
  obtain ⟨kd, m, h3, h4⟩ := withN_ok h2
  have e1 := opnd_ok ht hx h1
  have e2 := opnd_ok ht hi h3
  simp only [VR] at e2
  cases y <;> first | (simp at h4; done) | skip
  rename_i l
  simp only [VR] at e1
  obtain ⟨s, e3, e4⟩ := e1
  simp only [nth_eq] at h4
  cases hb : l[m]? with
  | none => rw [hb] at h4; simp at h4
  | some b =>
    rw [hb] at h4
    simp only [okI, Out.ok.injEq] at h4
    obtain ⟨rfl, rfl⟩ := h4
    obtain ⟨c, e5, rfl⟩ := bytes_get e4 hb
    refine .pure (v' := .int .u8 c.toNat) hr (by simp only [VR]; rfl) ?_
    have hc : (0 : Int) ≤ Int.ofNat m := by simp
    have : (Int.ofNat m).toNat = m := rfl
    simp only [execOp, ho, e2, e3, Instr.index, Sem.run_bind, asIntOf, run_underlyingT hu, Result.andThen_ok, Sem.run_pure, hc, if_true, this, e5]
end
end Go.X
