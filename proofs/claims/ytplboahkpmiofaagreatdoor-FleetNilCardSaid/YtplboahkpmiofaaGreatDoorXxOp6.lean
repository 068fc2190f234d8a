/- The instructions of X against the model's operations, 6: slices of strings, slices and arrays, type assertions, lengths. -/
import Derived.Test.YtplboahkpmiofaaGreatDoorXxOp5
namespace Go.X
open Go

section
variable {P : Program} {κ : Kp} {h h' : Heap} {w : World} {n : Nat} {tm : Tm} {a : Act} {o : Oper} {v : AV}

/-- A bound of a slice: given as a value, or left out. -/
def Bnd (y : Option Value) (d m : Nat) : Prop := (y = none ∧ m = d) ∨ ∃ kd, y = some (.int kd (m : Int))
theorem withNo_ok (ht : TR κ n tm a.tmps) {x : Option Operand} {xo : Option XO} (hx : opndO x = some xo) {d : Nat} {k : Nat → Out AV} (hs : withNo xo d tm k = .ok v h') :
    ∃ m, Bnd (x.map a.eval) d m ∧ (xo = none → m = d) ∧ (xo = none ↔ x = none) ∧ k m = .ok v h' := by
  cases x with
  | none =>
    simp only [opndO, Option.some.injEq] at hx
    subst hx
    exact ⟨d, .inl ⟨rfl, rfl⟩, fun _ => rfl, by simp, hs⟩
  | some x =>
    simp only [opndO, Option.map_eq_some_iff] at hx
    obtain ⟨y, h1, rfl⟩ := hx
    obtain ⟨kd, m, h2, h3⟩ := withN_ok hs
    have e := opnd_ok ht h1 h2
    simp only [VR] at e
    exact ⟨m, .inr ⟨kd, by simp [e]⟩, by simp, by simp, h3⟩
theorem run_sliceBound {kd : IntKind} {m y : Nat} {c : BoundsCode} (h : m ≤ y) : (Instr.sliceBound (.int kd (m : Int)) y c).run P w = .ok m w := by
  have hc : (0 : Int) ≤ (m : Int) ∧ (m : Int) ≤ (y : Int) := by omega
  simp only [Instr.sliceBound, asIntOf, Sem.run_bind, Sem.run_pure, Result.andThen_ok, hc, and_self, if_true]; rfl
theorem run_sliceBounds {sl : Bool} {len cap : Nat} {lo hi mx : Option Value} {b e m : Nat} (hlo : Bnd lo 0 b) (hhi : Bnd hi len e) (hmx : Bnd mx cap m) (hsm : hi = none → mx = none) (h1 : m ≤ cap) (h2 : e ≤ m) (h3 : b ≤ e) :
    (Instr.sliceBounds sl len cap lo hi mx).run P w = .ok (b, e, m) w := by
  rcases hmx with ⟨rfl, rfl⟩ | ⟨k1, rfl⟩ <;> rcases hhi with ⟨rfl, rfl⟩ | ⟨k2, rfl⟩ <;> rcases hlo with ⟨rfl, rfl⟩ | ⟨k3, rfl⟩ <;>
    first | (simp at hsm; done) | simp only [Instr.sliceBounds, Sem.run_bind, Sem.run_pure, Result.andThen_ok, run_sliceBound h1, run_sliceBound h2, run_sliceBound h3]
theorem extract_map {s : ByteArray} {l : List Nat} (hs : s.data.toList.map UInt8.toNat = l) (b e : Nat) : (s.extract b e).data.toList.map UInt8.toNat = (l.drop b).take (e - b) := by
  subst hs
  simp [ByteArray.data_extract]
theorem size_of {s : ByteArray} {l : List Nat} (hs : s.data.toList.map UInt8.toNat = l) : s.size = l.length := by subst hs; simp
theorem cutStr_ok (hr : HR P κ h w) (ht : TR κ n tm a.tmps) {t : TypeId} (hu : P.underlying t = some .string) {x : Operand} {xo : XO} {lo hi : Option Operand} {xlo xhi : Option XO} (hx : opnd x = some xo) (hlo : opndO lo = some xlo) (hhi : opndO hi = some xhi)
    (ho : o.op = .slice t x lo hi none) (hs : cutStrS xo xlo xhi tm h = .ok v h') : OpRes P o a κ h w v h' := by
  obtain ⟨y, h1, h2⟩ := withO_ok hs
  have e1 := opnd_ok ht hx h1
  cases y <;> first | (simp at h2; done) | skip
  rename_i l
  simp only [VR] at e1
  obtain ⟨s, e3, e4⟩ := e1
  have hsz := size_of e4
  have fin : ∀ {b e : Nat}, Bnd (lo.map a.eval) 0 b → Bnd (hi.map a.eval) s.size e → e ≤ s.size → b ≤ e → h' = h → v = .str ((l.drop b).take (e - b)) → OpRes P o a κ h w v h' := by
    rintro b e k1 k2 k3 k4 rfl rfl
    refine .pure (v' := .string (s.extract b e)) hr ?_ ?_
    · simp only [VR]; exact ⟨_, rfl, extract_map e4 b e⟩
    · simp only [execOp, ho, e3, Instr.sliceAt, Instr.slice, Sem.run_bind, run_underlyingT hu, Result.andThen_ok, Option.map_none, Option.isSome_none, Bool.false_eq_true, if_false, Sem.run_pure,
        run_sliceBounds (sl := false) (cap := s.size) (mx := none) (m := s.size) k1 k2 (.inl ⟨rfl, rfl⟩) (fun _ => rfl) (Nat.le_refl _) k3 k4]
  cases xhi with
  | none =>
    dsimp only at h2
    obtain ⟨b, k1, _, _, k2⟩ := withNo_ok ht hlo h2
    have hhn : hi = none := by cases hi <;> simp [opndO] at hhi ⊢
    cases hd : dropE b l with
    | none => rw [hd] at k2; simp at k2
    | some r =>
      rw [hd] at k2
      simp only [Out.ok.injEq] at k2
      obtain ⟨rfl, rfl⟩ := k2
      obtain ⟨k3, rfl⟩ := dropE_some hd
      refine fin (e := s.size) k1 (.inl ⟨by simp [hhn], rfl⟩) (Nat.le_refl _) (by omega) rfl ?_
      rw [hsz, List.take_of_length_le (by simp)]
  | some xh =>
    dsimp only at h2
    have h2' : withNo (some xh) s.size tm (fun e => withNo xlo 0 tm fun b => match Nat.ble b e with
      | true => (match sub l b (e - b) with | some r => .ok (.str r) h | none => .bad)
      | false => .bad) = .ok v h' := h2
    obtain ⟨e, k1, _, _, k2⟩ := withNo_ok ht hhi h2'
    obtain ⟨b, k3, _, _, k4⟩ := withNo_ok ht hlo k2
    cases hb : Nat.ble b e with
    | false => rw [hb] at k4; simp at k4
    | true =>
      rw [hb] at k4
      have hbe := ble_iff.1 hb
      cases hd : sub l b (e - b) with
      | none => rw [hd] at k4; simp at k4
      | some r =>
        rw [hd] at k4
        simp only [Out.ok.injEq] at k4
        obtain ⟨rfl, rfl⟩ := k4
        obtain ⟨k5, rfl⟩ := sub_some hd
        exact fin k3 k1 (by omega) hbe rfl rfl

theorem opndO_none {x : Option Operand} (h : opndO x = some none) : x = none := by cases x <;> simp [opndO] at h ⊢
theorem cutSl_ok (hr : HR P κ h w) (ht : TR κ n tm a.tmps) {t e : TypeId} {esz : Nat} (hu : P.underlying t = some (.slice e)) (hsz : szOf P e = some esz) {x : Operand} {xo : XO} {lo hi mx : Option Operand} {xlo xhi xmx : Option XO} (hx : opnd x = some xo)
    (hlo : opndO lo = some xlo) (hhi : opndO hi = some xhi) (hmx : opndO mx = some xmx) (hsm : hi = none → mx = none)
    (ho : o.op = .slice t x lo hi mx) (hs : cutSlS esz xo xlo xhi xmx tm h = .ok v h') : OpRes P o a κ h w v h' := by
  obtain ⟨y, h1, h2⟩ := withO_ok hs
  have e1 := opnd_ok ht hx h1
  have hsm' : hi.map a.eval = none → mx.map a.eval = none := fun q => by
    have := hsm (by simpa using q); simp [this]
  -- what the model comes to
  have fin : ∀ {q : Option Addr} {len c b e m : Nat}, a.eval x = .slice q len c → Bnd (lo.map a.eval) 0 b → Bnd (hi.map a.eval) len e → Bnd (mx.map a.eval) c m → m ≤ c → e ≤ m → b ≤ e → h' = h →
      VR κ v (.slice (if m = b then q else q.map (·.add (b * esz))) (e - b) (m - b)) → OpRes P o a κ h w v h' := by
    rintro q len c b e m k0 k1 k2 k3 k4 k5 k6 rfl k7
    refine .pure hr k7 ?_
    simp only [execOp, ho, k0, Instr.sliceAt, Instr.slice, Sem.run_bind, run_underlyingT hu, Result.andThen_ok, Sem.run_pure, run_sliceBounds k1 k2 k3 hsm' k4 k5 k6, run_sizeT hsz]
  cases y <;> first | (simp at h2; done) | skip
  case nilslice =>
    simp only [VR] at e1
    dsimp only at h2
    obtain ⟨e, k1, _, _, h3⟩ := withNo_ok ht hhi h2
    obtain ⟨b, k2, _, _, h4⟩ := withNo_ok ht hlo h3
    obtain ⟨m, k3, _, _, h5⟩ := withNo_ok ht hmx h4
    cases e <;> cases b <;> cases m <;> simp only [Out.ok.injEq, reduceCtorEq] at h5
    obtain ⟨rfl, rfl⟩ := h5
    exact fin e1 k2 k1 k3 (Nat.le_refl _) (Nat.le_refl _) (Nat.le_refl _) rfl (by simp [VR])
  case slice p q len cap =>
    simp only [VR] at e1
    obtain ⟨s, d, c, k1, k2, k3, k4, k5⟩ := e1
    have hplace : ∀ {b e m : Nat} {cp : Cap}, e ≤ m → b ≤ e → m ≤ c → (match cp with | .ex r => m - b = r | .up z => s.d + (q + b * esz) + (m - b) * z = s.n ∧ 0 < z) →
        VR κ (.slice p (q + b * esz) (e - b) cp) (.slice (if m = b then some d else (some d : Option Addr).map (·.add (b * esz))) (e - b) (m - b)) := by
      intro b e m cp q1 q2 q3 q4
      simp only [VR]
      by_cases hmb : m = b
      · rw [if_pos hmb]
        exact ⟨s, d, m - b, k1, rfl, by omega, .inl (by omega), q4⟩
      · rw [if_neg hmb]
        refine ⟨s, _, m - b, k1, rfl, by omega, .inr ?_, q4⟩
        rcases k4 with k4 | k4
        · omega
        · simp only [k4, add_none, Nat.add_assoc]
    cases cap with
    | ex c' =>
      dsimp only at k5; subst k5
      dsimp only at h2
      obtain ⟨m, q1, _, _, h3⟩ := withNo_ok ht hmx h2
      obtain ⟨e, q2, _, _, h4⟩ := withNo_ok ht hhi h3
      obtain ⟨b, q3, _, _, h5⟩ := withNo_ok ht hlo h4
      cases c1 : Nat.ble m c <;> cases c2 : Nat.ble e m <;> cases c3 : Nat.ble b e <;> rw [c1, c2, c3] at h5 <;> simp only [Out.ok.injEq, reduceCtorEq] at h5
      obtain ⟨rfl, rfl⟩ := h5
      have c1 := ble_iff.1 c1
      have c2 := ble_iff.1 c2
      have c3 := ble_iff.1 c3
      exact fin k2 q3 q2 q1 c1 c2 c3 rfl (hplace c2 c3 c1 rfl)
    | up z =>
      dsimp only at k5
      obtain ⟨k5, k6⟩ := k5
      dsimp only at h2
      obtain ⟨e, q2, _, _, h3⟩ := withNo_ok ht hhi h2
      obtain ⟨b, q3, _, _, h4⟩ := withNo_ok ht hlo h3
      cases c1 : Nat.ble b e <;> cases c2 : Nat.beq z esz <;> rw [c1, c2] at h4 <;> simp only [reduceCtorEq] at h4
      have c1 := ble_iff.1 c1
      have c2 := beq_iff'.1 c2
      subst c2
      split at h4
      · simp at h4
      · rename_i hknown
        have hec : e ≤ c := by
          cases c3 : Nat.ble e len with
          | true => have := ble_iff.1 c3; omega
          | false =>
            rw [c3] at hknown
            cases hg : h.get p <;> rw [hg] at hknown <;> first | (simp at hknown; done) | skip
            rename_i ty cs sp
            dsimp only at hknown
            cases hd : dropE (q + e * z) cs with
            | none => rw [hd] at hknown; simp at hknown
            | some r =>
              obtain ⟨g1, _⟩ := dropE_some hd
              have ho' := hr.obj p s k1
              rw [hg] at ho'
              obtain ⟨arr, fr, g2, g3, g4, _⟩ := ho'
              have : e * z ≤ c * z := by omega
              exact Nat.le_of_mul_le_mul_right this k6
        cases xmx with
        | none =>
          simp only [Out.ok.injEq] at h4
          obtain ⟨rfl, rfl⟩ := h4
          have := opndO_none hmx
          refine fin k2 q3 q2 (m := c) (.inl ⟨by simp [this], rfl⟩) (Nat.le_refl _) hec c1 rfl (hplace hec c1 (Nat.le_refl _) ⟨?_, k6⟩)
          have hbc : b ≤ c := by omega
          have : b * z + (c - b) * z = c * z := by rw [← Nat.add_mul]; congr 1; omega
          omega
        | some xm =>
          dsimp only at h4
          have h4' : withNo (some xm) c tm (fun m => match Nat.ble e m, Nat.ble m len with
            | true, true => .ok (.slice p (q + b * z) (e - b) (.ex (m - b))) h
            | _, _ => .bad) = .ok v h' := h4
          obtain ⟨m, q1, _, _, h5⟩ := withNo_ok ht hmx h4'
          cases c2 : Nat.ble e m <;> cases c3 : Nat.ble m len <;> rw [c2, c3] at h5 <;> simp only [Out.ok.injEq, reduceCtorEq] at h5
          obtain ⟨rfl, rfl⟩ := h5
          have c2 := ble_iff.1 c2
          have c3 := ble_iff.1 c3
          exact fin k2 q3 q2 q1 (by omega) c2 c1 rfl (hplace c2 c1 (by omega) rfl)
  case imm cs len full =>
    simp only [VR] at e1
    obtain ⟨d, c, k2, k3, k4, k5⟩ := e1
    dsimp only at h2
    obtain ⟨e, q2, _, _, h3⟩ := withNo_ok ht hhi h2
    obtain ⟨b, q3, _, _, h4⟩ := withNo_ok ht hlo h3
    cases c1 : Nat.ble b e <;> cases c2 : Nat.ble e len <;> rw [c1, c2] at h4 <;> simp only [reduceCtorEq] at h4
    have c1 := ble_iff.1 c1
    have c2 := ble_iff.1 c2
    have hplace : ∀ {m : Nat} {fl : Bool} {r : List AV}, dropE (b * esz) cs = some r → e ≤ m → (fl = true → m - b = e - b) → VR κ (.imm r (e - b) fl) (.slice (if m = b then some d else (some d : Option Addr).map (·.add (b * esz))) (e - b) (m - b)) := by
      intro m fl r g1 g2 g3
      obtain ⟨g4, rfl⟩ := dropE_some g1
      simp only [VR]
      by_cases hmb : m = b
      · rw [if_pos hmb]; exact ⟨d, _, rfl, by omega, g3, .inr (.inl (by omega))⟩
      · rw [if_neg hmb]
        refine ⟨_, _, rfl, by omega, g3, ?_⟩
        rcases k5 with rfl | k5 | ⟨g5, arr, ty, fr, g6, g7⟩
        · exact .inl (by simp)
        · exact .inr (.inl (by omega))
        · refine .inr (.inr ?_)
          rw [Addr.eta_none g5]
          dsimp only
          rw [add_none]
          refine ⟨rfl, arr, ty, fr, g6, VRm_iff.2 fun i c hc => ?_⟩
          rw [List.getElem?_drop] at hc
          simpa [Nat.add_assoc] using VRm_iff.1 g7 (b * esz + i) c hc
    cases xmx with
    | none =>
      dsimp only at h4
      have := opndO_none hmx
      cases hd : dropE (b * esz) cs with
      | none => rw [hd] at h4; simp at h4
      | some r =>
        rw [hd] at h4
        simp only [Out.ok.injEq] at h4
        obtain ⟨rfl, rfl⟩ := h4
        refine fin k2 q3 q2 (m := c) (.inl ⟨by simp [this], rfl⟩) (Nat.le_refl _) (by omega) c1 rfl (hplace hd (by omega) fun hf => ?_)
        cases full with
        | false => simp at hf
        | true => have := beq_iff'.1 hf; have := k4 rfl; omega
    | some xm =>
      dsimp only at h4
      have h4' : withNo (some xm) c tm (fun m => match Nat.beq m e with
        | true => (match dropE (b * esz) cs with | some r => .ok (.imm r (e - b) true) h | none => .bad)
        | false => .bad) = .ok v h' := h4
      obtain ⟨m, q1, _, _, h5⟩ := withNo_ok ht hmx h4'
      cases c3 : Nat.beq m e with
      | false => rw [c3] at h5; simp at h5
      | true =>
        rw [c3] at h5
        have c3 := beq_iff'.1 c3
        subst c3
        cases hd : dropE (b * esz) cs with
        | none => rw [hd] at h5; simp at h5
        | some r =>
          rw [hd] at h5
          simp only [Out.ok.injEq] at h5
          obtain ⟨rfl, rfl⟩ := h5
          exact fin k2 q3 q2 q1 (by omega) (Nat.le_refl _) c1 rfl (hplace hd (Nat.le_refl _) fun _ => rfl)
theorem cutArr_ok (hr : HR P κ h w) (ht : TR κ n tm a.tmps) {t e : TypeId} {len esz : Nat} (hu : P.underlying t = some (.array len e)) (hsz : szOf P e = some esz) {x : Operand} {xo : XO} {lo hi mx : Option Operand} {xlo xhi xmx : Option XO} (hx : opnd x = some xo)
    (hlo : opndO lo = some xlo) (hhi : opndO hi = some xhi) (hmx : opndO mx = some xmx) (hsm : hi = none → mx = none)
    (ho : o.op = .slice t x lo hi mx) (hs : cutArrS len esz xo xlo xhi xmx tm h = .ok v h') : OpRes P o a κ h w v h' := by
  obtain ⟨y, h1, h2⟩ := withO_ok hs
  have e1 := opnd_ok ht hx h1
  have hsm' : hi.map a.eval = none → mx.map a.eval = none := fun q => by
    have := hsm (by simpa using q); simp [this]
  cases y <;> first | (simp at h2; done) | skip
  rename_i p q
  simp only [VR] at e1
  obtain ⟨s, k1, k2⟩ := e1
  dsimp only at h2
  obtain ⟨m, q1, _, _, h3⟩ := withNo_ok ht hmx h2
  obtain ⟨e', q2, _, _, h4⟩ := withNo_ok ht hhi h3
  obtain ⟨b, q3, _, _, h5⟩ := withNo_ok ht hlo h4
  cases c1 : Nat.ble m len <;> cases c2 : Nat.ble e' m <;> cases c3 : Nat.ble b e' <;> rw [c1, c2, c3] at h5 <;> simp only [Out.ok.injEq, reduceCtorEq] at h5
  obtain ⟨rfl, rfl⟩ := h5
  have c1 := ble_iff.1 c1
  have c2 := ble_iff.1 c2
  have c3 := ble_iff.1 c3
  refine .pure (v' := .slice (some (if m = b then ⟨s.b, s.d + q, none⟩ else (⟨s.b, s.d + q, none⟩ : Addr).add (b * esz))) (e' - b) (m - b)) hr ?_ ?_
  · simp only [VR]
    by_cases hmb : m = b
    · rw [if_pos hmb]; exact ⟨s, _, m - b, k1, rfl, by omega, .inl (by omega), rfl⟩
    · rw [if_neg hmb]; exact ⟨s, _, m - b, k1, rfl, by omega, .inr (by simp only [add_none, Nat.add_assoc]), rfl⟩
  · simp only [execOp, ho, k2, Instr.sliceAt, Instr.sureAddr, Sem.run_bind, run_underlyingT hu, Result.andThen_ok, Sem.run_pure, run_sliceBounds q3 q2 q1 hsm' c1 c2 c3, run_sizeT hsz]

theorem tas_ok (hr : HR P κ h w) (ht : TR κ n tm a.tmps) {t xt : TypeId} {z : AV} {ok : Bool} {d : TypeDesc} (hd : P.underlying t = some d) (hi : ∀ ms, d ≠ .interface ms) (hz : zeroOf P t = some z) {x : Operand} {xo : XO} (hx : opnd x = some xo)
    (ho : o.op = .typeAssert x xt t ok) (hs : tasS t z ok xo tm h = .ok v h') : OpRes P o a κ h w v h' := by
  obtain ⟨y, h1, h2⟩ := withO_ok hs
  have e1 := opnd_ok ht hx h1
  obtain ⟨zv, hz1, hz2⟩ := run_zeroT hz
  cases y <;> first | (simp at h2; done) | skip
  case niliface =>
    simp only [VR] at e1
    cases ok with
    | false => simp at h2
    | true =>
      simp only [Out.ok.injEq] at h2
      obtain ⟨rfl, rfl⟩ := h2
      refine .pure (v' := .tuple #[zv, .bool false]) hr ?_ ?_
      · simp only [VR]; exact ⟨_, rfl, by simp [VRl, VR, hz2]⟩
      · simp only [execOp, ho, e1, Instr.typeAssert, Sem.run_bind, run_underlyingT hd, Result.andThen_ok, Sem.run_pure]
        cases d <;> first | (exact absurd rfl (hi _)) | simp [hz1]
  case iface t' u =>
    simp only [VR] at e1
    obtain ⟨u', e1, e2⟩ := e1
    dsimp only at h2
    cases c1 : Nat.beq t' t with
    | true =>
      have c1 := beq_iff'.1 c1
      subst c1
      have : Nat.beq t' t' = true := Nat.beq_refl _
      cases ok with
      | true =>
        rw [this] at h2
        simp only [Out.ok.injEq] at h2
        obtain ⟨rfl, rfl⟩ := h2
        refine .pure (v' := .tuple #[u', .bool true]) hr ?_ ?_
        · simp only [VR]; exact ⟨_, rfl, by simp [VRl, VR, e2]⟩
        · simp only [execOp, ho, e1, Instr.typeAssert, Sem.run_bind, run_underlyingT hd, Result.andThen_ok, Sem.run_pure]
          cases d <;> first | (exact absurd rfl (hi _)) | simp
      | false =>
        rw [this] at h2
        simp only [Out.ok.injEq] at h2
        obtain ⟨rfl, rfl⟩ := h2
        refine .pure (v' := u') hr e2 ?_
        simp only [execOp, ho, e1, Instr.typeAssert, Sem.run_bind, run_underlyingT hd, Result.andThen_ok, Sem.run_pure]
        cases d <;> first | (exact absurd rfl (hi _)) | simp
    | false =>
      have hne : t' ≠ t := fun e => by rw [beq_iff'.2 e] at c1; simp at c1
      rw [c1] at h2
      cases ok with
      | false => simp at h2
      | true =>
        simp only [Out.ok.injEq] at h2
        obtain ⟨rfl, rfl⟩ := h2
        refine .pure (v' := .tuple #[zv, .bool false]) hr ?_ ?_
        · simp only [VR]; exact ⟨_, rfl, by simp [VRl, VR, hz2]⟩
        · simp only [execOp, ho, e1, Instr.typeAssert, Sem.run_bind, run_underlyingT hd, Result.andThen_ok, Sem.run_pure]
          cases d <;> first | (exact absurd rfl (hi _)) | simp [hz1, hne]
end
end Go.X
