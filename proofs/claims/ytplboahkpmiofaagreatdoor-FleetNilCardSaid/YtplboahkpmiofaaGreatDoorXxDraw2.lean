/- Regions whose order is open: X ahead of the model. -/
import Derived.Test.YtplboahkpmiofaaGreatDoorXxDraw1
namespace Go.X
open Go

/-- A quiet operation that X has done and the model has not. -/
def Ahead (D : Nat) (S : Nat → Prop) (q : RO) : Prop := q.loud = false ∧ D.testBit q.i = true ∧ ¬ S q.i
def RO.isNew (q : RO) : Prop := ∃ i, q.x.op = .ins i ∧ i.isNew = true
structure RS (P : Program) (n B : Nat) (kd : CallKind) (κ₀ : Kp) (h₀ : Heap) (w₀ : World) (cs₀ : List Frame) (l : List RO) (D : Nat) (S : Nat → Prop) (tm : Tm) (ds : List Dfd) (pan : Pan) (h : Heap) (a : Act) (cs : List Frame) (w : World) (κ : Kp) : Prop where
  ext : Ext P κ₀ h₀ w₀ κ h w
  size : n ≤ a.tmps.size
  val : ∀ t v, (∀ q ∈ l, Ahead D S q → q.x.dst ≠ some (.slot t)) → tm.get (.slot t) = some v → VR κ v (a.tmps.getD t undef)
  hd : DR B κ h w ds a.defers
  hc : CR κ kd pan cs₀ cs
  hB : B ≤ w.heap.size
  new : ∀ q ∈ l, Ahead D S q → q.isNew → ∀ d v p, q.x.dst = some d → tm.get d = some v → v.pos = some p → h₀.next.toNat ≤ p.toNat ∧ p.toNat < h.next.toNat ∧ κ.ρ p = none ∧
    ∀ q' ∈ l, Ahead D S q' → q'.i ≠ q.i → q'.isNew → ∀ d' v', q'.x.dst = some d' → tm.get d' = some v' → v'.pos ≠ some p
open Classical in
noncomputable def aheadL (D : Nat) (S : Nat → Prop) (l : List RO) : List Slot := l.filterMap fun q => if Ahead D S q then q.x.dst else none
theorem aheadL_iff {D : Nat} {S : Nat → Prop} {l : List RO} {d : Slot} : d ∈ aheadL D S l ↔ ∃ q ∈ l, Ahead D S q ∧ q.x.dst = some d := by
  unfold aheadL
  rw [List.mem_filterMap]
  constructor
  · rintro ⟨q, hq, h⟩
    split at h
    · rename_i ha; exact ⟨q, hq, ha, h⟩
    · simp at h
  · rintro ⟨q, hq, ha, h⟩
    exact ⟨q, hq, by rw [if_pos ha]; exact h⟩

/-- What comes of a quiet operation of X's. -/
def EO (q : XOp) (tm : Tm) (h : Heap) (tm' : Tm) (h' : Heap) : Prop := ∃ v, tm' = putT q.dst v tm ∧ ((h' = h ∧ (∀ i, q.op = .ins i → i.isNew = true → v.pos = none)) ∨ (∃ o, h' = h.push o ∧ v.pos = some h.next))

section
variable {P : Program} {n B : Nat} {rnd : Bool} {kd : CallKind} {ops : Array Oper} {κ₀ κ κ' : Kp} {h₀ h h' : Heap} {w₀ w w' : World} {cs₀ cs cs' : List Frame} {l : List RO} {D : Nat} {S : Nat → Prop} {tm tm' : Tm} {ds : List Dfd} {pan : Pan} {a a' : Act}

theorem RS.mono_val (s : RS P n B kd κ₀ h₀ w₀ cs₀ l D S tm ds pan h a cs w κ) {L : List Slot} (hL : ∀ d, d ∈ aheadL D S l → d ∈ L) : TR κ n (dels tm L) a.tmps := by
  refine ⟨s.size, fun t v hv => ?_⟩
  rw [get_dels] at hv
  split at hv
  · simp at hv
  · rename_i hn
    exact s.val t v (fun q hq ha hd => hn (hL _ (aheadL_iff.2 ⟨q, hq, ha, hd⟩))) hv
theorem RS.st (s : RS P n B kd κ₀ h₀ w₀ cs₀ l D S tm ds pan h a cs w κ) {L : List Slot} (hL : ∀ d, d ∈ aheadL D S l → d ∈ L) : St P n B kd κ (dels tm L) ds pan h cs₀ a cs w :=
  ⟨s.ext.hr, s.mono_val hL, s.hd, s.hc, s.hB⟩
theorem putT_ne {d : Option Slot} {p : Slot} (h : d ≠ some p) (v : AV) (tm : Tm) : (putT d v tm).get p = tm.get p := by
  cases d with
  | none => rfl
  | some x => exact TT.get_set_ne _ _ fun e => h (by rw [e])

/-- X does a quiet operation ahead. -/
theorem RS.eager (L : DrawL P n rnd ops l) (s : RS P n B kd κ₀ h₀ w₀ cs₀ l D S tm ds pan h a cs w κ) (hS : ∀ r ∈ l, S r.i → D.testBit r.i = true) {q : RO} (hq : q ∈ l) (hl : q.loud = false) (hD : D.testBit q.i = false) (e : EO q.x tm h tm' h') :
    RS P n B kd κ₀ h₀ w₀ cs₀ l (Nat.lor D (2 ^ q.i)) S tm' ds pan h' a cs w κ := by
  obtain ⟨v, rfl, hcase⟩ := e
  have hnS : ¬ S q.i := fun h => by rw [hS q hq h] at hD; simp at hD
  have haq : Ahead (Nat.lor D (2 ^ q.i)) S q := ⟨hl, (testBit_add _ _ _).2 (.inr rfl), hnS⟩
  have hup : ∀ r, Ahead D S r → Ahead (Nat.lor D (2 ^ q.i)) S r := fun r ⟨h1, h2, h3⟩ => ⟨h1, (testBit_add _ _ _).2 (.inl h2), h3⟩
  have hdn : ∀ r ∈ l, Ahead (Nat.lor D (2 ^ q.i)) S r → r = q ∨ (r.i ≠ q.i ∧ Ahead D S r) := by
    intro r hr ⟨h1, h2, h3⟩
    by_cases he : r.i = q.i
    · exact .inl (L.inj r hr q hq he)
    · rcases (testBit_add _ _ _).1 h2 with h2 | h2
      · exact .inr ⟨he, h1, h2, h3⟩
      · exact absurd h2 he
  have hext : Ext P κ h w κ h' w := by
    rcases hcase with ⟨rfl, _⟩ | ⟨o, rfl, _⟩
    · exact .refl s.ext.hr
    · exact Ext.pushG s.ext.hr o
  have hoff : ∀ r ∈ l, r.loud = false → r.i ≠ q.i → ∀ d, r.x.dst = some d → (putT q.x.dst v tm).get d = tm.get d := by
    intro r hr hrl hne d hd
    exact putT_ne (fun e => hne (by rw [L.once hq hr hl hrl e hd])) v tm
  refine ⟨s.ext.trans hext, s.size, fun t u ht hu => ?_, s.hd.ext hext, s.hc, s.hB, ?_⟩
  · rw [putT_ne (ht q hq haq)] at hu
    exact s.val t u (fun r hr ha => ht r hr (hup r ha)) hu
  · intro r hr har hrn d u p hd hu hp
    rcases hdn r hr har with rfl | ⟨hne, har⟩
    · have hu : u = v := by rw [hd, putT, TT.get_set_same, Option.some.injEq] at hu; exact hu.symm
      subst hu
      obtain ⟨i, hi, hin⟩ := hrn
      rcases hcase with ⟨rfl, hno⟩ | ⟨o, rfl, hpos⟩
      · rw [hno i hi hin] at hp; simp at hp
      · rw [hpos, Option.some.injEq] at hp
        subst hp
        refine ⟨s.ext.next, by rw [Heap.next_push]; omega, s.ext.hr.next_none, fun q' hq' ha' hne' hn' d' v' hd' hv' hp' => ?_⟩
        rcases hdn q' hq' ha' with rfl | ⟨_, ha'⟩
        · exact hne' rfl
        · rw [hoff q' hq' ha'.1 hne' d' hd'] at hv'
          have := (s.new q' hq' ha' hn' d' v' _ hd' hv' hp').2.1
          omega
    · rw [hoff r hr har.1 hne d hd] at hu
      obtain ⟨g1, g2, g3, g4⟩ := s.new r hr har hrn d u p hd hu hp
      refine ⟨g1, Nat.lt_of_lt_of_le g2 hext.next, g3, fun q' hq' ha' hne' hn' d' v' hd' hv' hp' => ?_⟩
      rcases hdn q' hq' ha' with rfl | ⟨hne2, ha'⟩
      · have hv' : v' = v := by rw [hd', putT, TT.get_set_same, Option.some.injEq] at hv'; exact hv'.symm
        subst hv'
        obtain ⟨i, hi, hin⟩ := hn'
        rcases hcase with ⟨rfl, hno⟩ | ⟨o, rfl, hpos⟩
        · rw [hno i hi hin] at hp'; simp at hp'
        · rw [hpos, Option.some.injEq] at hp'
          subst hp'
          omega
      · rw [hoff q' hq' ha'.1 hne2 d' hd'] at hv'
        exact g4 q' hq' ha' hne' hn' d' v' hd' hv' hp'

/-- The model's turn: what it did is what X has. -/
theorem RS.turn (s : RS P n B kd κ₀ h₀ w₀ cs₀ l D S tm ds pan h a cs w κ) (L : DrawL P n rnd ops l) {q : RO} (hq : q ∈ l) (_hl : q.loud = false) {o : Oper} (ho : ops[q.i]? = some o) (hdst : q.x.dst = o.dst.map Slot.slot)
    (hext : Ext P κ₀ h₀ w₀ κ' h w') (hle : κ.le κ') (hd : DR B κ' h w' ds a.defers) (hB : B ≤ w'.heap.size) (hsz : ∀ x, o.dst = some x → x < n)
    (hnone : ∀ r ∈ l, Ahead D S r → r.i ≠ q.i → r.isNew → ∀ d v p, r.x.dst = some d → tm.get d = some v → v.pos = some p → κ'.ρ p = none)
    {u : Value} (hu : ∀ x v, o.dst = some x → tm.get (.slot x) = some v → VR κ' v u) :
    RS P n B kd κ₀ h₀ w₀ cs₀ l D (fun j => S j ∨ j = q.i) tm ds pan h (a.put o.dst u) cs w' κ' := by
  have hdn : ∀ r, Ahead D (fun j => S j ∨ j = q.i) r → Ahead D S r ∧ r.i ≠ q.i := fun r ⟨h1, h2, h3⟩ => ⟨⟨h1, h2, fun h => h3 (.inl h)⟩, fun h => h3 (.inr h)⟩
  refine ⟨hext, ?_, fun t v ht hv => ?_, by cases o.dst <;> exact hd, s.hc.mono hle, hB, ?_⟩
  · have := s.size
    cases o.dst <;> simpa [Act.put] using this
  · by_cases hx : o.dst = some t
    · have hlt := hsz t hx
      have hs := s.size
      have : (a.put o.dst u).tmps.getD t undef = u := by simp [Act.put, hx, Nat.lt_of_lt_of_le hlt hs]
      rw [this]
      exact hu t v hx hv
    · rw [put_but ho (a := a) rfl u o ho t hx]
      refine VR.mono hle _ _ (s.val t v (fun r hr ha hd => ?_) hv)
      by_cases he : r.i = q.i
      · rw [L.inj r hr q hq he, hdst] at hd
        cases hod : o.dst with
        | none => rw [hod] at hd; simp at hd
        | some x =>
          rw [hod, Option.map_some, Option.some.injEq] at hd
          exact hx (by rw [hod, Slot.slot_inj hd])
      · exact ht r hr ⟨ha.1, ha.2.1, fun h => by rcases h with h | h; exact ha.2.2 h; exact he h⟩ hd
  · intro r hr har hrn d v p hd hv hp
    obtain ⟨har, hne⟩ := hdn r har
    obtain ⟨g1, g2, g3, g4⟩ := s.new r hr har hrn d v p hd hv hp
    exact ⟨g1, g2, hnone r hr har hne hrn d v p hd hv hp, fun q' hq' ha' hne' hn' => g4 q' hq' (hdn q' ha').1 hne' hn'⟩

theorem kind_quiet {i : XI} (h : kindOf (.ins i) ≤ 2) : i.looks = true ∨ i.isNew = true := by
  cases i <;> first | exact .inl rfl | exact .inr rfl | (simp [kindOf] at h)
theorem looks_notNew {i : XI} (h : i.looks = true) : i.isNew = false := by cases i <;> first | rfl | simp [XI.looks] at h
theorem yes_some {b : Bool} {k r : R} (h : yes? b k .bad = r) (hr : r ≠ .bad) : b = true ∧ k = r := by
  cases b with
  | false => exact absurd h.symm hr
  | true => exact ⟨rfl, h⟩

/-- The model does a quiet operation that X has done. -/
theorem RS.quiet (L : DrawL P n rnd ops l) (_hkd : kd ≠ .early) {rd : Option Nat} {r : R} (hr : r ≠ .bad) (s : RS P n B kd κ₀ h₀ w₀ cs₀ l D S tm ds pan h a cs w κ) (hcl : ∀ r ∈ l, S r.i → ∀ j, r.deps.testBit j = true → S j)
    {q : RO} (hq : q ∈ l) (hah : Ahead D S q) (hdep : ∀ j, q.deps.testBit j = true → S j) (hck : chkF q.x tm h r = r) :
    OpTo P rd kd ops q.i a cs w (fun a' cs' w' => cs' = cs ∧ ∃ κ', RS P n B kd κ₀ h₀ w₀ cs₀ l D (fun j => S j ∨ j = q.i) tm ds pan h a' cs' w' κ') (fun _ _ _ => False) := by
  obtain ⟨o, ho, hx, _, hkind⟩ := L.mem q hq
  have hkind := hkind hah.1
  have hbef := L.closed' hcl hq hdep
  have hag : ∀ p ∈ q.x.names, tm.get p = (dels tm (aheadL D S l)).get p := by
    intro p hp
    rw [get_dels, if_neg]
    intro hm
    obtain ⟨q', hq', ha', hd'⟩ := aheadL_iff.1 hm
    by_cases he : q.i = q'.i
    · rw [← L.inj q hq q' hq' he] at hd'
      exact L.self q hq hah.1 p hd' hp
    · exact ha'.2.2 (hbef _ (L.behind hq' hq ha'.1 hd' he (aboutS_name hp)))
  have ht : TR κ n (dels tm (aheadL D S l)) a.tmps := s.mono_val fun _ h => h
  generalize hE : dels tm (aheadL D S l) = tmE at hag ht
  have bad : chkF badOp tm h r = .bad := rfl
  rw [hx] at hck hkind hag
  cases hd0 : dstBad n o.dst with
  | true => unfold copOper at hck; rw [hd0] at hck; have := bad.symm.trans hck; exact absurd this.symm hr
  | false =>
    have hdst : ∀ x, o.dst = some x → x < n := by
      intro x hx
      rw [hx] at hd0
      exact Nat.lt_of_not_le fun hle => by rw [dstBad, Nat.ble_eq_true_of_le hle] at hd0; simp at hd0
    cases hg : guardOf ops o.guard with
    | none => unfold copOper at hck; rw [hd0, hg] at hck; have := bad.symm.trans hck; exact absurd this.symm hr
    | some g =>
      have hxe : copOper P n rnd ops o = { dst := o.dst.map .slot, guard := g, op := copOp P rnd o } := by unfold copOper; rw [hd0, hg]
      rw [hxe] at hck hkind hag
      have hqd : q.x.dst = o.dst.map Slot.slot := by rw [hx, hxe]
      have hck : wantF g tm (fun b => Bool.rec (motive := fun _ => R) (chkU (o.dst.map Slot.slot) tm r) (chkI (copOp P rnd o) (o.dst.map Slot.slot) tm h r) b) = r := hck
      rw [wantF_agree (tmP := tmE) fun p b e => hag p (by subst e; simp [XOp.names])] at hck
      obtain ⟨b, hb, hwant⟩ := want_val hg hck hr
      have hwant := hwant κ n a ht
      have hagi : ∀ x ∈ (copOp P rnd o).ops, Agree tmE tm x := agree_slots fun p hp => (hag p (by cases g <;> simp [XOp.names, hp])).symm
      cases b with
      | false =>
        have hb : chkU (o.dst.map Slot.slot) tm r = r := hb
        refine opTo_skip ho hwant ⟨rfl, κ, s.turn L hq hah.1 ho hqd s.ext (.refl κ) s.hd s.hB hdst (fun r hr ha _ hn d v p h1 h2 h3 => (s.new r hr ha hn d v p h1 h2 h3).2.2.1) fun x v hox hv => ?_⟩
        rw [hox] at hb
        have hb : getF tm (.slot x) (fun v => yes? (AV.beq unit v) r .bad) = r := hb
        rw [getF_eq, hv] at hb
        rw [← AV.beq_eq (yes_some hb hr).1]
        exact VR_unit
      | true =>
        have hb : chkI (copOp P rnd o) (o.dst.map Slot.slot) tm h r = r := hb
        cases hxi : copOp P rnd o with
        | ins i =>
          rw [hxi] at hb hkind hagi
          have hnd : ∀ c, o.op ≠ .defer c := by
            rcases (copOp_from (P := P) (rnd := rnd) (o := o)).symm with hno | hfrom
            · rw [hxi] at hno
              simp only [XC.ins.injEq] at hno
              subst hno
              simp [kindOf] at hkind
            · rw [hxi] at hfrom; exact hfrom
          cases hox : o.dst with
          | none => rw [hox] at hb; exact absurd hb.symm hr
          | some x =>
            rw [hox] at hb
            have hb : semF i tm h (fun v h' => getF tm (.slot x) fun v' => Bool.rec (motive := fun _ => R) (yes? (AV.beq v v') r .bad) (sameNew v h' v' h r) i.isNew) = r := hb
            rw [semF_eq] at hb
            cases hsem : i.sem tm h with
            | bad => rw [hsem] at hb; exact absurd hb.symm hr
            | panic v h' => rw [hsem] at hb; exact absurd hb.symm hr
            | ok v h' =>
              rw [hsem, viaOut_ok, getF_eq] at hb
              have hsemE : i.sem tmE h = .ok v h' := by rw [sem_congr hagi]; exact hsem
              cases hv' : tm.get (.slot x) with
              | none => rw [hv'] at hb; exact absurd hb.symm hr
              | some v' =>
                rw [hv'] at hb
                have hu : ∀ {κ' : Kp} {u : Value}, VR κ' v' u → ∀ y z, o.dst = some y → tm.get (.slot y) = some z → VR κ' z u := by
                  intro κ' u hvu y z hy hz
                  rw [hox, Option.some.injEq] at hy
                  subst hy
                  rw [hv', Option.some.injEq] at hz
                  subst hz
                  exact hvu
                rcases kind_quiet hkind with hlk | hnw
                · rw [looks_notNew hlk] at hb
                  have hvv := AV.beq_eq (yes_some hb hr).1
                  subst hvv
                  have hh := looks_still hlk tm h v h' hsem
                  subst hh
                  have hturn : ∀ {κ' : Kp} {w' : World} {u : Value}, Ext P κ h' w κ' h' w' → VR κ' v u → RS P n B kd κ₀ h₀ w₀ cs₀ l D (fun j => S j ∨ j = q.i) tm ds pan h' (a.put o.dst u) cs w' κ' := by
                    intro κ' w' u hE' hvu
                    refine s.turn L hq hah.1 ho hqd (s.ext.trans hE') hE'.le (s.hd.ext hE') (Nat.le_trans s.hB hE'.size) hdst (fun r hr ha _ hn d v p h1 h2 h3 => ?_) (hu hvu)
                    obtain ⟨_, g2, g3, _⟩ := s.new r hr ha hn d v p h1 h2 h3
                    exact (hE'.gc p g2 g3).1
                  rcases copOp_ok s.ext.hr ht hxi hsemE with ⟨nx, w', κ', hrun, hnx, hE'⟩ | hask
                  · rcases hnx with ⟨u, rfl, hvu⟩ | ⟨rfl, rfl⟩
                    · exact opTo_value ho hwant hnd hrun ⟨rfl, κ', hturn hE' hvu⟩
                    · exact opTo_unit ho hwant hnd hrun ⟨rfl, κ', hturn hE' VR_unit⟩
                  · exact hask.elim
                · rw [hnw] at hb
                  have hb : sameNew v h' v' h r = r := hb
                  obtain ⟨ob, mb, m, u, rfl, hpos, hnob, hrun, huv⟩ := new_raw s.ext.hr ht hxi hnw hsemE
                  unfold sameNew at hb
                  cases hbm : beqMod v v' <;> cases hp' : v'.pos <;> rw [hbm, hpos, hp'] at hb <;> try exact absurd hb.symm hr
                  rename_i p'
                  dsimp only at hb
                  have hob := beqObj_eq (yes_some hb hr).1
                  rw [Heap.get_push_same] at hob
                  subst hob
                  have hqn : q.isNew := ⟨i, by rw [hx, hxe]; exact hxi, hnw⟩
                  have hqx : q.x.dst = some (.slot x) := by rw [hqd, hox]; rfl
                  obtain ⟨g1, g2, g3, g4⟩ := s.new q hq hah hqn _ v' p' hqx hv' hp'
                  have hor := NewOb.or (P := P) (w := w) hnob (Kp.at_le (x := ⟨w.heap.size, 0, m⟩) g3)
                  obtain ⟨_, gW⟩ := Ext.allocG (P := P) s.ext.hr g3 g2 mb m hor
                  have hE' := s.ext.thenG g3 g2 g1 mb m hor
                  have hvu : VR (κ.at p' ⟨w.heap.size, 0, m⟩) v' u := huv _ p' v' (Kp.at_same _ _ _) hbm hp'
                  refine opTo_value ho hwant hnd hrun ⟨rfl, _, s.turn L hq hah.1 ho hqd hE' gW.le (s.hd.extW gW) (Nat.le_trans s.hB gW.size) hdst (fun r hr ha hne hn d z p h1 h2 h3 => ?_) (hu hvu)⟩
                  obtain ⟨_, _, k3, k4⟩ := s.new r hr ha hn d z p h1 h2 h3
                  have : p ≠ p' := fun e => by subst e; exact g4 r hr ha hne hn d z h1 h2 h3
                  rw [Kp.at_ne _ _ this]
                  exact k3
        | _ => rw [hxi] at hb; exact absurd hb.symm hr
end
end Go.X
