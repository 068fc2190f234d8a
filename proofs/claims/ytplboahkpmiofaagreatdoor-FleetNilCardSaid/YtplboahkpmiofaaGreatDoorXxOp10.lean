/- The instructions of X against the model's operations, 10: append, copy, clear. -/
import Derived.Test.YtplboahkpmiofaaGreatDoorXxOp9
import Derived.Laws.AppendOwn
namespace Go.X
open Go

section
variable {P : Program} {κ : Kp} {h h' : Heap} {w : World} {n : Nat} {tm : Tm} {a : Act} {o : Oper} {v : AV}

/-- What 'append' comes to, once its parts are known. -/
def Appended (P : Program) (κ : Kp) (h : Heap) (w : World) (e : TypeId) (esz bytes : Nat) (s' : Value) (m : Nat) (vs : List Value) (v : AV) (h' : Heap) : Prop :=
  ∃ base sLen sCap, s' = .slice base sLen sCap ∧
    ((sLen + m ≤ sCap ∧ ∃ w', (match base with | some ad => storeCells (ad.add (sLen * esz)) vs | none => pure () : Sem Unit).run P w = .ok () w' ∧ ∃ κ', VR κ' v (.slice base (sLen + m) sCap) ∧ Ext P κ h w κ' h' w') ∨
     (sCap < sLen + m ∧ (sLen + m) * bytes ≤ 1099511627776 ∧ bytes ≠ 0 ∧ ∃ olds : List Value, (∀ w' : World, w'.heap = w.heap → (Builtin.firstCells esz sLen s').run P w' = .ok olds.toArray w') ∧
       ∀ (g : Nat) (rest : List Value), sLen + m ≤ g → rest.length = (g - (sLen + m)) * esz →
         ∃ κ', VR κ' v (.slice (some ⟨w.heap.size, 0, none⟩) (sLen + m) g) ∧ Ext P κ h w κ' h' (World.new (World.draw w) (.cells ((olds ++ vs) ++ rest).toArray e (0, 0)))))
theorem grow_ok (hr : HR P κ h w) {e : TypeId} {esz : Nat} (hpos : 0 < esz) {old xs : List AV} {olds vs : List Value} (h1 : VRl κ old olds) (h2 : old.all AV.one = true) (h3 : VRl κ xs vs) (h4 : xs.all AV.one = true) {need : Nat} (hlen : (olds ++ vs).length = need * esz) :
    ∀ (g : Nat) (rest : List Value), need ≤ g → rest.length = (g - need) * esz →
      ∃ κ', VR κ' (.slice h.next 0 need (.up esz)) (.slice (some ⟨w.heap.size, 0, none⟩) need g) ∧ Ext P κ h w κ' (h.push (.row e (old ++ xs) true)) (World.new (World.draw w) (.cells ((olds ++ vs) ++ rest).toArray e (0, 0))) := by
  intro g rest hg hrest
  have hd := Ext.draw hr
  have hx := newRowS_ok hd.hr (rest := rest) (h1.append h3) (by rw [List.all_append, h2, h4]; rfl) e (fr := (0, 0)) (.inl rfl)
  refine ⟨_, ?_, hd.trans hx⟩
  simp only [VR]
  refine ⟨_, _, g, Kp.at_same κ h.next _, rfl, hg, .inr rfl, ?_, hpos⟩
  rw [hlen, hrest]
  have : need * esz + (g - need) * esz = g * esz := by rw [← Nat.add_mul]; congr 1; omega
  simp only [Nat.zero_add]; omega
theorem storeCells_nil (ad : Addr) : (storeCells ad []).run P w = .ok () w := rfl
theorem appendTo_ok (hr : HR P κ h w) {e : TypeId} {esz bytes : Nat} {s : AV} {s' : Value} (hS : VR κ s s') {m : Nat} {xs : List AV} {vs : List Value} (hl : VRl κ xs vs) (h1 : xs.all AV.one = true) (hlen : vs.length = m * esz)
    (hs : appendTo e esz bytes s m xs h = .ok v h') : Appended P κ h w e esz bytes s' m vs v h' := by
  have nothing : ∀ {base : Option Addr} {sLen sCap : Nat}, s' = .slice base sLen sCap → sLen ≤ sCap → m = 0 → v = s → h' = h → Appended P κ h w e esz bytes s' m vs v h' := by
    rintro base sLen sCap rfl hle rfl rfl rfl
    have : vs = [] := List.length_eq_zero_iff.1 (by simpa using hlen)
    subst this
    refine ⟨base, sLen, sCap, rfl, .inl ⟨by omega, w, ?_, κ, hS, .refl hr⟩⟩
    cases base <;> rfl
  cases esz with
  | zero => simp [appendTo] at hs
  | succ z0 =>
  have hpos : 0 < z0 + 1 := by omega
  simp only [appendTo] at hs
  generalize hes : z0 + 1 = esz at *
  cases s <;> first | (simp at hs; done) | skip
  case nilslice =>
    simp only [VR] at hS
    dsimp only at hs
    cases m with
    | zero =>
      simp only [Out.ok.injEq] at hs
      exact nothing hS (Nat.le_refl _) rfl hs.1.symm hs.2.symm
    | succ m =>
      cases c1 : small (m + 1) bytes <;> cases c2 : Nat.beq bytes 0 <;> rw [c1, c2] at hs <;> simp only [Heap.pushK_eq, Out.ok.injEq, reduceCtorEq] at hs
      obtain ⟨rfl, rfl⟩ := hs
      have c1 := ble_iff.1 c1
      have c2 : bytes ≠ 0 := fun q => by rw [q] at c2; simp at c2
      refine ⟨none, 0, 0, hS, .inr ⟨by omega, by simpa using c1, c2, [], fun w' _ => by rw [hS]; rfl, ?_⟩⟩
      have := grow_ok (e := e) hr hpos (old := []) (olds := []) (by simp [VRl]) rfl hl h1 (need := m + 1) (by simpa using hlen)
      simpa using this
  case imm cs len full =>
    cases full with
    | false => simp at hs
    | true =>
      have hS' := hS
      simp only [VR] at hS'
      obtain ⟨ad, c, k1, k2, k3, k4⟩ := hS'
      have k3 := k3 trivial
      subst k3
      dsimp only at hs
      cases m with
      | zero =>
        simp only [Out.ok.injEq] at hs
        exact nothing k1 (Nat.le_refl _) rfl hs.1.symm hs.2.symm
      | succ m =>
        cases c1 : small (c + (m + 1)) bytes <;> cases c2 : Nat.beq bytes 0 <;> cases c3 : takeE (c * esz) cs <;> rw [c1, c2, c3] at hs <;> simp only [Heap.pushK_eq, Out.ok.injEq, reduceCtorEq] at hs
        obtain ⟨rfl, rfl⟩ := hs
        rename_i old
        have c1 := ble_iff.1 c1
        have c2 : bytes ≠ 0 := fun q => by rw [q] at c2; simp at c2
        obtain ⟨olds, o1, o2, o3, o4, o5, _⟩ := src_ok hr hS (esz := esz) (m := c) (xs := old) (by simp only [srcOf, c3])
        refine ⟨some ad, c, c, k1, .inr ⟨by omega, c1, c2, olds, fun w' hw => by rw [o5 c (Nat.le_refl _) w' hw, ← o3, List.take_length], ?_⟩⟩
        exact grow_ok (e := e) hr hpos o1 o2 hl h1 (by rw [List.length_append, o3, hlen, ← Nat.add_mul])
  case slice p q len cap =>
    have hS' := hS
    simp only [VR] at hS'
    obtain ⟨x, ad, c, k1, k2, k3, k4, k5⟩ := hS'
    have write : ∀ {cp : Cap}, 0 < m → len + m ≤ c → (match cp with | .ex r => c = r | .up z => x.d + q + c * z = x.n ∧ 0 < z) → writeAt p (q + len * esz) xs (.slice p q (len + m) cp) h = .ok v h' → Appended P κ h w e esz bytes s' m vs v h' := by
      intro cp hm hle hcp hw
      obtain ⟨rfl, w', g1, g2⟩ := writeAt_ok hr k1 hl h1 hw
      refine ⟨some ad, len, c, k2, .inl ⟨hle, w', ?_, κ, ?_, g2⟩⟩
      · rcases k4 with k4 | rfl
        · omega
        · dsimp only
          rw [add_none, Nat.add_assoc]
          exact g1
      · simp only [VR]; exact ⟨x, ad, c, k1, rfl, hle, k4, hcp⟩
    cases cap with
    | ex c' =>
      dsimp only at k5; subst k5
      dsimp only at hs
      cases c0 : Nat.ble (len + m) c with
      | true =>
        rw [c0] at hs
        have c0 := ble_iff.1 c0
        cases m with
        | zero =>
          simp only [Out.ok.injEq] at hs
          exact nothing k2 k3 rfl hs.1.symm hs.2.symm
        | succ m => exact write (by omega) c0 rfl hs
      | false =>
        rw [c0] at hs
        dsimp only at hs
        have c0 := ble_not c0
        cases c1 : small (len + m) bytes <;> cases c2 : Nat.beq bytes 0 <;> rw [c1, c2] at hs <;> simp only [reduceCtorEq] at hs
        cases c3 : srcOf esz (.slice p q len (.ex c)) h with
        | none => rw [c3] at hs; simp at hs
        | some r =>
          obtain ⟨m', old⟩ := r
          rw [c3] at hs
          simp only [Heap.pushK_eq, Out.ok.injEq] at hs
          obtain ⟨rfl, rfl⟩ := hs
          have c1 := ble_iff.1 c1
          have c2 : bytes ≠ 0 := fun q => by rw [q] at c2; simp at c2
          obtain ⟨olds, o1, o2, o3, o4, o5, o6⟩ := src_ok hr hS c3
          have := o6 _ _ _ k2
          subst this
          refine ⟨some ad, len, c, k2, .inr ⟨c0, c1, c2, olds, fun w' hw => by rw [o5 len (Nat.le_refl _) w' hw, ← o3, List.take_length], ?_⟩⟩
          exact grow_ok (e := e) hr hpos o1 o2 hl h1 (by rw [List.length_append, o3, hlen, ← Nat.add_mul])
    | up z =>
      dsimp only at k5
      obtain ⟨k5, k6⟩ := k5
      dsimp only at hs
      cases m with
      | zero =>
        simp only [Out.ok.injEq] at hs
        exact nothing k2 k3 rfl hs.1.symm hs.2.symm
      | succ m =>
        cases c2 : Nat.beq z esz with
        | false => rw [c2] at hs; simp at hs
        | true =>
        have c2 := beq_iff'.1 c2
        subst c2
        have hob := hr.obj p x k1
        cases hg : h.get p <;> rw [hg] at hs hob <;> first | (simp at hs; done) | skip
        rename_i ty cs sp
        obtain ⟨arr, fr, f1, f2, f3, f4, f5, f6⟩ := hob
        simp only [Nat.beq_refl] at hs
        cases c3 : dropE (q + (len + (m + 1)) * z) cs with
        | some r =>
          rw [c3] at hs
          obtain ⟨g1, _⟩ := dropE_some c3
          refine write (cp := .up z) (by omega) ?_ ⟨k5, k6⟩ hs
          have : (len + (m + 1)) * z ≤ c * z := by omega
          exact Nat.le_of_mul_le_mul_right this k6
        | none =>
          rw [c3] at hs
          dsimp only at hs
          have g0 := dropE_none c3
          cases c4 : small (len + (m + 1)) bytes <;> cases c5 : Nat.beq bytes 0 <;> cases sp <;> cases c6 : Nat.beq ty e <;> rw [c4, c5, c6] at hs <;> simp only [reduceCtorEq] at hs
          have c4 := ble_iff.1 c4
          have c5 : bytes ≠ 0 := fun q => by rw [q] at c5; simp at c5
          have c6 := beq_iff'.1 c6
          subst c6
          cases c7 : sub cs q (len * z) with
          | none => rw [c7] at hs; simp at hs
          | some old =>
            rw [c7] at hs
            simp only [Heap.setK_eq, Heap.pushK_eq, Out.ok.injEq] at hs
            obtain ⟨rfl, rfl⟩ := hs
            obtain ⟨g1, rfl⟩ := sub_some c7
            obtain ⟨olds, o1, o2, o3, o4, o5⟩ := f4.read q (len * z) g1
            have hlive : Live κ h p x := ⟨k1, by rw [hg]; simp⟩
            have hlx := hl.length
            by_cases hroom : len + (m + 1) ≤ c
            · -- in place
              have hmul : (len + (m + 1)) * z ≤ c * z := Nat.mul_le_mul_right z hroom
              have hsplit : (len + (m + 1)) * z = len * z + (m + 1) * z := Nat.add_mul _ _ _
              rcases k4 with k4 | rfl
              · omega
              · have hst := run_storeCells_put P (b := x.b) (t := ty) (fr := fr) (x.d + q + len * z) vs 0 arr w f1 (by omega) (fun j j1 j2 => unfrozen f6 j (by omega)) (hl.ones h1)
                rw [Nat.add_zero] at hst
                refine ⟨some ⟨x.b, x.d + q, none⟩, len, c, k2, .inl ⟨hroom, _, by simp only [add_none]; exact hst, ?_⟩⟩
                have hb : x.b < w.heap.size := (Array.getElem?_eq_some_iff.1 f1).1
                have hle := Kp.at_le (x := ⟨x.b, x.d + q, x.n⟩) hr.next_none
                refine ⟨_, ?_, Ext.takeOn hr hlive (x.d + q) _ _ ⟨spliced arr (x.d + q + len * z) vs, fr, put_heap_same _ _ _ hb, ?_, ?_, ?_, fun h => by simp at h, f6⟩⟩
                · simp only [VR]
                  exact ⟨_, _, c, Kp.at_same κ h.next _, rfl, hroom, .inr (by simp), by simpa using k5, k6⟩
                · rw [size_spliced (by omega), f2]
                · simp only [List.length_append, List.length_take, List.length_drop]; omega
                · refine VRm_iff.2 fun i c0 hc0 => ?_
                  dsimp only
                  rw [get_spliced (by omega)]
                  have e1 : ((cs.drop q).take (len * z)).length = len * z := by simp; omega
                  by_cases hi : i < len * z
                  · rw [List.getElem?_append_left (by omega)] at hc0
                    rw [if_neg (by omega)]
                    rw [List.getElem?_take, if_pos hi, List.getElem?_drop] at hc0
                    obtain ⟨y, y1, y2, y3⟩ := VRm_iff.1 f4 (q + i) c0 hc0
                    exact ⟨y, by rw [← y1]; simp [Nat.add_assoc], y2, VR.mono hle _ _ y3⟩
                  · rw [List.getElem?_append_right (by omega), e1] at hc0
                    have hi2 := (List.getElem?_eq_some_iff.1 hc0).1
                    rw [if_pos (by omega)]
                    obtain ⟨_, gl⟩ := VRl_iff.1 hl
                    have hy : vs[x.d + q + i - (x.d + q + len * z)]? = some vs[i - len * z] := by
                      rw [show x.d + q + i - (x.d + q + len * z) = i - len * z by omega]; exact List.getElem?_eq_getElem (by omega)
                    exact ⟨_, hy, List.all_eq_true.1 h1 c0 (List.mem_of_getElem? hc0), VR.mono hle _ _ (gl _ c0 _ hc0 (List.getElem?_eq_getElem (by omega)))⟩
            · -- a new row
              refine ⟨some ad, len, c, k2, .inr ⟨by omega, c4, c5, olds, fun w' hw => ?_, ?_⟩⟩
              · rcases Nat.eq_zero_or_pos len with h0 | h0
                · subst h0
                  have : olds = [] := List.length_eq_zero_iff.1 (by simpa using o1)
                  subst this
                  rw [k2]; simp [Builtin.firstCells, loadCells, loadCellsFrom]
                · rcases k4 with k4 | rfl
                  · omega
                  · have := run_loadCells_of P (w := w') (b := x.b) (o := x.d + q) (arr := arr) (t := ty) (fr := fr) (by rw [hw]; exact f1) olds (fun j hj => by rw [Nat.add_assoc]; exact o5 j (by omega))
                    rw [o1] at this
                    rw [k2]; simp only [Builtin.firstCells, this]
              · have hk := Ext.kill hr k1
                intro g rest hg' hrest
                obtain ⟨κ', v1, v2⟩ := grow_ok (e := ty) hk.hr hpos o2 o3 hl h1 (need := len + (m + 1)) (by rw [List.length_append, o1, hlen, ← Nat.add_mul]) g rest hg' hrest
                exact ⟨κ', v1, hk.trans v2⟩

theorem need_small {m b : Nat} (h : m * b ≤ 1099511627776) (hb : b ≠ 0) : m ≤ 1099511627776 := Nat.le_trans (Nat.le_mul_of_pos_right m (Nat.pos_of_ne_zero hb)) h
section
variable {ts : Array TypeId} {ty t tx e : TypeId} {args : Array Value} {base : Option Addr} {sLen sCap m esz bytes : Nat} {x : Value} {vs olds : List Value} {i : TypeInfo} {zv : Value}
theorem run_append_room' (h0 : ts[0]? = some t) (h1 : ts[1]? = some tx) (ha : args[0]? = some (.slice base sLen sCap)) (hb : args[1]? = some x) (hu : P.underlying t = some (.slice e)) (hk : (∃ e', P.underlying tx = some (.slice e')) ∨ P.underlying tx = some .string)
    (hsz : szOf P e = some esz) (hlen : (Builtin.lenOf x).run P w = .ok m w) (hcells : (Builtin.firstCells esz m x).run P w = .ok vs.toArray w) (hle : sLen + m ≤ sCap) {w' : World} (hst : (match base with | some ad => storeCells (ad.add (sLen * esz)) vs | none => pure () : Sem Unit).run P w = .ok () w') :
    (Builtin.append_ ts ty args).run P w = .ok (.slice base (sLen + m) sCap) w' := by
  rcases hk with ⟨e', hk⟩ | hk <;> cases base <;>
    simp only [Builtin.append_, h0, h1, ha, hb, Sem.run_bind, run_underlyingT hu, run_underlyingT hk, Result.andThen_ok, run_sizeT hsz, Sem.run_pure, Bool.false_eq_true, if_false, Bool.not_false, if_true, hlen, hle, hcells] <;>
    (dsimp only at hst; first | (simp only [hst, Result.andThen_ok]; done) | (simp only [Sem.run_pure, Result.ok.injEq, true_and] at hst; subst hst; simp only))
theorem run_append_grow' (h0 : ts[0]? = some t) (h1 : ts[1]? = some tx) (ha : args[0]? = some (.slice base sLen sCap)) (hb : args[1]? = some x) (hu : P.underlying t = some (.slice e)) (hk : (∃ e', P.underlying tx = some (.slice e')) ∨ P.underlying tx = some .string)
    (hi : P.info? e = some i) (hz : i.zero = some zv) (hsi : i.size = esz) (hbi : i.bytes = bytes) (hlen : (Builtin.lenOf x).run P w = .ok m w) (hcells : (Builtin.firstCells esz m x).run P (World.draw w) = .ok vs.toArray (World.draw w))
    (hold : (Builtin.firstCells esz sLen (.slice base sLen sCap)).run P (World.draw w) = .ok olds.toArray (World.draw w)) (hgt : sCap < sLen + m) (hb1 : (sLen + m) * bytes ≤ 1099511627776) (hb2 : bytes ≠ 0) :
    (Builtin.append_ ts ty args).run P w = .ok (.slice (some ⟨w.heap.size, 0, none⟩) (sLen + m) (grownCap w (sLen + m) sCap e)) (World.new (World.draw w) (.cells ((olds ++ vs) ++ (Builtin.zeroCells zv.cells (grownCap w (sLen + m) sCap e - (sLen + m))).toList).toArray e (0, 0))) := by
  have hle : ¬ (sLen + m ≤ sCap) := by omega
  have h63 := need_small hb1 hb2
  have h63' : ¬ ((sLen + m : Nat) : Int) > IntKind.i64.max := by
    have : IntKind.i64.max = 9223372036854775807 := by decide
    rw [this]; omega
  have h48 : ¬ Builtin.nextslicecap (sLen + m) sCap * bytes > 2 ^ 48 := by
    have := growslice_fits (bytes := bytes) hgt (by omega); omega
  have hch : (choose (.appendCap (sLen + m) sCap e)).run P w = .ok (grownCap w (sLen + m) sCap e) (World.draw w) := rfl
  have hroom : ∀ k (w : World), (askRoom k).run P w = .ok () w := fun k w => by unfold askRoom; split <;> rfl
  have hti : ∀ w : World, (typeInfo e).run P w = .ok i w := fun w => by simp only [typeInfo, Sem.run_bind, run_program, Result.andThen_ok, hi, Sem.run_pure]
  have hso : ∀ w : World, (sizeOf e).run P w = .ok esz w := fun w => by simp only [sizeOf, Sem.run_bind, hti, Result.andThen_ok, Sem.run_pure, hsi]
  have hzv : ∀ w : World, (zeroValue e).run P w = .ok zv w := fun w => by simp only [zeroValue, Sem.run_bind, hti, Result.andThen_ok, hz, Sem.run_pure]
  have harr : olds.toArray ++ vs.toArray ++ Builtin.zeroCells zv.cells (grownCap w (sLen + m) sCap e - (sLen + m)) = ((olds ++ vs) ++ (Builtin.zeroCells zv.cells (grownCap w (sLen + m) sCap e - (sLen + m))).toList).toArray := by
    apply Array.ext'; simp
  rw [← harr]
  rcases hk with ⟨e', hk⟩ | hk <;>
    simp only [Builtin.append_, h0, h1, ha, hb, Sem.run_bind, run_underlyingT hu, run_underlyingT hk, Result.andThen_ok, hso, hti, hzv, hbi, Sem.run_pure, Bool.false_eq_true, if_false, Bool.not_false, if_true, hlen, hle, h63', false_and, h48, hch, hroom, hold, hcells, newRow, newObj, Sem.run] <;>
    rfl
end
theorem zeros_length {zv : Value} {esz k : Nat} (h : zv.cells.size = esz) : (Builtin.zeroCells zv.cells k).toList.length = k * esz := by simp [Builtin.zeroCells, h]
theorem append_ok (hr : HR P κ h w) (ht : TR κ n tm a.tmps) {c : Call} (hc : c.callee = .builtin .append) {t tx e : TypeId} (hT : c.argTypes[0]? = some t) (hT1 : c.argTypes[1]? = some tx) (hu : P.underlying t = some (.slice e)) (hk : (∃ e', P.underlying tx = some (.slice e')) ∨ P.underlying tx = some .string)
    {z : List AV} {esz bytes : Nat} (hz : zeroC P e = some z) (hsz : szOf P e = some esz) (hb : byOf P e = some bytes) {x y : Operand} {xo yo : XO} (hl : c.args.toList = [x, y]) (hx : opnd x = some xo) (hy : opnd y = some yo)
    (ho : o.op = .call c) (hs : appendS e esz bytes xo yo tm h = .ok v h') : OpRes P o a κ h w v h' := by
  obtain ⟨u, h1, h2⟩ := withO_ok hs
  obtain ⟨d, h3, h4⟩ := withO_ok h2
  have e1 := opnd_ok ht hx h1
  have e2 := opnd_ok ht hy h3
  cases hsrc : srcOf esz d h with
  | none => rw [hsrc] at h4; simp at h4
  | some r =>
    obtain ⟨m, xs⟩ := r
    rw [hsrc] at h4
    obtain ⟨vs, s1, s2, s3, s4, s5, _⟩ := src_ok hr e2 hsrc
    obtain ⟨i, zv, z1, z2, z3, z4, z5⟩ := zeroC_info hz
    have hsi := szOf_info hsz z1
    have hbi := byOf_info hb z1
    have hzs : zv.cells.size = esz := by rw [← hsi, z5, (z3 κ).length]; simp
    have hcells : ∀ w' : World, w'.heap = w.heap → (Builtin.firstCells esz m (a.eval y)).run P w' = .ok vs.toArray w' := fun w' hw => by rw [s5 m (Nat.le_refl _) w' hw, ← s3, List.take_length]
    obtain ⟨base, sLen, sCap, g0, g⟩ := appendTo_ok (P := P) hr e1 s1 s2 s3 h4
    have ha0 : (c.args.map a.eval)[0]? = some (.slice base sLen sCap) := by rw [args_eq hl]; simp [g0]
    have ha1 : (c.args.map a.eval)[1]? = some (a.eval y) := by rw [args_eq hl]; simp
    rcases g with ⟨g1, w', g2, κ', g3, g4⟩ | ⟨g1, g2, g3, olds, g4, g5⟩
    · refine .inl ⟨_, w', κ', run_builtinOp ho hc fun cs => ?_, .inl ⟨_, rfl, g3⟩, g4⟩
      simp only [builtin, Sem.run_bind, run_append_room' hT hT1 ha0 ha1 hu hk hsz (s4 w) (hcells w rfl) g1 g2, Result.andThen_ok, Sem.run_pure]
    · obtain ⟨κ', g6, g7⟩ := g5 (grownCap w (sLen + m) sCap e) _ (grownCap_ge w (sLen + m) sCap e) (zeros_length (k := grownCap w (sLen + m) sCap e - (sLen + m)) hzs)
      refine .inl ⟨_, _, κ', run_builtinOp ho hc fun cs => ?_, .inl ⟨_, rfl, g6⟩, g7⟩
      have hold := g4 (World.draw w) rfl
      rw [g0] at hold
      simp only [builtin, Sem.run_bind, run_append_grow' hT hT1 ha0 ha1 hu hk z1 z2 hsi hbi (s4 w) (hcells (World.draw w) rfl) hold g1 g2 g3, Result.andThen_ok, Sem.run_pure]
end
end Go.X
