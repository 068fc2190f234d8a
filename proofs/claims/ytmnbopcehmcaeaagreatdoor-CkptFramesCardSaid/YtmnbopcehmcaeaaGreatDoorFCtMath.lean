/- The bytes of checkpoints: what they are, and that torn ones are none. No program in sight. -/
import Derived.Test.YtmnbopcehmcaeaaGreatDoorFCpWp
namespace Go.X
open Go
def be : Nat → Nat → List Nat
  | 0, _ => []
  | n + 1, x => x / 256 ^ n % 256 :: be n x
theorem be_len : ∀ n x, (be n x).length = n
  | 0, _ => rfl
  | n + 1, x => by simp [be, be_len n x]
theorem be_lt : ∀ {n x : Nat}, ∀ b ∈ be n x, b < 256
  | n + 1, x, b, h => by
    rcases List.mem_cons.1 h with rfl | h
    · exact Nat.mod_lt _ (by omega)
    · exact be_lt b h
theorem be_mod : ∀ {n x y : Nat}, be n x = be n y → x % 256 ^ n = y % 256 ^ n
  | 0, x, y, _ => by simp [Nat.mod_one]
  | n + 1, x, y, h => by
    simp only [be, List.cons.injEq] at h
    have ih := be_mod h.2
    have e : ∀ z : Nat, z % 256 ^ (n + 1) = z / 256 ^ n % 256 * 256 ^ n + z % 256 ^ n := fun z => by
      rw [Nat.pow_succ, Nat.mod_mul]; rw [Nat.mul_comm, Nat.add_comm]
    rw [e x, e y, h.1, ih]
theorem be_inj {x y : Nat} (hx : x < 256 ^ 8) (hy : y < 256 ^ 8) (h : be 8 x = be 8 y) : x = y := by
  have := be_mod h
  rwa [Nat.mod_eq_of_lt hx, Nat.mod_eq_of_lt hy] at this
section
variable (fp : List Nat → Nat)
def fbody (g : Nat) (p : List Nat) : List Nat := [70, 71, 67] ++ be 8 g ++ be 8 p.length ++ p
def frame (g : Nat) (p : List Nat) : List Nat := fbody g p ++ be 8 (fp (fbody g p))
theorem fbody_len (g : Nat) (p : List Nat) : (fbody g p).length = 19 + p.length := by simp [fbody, be_len]; omega
theorem frame_len (g : Nat) (p : List Nat) : (frame fp g p).length = 27 + p.length := by simp [frame, fbody_len, be_len]; omega
theorem changed {g g' : Nat} {p p' : List Nat}
    (hfp : ∀ (a b : List Nat) (x y : Nat), x ≠ y → x < 256 → y < 256 → (∀ z ∈ a, z < 256) → (∀ z ∈ b, z < 256) → fp (a ++ x :: b) ≠ fp (a ++ y :: b)) (hlt : ∀ l, (∀ z ∈ l, z < 256) → fp l < 256 ^ 8) {i by' : Nat} (hi : i < (frame fp g p).length) (hb : ∀ b ∈ frame fp g p, b < 256) (hy : by' < 256) (hne : by' ≠ (frame fp g p)[i]) : frame fp g' p' ≠ (frame fp g p).set i by' := by
  intro h
  have hl := congrArg List.length h
  rw [List.length_set, frame_len, frame_len] at hl
  have hpl : p'.length = p.length := by omega
  have hbl : (fbody g' p').length = (fbody g p).length := by rw [fbody_len, fbody_len, hpl]
  have hbb : ∀ z ∈ fbody g p, z < 256 := fun z m => hb z (by unfold frame; exact List.mem_append_left _ m)
  by_cases hin : i < (fbody g p).length
  · -- within what is marked
    have e : (frame fp g p).set i by' = (fbody g p).set i by' ++ be 8 (fp (fbody g p)) := by unfold frame; exact List.set_append_left _ _ hin
    rw [e] at h
    obtain ⟨h1, h2⟩ := List.append_inj h (by rw [List.length_set, hbl])
    have hs : ∀ z ∈ (fbody g p).set i by', z < 256 := fun z m => by
      rcases List.mem_or_eq_of_mem_set m with m | rfl
      · exact hbb z m
      · exact hy
    have h3 := be_inj (hlt _ (by rw [h1]; exact hs)) (hlt _ hbb) h2
    have hx : (frame fp g p)[i] = (fbody g p)[i] := by unfold frame; exact List.getElem_append_left hin
    have e1 : fbody g p = (fbody g p).take i ++ (fbody g p)[i] :: (fbody g p).drop (i + 1) := by simp
    have e2 : (fbody g p).set i by' = (fbody g p).take i ++ by' :: (fbody g p).drop (i + 1) := List.set_eq_take_append_cons_drop.trans (if_pos hin)
    rw [h1, e2] at h3
    rw [hx] at hne
    conv at h3 => rhs; rw [e1]
    exact hfp _ _ by' (fbody g p)[i] hne hy (hbb _ (List.getElem_mem hin)) (fun z m => hbb z (List.mem_of_mem_take m)) (fun z m => hbb z (List.mem_of_mem_drop m)) h3
  · -- in the fingerprint
    have e : (frame fp g p).set i by' = fbody g p ++ (be 8 (fp (fbody g p))).set (i - (fbody g p).length) by' := by unfold frame; exact List.set_append_right _ _ (by omega)
    rw [e] at h
    obtain ⟨h1, h2⟩ := List.append_inj h hbl
    rw [h1] at h2
    have hj : i - (fbody g p).length < (be 8 (fp (fbody g p))).length := by unfold frame at hi; rw [List.length_append] at hi; omega
    have h3 : (be 8 (fp (fbody g p)))[i - (fbody g p).length] = by' := by
      have h4 : ∀ (l : List Nat) (k v : Nat) (hk : k < l.length), l = l.set k v → l[k] = v := fun l k v hk hh => by
        have := List.getElem_set_self (l := l) (i := k) (a := v) (by simpa using hk)
        rw [← this]; exact List.getElem_of_eq hh hk
      exact h4 _ _ _ hj h2
    have hx : (frame fp g p)[i] = (be 8 (fp (fbody g p)))[i - (fbody g p).length] := by unfold frame; exact List.getElem_append_right (by omega)
    rw [hx, h3] at hne
    exact hne rfl
end
/-! ### the fingerprint -/
def fstep (tbl : List Nat) (f b : Nat) : Nat := (f % 2 ^ 55 * 256 + b) ^^^ tbl.getD (f / 2 ^ 55) 0
def fpOf (tbl : List Nat) (l : List Nat) : Nat := l.foldl (fstep tbl) 1
structure TblOK (tbl : List Nat) : Prop where
  lt : ∀ i, i < 256 → tbl.getD i 0 < 2 ^ 63
  inj : ∀ i j, i < 256 → j < 256 → tbl.getD i 0 % 256 = tbl.getD j 0 % 256 → i = j
section
variable {tbl : List Nat} (T : TblOK tbl)
include T
theorem fstep_lt {f b : Nat} (hf : f < 2 ^ 63) (hb : b < 256) : fstep tbl f b < 2 ^ 63 := by
  unfold fstep
  refine Nat.xor_lt_two_pow ?_ (T.lt _ (by omega))
  have : f % 2 ^ 55 < 2 ^ 55 := Nat.mod_lt _ (by omega)
  omega
theorem fold_lt : ∀ (l : List Nat) (f : Nat), f < 2 ^ 63 → (∀ b ∈ l, b < 256) → l.foldl (fstep tbl) f < 2 ^ 63
  | [], f, hf, _ => hf
  | b :: l, f, hf, hb => fold_lt l _ (fstep_lt T hf (hb b (by simp))) fun x hx => hb x (by simp [hx])
omit T in
theorem fbody_byte {g : Nat} {p : List Nat} (hp : ∀ z ∈ p, z < 256) : ∀ z ∈ fbody g p, z < 256 := by
  intro z m
  simp only [fbody, List.mem_append, List.mem_cons, List.not_mem_nil, or_false] at m
  rcases m with (((rfl | rfl | rfl) | m) | m) | m
  · omega
  · omega
  · omega
  · exact be_lt z m
  · exact be_lt z m
  · exact hp z m
omit T in
theorem frame_byte {fp : List Nat → Nat} {g : Nat} {p : List Nat} (hp : ∀ z ∈ p, z < 256) : ∀ z ∈ frame fp g p, z < 256 := by
  intro z m
  rcases List.mem_append.1 m with m | m
  · exact fbody_byte hp z m
  · exact be_lt z m
def NoFrame (fp : List Nat → Nat) (l : List Nat) : Prop := ∀ (g : Nat) (p : List Nat), g < 256 ^ 8 → p.length < 256 ^ 8 → l ≠ frame fp g p
end
/-! ### the table of the polynomial x^63 + x + 1 -/
def allUpto (f : Nat → Bool) : Nat → Bool
  | 0 => true
  | n + 1 => match f n with | true => allUpto f n | false => false
theorem allUpto_ok {f : Nat → Bool} : ∀ {n : Nat}, allUpto f n = true → ∀ i, i < n → f i = true
  | n + 1, h, i, hi => by
    simp only [allUpto] at h
    cases hf : f n with
    | false => rw [hf] at h; simp at h
    | true =>
      rw [hf] at h
      rcases Nat.lt_or_ge i n with h1 | h1
      · exact allUpto_ok h i h1
      · obtain rfl : i = n := by omega
        exact hf
def tbl63 : List Nat := (List.range 256).map fun i => i ^^^ (2 * i)
def inv63 (b : Nat) : Nat := (b ^^^ (2 * b) ^^^ (4 * b) ^^^ (8 * b) ^^^ (16 * b) ^^^ (32 * b) ^^^ (64 * b) ^^^ (128 * b)) % 256
theorem tbl63_lt : allUpto (fun i => Nat.blt (tbl63.getD i 0) 9223372036854775808) 256 = true := by decide +kernel
theorem tbl63_inv : allUpto (fun i => Nat.beq (inv63 (tbl63.getD i 0 % 256)) i) 256 = true := by decide +kernel
theorem tbl63_ok : TblOK tbl63 where
  lt := fun i hi => by
    have h1 : Nat.blt (tbl63.getD i 0) 9223372036854775808 = true := allUpto_ok tbl63_lt i hi
    exact Nat.lt_of_lt_of_le (Nat.le_of_ble_eq_true h1) (by omega)
  inj := fun i j hi hj h => by
    have h1 : Nat.beq (inv63 (tbl63.getD i 0 % 256)) i = true := allUpto_ok tbl63_inv i hi
    have h2 : Nat.beq (inv63 (tbl63.getD j 0 % 256)) j = true := allUpto_ok tbl63_inv j hj
    rw [h] at h1
    exact (Nat.eq_of_beq_eq_true h1).symm.trans (Nat.eq_of_beq_eq_true h2)
theorem tbl63_len : tbl63.length = 256 := by decide +kernel
end Go.X

/- Slices of bytes in memory: those of the caller, and those that are made; what appending, cutting and comparing them comes to. No program in sight. -/
namespace Go.X
open Go
theorem avB_len : ∀ l : List Nat, (avBytes l).length = l.length
  | [] => rfl
  | _ :: l => by simp [avBytes, avB_len l]
theorem avB_app : ∀ a b : List Nat, avBytes (a ++ b) = avBytes a ++ avBytes b
  | [], _ => rfl
  | _ :: a, b => by simp [avBytes, avB_app a b]
theorem avB_take : ∀ (n : Nat) (l : List Nat), (avBytes l).take n = avBytes (l.take n)
  | 0, _ => by simp [avBytes]
  | _ + 1, [] => by simp [avBytes]
  | n + 1, _ :: l => by simp [avBytes, avB_take n l]
theorem avB_drop : ∀ (n : Nat) (l : List Nat), (avBytes l).drop n = avBytes (l.drop n)
  | 0, _ => by simp
  | _ + 1, [] => by simp [avBytes]
  | n + 1, _ :: l => by simp [avBytes, avB_drop n l]
theorem avB_get : ∀ {l : List Nat} {j : Nat} (hj : j < l.length), (avBytes l)[j]? = some (.int .u8 (.ofNat l[j]))
  | _ :: _, 0, _ => rfl
  | _ :: l, j + 1, hj => by simp only [avBytes, List.getElem?_cons_succ, List.getElem_cons_succ]; exact avB_get (l := l) (by simpa using hj)
theorem bytesOf_av : ∀ {l : List Nat}, (∀ b ∈ l, b < 256) → bytesOf (avBytes l) = some l
  | [], _ => rfl
  | b :: l, h => by
    have h1 := bytesOf_av (l := l) fun x m => h x (by simp [m])
    have h2 : b % 256 = b := Nat.mod_eq_of_lt (h b (by simp))
    simp only [avBytes, bytesOf, h1, h2]
theorem dropE_of {α : Type} : ∀ {l : List α} {n : Nat}, n ≤ l.length → dropE n l = some (l.drop n)
  | l, 0, _ => by cases l <;> rfl
  | [], n + 1, h => by simp at h
  | x :: l, n + 1, h => by simp only [dropE, List.drop_succ_cons]; exact dropE_of (by simpa using h)
theorem takeE_of {α : Type} : ∀ {l : List α} {n : Nat}, n ≤ l.length → takeE n l = some (l.take n)
  | l, 0, _ => by cases l <;> rfl
  | [], n + 1, h => by simp at h
  | x :: l, n + 1, h => by simp only [takeE, takeE_of (l := l) (n := n) (by simpa using h), List.take_succ_cons]
theorem dropE_gt {α : Type} : ∀ {l : List α} {n : Nat}, l.length < n → dropE n l = none
  | _, 0, h => by omega
  | [], _ + 1, _ => rfl
  | _ :: l, n + 1, h => by simp only [dropE]; exact dropE_gt (by simpa using h)
theorem sub_of {α : Type} {l : List α} {o n : Nat} (h : o + n ≤ l.length) : sub l o n = some ((l.drop o).take n) := by
  unfold sub
  rw [dropE_of (by omega)]
  exact takeE_of (by simp; omega)
theorem beqN_eq : ∀ a b : List Nat, beqN a b = decide (a = b)
  | [], [] => by simp [beqN]
  | [], _ :: _ => by simp [beqN]
  | _ :: _, [] => by simp [beqN]
  | a :: x, b :: y => by
    simp only [beqN, beqN_eq x y]
    cases hb : Nat.beq a b with
    | true => have := Nat.eq_of_beq_eq_true hb; subst this; simp
    | false => have : a ≠ b := fun e => by subst e; simp at hb
               simp [this]
/-! ### slices -/
def capOK (n : Nat) : Cap → Prop
  | .ex c => n ≤ c
  | .up z => z = 1
def SV (L : List (Pos × AObj)) (v : AV) (l : List Nat) : Prop := ∃ p o cap ty cs sp, v = .slice p o l.length cap ∧ (p, AObj.row ty cs sp) ∈ L ∧ o + l.length ≤ cs.length ∧ (cs.drop o).take l.length = avBytes l ∧ capOK l.length cap
def BV (L : List (Pos × AObj)) (v : AV) (l : List Nat) : Prop := (v = .nilslice ∧ l = []) ∨ (∃ cs fu, v = .imm cs l.length fu ∧ l.length ≤ cs.length ∧ cs.take l.length = avBytes l) ∨ SV L v l
section
variable {E : XEnv} {d d1 d2 : Option Slot} {ops : List XOp} {Q : Tm → Heap → Prop} {tm : Tm} {h : Heap} {L L' : List (Pos × AObj)} {v w : AV} {l m : List Nat} {x y : XO}
theorem SV.mono (hs : SV L v l) (hm : ∀ x ∈ L, x ∈ L') : SV L' v l := by
  obtain ⟨p, o, cap, ty, cs, sp, h1, h2, h3⟩ := hs
  exact ⟨p, o, cap, ty, cs, sp, h1, hm _ h2, h3⟩
theorem BV.mono (hs : BV L v l) (hm : ∀ x ∈ L, x ∈ L') : BV L' v l := hs.imp id (·.imp id (·.mono hm))
theorem BV.sl {nl fu : Bool} : BV L (slAV nl fu l.length (avBytes l)) l := by
  rcases slAV_cases nl fu l.length (avBytes l) with ⟨h0, e⟩ | e
  · rw [e]; exact .inl ⟨rfl, List.eq_nil_of_length_eq_zero h0⟩
  · rw [e]; exact .inr (.inl ⟨_, _, rfl, by rw [avB_len]; omega, List.take_of_length_le (by rw [avB_len]; omega)⟩)
theorem SV.cons {x : Pos × AObj} (hs : SV L v l) : SV (x :: L) v l := hs.mono fun _ m => List.mem_cons_of_mem _ m
theorem BV.cons {x : Pos × AObj} (hs : BV L v l) : BV (x :: L) v l := hs.mono fun _ m => List.mem_cons_of_mem _ m
theorem SV.bv (hs : SV L v l) : BV L v l := .inr (.inr hs)
theorem BV.nil : BV L .nilslice [] := .inl ⟨rfl, rfl⟩
theorem srcOf_BV (H : Has h L) (hs : BV L v l) : srcOf 1 v h = some (l.length, avBytes l) := by
  rcases hs with ⟨rfl, rfl⟩ | ⟨cs, fu, rfl, hle, e⟩ | ⟨p, o, cap, ty, cs, sp, rfl, hm, hle, e, _⟩
  · rfl
  · have := takeE_of (l := cs) (n := l.length) hle
    simp only [srcOf, Nat.mul_one, this, e]
  · cases l with
    | nil => rfl
    | cons b l =>
      have hg := H.mem hm
      simp only [srcOf, List.length_cons]
      simp only at hg
      rw [hg]
      simp only [Nat.mul_one]
      rw [sub_of (by simpa using hle)]
      simp only [List.length_cons] at e
      rw [e]
theorem len_BV (hs : BV L v l) (hv : x.val tm = some v) : (XI.len false x).sem tm h = .ok (.int .i64 (.ofNat l.length)) h := by
  rcases hs with ⟨rfl, rfl⟩ | ⟨cs, fu, rfl, _⟩ | ⟨p, o, cap, ty, cs, sp, rfl, _⟩ <;> simp only [XI.sem, lenS, withO_run hv] <;> rfl
theorem toStr_BV (H : Has h L) (hs : BV L v l) (hb : ∀ b ∈ l, b < 256) (hv : x.val tm = some v) : (XI.toStr x).sem tm h = .ok (.str l) h := by
  have h1 := srcOf_BV H hs
  have h2 : ∀ l', v ≠ .str l' := by
    rcases hs with ⟨rfl, rfl⟩ | ⟨cs, fu, rfl, _⟩ | ⟨p, o, cap, ty, cs, sp, rfl, _⟩ <;> intro _ h <;> cases h
  simp only [XI.sem, toStrS, withO_run hv]
  cases v <;> first | exact (h2 _ rfl).elim | simp only [h1, bytesOf_av hb]
theorem strEq_sem {a b : List Nat} (hx : x.val tm = some (.str a)) (hy : y.val tm = some (.str b)) : (XI.bin .eq x y).sem tm h = .ok (.bool (decide (a = b))) h := by
  simp only [XI.sem, binS, withO_run hx, withO_run hy]
  show okB h (beqN a b) = _
  rw [beqN_eq]; rfl
theorem wp_byte {dp : Slot} {i : XO} {k : IntKind} {j : Nat} (H : Has h L) (hs : BV L v l) (hj : j < l.length) (hv : x.val tm = some v) (hi : i.val tm = some (.int k (.ofNat j))) (hq : ∀ pv, wpOps E ops Q (putT d2 (.int .u8 (.ofNat l[j])) (putT (some dp) pv tm)) h) :
    wpOps E (⟨some dp, none, .ins (.iaddrS 1 x i)⟩ :: ⟨d2, none, .ins (.load none (.t dp))⟩ :: ops) Q tm h := by
  have hget : ∀ {pv : AV} {dp : Slot}, (XO.t dp).val (putT (some dp) pv tm) = some pv := fun {pv dp} => by
    show (tm.set dp pv).get dp = _
    exact TT.get_set_same ..
  rcases hs with ⟨rfl, rfl⟩ | ⟨cs, fu, rfl, hle, e⟩ | ⟨p, o, cap, ty, cs, sp, rfl, hm, hle, e, _⟩
  · simp at hj
  · have h1 : j < cs.length := by omega
    have h3 : cs[j] = .int .u8 (.ofNat l[j]) := by
      have h2 := avB_get hj
      rw [← e, List.getElem?_take_of_lt hj, List.getElem?_eq_getElem h1] at h2
      exact Option.some.inj h2
    have hd : dropE (j * 1) cs = some (AV.int .u8 (.ofNat l[j]) :: cs.drop (j + 1)) := by
      rw [Nat.mul_one, dropE_of (by omega), List.drop_eq_getElem_cons h1, h3]
    have hb : Nat.blt j l.length = true := blt_of hj
    refine oI (v := .iptr (AV.int .u8 (.ofNat l[j]) :: cs.drop (j + 1))) (h' := h) ?_ ?_
    · simp only [XI.sem, iaddrSS, withO_run hv, XO.withN, XO.withI, withO_run hi, hb, hd]
    refine oI (v := .int .u8 (.ofNat l[j])) (h' := h) ?_ (hq _)
    simp only [XI.sem, loadS, withO_run hget]
    rfl
  · refine oI (v := .ptr p (o + j * 1)) (h' := h) ?_ ?_
    · simp only [XI.sem, iaddrSS, withO_run hv, XO.withN, XO.withI, withO_run hi, blt_of hj]
    · refine oI (v := .int .u8 (.ofNat l[j])) (h' := h) ?_ (hq _)
      have hg := H.mem hm
      simp only at hg
      refine sem_load hget hg fun h => ?_
      have h1 : nth cs (o + j * 1) = some (.int .u8 (.ofNat l[j])) := by
        rw [nth_eq, Nat.mul_one]
        have h2 := avB_get hj
        rw [← e, List.getElem?_take_of_lt hj, List.getElem?_drop] at h2
        exact h2
      simp only [partOf, h1]
/-! ### cutting -/
def cutV (v : AV) (b e : Nat) : AV := match v with
  | .slice p o _ (.ex c) => .slice p (o + b * 1) (e - b) (.ex (c - b))
  | .slice p o _ (.up z) => .slice p (o + b * 1) (e - b) (.up z)
  | v => v
theorem cut_sem {lo hi : Option XO} {b e : Nat} (hs : SV L v l) (hv : x.val tm = some v) (hlo : ∀ k, withNo lo 0 tm k = k b) (hhi : ∀ k, withNo hi l.length tm k = k e) (hbe : b ≤ e) (he : e ≤ l.length) : (XI.cutSl 1 x lo hi none).sem tm h = .ok (cutV v b e) h := by
  obtain ⟨p, o, cap, ty, cs, sp, rfl, _, _, _, hc⟩ := hs
  have h1 : Nat.ble b e = true := Nat.ble_eq_true_of_le hbe
  cases cap with
  | ex c =>
    have h2 : Nat.ble e c = true := Nat.ble_eq_true_of_le (Nat.le_trans he hc)
    have h3 : Nat.ble c c = true := Nat.ble_eq_true_of_le (Nat.le_refl _)
    have hmx : ∀ k, withNo none c tm k = k c := fun _ => rfl
    simp only [XI.sem, cutSlS, withO_run hv]
    rw [hmx, hhi, hlo]
    simp only [h1, h2, h3, cutV]
  | up z =>
    obtain rfl : z = 1 := hc
    have h2 : Nat.ble e l.length = true := Nat.ble_eq_true_of_le he
    simp only [XI.sem, cutSlS, withO_run hv]
    rw [hhi, hlo]
    simp only [h1, h2, cutV]
    try rfl
theorem SV.cut {b e : Nat} (hs : SV L v l) (hbe : b ≤ e) (he : e ≤ l.length) : SV L (cutV v b e) ((l.take e).drop b) := by
  obtain ⟨p, o, cap, ty, cs, sp, rfl, hm, hle, hx, hc⟩ := hs
  have hlen : ((l.take e).drop b).length = e - b := by simp; omega
  have hcs : (cs.drop (o + b * 1)).take ((l.take e).drop b).length = avBytes ((l.take e).drop b) := by
    rw [hlen, Nat.mul_one, ← avB_drop, ← avB_take, ← hx]
    rw [List.take_take, Nat.min_eq_left he, List.drop_take, List.drop_drop]
  cases cap with
  | ex c =>
    refine ⟨p, o + b * 1, .ex (c - b), ty, cs, sp, by rw [hlen]; rfl, hm, by rw [hlen]; omega, hcs, ?_⟩
    have : l.length ≤ c := hc
    show _ ≤ c - b
    rw [hlen]; omega
  | up z => exact ⟨p, o + b * 1, .up z, ty, cs, sp, by rw [hlen]; rfl, hm, by rw [hlen]; omega, hcs, hc⟩
def cutB (v : AV) (b e : Nat) : AV := match v with
  | .imm cs n full => .imm (cs.drop b) (e - b) (match full with | true => Nat.beq e n | false => false)
  | v => cutV v b e
theorem cutB_sem {lo hi : Option XO} {b e : Nat} (hs : BV L v l) (hv : x.val tm = some v) (hlo : ∀ k, withNo lo 0 tm k = k b) (hhi : ∀ k, withNo hi l.length tm k = k e) (hbe : b ≤ e) (he : e ≤ l.length) : (XI.cutSl 1 x lo hi none).sem tm h = .ok (cutB v b e) h := by
  rcases hs with ⟨rfl, rfl⟩ | ⟨cs, fu, rfl, hle, hx⟩ | hs
  · simp only [List.length_nil] at he hhi
    obtain rfl : e = 0 := by omega
    obtain rfl : b = 0 := by omega
    have hmx : ∀ k, withNo none 0 tm k = k 0 := fun _ => rfl
    simp only [XI.sem, cutSlS, withO_run hv]
    rw [hhi, hlo, hmx]
    rfl
  · have h1 : Nat.ble b e = true := Nat.ble_eq_true_of_le hbe
    have h2 : Nat.ble e l.length = true := Nat.ble_eq_true_of_le he
    have h3 : dropE (b * 1) cs = some (cs.drop b) := by rw [Nat.mul_one]; exact dropE_of (by omega)
    simp only [XI.sem, cutSlS, withO_run hv]
    rw [hhi, hlo]
    simp only [h1, h2, h3, cutB]
    cases fu <;> rfl
  · have hc : cutB v b e = cutV v b e := by obtain ⟨p, o, cap, ty, cs, sp, rfl, _⟩ := hs; rfl
    rw [hc]; exact cut_sem hs hv hlo hhi hbe he
theorem BV.cut {b e : Nat} (hs : BV L v l) (hbe : b ≤ e) (he : e ≤ l.length) : BV L (cutB v b e) ((l.take e).drop b) := by
  rcases hs with ⟨rfl, rfl⟩ | ⟨cs, fu, rfl, hle, hx⟩ | hs
  · exact .inl ⟨rfl, by simp⟩
  · have hlen : ((l.take e).drop b).length = e - b := by simp; omega
    refine .inr (.inl ⟨cs.drop b, _, by rw [hlen]; rfl, by rw [hlen, List.length_drop]; omega, ?_⟩)
    rw [hlen, ← avB_drop, ← avB_take, ← hx, List.take_take, Nat.min_eq_left he, List.drop_take]
  · have hc : cutB v b e = cutV v b e := by obtain ⟨p, o, cap, ty, cs, sp, rfl, _⟩ := hs; rfl
    rw [hc]; exact (hs.cut hbe he).bv
theorem clip_sem {k : IntKind} {y z : XO} (hs : SV L v l) (hv : x.val tm = some v) (hy : y.val tm = some (.int k (.ofNat l.length))) (hz : z.val tm = some (.int k (.ofNat l.length))) : ∃ v', (XI.cutSl 1 x none (some y) (some z)).sem tm h = .ok v' h ∧ ∃ p o ty cs sp, v' = .slice p o l.length (.ex l.length) ∧ (p, AObj.row ty cs sp) ∈ L ∧ o + l.length ≤ cs.length ∧ (cs.drop o).take l.length = avBytes l := by
  obtain ⟨p, o, cap, ty, cs, sp, rfl, hm, hle, hx, hc⟩ := hs
  have h3 : Nat.ble l.length l.length = true := Nat.ble_eq_true_of_le (Nat.le_refl _)
  have h0 : Nat.ble 0 l.length = true := Nat.ble_eq_true_of_le (Nat.zero_le _)
  refine ⟨.slice p (o + 0 * 1) (l.length - 0) (.ex (l.length - 0)), ?_, p, o, ty, cs, sp, by simp, hm, hle, hx⟩
  cases cap with
  | ex c =>
    have h2 : Nat.ble l.length c = true := Nat.ble_eq_true_of_le hc
    simp only [XI.sem, cutSlS, withO_run hv, withNo, XO.withN, XO.withI, withO_run hy, withO_run hz, h0, h2, h3]
  | up z' =>
    obtain rfl : z' = 1 := hc
    simp only [XI.sem, cutSlS, withO_run hv, withNo, XO.withN, XO.withI, withO_run hy, withO_run hz, h0, h3]
    try rfl
theorem wp_clip {k : IntKind} {y z : XO} (hs : SV L v l) (hv : x.val tm = some v) (hy : y.val tm = some (.int k (.ofNat l.length))) (hz : z.val tm = some (.int k (.ofNat l.length)))
    (hq : ∀ v', (∃ p o ty cs sp, v' = .slice p o l.length (.ex l.length) ∧ (p, AObj.row ty cs sp) ∈ L ∧ o + l.length ≤ cs.length ∧ (cs.drop o).take l.length = avBytes l) → wpOps E ops Q (putT d v' tm) h) : wpOps E (⟨d, none, .ins (.cutSl 1 x none (some y) (some z))⟩ :: ops) Q tm h := by
  obtain ⟨v', h1, h2⟩ := clip_sem (h := h) hs hv hy hz
  exact oI h1 (hq v' h2)
/-! ### appending -/
def Gr1 (ty : TypeId) (h : Heap) (L : List (Pos × AObj)) (v : AV) (l : List Nat) : Prop := ∃ p, v = .slice p 0 l.length (.up 1) ∧ Has h ((p, .row ty (avBytes l) true) :: L)
theorem Gr1.has {ty : TypeId} (hg : Gr1 ty h L v l) : Has h L := by obtain ⟨p, _, H⟩ := hg; exact H.tail
theorem Gr1.sub {ty : TypeId} (hg : Gr1 ty h L v l) (s : L'.Sublist L) : Gr1 ty h L' v l := by obtain ⟨p, e, H⟩ := hg; exact ⟨p, e, H.sub (s.cons_cons _)⟩
def Gr (ty : TypeId) (h : Heap) (L : List (Pos × AObj)) (v : AV) (l : List Nat) : Prop :=
  Gr1 ty h L v l ∨ (Has h L ∧ ∃ M p o ty' cs sp, v = .slice p o l.length (.ex l.length) ∧ Has h M ∧ (p, AObj.row ty' cs sp) ∈ M ∧ o + l.length ≤ cs.length ∧ (cs.drop o).take l.length = avBytes l)
theorem Gr.has {ty : TypeId} (hg : Gr ty h L v l) : Has h L := by
  rcases hg with ⟨p, _, H⟩ | ⟨H, _⟩
  · exact H.tail
  · exact H
theorem Gr.sub {ty : TypeId} (hg : Gr ty h L v l) (s : L'.Sublist L) : Gr ty h L' v l := by
  rcases hg with ⟨p, e, H⟩ | ⟨H, h1⟩
  · exact .inl ⟨p, e, H.sub (s.cons_cons _)⟩
  · exact .inr ⟨H.sub s, h1⟩
theorem Gr.push {ty : TypeId} (hg : Gr ty h L v l) (o : AObj) : Gr ty (h.push o) ((h.next, o) :: L) v l := by
  rcases hg with ⟨p, e, H⟩ | ⟨H, M, p, o', ty', cs, sp, e, HM, hm, h1⟩
  · exact .inl ⟨p, e, (H.push o).swap⟩
  · exact .inr ⟨H.push o, _, p, o', ty', cs, sp, e, HM.push o, List.mem_cons_of_mem _ hm, h1⟩
theorem small1 {n : Nat} (h : n ≤ 1000000) : small n 1 = true := by unfold small; exact Nat.ble_eq_true_of_le (by omega)
theorem wp_app {ty : TypeId} (hg : Gr ty h L v l) (hw : srcOf 1 w h = some (m.length, avBytes m)) (hn : l.length + m.length ≤ 1000000) (hv : x.val tm = some v) (hy : y.val tm = some w) (hq : ∀ v' h', Gr ty h' L v' (l ++ m) → (m ≠ [] ∨ Gr1 ty h L v l → Gr1 ty h' L v' (l ++ m)) → (m = [] → v' = v ∧ h' = h) → wpOps E ops Q (putT d v' tm) h') :
    wpOps E (⟨d, none, .ins (.append ty 1 1 x y)⟩ :: ops) Q tm h := by
  have hsem : (XI.append ty 1 1 x y).sem tm h = appendTo ty 1 1 v m.length (avBytes m) h := by simp only [XI.sem, appendS, withO_run hv, withO_run hy, hw]
  have hs := small1 hn
  cases m with
  | nil =>
    refine oI (v := v) (h' := h) ?_ (hq v h (by rw [List.append_nil]; exact hg) (fun e => by rw [List.append_nil]; exact e.elim (fun e => (e rfl).elim) id) fun _ => ⟨rfl, rfl⟩)
    rw [hsem]
    rcases hg with ⟨p, rfl, H⟩ | ⟨H, M, p, o, ty', cs, sp, rfl, _⟩
    · rfl
    · have h2 : Nat.ble (l.length + 0) l.length = true := Nat.ble_eq_true_of_le (Nat.le_refl _)
      simp only [appendTo, List.length_nil, h2]
  | cons b m =>
    have fin : ∀ (h0 : Heap), Has h0 L → wpOps E ops Q (putT d (.slice h0.next 0 (l.length + (b :: m).length) (.up 1)) tm) (h0.push (.row ty (avBytes l ++ avBytes (b :: m)) true)) := fun h0 H0 => by
      have hp := H0.push (.row ty (avBytes l ++ avBytes (b :: m)) true)
      rw [← avB_app] at hp ⊢
      rw [← List.length_append]
      exact hq _ _ (.inl ⟨_, rfl, hp⟩) (fun _ => ⟨_, rfl, hp⟩) fun e => by simp at e
    rcases hg with ⟨p, rfl, H⟩ | ⟨H, M, p, o, ty', cs, sp, rfl, HM, hm, h1, h2⟩
    · have hgp : h.get p = .row ty (avBytes l) true := H.mem (x := (p, _)) (by simp)
      have hd : dropE (0 + (l.length + (b :: m).length) * 1) (avBytes l) = none := dropE_gt (by rw [avB_len]; simp)
      have hsb : sub (avBytes l) 0 (l.length * 1) = some (avBytes l) := by rw [sub_of (by rw [avB_len]; omega), List.drop_zero, List.take_of_length_le (by rw [avB_len]; omega)]
      have hset : Has (h.set p .dead) L := by
        have := (H.set (k := 0) rfl .dead).tail
        exact this
      have hb1 : Nat.beq ty ty = true := Nat.beq_refl _
      refine oI (h' := (h.set p .dead).push (.row ty (avBytes l ++ avBytes (b :: m)) true)) (v := .slice (h.set p .dead).next 0 (l.length + (b :: m).length) (.up 1)) ?_ (fin _ hset)
      rw [hsem]
      have hz : Nat.beq 1 1 = true := rfl
      have h0 : Nat.beq 1 0 = false := rfl
      simp only [List.length_cons] at hd hs ⊢
      simp only [appendTo, hgp, hz, hd, hs, h0, hb1, hsb, Heap.setK, Heap.pushK]
    · have hb : Nat.ble (l.length + (b :: m).length) l.length = false := by
        cases hc : Nat.ble (l.length + (b :: m).length) l.length with
        | false => rfl
        | true => have := Nat.le_of_ble_eq_true hc; simp at this; omega
      have hsv : BV M (.slice p o l.length (.ex l.length)) l := .inr <| .inr ⟨p, o, _, ty', cs, sp, rfl, hm, h1, h2, Nat.le_refl _⟩
      have hsr := srcOf_BV HM hsv
      refine oI (h' := h.push (.row ty (avBytes l ++ avBytes (b :: m)) true)) (v := .slice h.next 0 (l.length + (b :: m).length) (.up 1)) ?_ (fin _ H)
      rw [hsem]
      simp only [appendTo, hb, hs, hsr]
      rfl
theorem Gr.sv {ty : TypeId} (hg : Gr ty h L v l) : ∃ M, Has h M ∧ SV M v l ∧ Has h L ∧ ((∃ x, M = x :: L) ∨ True) := by
  rcases hg with ⟨p, rfl, H⟩ | ⟨H, M, p, o, ty', cs, sp, rfl, HM, hm, h1, h2⟩
  · exact ⟨_, H, ⟨p, 0, .up 1, ty, avBytes l, true, rfl, by simp, by rw [avB_len]; omega, by rw [List.drop_zero, List.take_of_length_le (by rw [avB_len]; omega)], rfl⟩, H.tail, .inr trivial⟩
  · exact ⟨M, HM, ⟨p, o, .ex l.length, ty', cs, sp, rfl, hm, h1, h2, Nat.le_refl _⟩, H, .inr trivial⟩
theorem wp_put1 {ty : TypeId} {dq : Slot} {z : AV} {b : Nat} (hg : Gr ty h L v l) (hn : l.length + 1 ≤ 1000000) (hx : ∀ qv, x.val (putT (some dq) qv tm) = some v) (hy : y.val tm = some (.int .u8 (.ofNat b))) (hq : ∀ v' h' qv, Gr1 ty h' L v' (l ++ [b]) → wpOps E ops Q (putT d v' (putT (some dq) qv tm)) h') :
    wpOps E (⟨some dq, none, .ins (.bslice ty 1 1 [z] [(0, 1, y)])⟩ :: ⟨d, none, .ins (.append ty 1 1 x (.t dq))⟩ :: ops) Q tm h := by
  have hget : ∀ {pv : AV}, (XO.t dq).val (putT (some dq) pv tm) = some pv := fun {pv} => by
    show (tm.set dq pv).get dq = _
    exact TT.get_set_same ..
  refine oI (v := .slice h.next 0 1 (.ex 1)) (h' := h.push (.row ty [.int .u8 (.ofNat b)] false)) ?_ ?_
  · simp only [XI.sem, bsliceS, fillK, withO_run hy]
    rfl
  · have h1 : srcOf 1 (.slice h.next 0 1 (.ex 1)) (h.push (.row ty [.int .u8 (.ofNat b)] false)) = some ([b].length, avBytes [b]) := by
      simp only [srcOf]
      rw [h.get_push_same]
      rfl
    exact wp_app (hg.push _) h1 hn (hx _) hget fun v' h' _ hg' _ => hq v' h' _ ((hg' (.inl (by simp))).sub (List.sublist_cons_self _ _))
theorem wp_mark {p : Pos} {o n k : Nat} {c : Cap} {ty : TypeId} {cs : List AV} {sp : Bool} (H : Has h L) (hv : x.val tm = some (.slice p o (n + 1) c)) (hk : L[k]? = some (p, .row ty cs sp)) (hq : ∀ h', Has h' L → wpOps E ops Q (putT d (.slice p o (n + 1) c) tm) h') : wpOps E (⟨d, none, .ins (.mark x)⟩ :: ops) Q tm h := by
  have hg := H.at k hk
  have H2 := H.set hk (.row ty cs sp)
  have e : L.set k (p, .row ty cs sp) = L := by
    obtain ⟨h1, h2⟩ := List.getElem?_eq_some_iff.1 hk
    rw [← h2]; exact List.set_getElem_self h1
  rw [e] at H2
  refine oI (h' := h.set p (.row ty cs sp)) ?_ (hq _ H2)
  simp only [XI.sem, markS, withO_run hv, markAt, hg, Heap.setK]
/-! ### numbers of 64 bits -/
theorem bits64 {f : Nat → Nat → Nat} {s : Int} {a b : Nat} (ha : a < 2 ^ 64) (hb : b < 2 ^ 64) : bitsI f s .u64 (.ofNat a) (.ofNat b) h = .ok (.int .u64 (.ofNat (f a b))) h := by
  have h1 : Nat.blt a 18446744073709551616 = true := blt_of ha
  have h2 : Nat.blt b 18446744073709551616 = true := blt_of hb
  cases h3 : Nat.blt a 9223372036854775808 <;> cases h4 : Nat.blt b 9223372036854775808 <;> simp only [bitsI, h1, h2, h3, h4] <;> rfl
theorem and_sem {a b : Nat} (ha : a < 2 ^ 64) (hb : b < 2 ^ 64) (hx : x.val tm = some (.int .u64 (.ofNat a))) (hy : y.val tm = some (.int .u64 (.ofNat b))) : (XI.bin .and x y).sem tm h = .ok (.int .u64 (.ofNat (Nat.land a b))) h := by
  simp only [XI.sem, binS, withO_run hx, withO_run hy]; exact bits64 ha hb
theorem or_sem {a b : Nat} (ha : a < 2 ^ 64) (hb : b < 2 ^ 64) (hx : x.val tm = some (.int .u64 (.ofNat a))) (hy : y.val tm = some (.int .u64 (.ofNat b))) : (XI.bin .or x y).sem tm h = .ok (.int .u64 (.ofNat (Nat.lor a b))) h := by
  simp only [XI.sem, binS, withO_run hx, withO_run hy]; exact bits64 ha hb
theorem xor_sem {a b : Nat} (ha : a < 2 ^ 64) (hb : b < 2 ^ 64) (hx : x.val tm = some (.int .u64 (.ofNat a))) (hy : y.val tm = some (.int .u64 (.ofNat b))) : (XI.bin .xor x y).sem tm h = .ok (.int .u64 (.ofNat (Nat.xor a b))) h := by
  simp only [XI.sem, binS, withO_run hx, withO_run hy]; exact bits64 ha hb
theorem shl_sem {k : IntKind} {a b : Nat} (hb : b < 64) (hx : x.val tm = some (.int .u64 (.ofNat a))) (hy : y.val tm = some (.int k (.ofNat b))) : (XI.bin .shl x y).sem tm h = .ok (.int .u64 (.ofNat (a * 2 ^ b % 18446744073709551616))) h := by
  have h1 : Nat.blt b IntKind.u64.bits = true := blt_of hb
  simp only [XI.sem, binS, withO_run hx, withO_run hy, binVV, shlI, h1]; rfl
theorem shr_sem {k : IntKind} {a b : Nat} (hb : b < 64) (hx : x.val tm = some (.int .u64 (.ofNat a))) (hy : y.val tm = some (.int k (.ofNat b))) : (XI.bin .shr x y).sem tm h = .ok (.int .u64 (.ofNat (a / 2 ^ b))) h := by
  have h1 : Nat.blt b IntKind.u64.bits = true := blt_of hb
  simp only [XI.sem, binS, withO_run hx, withO_run hy, binVV, shrI, h1]; rfl
theorem conv8_sem {k : IntKind} {a : Nat} (hx : x.val tm = some (.int k (.ofNat a))) : (XI.conv .u8 x).sem tm h = .ok (.int .u8 (.ofNat (a % 256))) h := by
  simp only [XI.sem, convS, XO.withI, withO_run hx]; rfl
theorem conv64_sem {k : IntKind} {a : Nat} (ha : a < 18446744073709551616) (hx : x.val tm = some (.int k (.ofNat a))) : (XI.conv .u64 x).sem tm h = .ok (.int .u64 (.ofNat a)) h := by
  simp only [XI.sem, convS, XO.withI, withO_run hx]
  show okI .u64 (.ofNat (a % 18446744073709551616)) h = _
  rw [Nat.mod_eq_of_lt ha]; rfl
theorem convI_sem {k : IntKind} {a : Nat} (ha : a < 9223372036854775808) (hx : x.val tm = some (.int k (.ofNat a))) : (XI.conv .i64 x).sem tm h = .ok (.int .i64 (.ofNat a)) h := by
  simp only [XI.sem, convS, XO.withI, withO_run hx]
  have : wrapF .i64 (.ofNat a) = .ofNat a := w64 (by rw [ofNat_cast]; omega) (by rw [ofNat_cast]; omega)
  show okI .i64 (wrapF .i64 (.ofNat a)) h = _
  rw [this]; rfl
theorem iaddrA_sem {k : IntKind} {p : Pos} {o n esz j : Nat} (hj : j < n) (hx : x.val tm = some (.ptr p o)) (hy : y.val tm = some (.int k (.ofNat j))) : (XI.iaddrA n esz x y).sem tm h = .ok (.ptr p (o + j * esz)) h := by
  have h1 : Nat.blt j n = true := blt_of hj
  simp only [XI.sem, iaddrAS, withO_run hx, XO.withN, XO.withI, withO_run hy, h1, ptrAdd]
end
theorem leI_le {a b : Int} (h : leI a b = true) : a ≤ b := by rw [leI_eq] at h; exact of_decide_eq_true h
theorem leI_gt {a b : Int} (h : leI a b = false) : b < a := by rw [leI_eq] at h; have := of_decide_eq_false h; omega
theorem leI_T {a b : Int} (h : a ≤ b) : leI a b = true := by rw [leI_eq]; exact decide_eq_true h
theorem leI_F {a b : Int} (h : b < a) : leI a b = false := by rw [leI_eq]; exact decide_eq_false (by omega)
theorem ltI_F {a b : Int} (h : b ≤ a) : ltI a b = false := by rw [ltI_eq]; exact decide_eq_false (by omega)
/-! ### what tables say, for many arguments at once -/
def seekE : List Ent → List AV → Option AV
  | [], _ => none
  | e :: l, args => match AV.beqs e.args args with
    | true => (match e.exact, e.pre, e.post with | false, [], [] => some e.v | _, _, _ => none)
    | false => seekE l args
def seekV : Tab → Nat → List AV → Option AV
  | .leaf, _, _ => none
  | .node key es l r, i, args => match Nat.beq i key with
    | true => seekE es args
    | false => match Nat.ble i key with
      | true => seekV l i args
      | false => seekV r i args
theorem seekE_ok : ∀ {es : List Ent} {args : List AV} {v : AV}, seekE es args = some v → ∀ (h : Heap) (k : AV → Heap → R) (n : R), entsF es args h k n = k v h
  | e :: l, args, v, hf, h, k, n => by
    have e1 : entsF (e :: l) args h k n = entF e args h k (entsF l args h k n) := rfl
    rw [e1]
    obtain ⟨eargs, exact', n0, pre, post, n1, v'⟩ := e
    simp only [seekE] at hf
    have e2 : entF ⟨eargs, exact', n0, pre, post, n1, v'⟩ args h k (entsF l args h k n) = yes? (AV.beqs eargs args) (Bool.rec (motive := fun _ => R) (preF pre h (updF post h (k v')) (entsF l args h k n)) (posF n0 h (preF pre h (updF post h fun h => nextF n1 h (k v')) (entsF l args h k n)) (entsF l args h k n)) exact') (entsF l args h k n) := rfl
    rw [e2]
    cases hb : AV.beqs eargs args with
    | true =>
      rw [hb] at hf
      cases exact' <;> cases pre <;> cases post <;> simp only [reduceCtorEq, Option.some.injEq] at hf
      subst hf; rfl
    | false =>
      rw [hb] at hf
      exact seekE_ok hf h k n
theorem seekV_ok : ∀ {t : Tab} {i : Nat} {args : List AV} {v : AV}, seekV t i args = some v → ∀ (h : Heap) (k : AV → Heap → R) (n : R), tabF t i args h k n = k v h
  | .node key es l r, i, args, v, hf, h, k, n => by
    have e : tabF (.node key es l r) i args h k n = yes? (Nat.beq i key) (entsF es args h k n) (yes? (Nat.ble i key) (tabF l i args h k n) (tabF r i args h k n)) := rfl
    rw [e]
    simp only [seekV] at hf
    cases h1 : Nat.beq i key with
    | true => rw [h1] at hf; exact seekE_ok hf h k n
    | false =>
      rw [h1] at hf
      cases h2 : Nat.ble i key with
      | true => rw [h2] at hf; exact seekV_ok (t := l) hf h k n
      | false => rw [h2] at hf; exact seekV_ok (t := r) hf h k n
end Go.X

/- Fingerprints made bit by bit are those made byte by byte; what bytes are the bytes of a checkpoint. No program in sight. -/
namespace Go.X
open Go
def shift63 (f : Nat) : Nat := if f < 2 ^ 62 then 2 * f else (2 * f) ^^^ (2 ^ 63 + 3)
def bit63 (f c : Nat) : Nat := shift63 f ^^^ c
def bits63 (b : Nat) : Nat → Nat → Nat
  | 0, f => f
  | k + 1, f => bits63 b k (bit63 f (b / 2 ^ k % 2))
theorem add_xor {a b i : Nat} (h : b < 2 ^ i) : 2 ^ i * a + b = (2 ^ i * a) ^^^ b := by
  refine Nat.eq_of_testBit_eq fun j => ?_
  rw [Nat.testBit_two_pow_mul_add _ h, Nat.testBit_xor, Nat.testBit_two_pow_mul]
  by_cases hj : j < i
  · have : ¬ i ≤ j := by omega
    simp [hj, this]
  · have h1 : b.testBit j = false := Nat.testBit_lt_two_pow (Nat.lt_of_lt_of_le h (Nat.pow_le_pow_right (by omega) (by omega)))
    have : i ≤ j := by omega
    simp [hj, h1, this]
theorem two_xor (a b : Nat) : 2 * (a ^^^ b) = (2 * a) ^^^ (2 * b) := by
  have := Nat.shiftLeft_xor_distrib (a := a) (b := b) (i := 1)
  simpa [Nat.shiftLeft_eq, Nat.mul_comm] using this
theorem xor_small {x y k : Nat} (hx : x < 2 ^ k) (hy : y < 2 ^ k) : x ^^^ y < 2 ^ k := Nat.xor_lt_two_pow hx hy
theorem shift_form {h B T : Nat} (hh : h < 2) (hB : B < 2 ^ 62) (hT : T < 2 ^ 9) : shift63 ((2 ^ 62 * h + B) ^^^ T) = (2 * B) ^^^ (2 * T) ^^^ (3 * h) := by
  have e1 : (2 ^ 62 * h + B) ^^^ T = 2 ^ 62 * h + (B ^^^ T) := by
    rw [add_xor hB, add_xor (xor_small hB (Nat.lt_trans hT (by decide))), Nat.xor_assoc]
  have hBT : B ^^^ T < 2 ^ 62 := xor_small hB (Nat.lt_trans hT (by decide))
  rw [e1]
  rcases (by omega : h = 0 ∨ h = 1) with rfl | rfl
  · unfold shift63
    rw [if_pos (by omega)]
    simp only [Nat.mul_zero, Nat.zero_add, Nat.xor_zero]
    exact two_xor B T
  · unfold shift63
    rw [if_neg (by omega)]
    have e2 : 2 * (2 ^ 62 * 1 + (B ^^^ T)) = 2 ^ 63 * 1 + 2 * (B ^^^ T) := by omega
    have e3 : (2 ^ 63 + 3 : Nat) = 2 ^ 63 * 1 + 3 := by omega
    rw [e2, e3, add_xor (by omega : 2 * (B ^^^ T) < 2 ^ 63), add_xor (by omega : 3 < 2 ^ 63), two_xor]
    rw [show 3 * 1 = 3 from rfl]
    generalize (2 * B) ^^^ (2 * T) = c
    have : ∀ a b c : Nat, a ^^^ b ^^^ (a ^^^ c) = b ^^^ c := fun a b c => by
      rw [Nat.xor_assoc, ← Nat.xor_assoc b a c, Nat.xor_comm b a, Nat.xor_assoc a b c, ← Nat.xor_assoc a a, Nat.xor_self, Nat.zero_xor]
    exact this _ _ _
theorem even_bit {x c : Nat} (hc : c < 2) : (2 * x) ^^^ c = 2 * x + c := by
  have := add_xor (a := x) (b := c) (i := 1) (by omega)
  simpa using this.symm
def st63 (f b k : Nat) : Nat := (f % 2 ^ (63 - k) * 2 ^ k + b / 2 ^ (8 - k)) ^^^ (f / 2 ^ (63 - k) ^^^ (2 * (f / 2 ^ (63 - k))))
theorem st63_step {f b k : Nat} (hf : f < 2 ^ 63) (hb : b < 256) (hk : k < 8) : bit63 (st63 f b k) (b / 2 ^ (7 - k) % 2) = st63 f b (k + 1) := by
  -- the parts: f = (i * 2 + h) * m + r, with m = 2 ^ (62 - k)
  obtain ⟨m, hm⟩ : ∃ m, m = 2 ^ (62 - k) := ⟨_, rfl⟩
  have hm0 : 0 < m := by rw [hm]; exact Nat.two_pow_pos _
  have hm2 : 2 ^ (63 - k) = 2 * m := by rw [hm, ← Nat.pow_succ']; congr 1; omega
  have hmk : m * 2 ^ k = 2 ^ 62 := by rw [hm, ← Nat.pow_add]; congr 1; omega
  obtain ⟨i, hi⟩ : ∃ i, i = f / (2 * m) := ⟨_, rfl⟩
  obtain ⟨h, hh⟩ : ∃ h, h = f / m % 2 := ⟨_, rfl⟩
  obtain ⟨r, hr⟩ : ∃ r, r = f % m := ⟨_, rfl⟩
  have hh2 : h < 2 := by rw [hh]; exact Nat.mod_lt _ (by omega)
  have hrm : r < m := by rw [hr]; exact Nat.mod_lt _ hm0
  have e1 : f / m = 2 * i + h := by
    have : f / m / 2 = i := by rw [hi, Nat.div_div_eq_div_mul, Nat.mul_comm m 2]
    rw [hh, ← this]; omega
  have e2 : f % (2 * m) = m * h + r := by
    rw [hh, hr, Nat.mul_comm 2 m, Nat.mod_mul]; omega
  have hi9 : i < 2 ^ 8 := by
    rw [hi]
    refine Nat.div_lt_of_lt_mul (Nat.lt_of_lt_of_le hf ?_)
    rw [← hm2]
    calc 2 ^ 63 = 2 ^ (63 - k) * 2 ^ k := by rw [← Nat.pow_add]; congr 1; omega
      _ ≤ 2 ^ (63 - k) * 2 ^ 8 := Nat.mul_le_mul_left _ (Nat.pow_le_pow_right (by omega) (by omega))
  obtain ⟨w, hw⟩ : ∃ w, w = 2 ^ k := ⟨_, rfl⟩
  have hw0 : 0 < w := by rw [hw]; exact Nat.two_pow_pos _
  obtain ⟨c, hc⟩ : ∃ c, c = b / 2 ^ (8 - k) := ⟨_, rfl⟩
  have hcw : c < w := by
    rw [hc, hw]
    refine Nat.div_lt_of_lt_mul (Nat.lt_of_lt_of_le hb ?_)
    rw [← Nat.pow_add, show 8 - k + k = 8 by omega]
    decide
  obtain ⟨z, hz⟩ : ∃ z, z = b / 2 ^ (7 - k) % 2 := ⟨_, rfl⟩
  have hz2 : z < 2 := by rw [hz]; exact Nat.mod_lt _ (by omega)
  have e3 : b / 2 ^ (7 - k) = 2 * c + z := by
    have : b / 2 ^ (7 - k) / 2 = c := by rw [hc, Nat.div_div_eq_div_mul, ← Nat.pow_succ]; congr 2; omega
    rw [hz, ← this]; omega
  have hB : r * w + c < 2 ^ 62 := by
    rw [← hmk, ← hw]
    calc r * w + c < r * w + w := by omega
      _ = (r + 1) * w := by rw [Nat.succ_mul]
      _ ≤ m * w := Nat.mul_le_mul_right _ hrm
  have hT : i ^^^ (2 * i) < 2 ^ 9 := xor_small (by omega) (by omega)
  have hA : f % 2 ^ (63 - k) * 2 ^ k + b / 2 ^ (8 - k) = 2 ^ 62 * h + (r * w + c) := by
    rw [hm2, e2, ← hw, ← hc, ← hmk, ← hw, Nat.add_mul]
    have : m * h * w = m * w * h := by rw [Nat.mul_assoc, Nat.mul_comm h w, ← Nat.mul_assoc]
    omega
  have hS : st63 f b k = (2 ^ 62 * h + (r * w + c)) ^^^ (i ^^^ (2 * i)) := by
    unfold st63
    rw [hA, hm2, ← hi]
  have hS' : st63 f b (k + 1) = (2 * (r * w + c) + z) ^^^ ((2 * i + h) ^^^ (2 * (2 * i + h))) := by
    unfold st63
    rw [show 63 - (k + 1) = 62 - k by omega, show 8 - (k + 1) = 7 - k by omega, ← hm, ← hr, e1, e3, Nat.pow_succ, ← hw]
    congr 1
    rw [Nat.mul_add, ← Nat.mul_assoc r w 2, Nat.mul_comm (r * w) 2]; omega
  unfold bit63
  rw [hS, hS', ← hz, shift_form hh2 hB hT]
  have e4 : (2 * i + h) ^^^ (2 * (2 * i + h)) = (2 * (i ^^^ (2 * i))) ^^^ (3 * h) := by
    rw [← even_bit hh2, two_xor, two_xor]
    rcases (by omega : h = 0 ∨ h = 1) with rfl | rfl
    · simp
    · have : ∀ a b : Nat, a ^^^ 1 ^^^ (b ^^^ 2 * 1) = a ^^^ b ^^^ 3 * 1 := fun a b => by
        have h3 : (3 * 1 : Nat) = 1 ^^^ 2 := by decide
        rw [h3, show 2 * 1 = 2 from rfl]
        ac_rfl
      exact this _ _
  rw [e4, ← even_bit hz2]
  ac_rfl
theorem bits63_st {f b : Nat} (hf : f < 2 ^ 63) (hb : b < 256) : ∀ (j k : Nat), j + k = 8 → bits63 b j (st63 f b k) = st63 f b 8
  | 0, k, hk => by
    obtain rfl : k = 8 := by omega
    rfl
  | j + 1, k, hk => by
    have := st63_step hf hb (k := k) (by omega)
    rw [show 7 - k = j by omega] at this
    rw [bits63, this]
    exact bits63_st hf hb j (k + 1) (by omega)
theorem bits63_eq {f b : Nat} (hf : f < 2 ^ 63) (hb : b < 256) : bits63 b 8 f = fstep tbl63 f b := by
  have h0 : st63 f b 0 = f := by
    unfold st63
    simp only [Nat.sub_zero, Nat.pow_zero, Nat.mul_one]
    rw [Nat.mod_eq_of_lt hf, Nat.div_eq_of_lt hf, show b / 2 ^ 8 = 0 from Nat.div_eq_of_lt (by omega)]
    simp
  have h1 := bits63_st hf hb 8 0 rfl
  rw [h0] at h1
  rw [h1]
  unfold st63 fstep
  have hi : f / 2 ^ 55 < 256 := by omega
  have ht : tbl63.getD (f / 2 ^ 55) 0 = f / 2 ^ 55 ^^^ (2 * (f / 2 ^ 55)) := by
    unfold tbl63
    simp [List.getElem?_map, List.getElem?_range hi]
  rw [ht]
  simp
end Go.X

/- What bytes are the bytes of a checkpoint; disks, and what is loaded from them. No program in sight. -/
namespace Go.X
open Go
def beN (l : List Nat) : Nat := l.foldl (fun n b => n * 256 + b) 0
theorem beN_from : ∀ (l : List Nat) (n : Nat), l.foldl (fun n b => n * 256 + b) n = n * 256 ^ l.length + beN l
  | [], n => by simp [beN]
  | b :: l, n => by
    have h1 := beN_from l (n * 256 + b)
    have h2 := beN_from l (0 * 256 + b)
    simp only [beN, List.foldl_cons, List.length_cons] at *
    rw [h1, h2, Nat.pow_succ, Nat.zero_mul, Nat.zero_add, Nat.add_mul, Nat.mul_assoc n, Nat.mul_comm 256, Nat.add_assoc]
theorem beN_be : ∀ (k x : Nat), beN (be k x) = x % 256 ^ k
  | 0, x => by simp [be, beN, Nat.mod_one]
  | k + 1, x => by
    have h1 := beN_from (be k x) (0 * 256 + x / 256 ^ k % 256)
    simp only [be]
    have e : beN (x / 256 ^ k % 256 :: be k x) = (be k x).foldl (fun n b => n * 256 + b) (0 * 256 + x / 256 ^ k % 256) := rfl
    rw [e, h1, beN_be k x, be_len, Nat.pow_succ, Nat.mod_mul, Nat.zero_mul, Nat.zero_add, Nat.mul_comm (256 ^ k), Nat.add_comm]
theorem beN_lt : ∀ {l : List Nat}, (∀ b ∈ l, b < 256) → beN l < 256 ^ l.length
  | [], _ => by simp [beN]
  | b :: l, h => by
    have h1 := beN_from l (0 * 256 + b)
    have h2 := beN_lt (l := l) fun x m => h x (List.mem_cons_of_mem _ m)
    have h3 : b < 256 := h b List.mem_cons_self
    have e : beN (b :: l) = l.foldl (fun n b => n * 256 + b) (0 * 256 + b) := rfl
    rw [e, h1, List.length_cons, Nat.pow_succ, Nat.zero_mul, Nat.zero_add]
    calc b * 256 ^ l.length + beN l < b * 256 ^ l.length + 256 ^ l.length := by omega
      _ = (b + 1) * 256 ^ l.length := by rw [Nat.succ_mul]
      _ ≤ 256 * 256 ^ l.length := Nat.mul_le_mul_right _ (by omega)
      _ = 256 ^ l.length * 256 := Nat.mul_comm _ _
theorem beN_take_le (l : List Nat) (j : Nat) : beN (l.take j) ≤ beN l := by
  have h1 := beN_from (l.drop j) (beN (l.take j))
  have h2 : beN l = (l.drop j).foldl (fun n b => n * 256 + b) (beN (l.take j)) := by
    conv => lhs; rw [← List.take_append_drop j l]
    unfold beN; rw [List.foldl_append]
  rw [h2, h1]
  have : 0 < 256 ^ (l.drop j).length := Nat.pow_pos (by omega)
  calc beN (l.take j) = beN (l.take j) * 1 := (Nat.mul_one _).symm
    _ ≤ beN (l.take j) * 256 ^ (l.drop j).length := Nat.mul_le_mul_left _ this
    _ ≤ _ := Nat.le_add_right _ _
/-! ### checkpoints -/
def okG (g : Nat) (p : List Nat) : Prop := 1 ≤ g ∧ g ≤ 1000000000 ∧ p.length ≤ 90000
instance (g : Nat) (p : List Nat) : Decidable (okG g p) := by unfold okG; infer_instance
def unG (l : List Nat) : Nat := beN ((l.drop 3).take 8)
def unL (l : List Nat) : List Nat := (l.take (l.length - 8)).drop 19
def isF (fp : List Nat → Nat) (l : List Nat) : Prop := 27 ≤ l.length ∧ okG (unG l) (unL l) ∧ l = frame fp (unG l) (unL l)
instance (fp : List Nat → Nat) (l : List Nat) : Decidable (isF fp l) := by unfold isF; infer_instance
section
variable {fp : List Nat → Nat} {l p : List Nat} {g : Nat}
theorem frame_parts (hg : g < 256 ^ 8) (hp : p.length < 256 ^ 8) (e : l = frame fp g p) : l.take 3 = [70, 71, 67] ∧ l.length = p.length + 27 ∧ unG l = g ∧ beN ((l.drop 11).take 8) = p.length ∧ unL l = p := by
  have e1 : l = [70, 71, 67] ++ (be 8 g ++ (be 8 p.length ++ (p ++ be 8 (fp (fbody g p))))) := by rw [e]; simp [frame, fbody]
  have e2 : l = ([70, 71, 67] ++ be 8 g) ++ (be 8 p.length ++ (p ++ be 8 (fp (fbody g p)))) := by rw [e]; simp [frame, fbody]
  have e3 : l = (([70, 71, 67] ++ be 8 g ++ be 8 p.length) ++ p) ++ be 8 (fp (fbody g p)) := by rw [e]; simp [frame, fbody]
  have hl : l.length = p.length + 27 := by rw [e, frame_len]; omega
  refine ⟨by rw [e1]; rfl, hl, ?_, ?_, ?_⟩
  · have h1 : l.drop 3 = be 8 g ++ (be 8 p.length ++ (p ++ be 8 (fp (fbody g p)))) := by rw [e1]; rfl
    have h2 : ∀ r, (be 8 g ++ r).take 8 = be 8 g := fun r => List.take_left' (be_len 8 g)
    unfold unG
    rw [h1, h2, beN_be, Nat.mod_eq_of_lt hg]
  · have h0 : ([70, 71, 67] ++ be 8 g).length = 11 := by simp [be_len]
    have h1 : l.drop 11 = be 8 p.length ++ (p ++ be 8 (fp (fbody g p))) := by rw [e2, ← h0, List.drop_left]
    have h2 : ∀ r, (be 8 p.length ++ r).take 8 = be 8 p.length := fun r => List.take_left' (be_len 8 _)
    rw [h1, h2, beN_be, Nat.mod_eq_of_lt hp]
  · have h0 : (([70, 71, 67] ++ be 8 g ++ be 8 p.length) ++ p).length = l.length - 8 := by rw [hl]; simp [be_len]; omega
    have h1 : l.take (l.length - 8) = ([70, 71, 67] ++ be 8 g ++ be 8 p.length) ++ p := by
      conv => lhs; rw [← h0]
      conv => lhs; rw [e3]
      rw [List.take_left]
    have h2 : ([70, 71, 67] ++ be 8 g ++ be 8 p.length).length = 19 := by simp [be_len]
    unfold unL
    rw [h1, ← h2, List.drop_left]
theorem isF_parts (h : isF fp l) : l.take 3 = [70, 71, 67] ∧ beN ((l.drop 11).take 8) = l.length - 27 ∧ l.length ≤ 90027 := by
  obtain ⟨_, hok, e⟩ := h
  have h1 : unG l ≤ 1000000000 := hok.2.1
  have h2 : (unL l).length ≤ 90000 := hok.2.2
  obtain ⟨h3, h4, _, h6, _⟩ := frame_parts (fp := fp) (by omega) (by omega) e
  exact ⟨h3, by omega, by omega⟩
theorem unL_len : (unL l).length = l.length - 27 := by simp [unL]; omega
end
def unZ (fp : List Nat → Nat) (l : List Nat) : Int := if isF fp l then .ofNat (unG l) else 0
def unQ (fp : List Nat → Nat) (l : List Nat) : List Nat := if isF fp l then unL l else []
def unE (fp : List Nat → Nat) (l : List Nat) : Int := if isF fp l then 0 else 372
def okF (z : Int) (p : List Nat) : Prop := 1 ≤ z ∧ z ≤ 1000000000 ∧ p.length ≤ 90000
instance (z : Int) (p : List Nat) : Decidable (okF z p) := by unfold okF; infer_instance
def frE (z : Int) (p : List Nat) : Int := if okF z p then 0 else 1
def frL (fp : List Nat → Nat) (z : Int) (p : List Nat) : List Nat := if okF z p then frame fp z.toNat p else []
theorem okF_nat {g : Nat} {p : List Nat} : okF (.ofNat g) p ↔ okG g p := by unfold okF okG; rw [ofNat_cast]; omega
/-! ### disks -/
structure FV where
  name : List Nat
  b : List Nat
  nl : Bool
  fu : Bool
def FV.sl (f : FV) : AV := slAV f.nl f.fu f.b.length (avBytes f.b)
def FV.cells (f : FV) : List AV := [.str f.name, f.sl]
theorem FV.len (f : FV) : f.cells.length = 2 := rfl
def FV.ok (f : FV) : Prop := (∀ c ∈ f.name, c < 256) ∧ (∀ c ∈ f.b, c < 256) ∧ f.name.length ≤ maxN ∧ f.b.length ≤ maxN
def okC (c : Nat) : Bool := Nat.ble 33 c && Nat.ble c 126
def isNm (s : List Nat) : Prop := 1 ≤ s.length ∧ s.length ≤ 40 ∧ s.all okC = true
instance (s : List Nat) : Decidable (isNm s) := by unfold isNm; infer_instance
def okAt (fs : List FV) (i : Nat) : Prop := ∀ hi : i < fs.length, isNm fs[i].name ∧ fs[i].b.length ≤ 400000 ∧ (i = 0 ∨ ltN fs[i - 1].name fs[i].name = true)
def okD (fs : List FV) : Prop := fs.length ≤ 100 ∧ ∀ i, i < fs.length → okAt fs i
theorem ltN_trans : ∀ {a b c : List Nat}, ltN a b = true → ltN b c = true → ltN a c = true
  | _, [], _, h, _ => by simp [ltN] at h
  | _, _ :: _, [], _, h => by simp [ltN] at h
  | [], _ :: _, _ :: _, _, _ => rfl
  | x :: a, y :: b, z :: c, h1, h2 => by
    simp only [ltN] at *
    cases hxy : Nat.blt x y with
    | true =>
      have : x < y := by rw [Nat.blt_eq] at hxy; exact hxy
      cases hyz : Nat.blt y z with
      | true =>
        have h3 : y < z := by rw [Nat.blt_eq] at hyz; exact hyz
        have : Nat.blt x z = true := blt_of (by omega)
        rw [this]
      | false =>
        rw [hyz] at h2
        cases he : Nat.beq y z with
        | false => rw [he] at h2; simp at h2
        | true =>
          obtain rfl := Nat.eq_of_beq_eq_true he
          rw [hxy]
    | false =>
      rw [hxy] at h1
      cases he : Nat.beq x y with
      | false => rw [he] at h1; simp at h1
      | true =>
        obtain rfl := Nat.eq_of_beq_eq_true he
        rw [he] at h1
        simp only at h1
        cases hyz : Nat.blt x z with
        | true => rfl
        | false =>
          rw [hyz] at h2
          cases he2 : Nat.beq x z with
          | false => rw [he2] at h2; simp at h2
          | true =>
            rw [he2] at h2
            exact ltN_trans h1 h2
theorem okD_lt {fs : List FV} (h : okD fs) : fs.Pairwise fun a b => ltN a.name b.name = true := by
  rw [List.pairwise_iff_getElem]
  intro i j hi hj hij
  induction j with
  | zero => omega
  | succ j ih =>
    have h1 := (h.2 (j + 1) hj hj).2.2
    rcases h1 with h1 | h1
    · omega
    · simp only [Nat.add_sub_cancel] at h1
      rcases Nat.lt_or_ge i j with h2 | h2
      · exact ltN_trans (ih (by omega) h2) h1
      · obtain rfl : i = j := by omega
        exact h1
/-! ### loading -/
def c0 : List Nat := [99, 107, 112, 116, 45, 48]
def c1 : List Nat := [99, 107, 112, 116, 45, 49]
def nameOf (g : Nat) : List Nat := if g % 2 = 0 then c0 else c1
def ldI (fp : List Nat → Nat) (i : Nat) (o : Option FV) (st : Nat × List Nat) : Nat × List Nat := match o with
  | none => st
  | some f => if isF fp f.b ∧ unG f.b % 2 = i ∧ st.1 < unG f.b then (unG f.b, unL f.b) else st
def ldR (fp : List Nat → Nat) (st : Nat × List Nat) (f : FV) : Nat × List Nat := if isF fp f.b ∧ f.name = nameOf (unG f.b) ∧ st.1 < unG f.b then (unG f.b, unL f.b) else st
def named (nm : List Nat) (f : FV) : Bool := beqN nm f.name
def ld (fp : List Nat → Nat) (fs : List FV) : Nat × List Nat := ldI fp 1 (fs.find? (named c1)) (ldI fp 0 (fs.find? (named c0)) (0, []))
theorem c01 : ltN c0 c1 = true := rfl
theorem nameOf_in (g : Nat) : (nameOf g = c0 ∧ g % 2 = 0) ∨ (nameOf g = c1 ∧ g % 2 = 1) := by
  unfold nameOf
  by_cases h : g % 2 = 0
  · exact .inl ⟨if_pos h, h⟩
  · exact .inr ⟨if_neg h, by omega⟩
theorem c01_ne : c0 ≠ c1 := by decide
theorem none_of {nm : List Nat} {fs : List FV} (h : ∀ f ∈ fs, f.name ≠ nm) : fs.find? (named nm) = none := by
  rw [List.find?_eq_none]
  intro f m
  simp only [named, beqN_eq, decide_eq_true_eq]
  exact fun e => h f m e.symm
theorem ldR_other {fp : List Nat → Nat} {st : Nat × List Nat} {f : FV} (h0 : f.name ≠ c0) (h1 : f.name ≠ c1) : ldR fp st f = st := by
  unfold ldR
  rw [if_neg]
  rintro ⟨_, h, _⟩
  rcases nameOf_in (unG f.b) with ⟨e, _⟩ | ⟨e, _⟩
  · exact h0 (h.trans e)
  · exact h1 (h.trans e)
theorem fold_none {fp : List Nat → Nat} : ∀ {fs : List FV} {st : Nat × List Nat}, (∀ f ∈ fs, f.name ≠ c0 ∧ f.name ≠ c1) → fs.foldl (ldR fp) st = st
  | [], _, _ => rfl
  | f :: fs, st, h => by
    rw [List.foldl_cons, ldR_other (h f List.mem_cons_self).1 (h f List.mem_cons_self).2]
    exact fold_none fun g m => h g (List.mem_cons_of_mem _ m)
theorem ltN_ne {a b : List Nat} (h : ltN a b = true) : b ≠ a := fun e => by subst e; rw [ltN_refl] at h; simp at h
theorem fold_ld {fp : List Nat → Nat} : ∀ {fs : List FV} (st : Nat × List Nat), fs.Pairwise (fun a b => ltN a.name b.name = true) → fs.foldl (ldR fp) st = ldI fp 1 (fs.find? (named c1)) (ldI fp 0 (fs.find? (named c0)) st)
  | [], _, _ => rfl
  | f :: fs, st, h => by
    obtain ⟨hf, hr⟩ := List.pairwise_cons.1 h
    rw [List.foldl_cons]
    by_cases h0 : f.name = c0
    · have e1 : (f :: fs).find? (named c0) = some f := List.find?_cons_of_pos (by simp [named, h0, beqN_refl])
      have e2 : (f :: fs).find? (named c1) = fs.find? (named c1) := List.find?_cons_of_neg (by simp [named, beqN_eq, h0, c01_ne.symm])
      have e3 : fs.find? (named c0) = none := none_of fun g m => by have := hf g m; rw [h0] at this; exact ltN_ne this
      rw [e1, e2, fold_ld _ hr, e3]
      congr 1
      simp only [ldI, ldR, h0]
      have : c0 = nameOf (unG f.b) ↔ unG f.b % 2 = 0 := by
        rcases nameOf_in (unG f.b) with ⟨e, e'⟩ | ⟨e, e'⟩
        · simp [e, e']
        · simp [e, e', c01_ne]
      simp only [this]
    · have e1 : (f :: fs).find? (named c0) = fs.find? (named c0) := List.find?_cons_of_neg (by simp [named, beqN_eq, Ne.symm h0])
      by_cases h1 : f.name = c1
      · have e2 : (f :: fs).find? (named c1) = some f := List.find?_cons_of_pos (by simp [named, h1, beqN_refl])
        have hn : ∀ g ∈ fs, g.name ≠ c0 ∧ g.name ≠ c1 := fun g m => by
          have := hf g m; rw [h1] at this
          exact ⟨ltN_ne (ltN_trans c01 this), ltN_ne this⟩
        rw [e1, e2, none_of fun g m => (hn g m).1, fold_none hn]
        simp only [ldI, ldR, h1]
        have : c1 = nameOf (unG f.b) ↔ unG f.b % 2 = 1 := by
          rcases nameOf_in (unG f.b) with ⟨e, e'⟩ | ⟨e, e'⟩
          · simp [e, e', c01_ne.symm]
          · simp [e, e']
        simp only [this]
        rfl
      · have e2 : (f :: fs).find? (named c1) = fs.find? (named c1) := List.find?_cons_of_neg (by simp [named, beqN_eq, Ne.symm h1])
        rw [e1, e2, ldR_other h0 h1]
        exact fold_ld st hr
theorem ld_eq {fp : List Nat → Nat} {fs : List FV} (h : okD fs) : fs.foldl (ldR fp) (0, []) = ld fp fs := fold_ld _ (okD_lt h)
/-! What Load returns. -/
open Classical in
noncomputable def ldZ (fp : List Nat → Nat) (fs : List FV) : Int := if okD fs then .ofNat (ld fp fs).1 else 0
open Classical in
noncomputable def ldQ (fp : List Nat → Nat) (fs : List FV) : List Nat := if okD fs then (if (ld fp fs).1 = 0 then [] else (ld fp fs).2) else []
open Classical in
noncomputable def ldE (fp : List Nat → Nat) (fs : List FV) : Int := if okD fs then (if (ld fp fs).1 = 0 then 3 else 0) else 370
/-! ### a disk as a map -/
def ents : List FV → Nat → List (AV × AV × Nat)
  | [], _ => []
  | f :: fs, c => (.str f.name, f.sl, c) :: ents fs (c + 1)
theorem ents_app : ∀ (a b : List FV) (c : Nat), ents (a ++ b) c = ents a c ++ ents b (c + a.length)
  | [], _, _ => by simp [ents]
  | f :: a, b, c => by
    have e : c + 1 + a.length = c + (a.length + 1) := by omega
    simp only [List.cons_append, ents, ents_app a b (c + 1), List.length_cons, e]
theorem findE_ents {nm : List Nat} : ∀ (fs : List FV) (c i : Nat), (findE (.str nm) (ents fs c) i).map (·.map (·.2)) = some ((fs.find? (named nm)).map FV.sl)
  | [], _, _ => rfl
  | f :: fs, c, i => by
    simp only [ents, findE, keyIs]
    cases hb : beqN nm f.name with
    | true =>
      have : (f :: fs).find? (named nm) = some f := List.find?_cons_of_pos hb
      rw [this]; rfl
    | false =>
      have : (f :: fs).find? (named nm) = fs.find? (named nm) := List.find?_cons_of_neg (by simp [named, hb])
      rw [this]
      exact findE_ents fs (c + 1) (i + 1)
theorem findE_none {nm : List Nat} {fs : List FV} (h : fs.find? (named nm) = none) (c i : Nat) : findE (.str nm) (ents fs c) i = some none := by
  have := findE_ents (nm := nm) fs c i
  rw [h] at this
  cases hf : findE (.str nm) (ents fs c) i with
  | none => rw [hf] at this; simp at this
  | some o => cases o with
    | none => rfl
    | some x => rw [hf] at this; simp at this
theorem findE_some {nm : List Nat} {fs : List FV} {f : FV} (h : fs.find? (named nm) = some f) (c i : Nat) : ∃ j, findE (.str nm) (ents fs c) i = some (some (j, f.sl)) := by
  have := findE_ents (nm := nm) fs c i
  rw [h] at this
  cases hf : findE (.str nm) (ents fs c) i with
  | none => rw [hf] at this; simp at this
  | some o => cases o with
    | none => rw [hf] at this; simp at this
    | some x =>
      rw [hf] at this
      simp only [Option.map_some, Option.some.injEq] at this
      exact ⟨x.1, by rw [← this]⟩
end Go.X
