/- The bytes of checkpoints: what they are, and that torn ones are none. No program in sight. -/
import Derived.Test.YtmnbopcehmcaeaaGreatDoorTCpWp
namespace Go.X
open Go
def be : Nat → Nat → List Nat
  | 0, _ => []
  | n + 1, x => x / 256 ^ n % 256 :: be n x
theorem be_len : ∀ n x, (be n x).length = n
  | 0, _ => rfl
  | n + 1, x => by simp [be, be_len n x]
theorem be_lt : ∀ {n x : Nat}, ∀ b ∈ be n x, b < 256
  | n + 1, x, b, h => by
    rcases List.mem_cons.1 h with rfl | h
    · exact Nat.mod_lt _ (by omega)
    · exact be_lt b h
theorem be_mod : ∀ {n x y : Nat}, be n x = be n y → x % 256 ^ n = y % 256 ^ n
  | 0, x, y, _ => by simp [Nat.mod_one]
  | n + 1, x, y, h => by
    simp only [be, List.cons.injEq] at h
    have ih := be_mod h.2
    have e : ∀ z : Nat, z % 256 ^ (n + 1) = z / 256 ^ n % 256 * 256 ^ n + z % 256 ^ n := fun z => by
      rw [Nat.pow_succ, Nat.mod_mul]; rw [Nat.mul_comm, Nat.add_comm]
    rw [e x, e y, h.1, ih]
theorem be_inj {x y : Nat} (hx : x < 256 ^ 8) (hy : y < 256 ^ 8) (h : be 8 x = be 8 y) : x = y := by
  have := be_mod h
  rwa [Nat.mod_eq_of_lt hx, Nat.mod_eq_of_lt hy] at this
section
variable (fp : List Nat → Nat)
def fbody (g : Nat) (p : List Nat) : List Nat := [70, 71, 67] ++ be 8 g ++ be 8 p.length ++ p
def frame (g : Nat) (p : List Nat) : List Nat := fbody g p ++ be 8 (fp (fbody g p))
theorem fbody_len (g : Nat) (p : List Nat) : (fbody g p).length = 19 + p.length := by simp [fbody, be_len]; omega
theorem frame_len (g : Nat) (p : List Nat) : (frame fp g p).length = 27 + p.length := by simp [frame, fbody_len, be_len]; omega
theorem fbody_inj {g g' : Nat} {p p' : List Nat} (hg : g < 256 ^ 8) (hg' : g' < 256 ^ 8) (h : fbody g p = fbody g' p') : g = g' ∧ p = p' := by
  simp only [fbody, List.append_assoc] at h
  have h1 := List.append_cancel_left h
  obtain ⟨h2, h3⟩ := List.append_inj h1 (by rw [be_len, be_len])
  obtain ⟨_, h5⟩ := List.append_inj h3 (by rw [be_len, be_len])
  exact ⟨be_inj hg hg' h2, h5⟩
theorem take19 (g : Nat) (p r : List Nat) : (fbody g p ++ r).take 19 = [70, 71, 67] ++ be 8 g ++ be 8 p.length := by
  have : fbody g p ++ r = ([70, 71, 67] ++ be 8 g ++ be 8 p.length) ++ (p ++ r) := by simp [fbody]
  rw [this]
  have hl : ([70, 71, 67] ++ be 8 g ++ be 8 p.length).length = 19 := by simp [be_len]
  rw [← hl, List.take_left]
theorem head_inj {g g' : Nat} {p p' : List Nat} (hg : g < 256 ^ 8) (hg' : g' < 256 ^ 8) (hp : p.length < 256 ^ 8) (hp' : p'.length < 256 ^ 8) (h : [70, 71, 67] ++ be 8 g ++ be 8 p.length = [70, 71, 67] ++ be 8 g' ++ be 8 p'.length) : g = g' ∧ p.length = p'.length := by
  simp only [List.append_assoc] at h
  have h1 := List.append_cancel_left h
  obtain ⟨h2, h3⟩ := List.append_inj h1 (by rw [be_len, be_len])
  exact ⟨be_inj hg hg' h2, be_inj hp hp' h3⟩
theorem prefix_len {g g' : Nat} {p p' r : List Nat} (hg : g < 256 ^ 8) (hg' : g' < 256 ^ 8) (hp : p.length < 256 ^ 8) (hp' : p'.length < 256 ^ 8) (h : frame fp g p = frame fp g' p' ++ r) : r = [] := by
  have h1 := congrArg (List.take 19) h
  rw [frame, frame, List.append_assoc (fbody g' p'), take19, take19] at h1
  obtain ⟨_, h3⟩ := head_inj hg hg' hp hp' h1
  have h4 := congrArg List.length h
  rw [List.length_append, frame_len, frame_len] at h4
  exact List.eq_nil_of_length_eq_zero (by omega)
theorem frame_inj {g g' : Nat} {p p' : List Nat} (hg : g < 256 ^ 8) (hg' : g' < 256 ^ 8) (hp : p.length < 256 ^ 8) (hp' : p'.length < 256 ^ 8) (h : frame fp g p = frame fp g' p') : g = g' ∧ p = p' := by
  have h1 := congrArg (List.take 19) h
  rw [frame, frame, take19, take19] at h1
  obtain ⟨_, h3⟩ := head_inj hg hg' hp hp' h1
  obtain ⟨h4, _⟩ := List.append_inj h (by rw [fbody_len, fbody_len, h3])
  exact fbody_inj hg hg' h4
theorem changed {g g' : Nat} {p p' : List Nat}
    (hfp : ∀ (a b : List Nat) (x y : Nat), x ≠ y → x < 256 → y < 256 → (∀ z ∈ a, z < 256) → (∀ z ∈ b, z < 256) → fp (a ++ x :: b) ≠ fp (a ++ y :: b)) (hlt : ∀ l, (∀ z ∈ l, z < 256) → fp l < 256 ^ 8) {i by' : Nat} (hi : i < (frame fp g p).length) (hb : ∀ b ∈ frame fp g p, b < 256) (hy : by' < 256) (hne : by' ≠ (frame fp g p)[i]) : frame fp g' p' ≠ (frame fp g p).set i by' := by
  intro h
  have hl := congrArg List.length h
  rw [List.length_set, frame_len, frame_len] at hl
  have hpl : p'.length = p.length := by omega
  have hbl : (fbody g' p').length = (fbody g p).length := by rw [fbody_len, fbody_len, hpl]
  have hbb : ∀ z ∈ fbody g p, z < 256 := fun z m => hb z (by unfold frame; exact List.mem_append_left _ m)
  by_cases hin : i < (fbody g p).length
  · -- within what is marked
    have e : (frame fp g p).set i by' = (fbody g p).set i by' ++ be 8 (fp (fbody g p)) := by unfold frame; exact List.set_append_left _ _ hin
    rw [e] at h
    obtain ⟨h1, h2⟩ := List.append_inj h (by rw [List.length_set, hbl])
    have hs : ∀ z ∈ (fbody g p).set i by', z < 256 := fun z m => by
      rcases List.mem_or_eq_of_mem_set m with m | rfl
      · exact hbb z m
      · exact hy
    have h3 := be_inj (hlt _ (by rw [h1]; exact hs)) (hlt _ hbb) h2
    have hx : (frame fp g p)[i] = (fbody g p)[i] := by unfold frame; exact List.getElem_append_left hin
    have e1 : fbody g p = (fbody g p).take i ++ (fbody g p)[i] :: (fbody g p).drop (i + 1) := by simp
    have e2 : (fbody g p).set i by' = (fbody g p).take i ++ by' :: (fbody g p).drop (i + 1) := List.set_eq_take_append_cons_drop.trans (if_pos hin)
    rw [h1, e2] at h3
    rw [hx] at hne
    conv at h3 => rhs; rw [e1]
    exact hfp _ _ by' (fbody g p)[i] hne hy (hbb _ (List.getElem_mem hin)) (fun z m => hbb z (List.mem_of_mem_take m)) (fun z m => hbb z (List.mem_of_mem_drop m)) h3
  · -- in the fingerprint
    have e : (frame fp g p).set i by' = fbody g p ++ (be 8 (fp (fbody g p))).set (i - (fbody g p).length) by' := by unfold frame; exact List.set_append_right _ _ (by omega)
    rw [e] at h
    obtain ⟨h1, h2⟩ := List.append_inj h hbl
    rw [h1] at h2
    have hj : i - (fbody g p).length < (be 8 (fp (fbody g p))).length := by unfold frame at hi; rw [List.length_append] at hi; omega
    have h3 : (be 8 (fp (fbody g p)))[i - (fbody g p).length] = by' := by
      have h4 : ∀ (l : List Nat) (k v : Nat) (hk : k < l.length), l = l.set k v → l[k] = v := fun l k v hk hh => by
        have := List.getElem_set_self (l := l) (i := k) (a := v) (by simpa using hk)
        rw [← this]; exact List.getElem_of_eq hh hk
      exact h4 _ _ _ hj h2
    have hx : (frame fp g p)[i] = (be 8 (fp (fbody g p)))[i - (fbody g p).length] := by unfold frame; exact List.getElem_append_right (by omega)
    rw [hx, h3] at hne
    exact hne rfl
end
/-! ### the fingerprint -/
def fstep (tbl : List Nat) (f b : Nat) : Nat := (f % 2 ^ 55 * 256 + b) ^^^ tbl.getD (f / 2 ^ 55) 0
def fpOf (tbl : List Nat) (l : List Nat) : Nat := l.foldl (fstep tbl) 1
structure TblOK (tbl : List Nat) : Prop where
  lt : ∀ i, i < 256 → tbl.getD i 0 < 2 ^ 63
  inj : ∀ i j, i < 256 → j < 256 → tbl.getD i 0 % 256 = tbl.getD j 0 % 256 → i = j
section
variable {tbl : List Nat} (T : TblOK tbl)
theorem xor_canL {a x y : Nat} (h : a ^^^ x = a ^^^ y) : x = y := by
  have := congrArg (a ^^^ ·) h
  simpa [← Nat.xor_assoc] using this
theorem xor_canR {a x y : Nat} (h : x ^^^ a = y ^^^ a) : x = y := by
  have := congrArg (· ^^^ a) h
  simpa [Nat.xor_assoc] using this
theorem xor_mod (a b k : Nat) : (a ^^^ b) % 2 ^ k = a % 2 ^ k ^^^ b % 2 ^ k := Nat.xor_mod_two_pow ..
include T
theorem fstep_lt {f b : Nat} (hf : f < 2 ^ 63) (hb : b < 256) : fstep tbl f b < 2 ^ 63 := by
  unfold fstep
  refine Nat.xor_lt_two_pow ?_ (T.lt _ (by omega))
  have : f % 2 ^ 55 < 2 ^ 55 := Nat.mod_lt _ (by omega)
  omega
theorem fstep_inj {f f' b : Nat} (hf : f < 2 ^ 63) (hf' : f' < 2 ^ 63) (hb : b < 256) (h : fstep tbl f b = fstep tbl f' b) : f = f' := by
  unfold fstep at h
  have h1 := congrArg (· % 2 ^ 8) h
  simp only [xor_mod] at h1
  have e : ∀ g : Nat, (g % 2 ^ 55 * 256 + b) % 2 ^ 8 = b := fun g => by omega
  rw [e, e] at h1
  have h2 : tbl.getD (f / 2 ^ 55) 0 % 256 = tbl.getD (f' / 2 ^ 55) 0 % 256 := xor_canL h1
  have h3 := T.inj _ _ (by omega) (by omega) h2
  rw [h3] at h
  have h4 : f % 2 ^ 55 * 256 + b = f' % 2 ^ 55 * 256 + b := xor_canR h
  omega
omit T in
theorem fstep_byte {f b b' : Nat} (h : fstep tbl f b = fstep tbl f b') : b = b' := by
  unfold fstep at h
  have h4 : f % 2 ^ 55 * 256 + b = f % 2 ^ 55 * 256 + b' := xor_canR h
  omega
theorem fold_lt : ∀ (l : List Nat) (f : Nat), f < 2 ^ 63 → (∀ b ∈ l, b < 256) → l.foldl (fstep tbl) f < 2 ^ 63
  | [], f, hf, _ => hf
  | b :: l, f, hf, hb => fold_lt l _ (fstep_lt T hf (hb b (by simp))) fun x hx => hb x (by simp [hx])
theorem fold_inj : ∀ (l : List Nat) (f f' : Nat), f < 2 ^ 63 → f' < 2 ^ 63 → (∀ b ∈ l, b < 256) → l.foldl (fstep tbl) f = l.foldl (fstep tbl) f' → f = f'
  | [], f, f', _, _, _, h => h
  | b :: l, f, f', hf, hf', hb, h => by
    have h0 := hb b (by simp)
    have := fold_inj l _ _ (fstep_lt T hf h0) (fstep_lt T hf' h0) (fun x hx => hb x (by simp [hx])) h
    exact fstep_inj T hf hf' h0 this
theorem fp_differs {a b : List Nat} {x y : Nat} (hne : x ≠ y) (hx : x < 256) (hy : y < 256) (ha : ∀ z ∈ a, z < 256) (hb : ∀ z ∈ b, z < 256) : fpOf tbl (a ++ x :: b) ≠ fpOf tbl (a ++ y :: b) := by
  intro h
  unfold fpOf at h
  rw [List.foldl_append, List.foldl_append, List.foldl_cons, List.foldl_cons] at h
  have hf := fold_lt T a 1 (by omega) ha
  have := fold_inj T b _ _ (fstep_lt T hf hx) (fstep_lt T hf hy) hb h
  exact hne (fstep_byte this)
theorem fp_lt {l : List Nat} (h : ∀ z ∈ l, z < 256) : fpOf tbl l < 256 ^ 8 := Nat.lt_of_lt_of_le (fold_lt T l 1 (by omega) h) (by omega)
omit T in
theorem fbody_byte {g : Nat} {p : List Nat} (hp : ∀ z ∈ p, z < 256) : ∀ z ∈ fbody g p, z < 256 := by
  intro z m
  simp only [fbody, List.mem_append, List.mem_cons, List.not_mem_nil, or_false] at m
  rcases m with (((rfl | rfl | rfl) | m) | m) | m
  · omega
  · omega
  · omega
  · exact be_lt z m
  · exact be_lt z m
  · exact hp z m
omit T in
theorem frame_byte {fp : List Nat → Nat} {g : Nat} {p : List Nat} (hp : ∀ z ∈ p, z < 256) : ∀ z ∈ frame fp g p, z < 256 := by
  intro z m
  rcases List.mem_append.1 m with m | m
  · exact fbody_byte hp z m
  · exact be_lt z m
def NoFrame (fp : List Nat → Nat) (l : List Nat) : Prop := ∀ (g : Nat) (p : List Nat), g < 256 ^ 8 → p.length < 256 ^ 8 → l ≠ frame fp g p
omit T in
theorem no_cut {fp : List Nat → Nat} {g : Nat} {p : List Nat} (hg : g < 256 ^ 8) (hp : p.length < 256 ^ 8) {i : Nat} (hi : i < (frame fp g p).length) : NoFrame fp ((frame fp g p).take i) := by
  intro g' p' hg' hp' h
  have e : frame fp g p = frame fp g' p' ++ (frame fp g p).drop i := by rw [← h, List.take_append_drop]
  have := congrArg List.length (prefix_len fp hg hg' hp hp' e)
  simp at this; omega
omit T in
theorem no_more {fp : List Nat → Nat} {g : Nat} {p r : List Nat} (hg : g < 256 ^ 8) (hp : p.length < 256 ^ 8) (hr : r ≠ []) : NoFrame fp (frame fp g p ++ r) := fun _ _ hg' hp' h =>
  hr (prefix_len fp hg' hg hp' hp h.symm)
theorem no_changed {g : Nat} {p : List Nat} (hb : ∀ z ∈ p, z < 256) {i y : Nat} (hi : i < (frame (fpOf tbl) g p).length) (hy : y < 256) (hne : y ≠ (frame (fpOf tbl) g p)[i]) : NoFrame (fpOf tbl) ((frame (fpOf tbl) g p).set i y) := fun _ _ _ _ h =>
  changed (fpOf tbl) (fun _ _ _ _ hne hx hy ha hb => fp_differs T hne hx hy ha hb) (fun _ h => fp_lt T h) hi (frame_byte hb) hy hne h.symm
end
/-! ### the table of the polynomial x^63 + x + 1 -/
def allUpto (f : Nat → Bool) : Nat → Bool
  | 0 => true
  | n + 1 => match f n with | true => allUpto f n | false => false
theorem allUpto_ok {f : Nat → Bool} : ∀ {n : Nat}, allUpto f n = true → ∀ i, i < n → f i = true
  | n + 1, h, i, hi => by
    simp only [allUpto] at h
    cases hf : f n with
    | false => rw [hf] at h; simp at h
    | true =>
      rw [hf] at h
      rcases Nat.lt_or_ge i n with h1 | h1
      · exact allUpto_ok h i h1
      · obtain rfl : i = n := by omega
        exact hf
def tbl63 : List Nat := (List.range 256).map fun i => i ^^^ (2 * i)
def inv63 (b : Nat) : Nat := (b ^^^ (2 * b) ^^^ (4 * b) ^^^ (8 * b) ^^^ (16 * b) ^^^ (32 * b) ^^^ (64 * b) ^^^ (128 * b)) % 256
theorem tbl63_lt : allUpto (fun i => Nat.blt (tbl63.getD i 0) 9223372036854775808) 256 = true := by decide +kernel
theorem tbl63_inv : allUpto (fun i => Nat.beq (inv63 (tbl63.getD i 0 % 256)) i) 256 = true := by decide +kernel
theorem tbl63_ok : TblOK tbl63 where
  lt := fun i hi => by
    have h1 : Nat.blt (tbl63.getD i 0) 9223372036854775808 = true := allUpto_ok tbl63_lt i hi
    exact Nat.lt_of_lt_of_le (Nat.le_of_ble_eq_true h1) (by omega)
  inj := fun i j hi hj h => by
    have h1 : Nat.beq (inv63 (tbl63.getD i 0 % 256)) i = true := allUpto_ok tbl63_inv i hi
    have h2 : Nat.beq (inv63 (tbl63.getD j 0 % 256)) j = true := allUpto_ok tbl63_inv j hj
    rw [h] at h1
    exact (Nat.eq_of_beq_eq_true h1).symm.trans (Nat.eq_of_beq_eq_true h2)
theorem tbl63_len : tbl63.length = 256 := by decide +kernel
end Go.X

/- Slices of bytes in memory: those of the caller, and those that are made; what appending, cutting and comparing them comes to. No program in sight. -/
namespace Go.X
open Go
theorem avB_len : ∀ l : List Nat, (avBytes l).length = l.length
  | [] => rfl
  | _ :: l => by simp [avBytes, avB_len l]
theorem avB_app : ∀ a b : List Nat, avBytes (a ++ b) = avBytes a ++ avBytes b
  | [], _ => rfl
  | _ :: a, b => by simp [avBytes, avB_app a b]
theorem avB_take : ∀ (n : Nat) (l : List Nat), (avBytes l).take n = avBytes (l.take n)
  | 0, _ => by simp [avBytes]
  | _ + 1, [] => by simp [avBytes]
  | n + 1, _ :: l => by simp [avBytes, avB_take n l]
theorem avB_drop : ∀ (n : Nat) (l : List Nat), (avBytes l).drop n = avBytes (l.drop n)
  | 0, _ => by simp
  | _ + 1, [] => by simp [avBytes]
  | n + 1, _ :: l => by simp [avBytes, avB_drop n l]
theorem avB_get : ∀ {l : List Nat} {j : Nat} (hj : j < l.length), (avBytes l)[j]? = some (.int .u8 (.ofNat l[j]))
  | _ :: _, 0, _ => rfl
  | _ :: l, j + 1, hj => by simp only [avBytes, List.getElem?_cons_succ, List.getElem_cons_succ]; exact avB_get (l := l) (by simpa using hj)
theorem bytesOf_av : ∀ {l : List Nat}, (∀ b ∈ l, b < 256) → bytesOf (avBytes l) = some l
  | [], _ => rfl
  | b :: l, h => by
    have h1 := bytesOf_av (l := l) fun x m => h x (by simp [m])
    have h2 : b % 256 = b := Nat.mod_eq_of_lt (h b (by simp))
    simp only [avBytes, bytesOf, h1, h2]
theorem dropE_of {α : Type} : ∀ {l : List α} {n : Nat}, n ≤ l.length → dropE n l = some (l.drop n)
  | l, 0, _ => by cases l <;> rfl
  | [], n + 1, h => by simp at h
  | x :: l, n + 1, h => by simp only [dropE, List.drop_succ_cons]; exact dropE_of (by simpa using h)
theorem takeE_of {α : Type} : ∀ {l : List α} {n : Nat}, n ≤ l.length → takeE n l = some (l.take n)
  | l, 0, _ => by cases l <;> rfl
  | [], n + 1, h => by simp at h
  | x :: l, n + 1, h => by simp only [takeE, takeE_of (l := l) (n := n) (by simpa using h), List.take_succ_cons]
theorem dropE_gt {α : Type} : ∀ {l : List α} {n : Nat}, l.length < n → dropE n l = none
  | _, 0, h => by omega
  | [], _ + 1, _ => rfl
  | _ :: l, n + 1, h => by simp only [dropE]; exact dropE_gt (by simpa using h)
theorem sub_of {α : Type} {l : List α} {o n : Nat} (h : o + n ≤ l.length) : sub l o n = some ((l.drop o).take n) := by
  unfold sub
  rw [dropE_of (by omega)]
  exact takeE_of (by simp; omega)
theorem beqN_eq : ∀ a b : List Nat, beqN a b = decide (a = b)
  | [], [] => by simp [beqN]
  | [], _ :: _ => by simp [beqN]
  | _ :: _, [] => by simp [beqN]
  | a :: x, b :: y => by
    simp only [beqN, beqN_eq x y]
    cases hb : Nat.beq a b with
    | true => have := Nat.eq_of_beq_eq_true hb; subst this; simp
    | false => have : a ≠ b := fun e => by subst e; simp at hb
               simp [this]
/-! ### slices -/
def capOK (n : Nat) : Cap → Prop
  | .ex c => n ≤ c
  | .up z => z = 1
def SV (L : List (Pos × AObj)) (v : AV) (l : List Nat) : Prop := ∃ p o cap ty cs sp, v = .slice p o l.length cap ∧ (p, AObj.row ty cs sp) ∈ L ∧ o + l.length ≤ cs.length ∧ (cs.drop o).take l.length = avBytes l ∧ capOK l.length cap
def BV (L : List (Pos × AObj)) (v : AV) (l : List Nat) : Prop := (v = .nilslice ∧ l = []) ∨ (∃ cs fu, v = .imm cs l.length fu ∧ l.length ≤ cs.length ∧ cs.take l.length = avBytes l) ∨ SV L v l
section
variable {E : XEnv} {d d1 d2 : Option Slot} {ops : List XOp} {Q : Tm → Heap → Prop} {tm : Tm} {h : Heap} {L L' : List (Pos × AObj)} {v w : AV} {l m : List Nat} {x y : XO}
theorem SV.mono (hs : SV L v l) (hm : ∀ x ∈ L, x ∈ L') : SV L' v l := by
  obtain ⟨p, o, cap, ty, cs, sp, h1, h2, h3⟩ := hs
  exact ⟨p, o, cap, ty, cs, sp, h1, hm _ h2, h3⟩
theorem BV.mono (hs : BV L v l) (hm : ∀ x ∈ L, x ∈ L') : BV L' v l := hs.imp id (·.imp id (·.mono hm))
theorem BV.sl {nl fu : Bool} : BV L (slAV nl fu l.length (avBytes l)) l := by
  rcases slAV_cases nl fu l.length (avBytes l) with ⟨h0, e⟩ | e
  · rw [e]; exact .inl ⟨rfl, List.eq_nil_of_length_eq_zero h0⟩
  · rw [e]; exact .inr (.inl ⟨_, _, rfl, by rw [avB_len]; omega, List.take_of_length_le (by rw [avB_len]; omega)⟩)
theorem SV.cons {x : Pos × AObj} (hs : SV L v l) : SV (x :: L) v l := hs.mono fun _ m => List.mem_cons_of_mem _ m
theorem BV.cons {x : Pos × AObj} (hs : BV L v l) : BV (x :: L) v l := hs.mono fun _ m => List.mem_cons_of_mem _ m
theorem SV.bv (hs : SV L v l) : BV L v l := .inr (.inr hs)
theorem BV.nil : BV L .nilslice [] := .inl ⟨rfl, rfl⟩
theorem srcOf_BV (H : Has h L) (hs : BV L v l) : srcOf 1 v h = some (l.length, avBytes l) := by
  rcases hs with ⟨rfl, rfl⟩ | ⟨cs, fu, rfl, hle, e⟩ | ⟨p, o, cap, ty, cs, sp, rfl, hm, hle, e, _⟩
  · rfl
  · have := takeE_of (l := cs) (n := l.length) hle
    simp only [srcOf, Nat.mul_one, this, e]
  · cases l with
    | nil => rfl
    | cons b l =>
      have hg := H.mem hm
      simp only [srcOf, List.length_cons]
      simp only at hg
      rw [hg]
      simp only [Nat.mul_one]
      rw [sub_of (by simpa using hle)]
      simp only [List.length_cons] at e
      rw [e]
theorem len_BV (hs : BV L v l) (hv : x.val tm = some v) : (XI.len false x).sem tm h = .ok (.int .i64 (.ofNat l.length)) h := by
  rcases hs with ⟨rfl, rfl⟩ | ⟨cs, fu, rfl, _⟩ | ⟨p, o, cap, ty, cs, sp, rfl, _⟩ <;> simp only [XI.sem, lenS, withO_run hv] <;> rfl
theorem toStr_BV (H : Has h L) (hs : BV L v l) (hb : ∀ b ∈ l, b < 256) (hv : x.val tm = some v) : (XI.toStr x).sem tm h = .ok (.str l) h := by
  have h1 := srcOf_BV H hs
  have h2 : ∀ l', v ≠ .str l' := by
    rcases hs with ⟨rfl, rfl⟩ | ⟨cs, fu, rfl, _⟩ | ⟨p, o, cap, ty, cs, sp, rfl, _⟩ <;> intro _ h <;> cases h
  simp only [XI.sem, toStrS, withO_run hv]
  cases v <;> first | exact (h2 _ rfl).elim | simp only [h1, bytesOf_av hb]
theorem strEq_sem {a b : List Nat} (hx : x.val tm = some (.str a)) (hy : y.val tm = some (.str b)) : (XI.bin .eq x y).sem tm h = .ok (.bool (decide (a = b))) h := by
  simp only [XI.sem, binS, withO_run hx, withO_run hy]
  show okB h (beqN a b) = _
  rw [beqN_eq]; rfl
theorem isnil_SV (hs : SV L v l) (hv : x.val tm = some v) : (XI.same false .slice x (.c .nilslice)).sem tm h = .ok (.bool false) h := by
  obtain ⟨p, o, cap, ty, cs, sp, rfl, _⟩ := hs
  simp only [XI.sem, sameS, withO_run hv]
  rfl
theorem wp_byte {dp : Slot} {i : XO} {k : IntKind} {j : Nat} (H : Has h L) (hs : BV L v l) (hj : j < l.length) (hv : x.val tm = some v) (hi : i.val tm = some (.int k (.ofNat j))) (hq : ∀ pv, wpOps E ops Q (putT d2 (.int .u8 (.ofNat l[j])) (putT (some dp) pv tm)) h) :
    wpOps E (⟨some dp, none, .ins (.iaddrS 1 x i)⟩ :: ⟨d2, none, .ins (.load none (.t dp))⟩ :: ops) Q tm h := by
  have hget : ∀ {pv : AV} {dp : Slot}, (XO.t dp).val (putT (some dp) pv tm) = some pv := fun {pv dp} => by
    show (tm.set dp pv).get dp = _
    exact TT.get_set_same ..
  rcases hs with ⟨rfl, rfl⟩ | ⟨cs, fu, rfl, hle, e⟩ | ⟨p, o, cap, ty, cs, sp, rfl, hm, hle, e, _⟩
  · simp at hj
  · have h1 : j < cs.length := by omega
    have h3 : cs[j] = .int .u8 (.ofNat l[j]) := by
      have h2 := avB_get hj
      rw [← e, List.getElem?_take_of_lt hj, List.getElem?_eq_getElem h1] at h2
      exact Option.some.inj h2
    have hd : dropE (j * 1) cs = some (AV.int .u8 (.ofNat l[j]) :: cs.drop (j + 1)) := by
      rw [Nat.mul_one, dropE_of (by omega), List.drop_eq_getElem_cons h1, h3]
    have hb : Nat.blt j l.length = true := blt_of hj
    refine oI (v := .iptr (AV.int .u8 (.ofNat l[j]) :: cs.drop (j + 1))) (h' := h) ?_ ?_
    · simp only [XI.sem, iaddrSS, withO_run hv, XO.withN, XO.withI, withO_run hi, hb, hd]
    refine oI (v := .int .u8 (.ofNat l[j])) (h' := h) ?_ (hq _)
    simp only [XI.sem, loadS, withO_run hget]
    rfl
  · refine oI (v := .ptr p (o + j * 1)) (h' := h) ?_ ?_
    · simp only [XI.sem, iaddrSS, withO_run hv, XO.withN, XO.withI, withO_run hi, blt_of hj]
    · refine oI (v := .int .u8 (.ofNat l[j])) (h' := h) ?_ (hq _)
      have hg := H.mem hm
      simp only at hg
      refine sem_load hget hg fun h => ?_
      have h1 : nth cs (o + j * 1) = some (.int .u8 (.ofNat l[j])) := by
        rw [nth_eq, Nat.mul_one]
        have h2 := avB_get hj
        rw [← e, List.getElem?_take_of_lt hj, List.getElem?_drop] at h2
        exact h2
      simp only [partOf, h1]
/-! ### cutting -/
def cutV (v : AV) (b e : Nat) : AV := match v with
  | .slice p o _ (.ex c) => .slice p (o + b * 1) (e - b) (.ex (c - b))
  | .slice p o _ (.up z) => .slice p (o + b * 1) (e - b) (.up z)
  | v => v
theorem cut_sem {lo hi : Option XO} {b e : Nat} (hs : SV L v l) (hv : x.val tm = some v) (hlo : ∀ k, withNo lo 0 tm k = k b) (hhi : ∀ k, withNo hi l.length tm k = k e) (hbe : b ≤ e) (he : e ≤ l.length) : (XI.cutSl 1 x lo hi none).sem tm h = .ok (cutV v b e) h := by
  obtain ⟨p, o, cap, ty, cs, sp, rfl, _, _, _, hc⟩ := hs
  have h1 : Nat.ble b e = true := Nat.ble_eq_true_of_le hbe
  cases cap with
  | ex c =>
    have h2 : Nat.ble e c = true := Nat.ble_eq_true_of_le (Nat.le_trans he hc)
    have h3 : Nat.ble c c = true := Nat.ble_eq_true_of_le (Nat.le_refl _)
    have hmx : ∀ k, withNo none c tm k = k c := fun _ => rfl
    simp only [XI.sem, cutSlS, withO_run hv]
    rw [hmx, hhi, hlo]
    simp only [h1, h2, h3, cutV]
  | up z =>
    obtain rfl : z = 1 := hc
    have h2 : Nat.ble e l.length = true := Nat.ble_eq_true_of_le he
    simp only [XI.sem, cutSlS, withO_run hv]
    rw [hhi, hlo]
    simp only [h1, h2, cutV]
    try rfl
theorem SV.cut {b e : Nat} (hs : SV L v l) (hbe : b ≤ e) (he : e ≤ l.length) : SV L (cutV v b e) ((l.take e).drop b) := by
  obtain ⟨p, o, cap, ty, cs, sp, rfl, hm, hle, hx, hc⟩ := hs
  have hlen : ((l.take e).drop b).length = e - b := by simp; omega
  have hcs : (cs.drop (o + b * 1)).take ((l.take e).drop b).length = avBytes ((l.take e).drop b) := by
    rw [hlen, Nat.mul_one, ← avB_drop, ← avB_take, ← hx]
    rw [List.take_take, Nat.min_eq_left he, List.drop_take, List.drop_drop]
  cases cap with
  | ex c =>
    refine ⟨p, o + b * 1, .ex (c - b), ty, cs, sp, by rw [hlen]; rfl, hm, by rw [hlen]; omega, hcs, ?_⟩
    have : l.length ≤ c := hc
    show _ ≤ c - b
    rw [hlen]; omega
  | up z => exact ⟨p, o + b * 1, .up z, ty, cs, sp, by rw [hlen]; rfl, hm, by rw [hlen]; omega, hcs, hc⟩
def cutB (v : AV) (b e : Nat) : AV := match v with
  | .imm cs n full => .imm (cs.drop b) (e - b) (match full with | true => Nat.beq e n | false => false)
  | v => cutV v b e
theorem BV.cut {b e : Nat} (hs : BV L v l) (hbe : b ≤ e) (he : e ≤ l.length) : BV L (cutB v b e) ((l.take e).drop b) := by
  rcases hs with ⟨rfl, rfl⟩ | ⟨cs, fu, rfl, hle, hx⟩ | hs
  · exact .inl ⟨rfl, by simp⟩
  · have hlen : ((l.take e).drop b).length = e - b := by simp; omega
    refine .inr (.inl ⟨cs.drop b, _, by rw [hlen]; rfl, by rw [hlen, List.length_drop]; omega, ?_⟩)
    rw [hlen, ← avB_drop, ← avB_take, ← hx, List.take_take, Nat.min_eq_left he, List.drop_take]
  · have hc : cutB v b e = cutV v b e := by obtain ⟨p, o, cap, ty, cs, sp, rfl, _⟩ := hs; rfl
    rw [hc]; exact (hs.cut hbe he).bv
theorem clip_sem {k : IntKind} {y z : XO} (hs : SV L v l) (hv : x.val tm = some v) (hy : y.val tm = some (.int k (.ofNat l.length))) (hz : z.val tm = some (.int k (.ofNat l.length))) : ∃ v', (XI.cutSl 1 x none (some y) (some z)).sem tm h = .ok v' h ∧ ∃ p o ty cs sp, v' = .slice p o l.length (.ex l.length) ∧ (p, AObj.row ty cs sp) ∈ L ∧ o + l.length ≤ cs.length ∧ (cs.drop o).take l.length = avBytes l := by
  obtain ⟨p, o, cap, ty, cs, sp, rfl, hm, hle, hx, hc⟩ := hs
  have h3 : Nat.ble l.length l.length = true := Nat.ble_eq_true_of_le (Nat.le_refl _)
  have h0 : Nat.ble 0 l.length = true := Nat.ble_eq_true_of_le (Nat.zero_le _)
  refine ⟨.slice p (o + 0 * 1) (l.length - 0) (.ex (l.length - 0)), ?_, p, o, ty, cs, sp, by simp, hm, hle, hx⟩
  cases cap with
  | ex c =>
    have h2 : Nat.ble l.length c = true := Nat.ble_eq_true_of_le hc
    simp only [XI.sem, cutSlS, withO_run hv, withNo, XO.withN, XO.withI, withO_run hy, withO_run hz, h0, h2, h3]
  | up z' =>
    obtain rfl : z' = 1 := hc
    simp only [XI.sem, cutSlS, withO_run hv, withNo, XO.withN, XO.withI, withO_run hy, withO_run hz, h0, h3]
    try rfl
theorem wp_clip {k : IntKind} {y z : XO} (hs : SV L v l) (hv : x.val tm = some v) (hy : y.val tm = some (.int k (.ofNat l.length))) (hz : z.val tm = some (.int k (.ofNat l.length)))
    (hq : ∀ v', (∃ p o ty cs sp, v' = .slice p o l.length (.ex l.length) ∧ (p, AObj.row ty cs sp) ∈ L ∧ o + l.length ≤ cs.length ∧ (cs.drop o).take l.length = avBytes l) → wpOps E ops Q (putT d v' tm) h) : wpOps E (⟨d, none, .ins (.cutSl 1 x none (some y) (some z))⟩ :: ops) Q tm h := by
  obtain ⟨v', h1, h2⟩ := clip_sem (h := h) hs hv hy hz
  exact oI h1 (hq v' h2)
/-! ### appending -/
def Gr1 (ty : TypeId) (h : Heap) (L : List (Pos × AObj)) (v : AV) (l : List Nat) : Prop := ∃ p, v = .slice p 0 l.length (.up 1) ∧ Has h ((p, .row ty (avBytes l) true) :: L)
theorem Gr1.has {ty : TypeId} (hg : Gr1 ty h L v l) : Has h L := by obtain ⟨p, _, H⟩ := hg; exact H.tail
theorem Gr1.sub {ty : TypeId} (hg : Gr1 ty h L v l) (s : L'.Sublist L) : Gr1 ty h L' v l := by obtain ⟨p, e, H⟩ := hg; exact ⟨p, e, H.sub (s.cons_cons _)⟩
def Gr (ty : TypeId) (h : Heap) (L : List (Pos × AObj)) (v : AV) (l : List Nat) : Prop :=
  Gr1 ty h L v l ∨ (Has h L ∧ ∃ M p o ty' cs sp, v = .slice p o l.length (.ex l.length) ∧ Has h M ∧ (p, AObj.row ty' cs sp) ∈ M ∧ o + l.length ≤ cs.length ∧ (cs.drop o).take l.length = avBytes l)
theorem Gr.has {ty : TypeId} (hg : Gr ty h L v l) : Has h L := by
  rcases hg with ⟨p, _, H⟩ | ⟨H, _⟩
  · exact H.tail
  · exact H
theorem Gr.sub {ty : TypeId} (hg : Gr ty h L v l) (s : L'.Sublist L) : Gr ty h L' v l := by
  rcases hg with ⟨p, e, H⟩ | ⟨H, h1⟩
  · exact .inl ⟨p, e, H.sub (s.cons_cons _)⟩
  · exact .inr ⟨H.sub s, h1⟩
theorem Gr.push {ty : TypeId} (hg : Gr ty h L v l) (o : AObj) : Gr ty (h.push o) ((h.next, o) :: L) v l := by
  rcases hg with ⟨p, e, H⟩ | ⟨H, M, p, o', ty', cs, sp, e, HM, hm, h1⟩
  · exact .inl ⟨p, e, (H.push o).swap⟩
  · exact .inr ⟨H.push o, _, p, o', ty', cs, sp, e, HM.push o, List.mem_cons_of_mem _ hm, h1⟩
theorem small1 {n : Nat} (h : n ≤ 1000000) : small n 1 = true := by unfold small; exact Nat.ble_eq_true_of_le (by omega)
theorem smallN1 {n : Nat} (h : n ≤ 1000000) : smallN n 1 = true := by unfold smallN; exact Nat.ble_eq_true_of_le (by omega)
theorem wp_app {ty : TypeId} (hg : Gr ty h L v l) (hw : srcOf 1 w h = some (m.length, avBytes m)) (hn : l.length + m.length ≤ 1000000) (hv : x.val tm = some v) (hy : y.val tm = some w) (hq : ∀ v' h', Gr ty h' L v' (l ++ m) → (m ≠ [] ∨ Gr1 ty h L v l → Gr1 ty h' L v' (l ++ m)) → (m = [] → v' = v ∧ h' = h) → wpOps E ops Q (putT d v' tm) h') :
    wpOps E (⟨d, none, .ins (.append ty 1 1 x y)⟩ :: ops) Q tm h := by
  have hsem : (XI.append ty 1 1 x y).sem tm h = appendTo ty 1 1 v m.length (avBytes m) h := by simp only [XI.sem, appendS, withO_run hv, withO_run hy, hw]
  have hs := small1 hn
  cases m with
  | nil =>
    refine oI (v := v) (h' := h) ?_ (hq v h (by rw [List.append_nil]; exact hg) (fun e => by rw [List.append_nil]; exact e.elim (fun e => (e rfl).elim) id) fun _ => ⟨rfl, rfl⟩)
    rw [hsem]
    rcases hg with ⟨p, rfl, H⟩ | ⟨H, M, p, o, ty', cs, sp, rfl, _⟩
    · rfl
    · have h2 : Nat.ble (l.length + 0) l.length = true := Nat.ble_eq_true_of_le (Nat.le_refl _)
      simp only [appendTo, List.length_nil, h2]
  | cons b m =>
    have fin : ∀ (h0 : Heap), Has h0 L → wpOps E ops Q (putT d (.slice h0.next 0 (l.length + (b :: m).length) (.up 1)) tm) (h0.push (.row ty (avBytes l ++ avBytes (b :: m)) true)) := fun h0 H0 => by
      have hp := H0.push (.row ty (avBytes l ++ avBytes (b :: m)) true)
      rw [← avB_app] at hp ⊢
      rw [← List.length_append]
      exact hq _ _ (.inl ⟨_, rfl, hp⟩) (fun _ => ⟨_, rfl, hp⟩) fun e => by simp at e
    rcases hg with ⟨p, rfl, H⟩ | ⟨H, M, p, o, ty', cs, sp, rfl, HM, hm, h1, h2⟩
    · have hgp : h.get p = .row ty (avBytes l) true := H.mem (x := (p, _)) (by simp)
      have hd : dropE (0 + (l.length + (b :: m).length) * 1) (avBytes l) = none := dropE_gt (by rw [avB_len]; simp)
      have hsb : sub (avBytes l) 0 (l.length * 1) = some (avBytes l) := by rw [sub_of (by rw [avB_len]; omega), List.drop_zero, List.take_of_length_le (by rw [avB_len]; omega)]
      have hset : Has (h.set p .dead) L := by
        have := (H.set (k := 0) rfl .dead).tail
        exact this
      have hb1 : Nat.beq ty ty = true := Nat.beq_refl _
      refine oI (h' := (h.set p .dead).push (.row ty (avBytes l ++ avBytes (b :: m)) true)) (v := .slice (h.set p .dead).next 0 (l.length + (b :: m).length) (.up 1)) ?_ (fin _ hset)
      rw [hsem]
      have hz : Nat.beq 1 1 = true := rfl
      have h0 : Nat.beq 1 0 = false := rfl
      simp only [List.length_cons] at hd hs ⊢
      simp only [appendTo, hgp, hz, hd, hs, h0, hb1, hsb, Heap.setK, Heap.pushK]
    · have hb : Nat.ble (l.length + (b :: m).length) l.length = false := by
        cases hc : Nat.ble (l.length + (b :: m).length) l.length with
        | false => rfl
        | true => have := Nat.le_of_ble_eq_true hc; simp at this; omega
      have hsv : BV M (.slice p o l.length (.ex l.length)) l := .inr <| .inr ⟨p, o, _, ty', cs, sp, rfl, hm, h1, h2, Nat.le_refl _⟩
      have hsr := srcOf_BV HM hsv
      refine oI (h' := h.push (.row ty (avBytes l ++ avBytes (b :: m)) true)) (v := .slice h.next 0 (l.length + (b :: m).length) (.up 1)) ?_ (fin _ H)
      rw [hsem]
      simp only [appendTo, hb, hs, hsr]
      rfl
theorem Gr.sv {ty : TypeId} (hg : Gr ty h L v l) : ∃ M, Has h M ∧ SV M v l ∧ Has h L ∧ ((∃ x, M = x :: L) ∨ True) := by
  rcases hg with ⟨p, rfl, H⟩ | ⟨H, M, p, o, ty', cs, sp, rfl, HM, hm, h1, h2⟩
  · exact ⟨_, H, ⟨p, 0, .up 1, ty, avBytes l, true, rfl, by simp, by rw [avB_len]; omega, by rw [List.drop_zero, List.take_of_length_le (by rw [avB_len]; omega)], rfl⟩, H.tail, .inr trivial⟩
  · exact ⟨M, HM, ⟨p, o, .ex l.length, ty', cs, sp, rfl, hm, h1, h2, Nat.le_refl _⟩, H, .inr trivial⟩
theorem wp_put1 {ty : TypeId} {dq : Slot} {z : AV} {b : Nat} (hg : Gr ty h L v l) (hn : l.length + 1 ≤ 1000000) (hx : ∀ qv, x.val (putT (some dq) qv tm) = some v) (hy : y.val tm = some (.int .u8 (.ofNat b))) (hq : ∀ v' h' qv, Gr1 ty h' L v' (l ++ [b]) → wpOps E ops Q (putT d v' (putT (some dq) qv tm)) h') :
    wpOps E (⟨some dq, none, .ins (.bslice ty 1 1 [z] [(0, 1, y)])⟩ :: ⟨d, none, .ins (.append ty 1 1 x (.t dq))⟩ :: ops) Q tm h := by
  have hget : ∀ {pv : AV}, (XO.t dq).val (putT (some dq) pv tm) = some pv := fun {pv} => by
    show (tm.set dq pv).get dq = _
    exact TT.get_set_same ..
  refine oI (v := .slice h.next 0 1 (.ex 1)) (h' := h.push (.row ty [.int .u8 (.ofNat b)] false)) ?_ ?_
  · simp only [XI.sem, bsliceS, fillK, withO_run hy]
    rfl
  · have h1 : srcOf 1 (.slice h.next 0 1 (.ex 1)) (h.push (.row ty [.int .u8 (.ofNat b)] false)) = some ([b].length, avBytes [b]) := by
      simp only [srcOf]
      rw [h.get_push_same]
      rfl
    exact wp_app (hg.push _) h1 hn (hx _) hget fun v' h' _ hg' _ => hq v' h' _ ((hg' (.inl (by simp))).sub (List.sublist_cons_self _ _))
theorem wp_mark {p : Pos} {o n k : Nat} {c : Cap} {ty : TypeId} {cs : List AV} {sp : Bool} (H : Has h L) (hv : x.val tm = some (.slice p o (n + 1) c)) (hk : L[k]? = some (p, .row ty cs sp)) (hq : ∀ h', Has h' L → wpOps E ops Q (putT d (.slice p o (n + 1) c) tm) h') : wpOps E (⟨d, none, .ins (.mark x)⟩ :: ops) Q tm h := by
  have hg := H.at k hk
  have H2 := H.set hk (.row ty cs sp)
  have e : L.set k (p, .row ty cs sp) = L := by
    obtain ⟨h1, h2⟩ := List.getElem?_eq_some_iff.1 hk
    rw [← h2]; exact List.set_getElem_self h1
  rw [e] at H2
  refine oI (h' := h.set p (.row ty cs sp)) ?_ (hq _ H2)
  simp only [XI.sem, markS, withO_run hv, markAt, hg, Heap.setK]
/-! ### numbers of 64 bits -/
theorem bits64 {f : Nat → Nat → Nat} {s : Int} {a b : Nat} (ha : a < 2 ^ 64) (hb : b < 2 ^ 64) : bitsI f s .u64 (.ofNat a) (.ofNat b) h = .ok (.int .u64 (.ofNat (f a b))) h := by
  have h1 : Nat.blt a 18446744073709551616 = true := blt_of ha
  have h2 : Nat.blt b 18446744073709551616 = true := blt_of hb
  cases h3 : Nat.blt a 9223372036854775808 <;> cases h4 : Nat.blt b 9223372036854775808 <;> simp only [bitsI, h1, h2, h3, h4] <;> rfl
theorem and_sem {a b : Nat} (ha : a < 2 ^ 64) (hb : b < 2 ^ 64) (hx : x.val tm = some (.int .u64 (.ofNat a))) (hy : y.val tm = some (.int .u64 (.ofNat b))) : (XI.bin .and x y).sem tm h = .ok (.int .u64 (.ofNat (Nat.land a b))) h := by
  simp only [XI.sem, binS, withO_run hx, withO_run hy]; exact bits64 ha hb
theorem or_sem {a b : Nat} (ha : a < 2 ^ 64) (hb : b < 2 ^ 64) (hx : x.val tm = some (.int .u64 (.ofNat a))) (hy : y.val tm = some (.int .u64 (.ofNat b))) : (XI.bin .or x y).sem tm h = .ok (.int .u64 (.ofNat (Nat.lor a b))) h := by
  simp only [XI.sem, binS, withO_run hx, withO_run hy]; exact bits64 ha hb
theorem xor_sem {a b : Nat} (ha : a < 2 ^ 64) (hb : b < 2 ^ 64) (hx : x.val tm = some (.int .u64 (.ofNat a))) (hy : y.val tm = some (.int .u64 (.ofNat b))) : (XI.bin .xor x y).sem tm h = .ok (.int .u64 (.ofNat (Nat.xor a b))) h := by
  simp only [XI.sem, binS, withO_run hx, withO_run hy]; exact bits64 ha hb
theorem shl_sem {k : IntKind} {a b : Nat} (hb : b < 64) (hx : x.val tm = some (.int .u64 (.ofNat a))) (hy : y.val tm = some (.int k (.ofNat b))) : (XI.bin .shl x y).sem tm h = .ok (.int .u64 (.ofNat (a * 2 ^ b % 18446744073709551616))) h := by
  have h1 : Nat.blt b IntKind.u64.bits = true := blt_of hb
  simp only [XI.sem, binS, withO_run hx, withO_run hy, binVV, shlI, h1]; rfl
theorem shr_sem {k : IntKind} {a b : Nat} (hb : b < 64) (hx : x.val tm = some (.int .u64 (.ofNat a))) (hy : y.val tm = some (.int k (.ofNat b))) : (XI.bin .shr x y).sem tm h = .ok (.int .u64 (.ofNat (a / 2 ^ b))) h := by
  have h1 : Nat.blt b IntKind.u64.bits = true := blt_of hb
  simp only [XI.sem, binS, withO_run hx, withO_run hy, binVV, shrI, h1]; rfl
theorem conv8_sem {k : IntKind} {a : Nat} (hx : x.val tm = some (.int k (.ofNat a))) : (XI.conv .u8 x).sem tm h = .ok (.int .u8 (.ofNat (a % 256))) h := by
  simp only [XI.sem, convS, XO.withI, withO_run hx]; rfl
theorem conv64_sem {k : IntKind} {a : Nat} (ha : a < 18446744073709551616) (hx : x.val tm = some (.int k (.ofNat a))) : (XI.conv .u64 x).sem tm h = .ok (.int .u64 (.ofNat a)) h := by
  simp only [XI.sem, convS, XO.withI, withO_run hx]
  show okI .u64 (.ofNat (a % 18446744073709551616)) h = _
  rw [Nat.mod_eq_of_lt ha]; rfl
theorem convI_sem {k : IntKind} {a : Nat} (ha : a < 9223372036854775808) (hx : x.val tm = some (.int k (.ofNat a))) : (XI.conv .i64 x).sem tm h = .ok (.int .i64 (.ofNat a)) h := by
  simp only [XI.sem, convS, XO.withI, withO_run hx]
  have : wrapF .i64 (.ofNat a) = .ofNat a := w64 (by rw [ofNat_cast]; omega) (by rw [ofNat_cast]; omega)
  show okI .i64 (wrapF .i64 (.ofNat a)) h = _
  rw [this]; rfl
theorem iaddrA_sem {k : IntKind} {p : Pos} {o n esz j : Nat} (hj : j < n) (hx : x.val tm = some (.ptr p o)) (hy : y.val tm = some (.int k (.ofNat j))) : (XI.iaddrA n esz x y).sem tm h = .ok (.ptr p (o + j * esz)) h := by
  have h1 : Nat.blt j n = true := blt_of hj
  simp only [XI.sem, iaddrAS, withO_run hx, XO.withN, XO.withI, withO_run hy, h1, ptrAdd]
end
theorem leI_le {a b : Int} (h : leI a b = true) : a ≤ b := by rw [leI_eq] at h; exact of_decide_eq_true h
theorem leI_gt {a b : Int} (h : leI a b = false) : b < a := by rw [leI_eq] at h; have := of_decide_eq_false h; omega
theorem leI_T {a b : Int} (h : a ≤ b) : leI a b = true := by rw [leI_eq]; exact decide_eq_true h
theorem leI_F {a b : Int} (h : b < a) : leI a b = false := by rw [leI_eq]; exact decide_eq_false (by omega)
theorem ltI_T {a b : Int} (h : a < b) : ltI a b = true := by rw [ltI_eq]; exact decide_eq_true h
theorem ltI_F {a b : Int} (h : b ≤ a) : ltI a b = false := by rw [ltI_eq]; exact decide_eq_false (by omega)
/-! ### what tables say, for many arguments at once -/
def seekE : List Ent → List AV → Option AV
  | [], _ => none
  | e :: l, args => match AV.beqs e.args args with
    | true => (match e.exact, e.pre, e.post with | false, [], [] => some e.v | _, _, _ => none)
    | false => seekE l args
def seekV : Tab → Nat → List AV → Option AV
  | .leaf, _, _ => none
  | .node key es l r, i, args => match Nat.beq i key with
    | true => seekE es args
    | false => match Nat.ble i key with
      | true => seekV l i args
      | false => seekV r i args
theorem seekE_ok : ∀ {es : List Ent} {args : List AV} {v : AV}, seekE es args = some v → ∀ (h : Heap) (k : AV → Heap → R) (n : R), entsF es args h k n = k v h
  | e :: l, args, v, hf, h, k, n => by
    have e1 : entsF (e :: l) args h k n = entF e args h k (entsF l args h k n) := rfl
    rw [e1]
    obtain ⟨eargs, exact', n0, pre, post, n1, v'⟩ := e
    simp only [seekE] at hf
    have e2 : entF ⟨eargs, exact', n0, pre, post, n1, v'⟩ args h k (entsF l args h k n) = yes? (AV.beqs eargs args) (Bool.rec (motive := fun _ => R) (preF pre h (updF post h (k v')) (entsF l args h k n)) (posF n0 h (preF pre h (updF post h fun h => nextF n1 h (k v')) (entsF l args h k n)) (entsF l args h k n)) exact') (entsF l args h k n) := rfl
    rw [e2]
    cases hb : AV.beqs eargs args with
    | true =>
      rw [hb] at hf
      cases exact' <;> cases pre <;> cases post <;> simp only [reduceCtorEq, Option.some.injEq] at hf
      subst hf; rfl
    | false =>
      rw [hb] at hf
      exact seekE_ok hf h k n
theorem seekV_ok : ∀ {t : Tab} {i : Nat} {args : List AV} {v : AV}, seekV t i args = some v → ∀ (h : Heap) (k : AV → Heap → R) (n : R), tabF t i args h k n = k v h
  | .node key es l r, i, args, v, hf, h, k, n => by
    have e : tabF (.node key es l r) i args h k n = yes? (Nat.beq i key) (entsF es args h k n) (yes? (Nat.ble i key) (tabF l i args h k n) (tabF r i args h k n)) := rfl
    rw [e]
    simp only [seekV] at hf
    cases h1 : Nat.beq i key with
    | true => rw [h1] at hf; exact seekE_ok hf h k n
    | false =>
      rw [h1] at hf
      cases h2 : Nat.ble i key with
      | true => rw [h2] at hf; exact seekV_ok (t := l) hf h k n
      | false => rw [h2] at hf; exact seekV_ok (t := r) hf h k n
end Go.X
