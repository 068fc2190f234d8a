/- Comparing trees: what comes of it. No program in sight. -/
import Derived.Test.YtphclenlannanaaGreatDoorCpWp
namespace Go.X
open Go
/-! ### three ways -/
def cmpI (a b : Int) : Int := if a < b then -1 else if b < a then 1 else 0
def orI (c d : Int) : Int := if c = 0 then d else c
def orL : List Int → Int
  | [] => 0
  | c :: l => orI c (orL l)
def cmpS (a b : List Nat) : Int := if ltN a b = true then -1 else if beqN a b = true then 0 else 1
def cmpN (a b : Nat) : Int := cmpI (.ofNat a) (.ofNat b)
theorem cmpI_self (a : Int) : cmpI a a = 0 := by simp [cmpI]
theorem cmpI_neg (a b : Int) : cmpI b a = - cmpI a b := by unfold cmpI; split <;> split <;> omega
theorem cmpI_zero {a b : Int} (h : cmpI a b = 0) : a = b := by
  unfold cmpI at h; split at h
  · simp at h
  · split at h
    · simp at h
    · omega
theorem cmpI_eq {a b : Int} : cmpI a b = 0 ↔ a = b := ⟨cmpI_zero, fun e => e ▸ cmpI_self a⟩
theorem cmpN_eq {a b : Nat} : cmpN a b = 0 ↔ a = b := by unfold cmpN; rw [cmpI_eq]; exact ⟨fun h => Int.ofNat.inj h, fun h => congrArg _ h⟩
theorem cmpI_in (a b : Int) : -1 ≤ cmpI a b ∧ cmpI a b ≤ 1 := by unfold cmpI; split <;> (try split) <;> omega
theorem cmpS_self (a : List Nat) : cmpS a a = 0 := by simp [cmpS, ltN_refl, beqN_refl]
theorem orI_zero {c d : Int} : orI c d = 0 ↔ c = 0 ∧ d = 0 := by
  unfold orI; split <;> constructor <;> intro h <;> first | exact ⟨by assumption, h⟩ | exact h.2 | exact absurd h (by assumption) | exact absurd h.1 (by assumption)
theorem orI_neg (c d : Int) : - orI c d = orI (-c) (-d) := by
  unfold orI; split <;> split <;> first | rfl | omega
theorem orI_assoc (a b c : Int) : orI (orI a b) c = orI a (orI b c) := by unfold orI; by_cases ha : a = 0 <;> by_cases hb : b = 0 <;> simp [ha, hb]
theorem orI_left (d : Int) : orI 0 d = d := rfl
theorem orI_ne {c : Int} (h : c ≠ 0) (d : Int) : orI c d = c := if_neg h
theorem orI_right (c : Int) : orI c 0 = c := by unfold orI; split <;> omega
theorem orI_in {c d : Int} (h1 : -1 ≤ c ∧ c ≤ 1) (h2 : -1 ≤ d ∧ d ≤ 1) : -1 ≤ orI c d ∧ orI c d ≤ 1 := by unfold orI; split <;> assumption
def lexI : List Int → List Int → Int
  | x :: a, y :: b => orI (cmpI x y) (lexI a b)
  | _, _ => 0
def sizesV (a b : List Int) : Int := orI (cmpN a.length b.length) (lexI a.reverse b.reverse)
theorem lexI_neg : ∀ a b : List Int, lexI b a = - lexI a b
  | [], [] => rfl
  | [], _ :: _ => rfl
  | _ :: _, [] => rfl
  | x :: a, y :: b => by simp only [lexI]; rw [cmpI_neg x y, lexI_neg a b, orI_neg]
theorem lexI_self : ∀ a : List Int, lexI a a = 0
  | [] => rfl
  | x :: a => by simp only [lexI, cmpI_self, orI_left, lexI_self a]
theorem lexI_in : ∀ a b : List Int, -1 ≤ lexI a b ∧ lexI a b ≤ 1
  | [], [] => by simp [lexI]
  | [], _ :: _ => by simp [lexI]
  | _ :: _, [] => by simp [lexI]
  | x :: a, y :: b => orI_in (cmpI_in x y) (lexI_in a b)
theorem sizesV_neg (a b : List Int) : sizesV b a = - sizesV a b := by
  unfold sizesV; rw [orI_neg, ← lexI_neg]; unfold cmpN; rw [cmpI_neg]
theorem sizesV_self (a : List Int) : sizesV a a = 0 := by unfold sizesV; rw [lexI_self, orI_zero]; exact ⟨cmpI_self _, rfl⟩
theorem sizesV_in (a b : List Int) : -1 ≤ sizesV a b ∧ sizesV a b ≤ 1 := orI_in (cmpI_in _ _) (lexI_in _ _)
def cmpZ (n : Bool) (d : List Int) (n' : Bool) (d' : List Int) : Int :=
  match n, n' with
  | true, false => -1
  | false, true => 1
  | true, true => - sizesV d d'
  | false, false => sizesV d d'
theorem cmpZ_self (n : Bool) (d : List Int) : cmpZ n d n d = 0 := by cases n <;> simp [cmpZ, sizesV_self]
/-! ### trees -/
mutual
def DV.cmp : DV → DV → Int
  | .mk k n neg _ _ d s _ _ l _ _ m, .mk k' n' neg' _ _ d' s' _ _ l' _ _ m' => orI (cmpI k k') (orI (cmpI n n') (orI (cmpZ neg d neg' d') (orI (cmpS s s') (orI (orI (cmpN l.length l'.length) (DV.cmpX l l')) (orI (cmpN m.length m'.length) (DV.cmpX m m'))))))
def DV.cmpX : List DV → List DV → Int
  | x :: a, y :: b => orI (x.cmp y) (DV.cmpX a b)
  | _, _ => 0
end
def cmpL (a b : List DV) : Int := orI (cmpN a.length b.length) (DV.cmpX a b)
mutual
theorem DV.cmp_self : ∀ t : DV, t.cmp t = 0
  | .mk k n neg _ _ d s _ _ l _ _ m => by simp only [DV.cmp, cmpI_self, cmpZ_self, cmpS_self, cmpN, DV.cmpX_self l, DV.cmpX_self m, orI_left]
theorem DV.cmpX_self : ∀ l : List DV, DV.cmpX l l = 0
  | [] => rfl
  | x :: l => by simp only [DV.cmpX, DV.cmp_self x, DV.cmpX_self l, orI_left]
end
theorem cmpL_self (l : List DV) : cmpL l l = 0 := by unfold cmpL; rw [DV.cmpX_self, orI_zero]; exact ⟨cmpI_self _, rfl⟩
def cmpSt : List DV → List DV → Int
  | [], [] => 0
  | [], _ :: _ => -1
  | _ :: _, [] => 1
  | x :: a, y :: b => orI (x.cmp y) (cmpSt a b)
theorem cmpSt_zero : ∀ {a b : List DV}, cmpSt a b = 0 ↔ cmpL a b = 0
  | [], [] => by simp [cmpSt, cmpL, cmpN, cmpI, orI, DV.cmpX]
  | [], _ :: _ => by simp only [cmpSt, cmpL, orI_zero, cmpN_eq]; simp
  | _ :: _, [] => by simp only [cmpSt, cmpL, orI_zero, cmpN_eq]; simp
  | x :: a, y :: b => by
    have ih := cmpSt_zero (a := a) (b := b)
    simp only [cmpL, orI_zero, cmpN_eq] at ih
    simp only [cmpSt, cmpL, orI_zero, cmpN_eq, DV.cmpX, List.length_cons, Nat.add_right_cancel_iff, ih]
    exact ⟨fun ⟨a, b, c⟩ => ⟨b, a, c⟩, fun ⟨a, b, c⟩ => ⟨b, a, c⟩⟩
theorem cmpSt_self (a : List DV) : cmpSt a a = 0 := cmpSt_zero.2 (cmpL_self a)
structure DS where
  nl : Bool
  fu : Bool
  l : List DV
def DS.cell (s : DS) : List AV := [slAV s.nl s.fu s.l.length (DV.cellsL s.l)]
def DS.ok (s : DS) : Prop := DV.okL s.l ∧ s.l.length ≤ maxN
theorem DS.len (s : DS) : s.cell.length = 1 := rfl
def cmpR : List DS → List DS → Int
  | [], [] => 0
  | [], _ :: _ => -1
  | _ :: _, [] => 1
  | x :: a, y :: b => orI (cmpSt x.l y.l) (cmpR a b)
def sameR : List DS → List DS → Bool
  | [], [] => true
  | x :: a, y :: b => (cmpL x.l y.l == 0) && sameR a b
  | _, _ => false
theorem cmpR_same : ∀ {a b : List DS}, cmpR a b = 0 → sameR a b = true
  | [], [], _ => rfl
  | [], _ :: _, h => by simp [cmpR] at h
  | _ :: _, [], h => by simp [cmpR] at h
  | x :: a, y :: b, h => by
    simp only [cmpR, orI_zero, cmpSt_zero] at h
    simp only [sameR, h.1, cmpR_same h.2]; rfl
theorem sameR_self : ∀ a : List DS, sameR a a = true
  | [] => rfl
  | x :: a => by simp only [sameR, cmpL_self, sameR_self a]; rfl
theorem cmpR_self : ∀ a : List DS, cmpR a a = 0
  | [] => rfl
  | x :: a => by simp only [cmpR, cmpSt_self, cmpR_self a, orI_left]
structure DVd where
  k : Int
  c : Int
  p : Int
  w : Int
  f : Int
  rn : Bool
  rf : Bool
  run : List DS
  ln : Bool
  lf : Bool
  las : List DS
  back : Int
  st : Int
  dp : Int
def DVd.cells (v : DVd) : List AV := [.int .i64 v.k, .int .i64 v.c, .int .i64 v.p, .int .i64 v.w, .int .i64 v.f, slAV v.rn v.rf v.run.length (v.run.flatMap DS.cell), slAV v.ln v.lf v.las.length (v.las.flatMap DS.cell), .int .i64 v.back, .int .i64 v.st, .int .i64 v.dp]
def DVd.ok (v : DVd) : Prop := (∀ s ∈ v.run, s.ok) ∧ (∀ s ∈ v.las, s.ok) ∧ v.run.length ≤ 5864062014634 ∧ v.las.length ≤ 5864062014634
theorem DVd.len (v : DVd) : v.cells.length = 10 := rfl
def DVd.cmp (a b : DVd) : Int := orL [cmpN a.run.length b.run.length, cmpI a.k b.k, cmpI a.c b.c, cmpI a.p b.p, cmpI a.w b.w, cmpI a.f b.f, cmpR a.run b.run]
theorem DVd.cmp_self (a : DVd) : a.cmp a = 0 := by simp only [DVd.cmp, orL, cmpN, cmpI_self, cmpR_self, orI_left]
def DVd.same (a b : DVd) : Bool := (a.cmp b == 0) && sameR a.las b.las && (a.back == b.back) && (a.st == b.st) && (a.dp == b.dp)
theorem DVd.same_self (a : DVd) : a.same a = true := by simp [DVd.same, DVd.cmp_self, sameR_self]
theorem cmpI_lt {a b : Int} (h : a < b) : (-1 : Int) = cmpI a b := by simp [cmpI, h]
theorem cmpI_gt {a b : Int} (h : b < a) : (1 : Int) = cmpI a b := by unfold cmpI; rw [if_neg (by omega), if_pos h]
theorem cmpI_0 {a b : Int} (h : b ≤ a) (h' : a ≤ b) : (0 : Int) = cmpI a b := by unfold cmpI; rw [if_neg (by omega), if_neg (by omega)]
theorem cmpI_ne {a b : Int} (h : a ≠ b) : cmpI a b ≠ 0 := fun e => h (cmpI_zero e)
theorem cmpN_ne {a b : Nat} (h : a ≠ b) : cmpN a b ≠ 0 := fun e => h (cmpN_eq.1 e)
theorem cmpN_self (a : Nat) : cmpN a a = 0 := cmpI_self _
theorem orL2 (a b : Int) : orL [a, b] = orI a b := by simp [orL, orI_right]
theorem neI_nat {a b : Nat} (h : (match eqI (.ofNat a) (.ofNat b) with | true => false | false => true) = true) : a ≠ b := by
  intro e; subst e; rw [eqI_refl] at h; simp at h
theorem eqI_is {a b : Int} (h : eqI a b = true) : a = b := by
  cases a <;> cases b <;> simp only [eqI] at h
  · exact congrArg Int.ofNat (Nat.eq_of_beq_eq_true h)
  · simp at h
  · simp at h
  · exact congrArg Int.negSucc (Nat.eq_of_beq_eq_true h)
theorem eqI_ne {a b : Int} (h : eqI a b = false) : a ≠ b := by intro e; subst e; rw [eqI_refl] at h; simp at h
theorem neI_ne {a b : Int} (h : (match eqI a b with | true => false | false => true) = true) : a ≠ b := by
  intro e; subst e; rw [eqI_refl] at h; simp at h
theorem neI_is {a b : Int} (h : (match eqI a b with | true => false | false => true) = false) : a = b := by
  cases he : eqI a b with
  | true => exact eqI_is he
  | false => rw [he] at h; simp at h
theorem neI_natE {a b : Nat} (h : (match eqI (.ofNat a) (.ofNat b) with | true => false | false => true) = false) : a = b := Int.ofNat.inj (neI_is h)
theorem lexI_step {a b : List Int} {m : Nat} (ha : m < a.length) (hb : m < b.length) : lexI (a.take (m + 1)).reverse (b.take (m + 1)).reverse = orI (cmpI a[m] b[m]) (lexI (a.take m).reverse (b.take m).reverse) := by
  rw [List.take_succ_eq_append_getElem ha, List.take_succ_eq_append_getElem hb, List.reverse_append, List.reverse_append]
  rfl
theorem lexI_drop {a b : List Int} {j : Nat} (ha : j < a.length) (hb : j < b.length) : lexI (a.drop j) (b.drop j) = orI (cmpI a[j] b[j]) (lexI (a.drop (j + 1)) (b.drop (j + 1))) := by
  rw [List.drop_eq_getElem_cons ha, List.drop_eq_getElem_cons hb]; rfl
theorem cmpX_drop {a b : List DV} {j : Nat} (ha : j < a.length) (hb : j < b.length) : DV.cmpX (a.drop j) (b.drop j) = orI (a[j].cmp b[j]) (DV.cmpX (a.drop (j + 1)) (b.drop (j + 1))) := by
  rw [List.drop_eq_getElem_cons ha, List.drop_eq_getElem_cons hb]; rfl
theorem cmpSt_drop {a b : List DV} {j : Nat} (ha : j < a.length) (hb : j < b.length) : cmpSt (a.drop j) (b.drop j) = orI (a[j].cmp b[j]) (cmpSt (a.drop (j + 1)) (b.drop (j + 1))) := by
  rw [List.drop_eq_getElem_cons ha, List.drop_eq_getElem_cons hb]; rfl
theorem cmpSt_long {a b : List DV} {j : Nat} (ha : j < a.length) (hb : b.length ≤ j) : cmpSt (a.drop j) (b.drop j) = 1 := by
  rw [List.drop_eq_getElem_cons ha, List.drop_of_length_le hb]; rfl
theorem cmpSt_short {a b : List DV} {j : Nat} (ha : a.length ≤ j) (hb : j < b.length) : cmpSt (a.drop j) (b.drop j) = -1 := by
  rw [List.drop_eq_getElem_cons hb, List.drop_of_length_le ha]; rfl
theorem cmpSt_end {a b : List DV} {j : Nat} (ha : a.length ≤ j) (hb : b.length ≤ j) : cmpSt (a.drop j) (b.drop j) = 0 := by
  rw [List.drop_of_length_le hb, List.drop_of_length_le ha]; rfl
theorem cmpR_drop {a b : List DS} {j : Nat} (ha : j < a.length) (hb : j < b.length) : cmpR (a.drop j) (b.drop j) = orI (cmpSt a[j].l b[j].l) (cmpR (a.drop (j + 1)) (b.drop (j + 1))) := by
  rw [List.drop_eq_getElem_cons ha, List.drop_eq_getElem_cons hb]; rfl
theorem cmpR_long {a b : List DS} {j : Nat} (ha : j < a.length) (hb : b.length ≤ j) : cmpR (a.drop j) (b.drop j) = 1 := by
  rw [List.drop_eq_getElem_cons ha, List.drop_of_length_le hb]; rfl
theorem cmpR_short {a b : List DS} {j : Nat} (ha : a.length ≤ j) (hb : j < b.length) : cmpR (a.drop j) (b.drop j) = -1 := by
  rw [List.drop_eq_getElem_cons hb, List.drop_of_length_le ha]; rfl
theorem cmpR_end {a b : List DS} {j : Nat} (ha : a.length ≤ j) (hb : b.length ≤ j) : cmpR (a.drop j) (b.drop j) = 0 := by
  rw [List.drop_of_length_le hb, List.drop_of_length_le ha]; rfl
theorem sameR_drop {a b : List DS} {j : Nat} (ha : j < a.length) (hb : j < b.length) : sameR (a.drop j) (b.drop j) = ((cmpL a[j].l b[j].l == 0) && sameR (a.drop (j + 1)) (b.drop (j + 1))) := by
  rw [List.drop_eq_getElem_cons ha, List.drop_eq_getElem_cons hb]; rfl
theorem sameR_len : ∀ {a b : List DS}, a.length ≠ b.length → sameR a b = false
  | [], [], h => absurd rfl h
  | [], _ :: _, _ => rfl
  | _ :: _, [], _ => rfl
  | x :: a, y :: b, h => by simp only [sameR, sameR_len (a := a) (b := b) (by simpa using h), Bool.and_false]
theorem sizesV_ne {a b : List Int} (h : a.length ≠ b.length) : sizesV a b = cmpN a.length b.length := orI_ne (cmpN_ne h) _
theorem cmpL_ne {a b : List DV} (h : a.length ≠ b.length) : cmpL a b = cmpN a.length b.length := orI_ne (cmpN_ne h) _
theorem cmpL_same {a b : List DV} (h : a.length = b.length) : cmpL a b = DV.cmpX a b := by unfold cmpL; rw [h, cmpN_self, orI_left]
theorem DV.cmp_eq {k n : Int} {neg dn df : Bool} {d : List Int} {s : List Nat} {ln lf : Bool} {l : List DV} {mn mf : Bool} {m : List DV} {k' n' : Int} {neg' dn' df' : Bool} {d' : List Int} {s' : List Nat} {ln' lf' : Bool} {l' : List DV} {mn' mf' : Bool} {m' : List DV} :
    (DV.mk k n neg dn df d s ln lf l mn mf m).cmp (.mk k' n' neg' dn' df' d' s' ln' lf' l' mn' mf' m') = orI (cmpI k k') (orI (cmpI n n') (orI (cmpZ neg d neg' d') (orI (cmpS s s') (orI (cmpL l l') (cmpL m m'))))) := rfl
end Go.X
