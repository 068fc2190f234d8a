/- The specification's fingerprints, and its bytes of checkpoints. -/
import Derived.Test.YtmnbopcehmcaeaaGreatDoorFCf2
namespace Go.X
open Go
section
variable {E : XEnv} {tm : Tm} {x y : XO} {h : Heap} {L : List (Pos × AObj)} {v w : AV} {l m : List Nat}
def blen : Nat → Nat → Nat
  | 0, _ => 0
  | k + 1, a => if a = 0 then 0 else blen k (a / 2) + 1
theorem shr8_sem {k : IntKind} {a b : Nat} (hb : b < 8) (hx : x.val tm = some (.int .u8 (.ofNat a))) (hy : y.val tm = some (.int k (.ofNat b))) : (XI.bin .shr x y).sem tm h = .ok (.int .u8 (.ofNat (a / 2 ^ b))) h := by
  have h1 : Nat.blt b IntKind.u8.bits = true := blt_of hb
  simp only [XI.sem, binS, withO_run hx, withO_run hy, binVV, shrI, h1]; rfl
theorem and8_sem {a b : Nat} (ha : a < 256) (hb : b < 256) (hx : x.val tm = some (.int .u8 (.ofNat a))) (hy : y.val tm = some (.int .u8 (.ofNat b))) : (XI.bin .and x y).sem tm h = .ok (.int .u8 (.ofNat (Nat.land a b))) h := by
  simp only [XI.sem, binS, withO_run hx, withO_run hy]
  have h1 : Nat.blt a 256 = true := blt_of ha
  have h2 : Nat.blt b 256 = true := blt_of hb
  have h3 : Nat.blt a 9223372036854775808 = true := blt_of (by omega)
  have h4 : Nat.blt b 9223372036854775808 = true := blt_of (by omega)
  show bitsI Nat.land _ .u8 (.ofNat a) (.ofNat b) h = _
  simp only [bitsI, h1, h2, h3, h4]
  rfl
theorem land_one (a : Nat) : Nat.land a 1 = a % 2 := Nat.and_one_is_mod a
theorem shift_T {a : Nat} (ha : a < 2 ^ 63) (h : Nat.land (a * 2 ^ 1 % 18446744073709551616 / 2 ^ 63) 1 = 1) : Nat.xor (a * 2 ^ 1 % 18446744073709551616) 9223372036854775811 = shift63 a := by
  rw [land_one, Nat.mod_eq_of_lt (by omega)] at h
  rw [Nat.mod_eq_of_lt (by omega)]
  unfold shift63
  rw [if_neg (by omega), Nat.pow_one, Nat.mul_comm]; rfl
theorem shift_F {a : Nat} (ha : a < 2 ^ 63) (h : Nat.land (a * 2 ^ 1 % 18446744073709551616 / 2 ^ 63) 1 ≠ 1) : a * 2 ^ 1 % 18446744073709551616 = shift63 a := by
  rw [land_one, Nat.mod_eq_of_lt (by omega)] at h
  rw [Nat.mod_eq_of_lt (by omega)]
  unfold shift63
  rw [if_pos (by omega), Nat.pow_one, Nat.mul_comm]
theorem shift63_lt {a : Nat} (ha : a < 2 ^ 63) : shift63 a < 2 ^ 63 := by
  unfold shift63
  split
  · omega
  · have e2 : 2 * a = 2 ^ 63 * 1 + (2 * a - 2 ^ 63) := by omega
    have e3 : (2 ^ 63 + 3 : Nat) = 2 ^ 63 * 1 + 3 := by omega
    rw [e2, e3, add_xor (by omega : 2 * a - 2 ^ 63 < 2 ^ 63), add_xor (by omega : 3 < 2 ^ 63)]
    have : ∀ a b c : Nat, a ^^^ b ^^^ (a ^^^ c) = b ^^^ c := fun a b c => by
      rw [Nat.xor_assoc, ← Nat.xor_assoc b a c, Nat.xor_comm b a, Nat.xor_assoc a b c, ← Nat.xor_assoc a a, Nat.xor_self, Nat.zero_xor]
    rw [this]
    exact Nat.xor_lt_two_pow (by omega) (by omega)
theorem bit63_lt {f c : Nat} (hf : f < 2 ^ 63) (hc : c < 2) : bit63 f c < 2 ^ 63 := Nat.xor_lt_two_pow (shift63_lt hf) (by omega)
theorem bit_T {f c : Nat} (h : Nat.land c 1 = 1) : Nat.xor (shift63 f) 1 = bit63 f (c % 2) := by rw [land_one] at h; rw [h]; rfl
theorem bit_F {f c : Nat} (h : Nat.land c 1 ≠ 1) : shift63 f = bit63 f (c % 2) := by
  rw [land_one] at h
  have : c % 2 = 0 := by omega
  rw [this]; unfold bit63; exact (Nat.xor_zero _).symm
theorem rDegree_loop {fin : Int} {Q : XExit → Tm → Heap → Prop} (hend : ∀ tm, tm.get (.lo .d0 .d3) = some (.int .i64 fin) → Q (.exit 0) tm h) :
    ∀ (k a : Nat) (z : Int), a < 2 ^ k → k ≤ 64 → -1 ≤ z → z ≤ 63 - k → z + blen k a = fin → ∀ (tm : Tm), tm.get (.lo .d0 .d0) = some (.int .u64 (.ofNat a)) → tm.get (.lo .d0 .d3) = some (.int .i64 z) → LoopT E c_rDegree_b0 Q tm h := by
  intro k
  induction k with
  | zero =>
    intro a z ha _ _ _ hf tm e0 e3
    obtain rfl : a = 0 := by omega
    obtain ⟨tm, rfl⟩ := sets2 e0 e3
    refine LoopT.wp ?_
    unfold c_rDegree_b0
    refine cS ?_
    refine cS (cR ?_)
    refine oI rfl (oI (sem_is (b := false) rfl rfl) (oZ (cF rfl (cX ?_))))
    obtain rfl : z = fin := by simpa [blen] using hf
    exact hend _ rfl
  | succ k ih =>
    intro a z ha hk h1 h2 hf tm e0 e3
    obtain ⟨tm, rfl⟩ := sets2 e0 e3
    refine LoopT.wp ?_
    unfold c_rDegree_b0
    refine cS ?_
    refine cS (cR ?_)
    refine oI rfl ?_
    refine wp_bool rfl (fun hb1 => ?_) (fun hb1 => ?_)
    · have hp := ltI_lt hb1
      simp only [ofNat_cast] at hp
      refine oZ (cC rfl (cK (cB ?_)))
      refine cS (cR ?_)
      refine oI rfl ?_
      refine oI (shr_sem (a := a) (b := 1) (by omega) rfl rfl) ?_
      refine oI rfl (oZ (cR (oI rfl ?_)))
      refine oI (sem_int (m := z + 1) rfl (w64 (by omega) (by omega))) ?_
      refine oI rfl (oZ ?_)
      have hf2 : blen (k + 1) a = blen k (a / 2) + 1 := if_neg (by omega)
      rw [hf2] at hf
      exact ih (a / 2 ^ 1) (z + 1) (by rw [Nat.pow_succ] at ha; omega) (by omega) (by omega) (by omega) (by rw [Nat.pow_one]; omega) _ rfl rfl
    · have hp := ltI_ge hb1
      simp only [ofNat_cast] at hp
      refine oZ (cF rfl (cX ?_))
      have hf2 : blen (k + 1) a = 0 := if_pos (by omega)
      rw [hf2] at hf
      obtain rfl : z = fin := by omega
      exact hend _ rfl
theorem rDegree_ok (C : Code E) {a : Nat} (ha : a < 2 ^ 64) : CallT E (.func n_rDegree [] []) [.int .u64 (.ofNat a)] h fun r h' => r = .int .i64 (-1 + blen 64 a) ∧ h' = h := by
  refine CallT.body C.rDegree ?_
  unfold BodyT c_rDegree
  refine cS (cR ?_)
  refine oI rfl (oZ ?_)
  refine cS (cR ?_)
  refine oI rfl (oZ (cS (cB ?_)))
  refine wpC_loop (rDegree_loop (fun tm e3 => ?_) 64 a (-1) ha (by omega) (by omega) (by omega) rfl _ rfl rfl)
  obtain ⟨tm, rfl⟩ := sets1 e3
  refine cS (cR ?_)
  refine oI rfl (oI rfl (oZ (cT ?_)))
  refine ⟨trivial, _, rfl, ?_⟩
  exact ⟨rfl, rfl⟩
theorem degP (C : Code E) : CallT E (.func n_rDegree [] []) [.int .u64 (.ofNat 9223372036854775811)] h fun r h' => r = .int .i64 63 ∧ h' = h := by
  have h1 : (-1 + blen 64 9223372036854775811 : Int) = 63 := by decide +kernel
  have := rDegree_ok (h := h) C (a := 9223372036854775811) (by omega)
  rwa [h1] at this
theorem deg1 (C : Code E) : CallT E (.func n_rDegree [] []) [.int .u64 (.ofNat 1)] h fun r h' => r = .int .i64 0 ∧ h' = h := by
  have h1 : (-1 + blen 64 1 : Int) = 0 := by decide +kernel
  have := rDegree_ok (h := h) C (a := 1) (by omega)
  rwa [h1] at this
theorem shift_ok (C : Code E) {a : Nat} (ha : a < 2 ^ 63) : CallT E (.func n_shift [] []) [.int .u64 (.ofNat 9223372036854775811), .int .u64 (.ofNat a)] h fun r h' => r = .int .u64 (.ofNat (shift63 a)) ∧ h' = h := by
  refine CallT.body C.shift ?_
  unfold BodyT c_shift
  refine cS (cR ?_)
  refine oI rfl (oZ ?_)
  refine cS (cR ?_)
  refine oI rfl (wp_call rfl (degP C) ?_)
  rintro _ _ ⟨rfl, rfl⟩
  refine oI rfl (oZ ?_)
  refine cS (cR ?_)
  refine oI rfl ?_
  refine oI (shl_sem (a := a) (b := 1) (by omega) rfl rfl) ?_
  refine oI rfl (oZ (cS ?_))
  refine cS (cR ?_)
  refine oI rfl (oI rfl ?_)
  refine oI (shr_sem (a := a * 2 ^ 1 % 18446744073709551616) (b := 63) (by omega) rfl rfl) ?_
  refine oI (and_sem (a := a * 2 ^ 1 % 18446744073709551616 / 2 ^ 63) (b := 1) (by omega) (by omega) rfl rfl) ?_
  refine wp_bool rfl (fun hb1 => ?_) (fun hb1 => ?_)
  · have hh := Int.ofNat.inj (eqI_is hb1)
    refine oZ (cC rfl (cR (oI rfl (oI rfl ?_))))
    refine oI (xor_sem (a := a * 2 ^ 1 % 18446744073709551616) (b := 9223372036854775811) (by omega) (by omega) rfl rfl) ?_
    refine oI rfl (oZ ?_)
    refine cS (cR ?_)
    refine oI rfl (oI rfl (oZ (cT ?_)))
    refine ⟨trivial, _, rfl, ?_⟩
    exact ⟨by rw [← shift_T ha hh]; rfl, rfl⟩
  · have hh := fun e => eqI_ne hb1 (congrArg Int.ofNat e)
    refine oZ (cF rfl (cK ?_))
    refine cS (cR ?_)
    refine oI rfl (oI rfl (oZ (cT ?_)))
    refine ⟨trivial, _, rfl, ?_⟩
    exact ⟨by rw [← shift_F ha hh]; rfl, rfl⟩
theorem ron_loop (C : Code E) {b fin : Nat} (hb : b < 256) {Q : XExit → Tm → Heap → Prop} (hend : ∀ tm, tm.get (.lo .d0 .d1) = some (.int .u64 (.ofNat fin)) → Q (.exit 0) tm h) :
    ∀ (k f : Nat) (z : Int), f < 2 ^ 63 → k ≤ 8 → z = (k : Int) - 1 → bits63 b k f = fin → ∀ (tm : Tm), tm.get (.lo .d0 .d0) = some (.int .u64 (.ofNat 9223372036854775811)) → tm.get (.lo .d0 .d1) = some (.int .u64 (.ofNat f)) → tm.get (.lo .d0 .d2) = some (.int .u8 (.ofNat b)) → tm.get (.lo .d0 .d7) = some (.int .i64 z) → LoopT E c_ron_b0 Q tm h := by
  intro k
  induction k with
  | zero =>
    intro f z hf _ hz hfin tm e0 e1 e2 e7
    obtain ⟨tm, rfl⟩ := sets4 e0 e1 e2 e7
    refine LoopT.wp ?_
    unfold c_ron_b0
    refine cS ?_
    refine cS (cR ?_)
    refine oI rfl ?_
    refine oI (sem_is (b := false) rfl (leI_F (by omega))) ?_
    refine oZ (cF rfl (cX ?_))
    obtain rfl : f = fin := hfin
    exact hend _ rfl
  | succ k ih =>
    intro f z hf hk hz hfin tm e0 e1 e2 e7
    obtain rfl : z = .ofNat k := by rw [ofNat_cast]; omega
    obtain ⟨tm, rfl⟩ := sets4 e0 e1 e2 e7
    refine LoopT.wp ?_
    unfold c_ron_b0
    refine cS ?_
    refine cS (cR ?_)
    refine oI rfl ?_
    refine oI (sem_is (b := true) rfl (leI_T (by rw [ofNat_cast]; omega))) ?_
    refine oZ (cC rfl (cK (cS (cB ?_))))
    refine cS (cR ?_)
    refine oI rfl (oI rfl (wp_call rfl (shift_ok C hf) ?_))
    rintro _ _ ⟨rfl, rfl⟩
    refine oI rfl (oZ ?_)
    refine cS (cR ?_)
    refine oI rfl (oI rfl ?_)
    refine oI (shr8_sem (a := b) (b := k) (by omega) rfl rfl) ?_
    refine oI (and8_sem (a := b / 2 ^ k) (b := 1) (Nat.lt_of_le_of_lt (Nat.div_le_self _ _) hb) (by omega) rfl rfl) ?_
    refine wp_bool rfl (fun hb1 => ?_) (fun hb1 => ?_)
    · have hh := Int.ofNat.inj (eqI_is hb1)
      refine oZ (cC rfl (cR (oI rfl ?_)))
      refine oI (xor_sem (a := shift63 f) (b := 1) (Nat.lt_trans (shift63_lt hf) (by omega)) (by omega) rfl rfl) ?_
      refine oI rfl (oZ (cR (oI rfl ?_)))
      refine oI (sem_int (m := (k : Int) - 1) rfl (w64 (by simp only [ofNat_cast]; omega) (by simp only [ofNat_cast]; omega))) ?_
      refine oI rfl (oZ ?_)
      rw [bit_T hh]
      exact ih _ _ (bit63_lt hf (Nat.mod_lt _ (by omega))) (by omega) rfl hfin _ rfl rfl rfl rfl
    · have hh := fun e => eqI_ne hb1 (congrArg Int.ofNat e)
      refine oZ (cF rfl (cK (cR (oI rfl ?_))))
      refine oI (sem_int (m := (k : Int) - 1) rfl (w64 (by simp only [ofNat_cast]; omega) (by simp only [ofNat_cast]; omega))) ?_
      refine oI rfl (oZ ?_)
      rw [bit_F hh]
      exact ih _ _ (bit63_lt hf (Nat.mod_lt _ (by omega))) (by omega) rfl hfin _ rfl rfl rfl rfl
theorem ron_ok (C : Code E) {f b : Nat} (hf : f < 2 ^ 63) (hb : b < 256) : CallT E (.func n_ron [] []) [.int .u64 (.ofNat 9223372036854775811), .int .u64 (.ofNat f), .int .u8 (.ofNat b)] h fun r h' => r = .int .u64 (.ofNat (fstep tbl63 f b)) ∧ h' = h := by
  rw [← bits63_eq hf hb]
  refine CallT.body C.ron ?_
  unfold BodyT c_ron
  refine cS (cR ?_)
  refine oI rfl (oZ (cS ?_))
  refine cS (cR ?_)
  refine oI rfl (oZ (cB ?_))
  refine wpC_loop (ron_loop C hb (fun tm e1 => ?_) 8 f 7 hf (by omega) rfl rfl _ rfl rfl rfl rfl)
  obtain ⟨tm, rfl⟩ := sets1 e1
  refine cS (cR ?_)
  refine oI rfl (oI rfl (oZ (cT ?_)))
  refine ⟨trivial, _, rfl, ?_⟩
  exact ⟨rfl, rfl⟩
theorem rof_loop (C : Code E) (hl : l.length ≤ 1000000) (hb : ∀ b ∈ l, b < 256) (H : Has h L) (hs : BV L v l) {fin : Nat} {Q : XExit → Tm → Heap → Prop} (hend : ∀ tm, tm.get (.lo .d0 .d1) = some (.int .u64 (.ofNat fin)) → Q (.exit 0) tm h) :
    ∀ (k j f : Nat), l.length - j = k → f < 2 ^ 63 → (l.drop j).foldl (fstep tbl63) f = fin → ∀ (tm : Tm), tm.get (.lo .d0 .d0) = some (.int .u64 (.ofNat 9223372036854775811)) → tm.get (.lo .d0 .d1) = some (.int .u64 (.ofNat f)) → tm.get (.lo .d0 .d2) = some v → tm.get (.lo .d0 .d7) = some (.int .i64 (.ofNat j)) → LoopT E c_rof_b0 Q tm h := by
  intro k
  induction k using Nat.strongRecOn with
  | ind k ih =>
    intro j f hk hf hfin tm e0 e1 e2 e7
    obtain ⟨tm, rfl⟩ := sets4 e0 e1 e2 e7
    refine LoopT.wp ?_
    unfold c_rof_b0
    refine cS ?_
    refine cS (cR ?_)
    refine oI rfl (oI rfl (oI (len_BV hs rfl) ?_))
    refine wp_bool rfl (fun hb1 => ?_) (fun hb1 => ?_)
    · have hj := of_ltN hb1
      have hbj : l[j] < 256 := hb _ (List.getElem_mem hj)
      rw [List.drop_eq_getElem_cons hj, List.foldl_cons] at hfin
      refine oZ (cC rfl (cK (cS (cB (cR (oI rfl (oI rfl (oI rfl (oI rfl ?_)))))))))
      refine wp_byte H hs hj rfl rfl fun pv2 => ?_
      refine wp_call rfl (ron_ok C hf hbj) ?_
      rintro _ _ ⟨rfl, rfl⟩
      refine oI rfl (oZ (cR (oI rfl ?_)))
      refine oI (sem_int rfl (w64_succ (by omega))) ?_
      refine oI rfl (oZ ?_)
      exact ih (l.length - (j + 1)) (by omega) (j + 1) _ rfl (fstep_lt tbl63_ok hf hbj) hfin _ rfl rfl rfl rfl
    · have hj := of_geN hb1
      refine oZ (cF rfl (cX ?_))
      rw [List.drop_of_length_le (by omega)] at hfin
      obtain rfl : f = fin := hfin
      exact hend _ rfl
theorem rof_ok (C : Code E) (hl : l.length ≤ 1000000) (hb : ∀ b ∈ l, b < 256) (H : Has h L) (hs : BV L v l) : CallT E (.func n_rof [] []) [.int .u64 (.ofNat 9223372036854775811), .int .u64 (.ofNat 1), v] h fun r h' => r = .int .u64 (.ofNat (fpOf tbl63 l)) ∧ h' = h := by
  refine CallT.body C.rof ?_
  unfold BodyT c_rof
  refine cS (cR ?_)
  refine oI rfl (oZ (cS ?_))
  refine cS (cR ?_)
  refine oI rfl (oZ (cB ?_))
  refine wpC_loop (rof_loop C hl hb H hs (fun tm e1 => ?_) (l.length - 0) 0 1 rfl (by omega) rfl _ rfl rfl rfl rfl)
  obtain ⟨tm, rfl⟩ := sets1 e1
  refine cS (cR ?_)
  refine oI rfl (oI rfl (oZ (cT ?_)))
  refine ⟨trivial, _, rfl, ?_⟩
  exact ⟨rfl, rfl⟩
theorem fits_ok (C : Code E) : CallT E (.func n_fits [] []) [.int .u64 (.ofNat 9223372036854775811)] h fun r h' => r = .bool true ∧ h' = h := by
  refine CallT.body C.fits ?_
  unfold BodyT c_fits
  refine cS (cR ?_)
  refine oI rfl (oZ ?_)
  refine cS (cR ?_)
  refine oI rfl (wp_call rfl (degP C) ?_)
  rintro _ _ ⟨rfl, rfl⟩
  refine oI (sem_is (b := true) rfl rfl) (oI rfl (oZ (cT ?_)))
  refine ⟨trivial, _, rfl, ?_⟩
  exact ⟨rfl, rfl⟩
theorem rest_ok (C : Code E) : CallT E (.func n_rest [] []) [.int .u64 (.ofNat 9223372036854775811), .int .u64 (.ofNat 1)] h fun r h' => r = .bool true ∧ h' = h := by
  refine CallT.body C.rest ?_
  unfold BodyT c_rest
  refine cS (cR ?_)
  refine oI rfl (oZ ?_)
  refine cS (cR ?_)
  refine oI rfl (wp_call rfl (deg1 C) ?_)
  rintro _ _ ⟨rfl, rfl⟩
  refine oI rfl (wp_call rfl (degP C) ?_)
  rintro _ _ ⟨rfl, rfl⟩
  refine oI (sem_is (b := true) rfl rfl) (oI rfl (oZ (cT ?_)))
  refine ⟨trivial, _, rfl, ?_⟩
  exact ⟨rfl, rfl⟩
theorem extend_ok (C : Code E) (hl : l.length ≤ 100000) (hb : ∀ b ∈ l, b < 256) (H : Has h L) (hs : BV L v l) : CallT E (.func n_extend [] []) [.int .u64 (.ofNat 9223372036854775811), .int .u64 (.ofNat 1), v] h fun r h' => r = .tuple [.int .u64 (.ofNat (fpOf tbl63 l)), .int .i64 0] ∧ h' = h := by
  refine CallT.body C.extend ?_
  unfold BodyT c_extend
  refine cS (cR ?_)
  refine oI rfl (oI rfl (oZ (cS ?_)))
  refine cS (cR ?_)
  refine oI rfl (wp_call rfl (fits_ok C) ?_)
  rintro _ _ ⟨rfl, rfl⟩
  refine oI rfl (oZ (cF rfl (cK (cS ?_))))
  refine cS (cR ?_)
  refine oI rfl (oI rfl (wp_call rfl (rest_ok C) ?_))
  rintro _ _ ⟨rfl, rfl⟩
  refine oI rfl (oZ (cF rfl (cK (cS ?_))))
  refine cS (cR ?_)
  refine oI rfl (oI (len_BV hs rfl) ?_)
  refine oI (sem_is (b := false) rfl (ltI_F (by simp only [ofNat_cast]; omega))) ?_
  refine oZ (cF rfl (cK ?_))
  refine cS (cR ?_)
  refine oI rfl (oI rfl (oI rfl ?_))
  refine wp_call rfl (rof_ok C (by omega) hb H hs) ?_
  rintro _ _ ⟨rfl, rfl⟩
  refine oI rfl (oI rfl (oZ (cT ?_)))
  refine ⟨trivial, _, rfl, ?_⟩
  exact ⟨rfl, rfl⟩
theorem rOf_ok (C : Code E) (hl : l.length ≤ 100000) (hb : ∀ b ∈ l, b < 256) (H : Has h L) (hs : BV L v l) : CallT E (.func n_rOf [] []) [.int .u64 (.ofNat 9223372036854775811), v] h fun r h' => r = .tuple [.int .u64 (.ofNat (fpOf tbl63 l)), .int .i64 0] ∧ h' = h := by
  refine CallT.body C.rOf ?_
  unfold BodyT c_rOf
  refine cS (cR ?_)
  refine oI rfl (oI rfl (oZ ?_))
  refine cS (cR ?_)
  refine oI rfl (oI rfl (wp_call rfl (extend_ok C hl hb H hs) ?_))
  rintro _ _ ⟨rfl, rfl⟩
  refine oI rfl (oI rfl (oI rfl (oI rfl (oZ (cT ?_)))))
  refine ⟨trivial, _, rfl, ?_⟩
  exact ⟨rfl, rfl⟩
theorem eight_loop {x : Nat} {fin : List Nat} {Q : XExit → Tm → Heap → Prop} (hend : ∀ tm h v, tm.get (.lo .d0 .d0) = some v → Gr1 tyB h L v fin → Q (.exit 0) tm h) :
    ∀ (k : Nat), k ≤ 8 → ∀ (l : List Nat) (v : AV) (z : Int) (tm : Tm) (h : Heap), l.length + k ≤ 1000000 → l ++ be k x = fin → z = 8 * ((k : Int) - 1) → Gr tyB h L v l → (k = 0 → Gr1 tyB h L v l) → tm.get (.lo .d0 .d0) = some v → tm.get (.lo .d0 .d1) = some (.int .u64 (.ofNat x)) → tm.get (.lo .d0 .d5) = some (.int .i64 z) → LoopT E c_eight_b0 Q tm h := by
  intro k
  induction k with
  | zero =>
    intro _ l v z tm h hn hf hz _ hg e0 e1 e5
    obtain ⟨tm, rfl⟩ := sets3 e0 e1 e5
    refine LoopT.wp ?_
    unfold c_eight_b0
    refine cS ?_
    refine cS (cR ?_)
    refine oI rfl ?_
    refine oI (sem_is (b := false) rfl (leI_F (by omega))) ?_
    refine oZ (cF rfl (cX ?_))
    exact hend _ _ v rfl (by rw [← hf]; simpa [be] using hg rfl)
  | succ k ih =>
    intro hk l v z tm h hn hf hz hg _ e0 e1 e5
    obtain rfl : z = .ofNat (8 * k) := by rw [ofNat_cast]; omega
    obtain ⟨tm, rfl⟩ := sets3 e0 e1 e5
    refine LoopT.wp ?_
    unfold c_eight_b0
    refine cS ?_
    refine cS (cR ?_)
    refine oI rfl ?_
    refine oI (sem_is (b := true) rfl (leI_T (by rw [ofNat_cast]; omega))) ?_
    refine oZ (cC rfl (cK (cS (cB (cR (oI rfl (oI rfl (oI rfl ?_))))))))
    refine oI (shr_sem (b := 8 * k) (by omega) rfl rfl) ?_
    refine oI (conv8_sem rfl) ?_
    refine wp_put1 hg (by omega) (fun _ => rfl) rfl fun v h qv hg => ?_
    refine oI rfl (oZ (cR (oI rfl ?_)))
    refine oI (sem_int (m := 8 * ((k : Int) - 1)) rfl ((w64 (by simp only [ofNat_cast]; omega) (by simp only [ofNat_cast]; omega)).trans (by simp only [ofNat_cast]; omega))) ?_
    refine oI rfl (oZ ?_)
    have hb : x / 2 ^ (8 * k) % 256 = x / 256 ^ k % 256 := by rw [Nat.pow_mul]
    rw [hb] at hg
    exact ih (by omega) _ _ _ _ _ (by simp; omega) (by rw [← hf, be]; simp) rfl (.inl hg) (fun _ => hg) rfl rfl rfl
theorem eight_ok (C : Code E) {x : Nat} (hl : l.length + 8 ≤ 1000000) (hg : Gr tyB h L v l) : CallT E (.func n_eight [] []) [v, .int .u64 (.ofNat x)] h fun r h' => Gr1 tyB h' L r (l ++ be 8 x) := by
  refine CallT.body C.eight ?_
  unfold BodyT c_eight
  refine cS (cR ?_)
  refine oI rfl (oZ (cS ?_))
  refine cS (cR ?_)
  refine oI rfl (oZ (cB ?_))
  refine wpC_loop (eight_loop (fun tm h v e0 hg => ?_) 8 (Nat.le_refl _) l v _ _ _ hl rfl rfl hg (fun e => absurd e (by decide)) rfl rfl rfl)
  obtain ⟨tm, rfl⟩ := sets1 e0
  refine cS (cR ?_)
  refine oI rfl (oI rfl (oZ (cT ?_)))
  refine ⟨trivial, _, rfl, ?_⟩
  exact hg
def RPoly (E : XEnv) : Prop := ∀ h, CallT E (.func n_rpoly [] []) [.int .i64 0] h fun r h' => r = .tuple [.int .u64 (.ofNat 9223372036854775811), .int .i64 0] ∧ h' = h
theorem rframe_call (C : Code E) (G : RPoly E) {z : Int} (hl : l.length ≤ 9223372036854775807) (hb : ∀ b ∈ l, b < 256) (H : Has h L) (hs : BV L v l) : CallT E (.func n_rframe [] []) [.int .i64 z, v] h (FrameR tbl63 h L z l) := by
  refine CallT.body C.rframe ?_
  unfold BodyT c_rframe
  refine cS (cR ?_)
  refine oI rfl (oI rfl (oZ (cS ?_)))
  refine cS (cR ?_)
  refine oI rfl ?_
  refine wp_bool rfl (fun hb1 => ?_) (fun hb1 => ?_)
  · have hb1 := ltI_lt hb1
    refine oI rfl (oF rfl (oF rfl (oI rfl (oI rfl (oF rfl (oF rfl (oF rfl (oI rfl (oZ (cC rfl ?_))))))))))
    refine cS (cR ?_)
    refine oI rfl (oI rfl (oZ (cT ?_)))
    refine ⟨trivial, _, rfl, ?_⟩
    exact .inl ⟨by first | omega | (simp only [ofNat_cast] at *; omega), rfl, rfl⟩
  · have hb1 := ltI_ge hb1
    refine oI rfl (oN rfl (oI rfl (oN rfl ?_)))
    refine wp_bool rfl (fun hb2 => ?_) (fun hb2 => ?_)
    · have hb2 := ltI_lt hb2
      refine oI rfl (oI rfl (oF rfl (oF rfl (oF rfl (oI rfl (oZ (cC rfl ?_)))))))
      refine cS (cR ?_)
      refine oI rfl (oI rfl (oZ (cT ?_)))
      refine ⟨trivial, _, rfl, ?_⟩
      exact .inl ⟨by first | omega | (simp only [ofNat_cast] at *; omega), rfl, rfl⟩
    · have hb2 := ltI_ge hb2
      refine oI rfl (oI rfl (oN rfl (oI rfl (oN rfl (oI (len_BV hs rfl) (oN rfl ?_))))))
      refine wp_bool rfl (fun hb3 => ?_) (fun hb3 => ?_)
      · have hb3 := ltI_lt hb3
        refine oI rfl (oZ (cC rfl ?_))
        refine cS (cR ?_)
        refine oI rfl (oI rfl (oZ (cT ?_)))
        refine ⟨trivial, _, rfl, ?_⟩
        exact .inl ⟨by first | omega | (simp only [ofNat_cast] at *; omega), rfl, rfl⟩
      · have hb3 := ltI_ge hb3
        obtain ⟨g, rfl⟩ : ∃ g : Nat, z = .ofNat g := ⟨z.toNat, by rw [ofNat_cast]; omega⟩
        have hg1 : 1 ≤ g := by simp only [ofNat_cast] at *; omega
        have hg2 : g ≤ 1000000000 := by simp only [ofNat_cast] at *; omega
        have hl2 : l.length ≤ 90000 := by rw [ofNat_cast] at hb3; omega
        refine oI rfl (oZ (cF rfl (cK ?_)))
        refine cS (cR ?_)
        refine wp_bslice (fun k => rfl) H fun q4 h H => ?_
        refine wp_mark (k := 0) H rfl rfl fun h H => ?_
        refine oI rfl (oZ ?_)
        refine cS (cR ?_)
        refine oI rfl (oI rfl ?_)
        refine oI (conv64_sem (a := g) (by omega) rfl) ?_
        refine wp_call rfl (eight_ok C (l := [70, 71, 67]) (by decide) (.inr ⟨H.tail, _, q4, 0, tyB, _, false, rfl, H, List.mem_cons_self, by decide, rfl⟩)) ?_
        rintro v1 h hgA
        refine oI rfl (oZ ?_)
        refine cS (cR ?_)
        refine oI rfl (oI rfl (oI (len_BV hs rfl) ?_))
        refine oI (conv64_sem (a := l.length) (by omega) rfl) ?_
        refine wp_call rfl (eight_ok C (by simp only [List.length_append, be_len, List.length_cons, List.length_nil]; omega) (.inl hgA)) ?_
        rintro v2 h hgB
        refine oI rfl (oZ ?_)
        refine cS (cR ?_)
        refine oI rfl (oI rfl ?_)
        refine wp_app (m := l) (.inl hgB) (srcOf_BV hgB.has hs) (by simp only [List.length_append, be_len, List.length_cons, List.length_nil]; omega) rfl rfl fun v3 h hgC0 hgC _ => ?_
        have hgC := hgC (.inr hgB)
        have hgC : Gr1 tyB h L v3 (fbody g l) := hgC
        have hlf : (fbody g l).length ≤ 100000 := by rw [fbody_len]; omega
        have hfb := fbody_byte (g := g) hb
        refine oI rfl (oZ ?_)
        refine cS (cR ?_)
        refine wp_call rfl (G _) ?_
        rintro _ _ ⟨rfl, rfl⟩
        refine oI rfl (oI rfl (oI rfl (oI rfl (oI rfl (oZ ?_)))))
        refine cS (cR ?_)
        refine oI rfl (oI rfl ?_)
        obtain ⟨x3, H3, hs3⟩ := hgC.sv
        refine wp_call rfl (rOf_ok C hlf hfb H3 hs3.bv) ?_
        rintro _ _ ⟨rfl, rfl⟩
        refine oI rfl (oI rfl (oI rfl (oI rfl (oI rfl (oZ ?_)))))
        refine cS (cR ?_)
        refine oI rfl (oI rfl ?_)
        refine wp_call rfl (eight_ok C (l := fbody g l) (by omega) (.inl hgC)) ?_
        rintro v4 h hg4
        refine oI rfl (oI rfl (oZ (cT ?_)))
        refine ⟨trivial, _, rfl, ?_⟩
        exact .inr ⟨g, _, rfl, by omega, by omega, by omega, rfl, hg4⟩
theorem rframe_ok (C : Code E) (G : RPoly E) {z : Int} (hl : l.length ≤ 9223372036854775807) (hb : ∀ b ∈ l, b < 256) (H : Has h L) (hs : BV L v l) : CallT E (.func n_rframe [] []) [.int .i64 z, v] h (FrO tbl63 L z l) := (rframe_call C G hl hb H hs).mono fun _ _ => frO_of H
end
end Go.X
