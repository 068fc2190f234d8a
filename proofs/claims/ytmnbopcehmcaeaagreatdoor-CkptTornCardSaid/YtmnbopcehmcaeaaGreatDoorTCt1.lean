/- Comparing, placing, fingerprints, the bytes of checkpoints. -/
import Derived.Test.YtmnbopcehmcaeaaGreatDoorTCtCode
namespace Go.X
open Go
section
variable {E : XEnv} {h : Heap} {L : List (Pos × AObj)} {v w : AV} {l m : List Nat}
structure Fin (E : XEnv) (P X : Nat) (tbl : List Nat) : Prop where
  poly : ∀ h, CallT E (.func n_poly [] []) [.int .i64 0] h fun r h' => r = .tuple [.int .u64 (.ofNat P), .int .i64 0] ∧ h' = h
  degree : ∀ h, CallT E (.func n_degree [] []) [.int .u64 (.ofNat P)] h fun r h' => r = .int .i64 63 ∧ h' = h
  power : ∀ h, CallT E (.func n_power [] []) [.int .u64 (.ofNat P), .int .i64 63] h fun r h' => r = .int .u64 (.ofNat X) ∧ h' = h
  mod : ∀ i, i < 256 → ∀ h, CallT E (.func n_mod [] []) [.int .u64 (.ofNat i), .int .u64 (.ofNat P)] h fun r h' => r = .int .u64 (.ofNat i) ∧ h' = h
  times : ∀ i, i < 256 → ∀ h, CallT E (.func n_times [] []) [.int .u64 (.ofNat P), .int .u64 (.ofNat i), .int .u64 (.ofNat X)] h fun r h' => r = .int .u64 (.ofNat (tbl.getD i 0)) ∧ h' = h
  ok : TblOK tbl
  len : tbl.length = 256
theorem equal_ok (C : Code E) (H : Has h L) (ha : BV L v l) (hb : BV L w m) (hl : ∀ b ∈ l, b < 256) (hm : ∀ b ∈ m, b < 256) : CallT E (.func n_equal [] []) [v, w] h fun r h' => r = .bool (decide (l = m)) ∧ h' = h := by
  refine CallT.body C.equal ?_
  unfold BodyT c_equal
  refine cS (cR ?_)
  refine oI rfl (oZ ?_)
  refine cS (cR ?_)
  refine oI rfl (oI (toStr_BV H ha hl rfl) (oI rfl (oI (toStr_BV H hb hm rfl) (oI (strEq_sem rfl rfl) (oI rfl (oZ (cT ?_)))))))
  refine ⟨trivial, _, rfl, ?_⟩
  exact ⟨rfl, rfl⟩
def ClipR (L : List (Pos × AObj)) (l : List Nat) (r : AV) : Prop := ∃ p o ty cs sp, r = .slice p o l.length (.ex l.length) ∧ (p, AObj.row ty cs sp) ∈ L ∧ o + l.length ≤ cs.length ∧ (cs.drop o).take l.length = avBytes l
theorem clip_ok (C : Code E) (hs : SV L v l) : CallT E (.func n_clip [] []) [v] h fun r h' => ClipR L l r ∧ h' = h := by
  refine CallT.body C.clip ?_
  unfold BodyT c_clip
  refine cS (cR ?_)
  refine oI rfl (oZ ?_)
  refine cS (cR ?_)
  refine oI rfl (oI rfl (oI (len_BV hs.bv rfl) (oI rfl (oI (len_BV hs.bv rfl) ?_))))
  refine wp_clip hs rfl rfl rfl fun v1 hc1 => ?_
  refine oI rfl (oZ (cT ?_))
  refine ⟨trivial, _, rfl, ?_⟩
  exact ⟨hc1, rfl⟩
theorem placed_loop {x : Nat} {fin : List Nat} {Q : XExit → Tm → Heap → Prop} (hend : ∀ tm h v, tm.get (.lo .d0 .d0) = some v → Gr1 tyB h L v fin → Q (.exit 0) tm h) :
    ∀ (k : Nat), k ≤ 8 → ∀ (l : List Nat) (v : AV) (z : Int) (tm : Tm) (h : Heap), l.length + k ≤ 1000000 → l ++ be k x = fin → z = (k : Int) - 1 → Gr tyB h L v l → (k = 0 → Gr1 tyB h L v l) → tm.get (.lo .d0 .d0) = some v → tm.get (.lo .d0 .d1) = some (.int .u64 (.ofNat x)) → tm.get (.lo .d0 .d7) = some (.int .i64 z) → LoopT E c_placed_b0 Q tm h := by
  intro k
  induction k with
  | zero =>
    intro _ l v z tm h hn hf hz _ hg e0 e1 e7
    obtain ⟨tm, rfl⟩ := sets3 e0 e1 e7
    refine LoopT.wp ?_
    unfold c_placed_b0
    refine cS ?_
    refine cS (cR ?_)
    refine oI rfl ?_
    refine oI (sem_is (b := false) rfl (leI_F (by omega))) ?_
    refine oZ (cF rfl (cX ?_))
    exact hend _ _ v rfl (by rw [← hf]; simpa [be] using hg rfl)
  | succ k ih =>
    intro hk l v z tm h hn hf hz hg _ e0 e1 e7
    obtain rfl : z = .ofNat k := by rw [ofNat_cast]; omega
    obtain ⟨tm, rfl⟩ := sets3 e0 e1 e7
    refine LoopT.wp ?_
    unfold c_placed_b0
    refine cS ?_
    refine cS (cR ?_)
    refine oI rfl ?_
    refine oI (sem_is (b := true) rfl (leI_T (by rw [ofNat_cast]; omega))) ?_
    refine oZ (cC rfl (cK (cS (cB (cR (oI rfl (oI rfl (oI rfl ?_))))))))
    refine oI (sem_int (m := .ofNat (8 * k)) rfl (w64 (by simp only [ofNat_cast]; omega) (by simp only [ofNat_cast]; omega))) ?_
    refine oI (shr_sem (b := 8 * k) (by omega) rfl rfl) ?_
    refine oI (conv8_sem rfl) ?_
    refine wp_put1 hg (by omega) (fun _ => rfl) rfl fun v h qv hg => ?_
    refine oI rfl (oZ (cR (oI rfl ?_)))
    refine oI (sem_int (m := .ofNat k - 1) rfl (w64 (by rw [ofNat_cast]; omega) (by rw [ofNat_cast]; omega))) ?_
    refine oI rfl (oZ ?_)
    have hb : x / 2 ^ (8 * k) % 256 = x / 256 ^ k % 256 := by rw [Nat.pow_mul]
    rw [hb] at hg
    exact ih (by omega) _ _ _ _ _ (by simp; omega) (by rw [← hf, be]; simp) rfl (.inl hg) (fun _ => hg) rfl rfl rfl
theorem placed_ok (C : Code E) {x n : Nat} (h0 : n ≠ 0) (hn : n ≤ 8) (hl : l.length + n ≤ 1000000) (hg : Gr tyB h L v l) : CallT E (.func n_placed [] []) [v, .int .u64 (.ofNat x), .int .i64 (.ofNat n)] h fun r h' => Gr1 tyB h' L r (l ++ be n x) := by
  refine CallT.body C.placed ?_
  unfold BodyT c_placed
  refine cS (cR ?_)
  refine oI rfl (oZ (cS ?_))
  refine cS (cR ?_)
  refine oI rfl ?_
  refine oI (sem_int (m := (n : Int) - 1) rfl (w64 (by simp only [ofNat_cast]; omega) (by simp only [ofNat_cast]; omega))) ?_
  refine oI rfl (oZ (cB ?_))
  refine wpC_loop (placed_loop (fun tm h v e0 hg => ?_) n hn l v _ _ _ hl rfl rfl hg (fun e => (h0 e).elim) rfl rfl rfl)
  obtain ⟨tm, rfl⟩ := sets1 e0
  refine cS (cR ?_)
  refine oI rfl (oI rfl (oZ (cT ?_)))
  refine ⟨trivial, _, rfl, ?_⟩
  exact hg
section
variable {P X : Nat} {tbl : List Nat} (F : Fin E P X tbl)
include F
theorem isPoly_ok (C : Code E) : CallT E (.func n_isPoly [] []) [.int .u64 (.ofNat P)] h fun r h' => r = .bool true ∧ h' = h := by
  refine CallT.body C.isPoly ?_
  unfold BodyT c_isPoly
  refine cS (cR ?_)
  refine oI rfl (oZ ?_)
  refine cS (cR ?_)
  refine oI rfl (wp_call rfl (F.degree _) ?_)
  rintro _ _ ⟨rfl, rfl⟩
  refine oI (sem_is (b := true) rfl rfl) (oI rfl (oN rfl (oI rfl (oN rfl (wp_call rfl (F.degree _) ?_)))))
  rintro _ _ ⟨rfl, rfl⟩
  refine oN rfl (oI (sem_is (b := true) rfl rfl) (oI rfl (oI rfl (oZ (cT ?_)))))
  refine ⟨trivial, _, rfl, ?_⟩
  exact ⟨rfl, rfl⟩
omit F in
theorem spliceK_one {β : Type} {no : β} : ∀ (a b : List AV) (x y : AV) (kk : List AV → β), spliceK no a.length [x] (a ++ y :: b) kk = kk (a ++ x :: b)
  | [], _, _, _, _ => rfl
  | z :: a, b, x, y, kk => spliceK_one a b x y fun r => kk (z :: r)
def u64s (l : List Nat) : List AV := l.map fun n => .int .u64 (.ofNat n)
def mach (P : Nat) (t : List Nat) : AObj := .row tyM (.int .u64 (.ofNat P) :: .int .i64 63 :: u64s t) false
theorem tbl_store {j k : Nat} (hj : j + (k + 1) = 256) {β : Type} {no : β} (kk : List AV → β) : spliceK no (0 + 2 + j * 1) [.int .u64 (.ofNat (tbl.getD j 0))] (.int .u64 (.ofNat P) :: .int .i64 63 :: u64s (tbl.take j ++ List.replicate (k + 1) 0)) kk = kk (.int .u64 (.ofNat P) :: .int .i64 63 :: u64s (tbl.take (j + 1) ++ List.replicate k 0)) := by
  have hl := F.len
  have h1 : (u64s (tbl.take j)).length = j := by simp [u64s]; omega
  have h2 : u64s (tbl.take j ++ List.replicate (k + 1) 0) = u64s (tbl.take j) ++ .int .u64 (.ofNat 0) :: u64s (List.replicate k 0) := by simp [u64s, List.replicate_succ]
  have h3 : tbl.take (j + 1) = tbl.take j ++ [tbl.getD j 0] := by
    rw [List.take_add_one]
    have : j < tbl.length := by omega
    simp [List.getElem?_eq_getElem this]
  have h4 : u64s (tbl.take (j + 1) ++ List.replicate k 0) = u64s (tbl.take j) ++ .int .u64 (.ofNat (tbl.getD j 0)) :: u64s (List.replicate k 0) := by rw [h3]; simp [u64s]
  rw [h2, h4]
  have := spliceK_one (no := no) (.int .u64 (.ofNat P) :: .int .i64 63 :: u64s (tbl.take j)) (u64s (List.replicate k 0)) (.int .u64 (.ofNat (tbl.getD j 0))) (.int .u64 (.ofNat 0)) kk
  rw [show (.int .u64 (.ofNat P) :: .int .i64 63 :: u64s (tbl.take j) : List AV).length = 0 + 2 + j * 1 by simp [h1]; omega] at this
  exact this
theorem newMachine_loop {p : Pos} {Q : XExit → Tm → Heap → Prop} (hend : ∀ tm h, tm.get (.lo .d0 .d3) = some (.ptr p 0) → Has h ((p, mach P tbl) :: L) → Q (.exit 0) tm h) :
    ∀ (k j : Nat), j + k = 256 → ∀ (tm : Tm) (h : Heap), Has h ((p, mach P (tbl.take j ++ List.replicate k 0)) :: L) → tm.get (.lo .d0 .d0) = some (.int .u64 (.ofNat P)) → tm.get (.lo .d0 .d3) = some (.ptr p 0) → tm.get (.lo .d0 .d4) = some (.int .u64 (.ofNat X)) → tm.get (.lo .d1 .d1) = some (.int .i64 (.ofNat j)) → LoopT E c_newMachine_b0 Q tm h := by
  intro k
  induction k with
  | zero =>
    intro j hj tm h H e0 e3 e4 e17
    obtain rfl : j = 256 := by omega
    obtain ⟨tm, rfl⟩ := sets4 e0 e3 e4 e17
    refine LoopT.wp ?_
    unfold c_newMachine_b0
    refine cS (cR ?_)
    refine oI (sem_is (b := false) rfl rfl) (oZ (cS (cF rfl (cX ?_))))
    have e : tbl.take 256 ++ List.replicate 0 0 = tbl := by rw [List.take_of_length_le (by rw [F.len]; omega)]; simp
    rw [e] at H
    exact hend _ _ rfl H
  | succ k ih =>
    intro j hj tm h H e0 e3 e4 e17
    obtain ⟨tm, rfl⟩ := sets4 e0 e3 e4 e17
    refine LoopT.wp ?_
    unfold c_newMachine_b0
    refine cS (cR ?_)
    refine oI (sem_is (b := true) rfl (ltI_of (b := 256) (by omega))) ?_
    refine oZ (cS (cC rfl (cK (cS (cB ?_)))))
    refine cS (cR ?_)
    refine oI rfl (oI rfl (oZ (wpC_phase rfl (oI rfl (oI rfl (oI rfl (oI rfl ?_)))))))
    refine oI (conv64_sem (by omega) rfl) ?_
    refine oI rfl (oI rfl (oI rfl (oI rfl ?_)))
    refine oZ ⟨?_, ?_⟩
    · refine kI (rfl) rfl rfl (kI (rfl) rfl rfl (kI (rfl) rfl rfl (kI (rfl) rfl rfl ?_)))
      refine kI (conv64_sem (by omega) rfl) rfl rfl ?_
      refine kI (rfl) rfl rfl (kI (rfl) rfl rfl (kI (rfl) rfl rfl (kI (rfl) rfl rfl ?_)))
      exact kZ
    · refine wp_call rfl (F.mod j (by omega) _) ?_
      rintro _ _ ⟨rfl, rfl⟩
      refine oZ (wpC_phase rfl ?_)
      refine oZ ⟨?_, ?_⟩
      · refine kI (rfl) rfl rfl (kI (rfl) rfl rfl (kI (rfl) rfl rfl (kI (rfl) rfl rfl (kI (rfl) rfl rfl (kI (rfl) rfl rfl ?_)))))
        exact kZ
      · refine wp_call rfl (F.times j (by omega) _) ?_
        rintro _ _ ⟨rfl, rfl⟩
        refine oZ (wpC_phase rfl ?_)
        refine oI (iaddrA_sem (j := j) (by omega) rfl rfl) ?_
        refine oZ ⟨?_, ?_⟩
        · refine kI (rfl) rfl rfl (kI (rfl) rfl rfl (kI (rfl) rfl rfl (kI (rfl) rfl rfl ?_)))
          refine kI (iaddrA_sem (j := j) (by omega) rfl rfl) rfl rfl ?_
          exact kZ
        · refine wp_store (k := 0) (o := 0 + 2 + j * 1) rfl rfl rfl rfl H rfl (fun kk => tbl_store F (by omega) kk) fun h H => ?_
          refine oZ (cL rfl ?_)
          refine oZ ⟨?_, ?_⟩
          · exact kZ
          · refine cR ?_
            refine oI (sem_int rfl (w64_succ (by omega))) ?_
            refine oI rfl (oZ ?_)
            exact ih (j + 1) (by omega) _ _ H rfl rfl rfl rfl
set_option maxRecDepth 20000 in
theorem newMachine_ok (C : Code E) (H : Has h L) : CallT E (.func n_newMachine [] []) [.int .u64 (.ofNat P)] h fun r h' => ∃ p, r = .ptr p 0 ∧ Has h' ((p, mach P tbl) :: L) := by
  refine CallT.body C.newMachine ?_
  unfold BodyT c_newMachine
  refine cS (cR ?_)
  refine oI rfl (oZ ?_)
  refine cS (cR ?_)
  refine oI rfl (oI rfl (wp_call rfl (F.degree _) ?_))
  rintro _ _ ⟨rfl, rfl⟩
  refine oI rfl ?_
  refine wp_box rfl rfl H fun q1 h H => ?_
  refine oI rfl (oZ ?_)
  refine cS (cR ?_)
  refine oI rfl (oI rfl (oI rfl (oI rfl ?_)))
  refine oI (sem_load rfl (H.at 0 rfl) (fun _ => rfl)) ?_
  refine wp_call rfl (F.power _) ?_
  rintro _ _ ⟨rfl, rfl⟩
  refine oI rfl (oZ (cS ?_))
  refine cS (cR ?_)
  refine oI rfl (oZ (cB ?_))
  have H : Has _ ((q1, mach P (tbl.take 0 ++ List.replicate 256 0)) :: L) := H
  refine wpC_loop (newMachine_loop F (p := q1) (fun tm h e3 H => ?_) 256 0 rfl _ _ H rfl rfl rfl rfl)
  obtain ⟨tm, rfl⟩ := sets1 e3
  refine cS (cR ?_)
  refine oI rfl (oI rfl (oZ (cT ?_)))
  refine ⟨trivial, _, rfl, ?_⟩
  exact ⟨_, rfl, H⟩
omit F in
theorem step_nat {f b : Nat} (hb : b < 256) (t : Nat) : Nat.xor (Nat.lor (Nat.land f (2 ^ 55 - 1) * 2 ^ 8 % 18446744073709551616) b) t = (f % 2 ^ 55 * 256 + b) ^^^ t := by
  have h1 : Nat.land f (2 ^ 55 - 1) = f % 2 ^ 55 := Nat.and_two_pow_sub_one_eq_mod f 55
  have h2 : f % 2 ^ 55 < 2 ^ 55 := Nat.mod_lt _ (by omega)
  have h3 : f % 2 ^ 55 * 2 ^ 8 % 18446744073709551616 = f % 2 ^ 55 * 2 ^ 8 := Nat.mod_eq_of_lt (by omega)
  have h4 : Nat.lor (f % 2 ^ 55 * 2 ^ 8) b = f % 2 ^ 55 * 256 + b := by
    have := Nat.shiftLeft_add_eq_or_of_lt (b := b) (i := 8) (by omega) (f % 2 ^ 55)
    rw [Nat.shiftLeft_eq] at this
    exact this.symm
  rw [h1, h3, h4]; rfl
omit F in
theorem part_u64 {i n : Nat} {a b : AV} {l : List Nat} (hn : l.getD i 0 = n) (hi : i < l.length) : partOf (a :: b :: u64s l) (0 + 2 + i * 1) none h = .ok (.int .u64 (.ofNat n)) h := by
  have h1 : nth (a :: b :: u64s l) (0 + 2 + i * 1) = some (.int .u64 (.ofNat n)) := by
    rw [nth_eq, show 0 + 2 + i * 1 = i + 1 + 1 by omega]
    subst hn
    simp [u64s, List.getElem?_eq_getElem hi]
  simp only [partOf, h1]
theorem on_loop {p : Pos} (hl : l.length ≤ 1000000) (hb : ∀ b ∈ l, b < 256) (H : Has h ((p, mach P tbl) :: L)) (hs : BV ((p, mach P tbl) :: L) v l) {fin : Nat} {Q : XExit → Tm → Heap → Prop} (hend : ∀ tm, tm.get (.lo .d0 .d1) = some (.int .u64 (.ofNat fin)) → Q (.exit 0) tm h) :
    ∀ (k j f : Nat), l.length - j = k → f < 2 ^ 63 → (l.drop j).foldl (fstep tbl) f = fin → ∀ (tm : Tm), tm.get (.lo .d0 .d0) = some (.ptr p 0) → tm.get (.lo .d0 .d1) = some (.int .u64 (.ofNat f)) → tm.get (.lo .d0 .d10) = some v → tm.get (.lo .d0 .d11) = some (.int .i64 (.ofNat l.length)) → tm.get (.lo .d0 .d12) = some (.int .i64 (.ofNat j)) → LoopT E c_on_b0 Q tm h := by
  intro k
  induction k using Nat.strongRecOn with
  | ind k ih =>
    intro j f hk hf hfin tm e0 e1 e10 e11 e12
    obtain ⟨tm, rfl⟩ := sets5 e0 e1 e10 e11 e12
    refine LoopT.wp ?_
    unfold c_on_b0
    refine cS (cR ?_)
    refine wp_bool rfl (fun hb1 => ?_) (fun hb1 => ?_)
    · have hj := of_ltN hb1
      have hbj : l[j] < 256 := hb _ (List.getElem_mem hj)
      have hor : Nat.lor (Nat.land f (2 ^ 55 - 1) * 2 ^ 8 % 18446744073709551616) l[j] < 2 ^ 64 := Nat.or_lt_two_pow (Nat.mod_lt _ (by omega)) (by omega)
      refine oZ (cS (cC rfl (cK (cS (cB ?_)))))
      refine cS (cR ?_)
      refine wp_byte H hs hj rfl rfl fun pv2 => ?_
      refine oI rfl (oZ (cS ?_))
      refine cS (cR ?_)
      refine oI rfl (oI rfl (oI rfl ?_))
      refine oI (sem_load rfl (H.at 0 rfl) (fun _ => rfl)) ?_
      refine oI (sem_is (b := false) rfl rfl) (oZ (cF rfl (cK ?_)))
      refine cS (cR ?_)
      refine oI rfl (oI rfl (oI rfl ?_))
      refine oI (sem_load rfl (H.at 0 rfl) (fun _ => rfl)) ?_
      refine oI (sem_int (m := .ofNat 55) rfl rfl) (oI rfl (oZ (wpC_phase rfl (oI rfl (oI rfl (oI (sem_int (m := .ofNat (2 ^ 55)) rfl rfl) (oI (sem_int (m := .ofNat (2 ^ 55 - 1)) rfl rfl) ?_)))))))
      refine oI (and_sem (by omega) (by omega) rfl rfl) ?_
      refine oI (shl_sem (b := 8) (by omega) rfl rfl) ?_
      refine oI rfl ?_
      refine oI (conv64_sem (Nat.lt_trans hbj (by omega)) rfl) ?_
      refine oI (or_sem (Nat.mod_lt _ (by omega)) (by omega) rfl rfl) ?_
      refine oI rfl (oI rfl (oI rfl ?_))
      refine oI (shr_sem (by omega) rfl rfl) ?_
      refine oI rfl (oI rfl ?_)
      refine oI (iaddrA_sem (j := f / 2 ^ 55) (by omega) rfl rfl) ?_
      refine oI (sem_load rfl (H.at 0 rfl) (fun _ => part_u64 rfl (by rw [F.len]; omega))) ?_
      refine oI (xor_sem hor (Nat.lt_trans (F.ok.lt _ (by omega)) (by omega)) rfl rfl) ?_
      refine oZ ⟨?_, ?_⟩
      · refine kI (rfl) rfl rfl (kI (rfl) rfl rfl (kI (sem_int (m := .ofNat (2 ^ 55)) rfl rfl) rfl rfl (kI (sem_int (m := .ofNat (2 ^ 55 - 1)) rfl rfl) rfl rfl ?_)))
        refine kI (and_sem (by omega) (by omega) rfl rfl) rfl rfl ?_
        refine kI (shl_sem (b := 8) (by omega) rfl rfl) rfl rfl ?_
        refine kI (rfl) rfl rfl ?_
        refine kI (conv64_sem (Nat.lt_trans hbj (by omega)) rfl) rfl rfl ?_
        refine kI (or_sem (Nat.mod_lt _ (by omega)) (by omega) rfl rfl) rfl rfl ?_
        refine kI (rfl) rfl rfl (kI (rfl) rfl rfl (kI (rfl) rfl rfl ?_))
        refine kI (shr_sem (by omega) rfl rfl) rfl rfl ?_
        refine kI (rfl) rfl rfl (kI (rfl) rfl rfl ?_)
        refine kI (iaddrA_sem (j := f / 2 ^ 55) (by omega) rfl rfl) rfl rfl ?_
        refine kI (sem_load rfl (H.at 0 rfl) (fun _ => part_u64 rfl (by rw [F.len]; omega))) rfl rfl ?_
        refine kI (xor_sem hor (Nat.lt_trans (F.ok.lt _ (by omega)) (by omega)) rfl rfl) rfl rfl ?_
        exact kZ
      · refine oI rfl (oZ (cL rfl ?_))
        refine oZ ⟨?_, ?_⟩
        · exact kZ
        · refine cR ?_
          refine oI (sem_int rfl (w64_succ (by omega))) ?_
          refine oI rfl (oZ ?_)
          refine ih (l.length - (j + 1)) (by omega) (j + 1) (fstep tbl f l[j]) rfl (fstep_lt F.ok hf hbj) ?_ _ rfl ?_ rfl rfl rfl
          · rw [← hfin, List.drop_eq_getElem_cons hj]; rfl
          · exact congrArg (fun n => some (AV.int .u64 (.ofNat n))) (step_nat hbj _)
    · have hj := of_geN hb1
      refine oZ (cS (cF rfl (cX (hend _ ?_))))
      rw [List.drop_of_length_le hj] at hfin
      subst hfin; rfl
theorem on_ok (C : Code E) {p : Pos} (hl : l.length ≤ 1000000) (hb : ∀ b ∈ l, b < 256) (H : Has h ((p, mach P tbl) :: L)) (hs : BV ((p, mach P tbl) :: L) v l) : CallT E (.func n_on [] []) [.ptr p 0, .int .u64 1, v] h fun r h' => r = .int .u64 (.ofNat (fpOf tbl l)) ∧ h' = h := by
  refine CallT.body C.on ?_
  unfold BodyT c_on
  refine cS (cR ?_)
  refine oI rfl (oZ (cS ?_))
  refine cS (cR ?_)
  refine oI rfl (oI (len_BV hs rfl) (oI rfl (oZ (cB ?_))))
  refine wpC_loop (on_loop F hl hb H hs (fin := fpOf tbl l) (fun tm e1 => ?_) (l.length - 0) 0 1 rfl (by omega) rfl _ rfl rfl rfl rfl rfl)
  obtain ⟨tm, rfl⟩ := sets1 e1
  refine cS (cR ?_)
  refine oI rfl (oI rfl (oZ (cT ?_)))
  refine ⟨trivial, _, rfl, ?_⟩
  exact ⟨rfl, rfl⟩
theorem of_ok (C : Code E) (hl : l.length ≤ 100000) (hb : ∀ b ∈ l, b < 256) (H : Has h L) (hs : BV L v l) : CallT E (.func n_of [] []) [.int .u64 (.ofNat P), v] h fun r h' => r = .tuple [.int .u64 (.ofNat (fpOf tbl l)), .int .i64 0] ∧ Has h' L := by
  refine CallT.body C.of ?_
  unfold BodyT c_of
  refine cS (cR ?_)
  refine oI rfl (oI rfl (oZ (cS ?_)))
  refine cS (cR ?_)
  refine oI rfl (wp_call rfl (isPoly_ok F C) ?_)
  rintro _ _ ⟨rfl, rfl⟩
  refine oI rfl (oZ (cF rfl (cK (cS ?_))))
  refine cS (cR ?_)
  refine oI rfl (oI (len_BV hs rfl) ?_)
  refine oI (sem_is (b := false) rfl (ltI_F (by rw [ofNat_cast]; omega))) ?_
  refine oZ (cF rfl (cK ?_))
  refine cS (cR ?_)
  refine oI rfl (wp_call rfl (newMachine_ok F C H) ?_)
  rintro _ h ⟨p, rfl, H⟩
  refine oI rfl ?_
  refine wp_call rfl (on_ok F C (by omega) hb H hs.cons) ?_
  rintro _ _ ⟨rfl, rfl⟩
  refine oI rfl (oI rfl (oZ (cT ?_)))
  refine ⟨trivial, _, rfl, ?_⟩
  exact ⟨rfl, H.tail⟩
end
end
end Go.X
