/- The bytes of checkpoints, made and read. -/
import Derived.Test.YtmnbopcehmcaeaaGreatDoorFCf1
namespace Go.X
open Go
section
variable {E : XEnv} {d : Option Slot} {ops : List XOp} {Q : Tm → Heap → Prop} {tm : Tm} {x y : XO} {h : Heap} {L : List (Pos × AObj)} {v w : AV} {l m : List Nat}
def Own (h : Heap) (L : List (Pos × AObj)) (P : List (Pos × AObj) → Prop) : Prop := ∃ L', (∀ x ∈ L, x ∈ L') ∧ Has h L' ∧ P L'
theorem Gr1.sv {ty : TypeId} (hg : Gr1 ty h L v l) : ∃ x, Has h (x :: L) ∧ SV (x :: L) v l := by
  obtain ⟨p, rfl, H⟩ := hg
  exact ⟨_, H, p, 0, .up 1, ty, avBytes l, true, rfl, by simp, by rw [avB_len]; omega, by rw [List.drop_zero, List.take_of_length_le (by rw [avB_len]; omega)], rfl⟩
theorem wp_isnil (hs : BV L v l) (hv : x.val tm = some v) (ht : l = [] → wpOps E ops Q (putT d (.bool true) tm) h) (hf : wpOps E ops Q (putT d (.bool false) tm) h) : wpOps E (⟨d, none, .ins (.same false .slice x (.c .nilslice))⟩ :: ops) Q tm h := by
  rcases hs with ⟨rfl, e⟩ | ⟨cs, fu, rfl, _⟩ | ⟨p, o, cap, ty, cs, sp, rfl, _⟩
  · exact oI (v := .bool true) (h' := h) (by simp only [XI.sem, sameS, withO_run hv]; rfl) (ht e)
  · exact oI (v := .bool false) (h' := h) (by simp only [XI.sem, sameS, withO_run hv]; rfl) hf
  · exact oI (v := .bool false) (h' := h) (by simp only [XI.sem, sameS, withO_run hv]; rfl) hf
theorem w64_sub {a b : Nat} (h1 : b ≤ a) (h2 : a ≤ 1000000) : wrapF .i64 (Int.ofNat a - (b : Int)) = Int.ofNat (a - b) := (w64 (by rw [ofNat_cast]; omega) (by rw [ofNat_cast]; omega)).trans (by simp only [ofNat_cast]; omega)
theorem beN_step {j : Nat} (hj : j < l.length) : beN (l.take (j + 1)) = beN (l.take j) * 256 + l[j] := by
  rw [List.take_add_one, List.getElem?_eq_getElem hj]
  unfold beN
  rw [List.foldl_append]; rfl
theorem beN_take {j : Nat} (hb : ∀ b ∈ l, b < 256) (hj : j ≤ 7) : beN (l.take j) < 2 ^ 56 := by
  have h1 := beN_lt (l := l.take j) fun b m => hb b (List.mem_of_mem_take m)
  have h2 : (l.take j).length ≤ 7 := by simp; omega
  exact Nat.lt_of_lt_of_le h1 (Nat.le_trans (Nat.pow_le_pow_right (by omega) h2) (by decide))
theorem or8 {n b : Nat} (hn : n < 2 ^ 56) (hb : b < 256) : Nat.lor (n * 2 ^ 8 % 18446744073709551616) b = n * 256 + b := by
  have h3 : n * 2 ^ 8 % 18446744073709551616 = n * 2 ^ 8 := Nat.mod_eq_of_lt (by omega)
  have := Nat.shiftLeft_add_eq_or_of_lt (b := b) (i := 8) (by omega) n
  rw [Nat.shiftLeft_eq] at this
  rw [h3]; exact this.symm
section
variable {P X : Nat} {tbl : List Nat} (F : Fin E P X tbl)
include F
theorem sealed_ok (C : Code E) (hl : l.length ≤ 100000) (hb : ∀ b ∈ l, b < 256) (hg : Gr1 tyB h L v l) : CallT E (.func n_sealed [] []) [v] h fun r h' => Gr1 tyB h' L r (l ++ be 8 (fpOf tbl l)) := by
  obtain ⟨x, H, hs⟩ := hg.sv
  have hlt := fold_lt F.ok l 1 (by omega) hb
  refine CallT.body C.sealed ?_
  unfold BodyT c_sealed
  refine cS (cR ?_)
  refine oI rfl (oZ ?_)
  refine cS (cR ?_)
  refine wp_call rfl (F.poly _) ?_
  rintro _ _ ⟨rfl, rfl⟩
  refine oI rfl (oI rfl (oI rfl (oI rfl (oI rfl (oZ ?_)))))
  refine cS (cR ?_)
  refine oI rfl (oI rfl (wp_call rfl (of_ok F C hl hb H hs.bv) ?_))
  rintro _ h ⟨rfl, H⟩
  refine oI rfl (oI rfl (oI rfl (oI rfl (oI rfl (oZ ?_)))))
  refine cS (cR ?_)
  refine oI rfl (wp_call rfl (clip_ok C hs) ?_)
  rintro v1 _ ⟨⟨p1, o1, ty1, cs1, sp1, rfl, hm1, hle1, he1⟩, rfl⟩
  refine oI rfl ?_
  refine wp_call rfl (placed_ok C (n := 8) (by omega) (Nat.le_refl _) (by omega) (.inr ⟨H.tail, _, p1, o1, ty1, cs1, sp1, rfl, H, hm1, hle1, he1⟩)) ?_
  rintro _ h hg2
  refine oI rfl (oZ (cT ?_))
  refine ⟨trivial, _, rfl, ?_⟩
  exact hg2
def FrameR (tbl : List Nat) (h : Heap) (L : List (Pos × AObj)) (z : Int) (l : List Nat) : AV → Heap → Prop := fun r h' => (¬ (1 ≤ z ∧ z ≤ 1000000000 ∧ l.length ≤ 90000) ∧ r = .tuple [.nilslice, .int .i64 1] ∧ h' = h) ∨
  ∃ g v, z = .ofNat g ∧ 1 ≤ g ∧ g ≤ 1000000000 ∧ l.length ≤ 90000 ∧ r = .tuple [v, .int .i64 0] ∧ Gr1 tyB h' L v (frame (fpOf tbl) g l)
def FrO (tbl : List Nat) (L : List (Pos × AObj)) (z : Int) (l : List Nat) : AV → Heap → Prop := fun r h' => ∃ v, r = .tuple [v, .int .i64 (frE z l)] ∧ Own h' L fun M => BV M v (frL (fpOf tbl) z l)
omit F in
theorem frO_of {z : Int} {r : AV} {h' : Heap} (H : Has h L) (hr : FrameR tbl h L z l r h') : FrO tbl L z l r h' := by
  rcases hr with ⟨hn, rfl, rfl⟩ | ⟨g, v, rfl, h1, h2, h3, rfl, hg⟩
  · have hk : ¬ okF z l := hn
    refine ⟨.nilslice, by rw [frE, if_neg hk], L, fun _ m => m, H, ?_⟩
    rw [frL, if_neg hk]; exact .nil
  · have hk : okF (.ofNat g) l := okF_nat.2 ⟨h1, h2, h3⟩
    obtain ⟨x, H, hs⟩ := hg.sv
    refine ⟨v, by rw [frE, if_pos hk], _, fun _ m => List.mem_cons_of_mem _ m, H, ?_⟩
    rw [frL, if_pos hk]; exact hs.bv
theorem frame_call (C : Code E) {z : Int} (hl : l.length ≤ 9223372036854775807) (hb : ∀ b ∈ l, b < 256) (H : Has h L) (hs : BV L v l) : CallT E (.func n_frame [] []) [.int .i64 z, v] h (FrameR tbl h L z l) := by
  refine CallT.body C.frame ?_
  unfold BodyT c_frame
  refine cS (cR ?_)
  refine oI rfl (oI rfl (oZ (cS ?_)))
  refine cS (cR ?_)
  refine oI rfl ?_
  refine wp_bool rfl (fun hb1 => ?_) (fun hb1 => ?_)
  · have hb1 := ltI_lt hb1
    refine oI rfl (oF rfl (oF rfl (oI rfl (oI rfl (oF rfl (oF rfl (oF rfl (oI rfl (oZ (cC rfl ?_))))))))))
    refine cS (cR ?_)
    refine oI rfl (oI rfl (oZ (cT ?_)))
    refine ⟨trivial, _, rfl, ?_⟩
    exact .inl ⟨by first | omega | (simp only [ofNat_cast] at *; omega), rfl, rfl⟩
  · have hb1 := ltI_ge hb1
    refine oI rfl (oN rfl (oI rfl (oN rfl ?_)))
    refine wp_bool rfl (fun hb2 => ?_) (fun hb2 => ?_)
    · have hb2 := ltI_lt hb2
      refine oI rfl (oI rfl (oF rfl (oF rfl (oF rfl (oI rfl (oZ (cC rfl ?_)))))))
      refine cS (cR ?_)
      refine oI rfl (oI rfl (oZ (cT ?_)))
      refine ⟨trivial, _, rfl, ?_⟩
      exact .inl ⟨by first | omega | (simp only [ofNat_cast] at *; omega), rfl, rfl⟩
    · have hb2 := ltI_ge hb2
      refine oI rfl (oI rfl (oN rfl (oI rfl (oN rfl (oI (len_BV hs rfl) (oN rfl ?_))))))
      refine wp_bool rfl (fun hb3 => ?_) (fun hb3 => ?_)
      · have hb3 := ltI_lt hb3
        refine oI rfl (oZ (cC rfl ?_))
        refine cS (cR ?_)
        refine oI rfl (oI rfl (oZ (cT ?_)))
        refine ⟨trivial, _, rfl, ?_⟩
        exact .inl ⟨by first | omega | (simp only [ofNat_cast] at *; omega), rfl, rfl⟩
      · have hb3 := ltI_ge hb3
        obtain ⟨g, rfl⟩ : ∃ g : Nat, z = .ofNat g := ⟨z.toNat, by rw [ofNat_cast]; omega⟩
        have hg1 : 1 ≤ g := by simp only [ofNat_cast] at *; omega
        have hg2 : g ≤ 1000000000 := by simp only [ofNat_cast] at *; omega
        have hl2 : l.length ≤ 90000 := by rw [ofNat_cast] at hb3; omega
        refine oI rfl (oZ (cF rfl (cK ?_)))
        refine cS (cR ?_)
        refine wp_bslice (fun k => rfl) H fun q4 h H => ?_
        refine wp_mark (k := 0) H rfl rfl fun h H => ?_
        refine oI rfl (oZ ?_)
        refine cS (cR ?_)
        refine oI rfl (oI rfl ?_)
        refine oI (conv64_sem (a := g) (by omega) rfl) ?_
        refine wp_call rfl (placed_ok C (n := 8) (l := [70, 71, 67]) (by omega) (Nat.le_refl _) (by decide) (.inr ⟨H.tail, _, q4, 0, tyB, _, false, rfl, H, List.mem_cons_self, by decide, rfl⟩)) ?_
        rintro v1 h hgA
        refine oI rfl (oZ ?_)
        refine cS (cR ?_)
        refine oI rfl (oI rfl (oI (len_BV hs rfl) ?_))
        refine oI (conv64_sem (a := l.length) (by omega) rfl) ?_
        refine wp_call rfl (placed_ok C (n := 8) (by omega) (Nat.le_refl _) (by simp only [List.length_append, be_len, List.length_cons, List.length_nil]; omega) (.inl hgA)) ?_
        rintro v2 h hgB
        refine oI rfl (oZ ?_)
        refine cS (cR ?_)
        refine oI rfl (oI rfl ?_)
        refine wp_app (m := l) (.inl hgB) (srcOf_BV hgB.has hs) (by simp only [List.length_append, be_len, List.length_cons, List.length_nil]; omega) rfl rfl fun v3 h hgC0 hgC _ => ?_
        have hgC := hgC (.inr hgB)
        refine wp_call rfl (sealed_ok F C (l := fbody g l) (by rw [fbody_len]; omega) (fbody_byte (g := g) hb) hgC) ?_
        rintro v4 h hg4
        refine oI rfl (oI rfl (oZ (cT ?_)))
        refine ⟨trivial, _, rfl, ?_⟩
        exact .inr ⟨g, _, rfl, by omega, by omega, by omega, rfl, hg4⟩
theorem frame_ok (C : Code E) {z : Int} (hl : l.length ≤ 9223372036854775807) (hb : ∀ b ∈ l, b < 256) (H : Has h L) (hs : BV L v l) : CallT E (.func n_frame [] []) [.int .i64 z, v] h (FrO tbl L z l) := (frame_call F C hl hb H hs).mono fun _ _ => frO_of H
end
theorem taken_loop (H : Has h L) (hs : BV L v l) (hb : ∀ b ∈ l, b < 256) (hlen : l.length ≤ 8) {Q : XExit → Tm → Heap → Prop} (hend : ∀ tm, tm.get (.lo .d0 .d3) = some (.int .u64 (.ofNat (beN l))) → Q (.exit 0) tm h) :
    ∀ (k j : Nat), l.length - j = k → j ≤ l.length → ∀ (tm : Tm), tm.get (.lo .d0 .d3) = some (.int .u64 (.ofNat (beN (l.take j)))) → tm.get (.lo .d0 .d6) = some v → tm.get (.lo .d0 .d7) = some (.int .i64 (.ofNat l.length)) → tm.get (.lo .d0 .d8) = some (.int .i64 (.ofNat j)) → LoopT E c_taken_b0 Q tm h := by
  intro k
  induction k using Nat.strongRecOn with
  | ind k ih =>
    intro j hk hjl tm e3 e6 e7 e8
    obtain ⟨tm, rfl⟩ := sets4 e3 e6 e7 e8
    refine LoopT.wp ?_
    unfold c_taken_b0
    refine cS (cR ?_)
    refine wp_bool rfl (fun hb1 => ?_) (fun hb1 => ?_)
    · have hj := of_ltN hb1
      have hbj : l[j] < 256 := hb _ (List.getElem_mem hj)
      have hn := beN_take (l := l) hb (j := j) (by omega)
      have hst := beN_step (l := l) hj
      refine oZ (cS (cC rfl (cK (cS (cB ?_)))))
      refine cS (cR ?_)
      refine wp_byte H hs hj rfl rfl fun pv2 => ?_
      refine oI rfl (oZ (cR (oI rfl ?_)))
      refine oI (shl_sem (b := 8) (by omega) rfl rfl) ?_
      refine oI rfl ?_
      refine oI (conv64_sem (Nat.lt_trans hbj (by omega)) rfl) ?_
      refine oI (or_sem (Nat.mod_lt _ (by omega)) (by omega) rfl rfl) ?_
      refine oI rfl (oZ (cR ?_))
      refine oI (sem_int rfl (w64_succ (by omega))) ?_
      refine oI rfl (oZ ?_)
      rw [or8 hn hbj, ← hst]
      exact ih (l.length - (j + 1)) (by omega) (j + 1) rfl hj _ rfl rfl rfl rfl
    · have hj := of_geN hb1
      refine oZ (cS (cF rfl (cX ?_)))
      obtain rfl : j = l.length := by omega
      rw [List.take_length]
      exact hend _ rfl
theorem taken_ok (C : Code E) (H : Has h L) (hs : BV L v l) (hb : ∀ b ∈ l, b < 256) (hlen : l.length ≤ 8) : CallT E (.func n_taken [] []) [v] h fun r h' => r = .int .u64 (.ofNat (beN l)) ∧ h' = h := by
  refine CallT.body C.taken ?_
  unfold BodyT c_taken
  refine cS (cR ?_)
  refine oI rfl (oZ ?_)
  refine cS (cR ?_)
  refine oI rfl (oZ (cS ?_))
  refine cS (cR ?_)
  refine oI rfl (oI (len_BV hs rfl) (oI rfl (oZ (cB ?_))))
  refine wpC_loop (taken_loop H hs hb hlen (fun tm e3 => ?_) (l.length - 0) 0 rfl (Nat.zero_le _) _ rfl rfl rfl rfl)
  obtain ⟨tm, rfl⟩ := sets1 e3
  refine cS (cR ?_)
  refine oI rfl (oI rfl (oZ (cT ?_)))
  refine ⟨trivial, _, rfl, ?_⟩
  exact ⟨rfl, rfl⟩
def numI (n : Nat) : Int := if n ≤ 2000000000 then .ofNat n else -1
theorem number_loop (H : Has h L) (hs : BV L v l) (hb : ∀ b ∈ l, b < 256) (hlen : l.length = 8) {Q : XExit → Tm → Heap → Prop} (hend : ∀ tm, beN l ≤ 2000000000 → tm.get (.lo .d0 .d3) = some (.int .i64 (.ofNat (beN l))) → Q (.exit 0) tm h) (hret : ∀ tm, ¬ beN l ≤ 2000000000 → tm.get (.lo .d0 .d2) = some (.int .i64 (-1)) → Q .ret tm h) :
    ∀ (k j : Nat), 8 - j = k → j ≤ 8 → beN (l.take j) ≤ 2000000000 → ∀ (tm : Tm), tm.get (.lo .d0 .d0) = some v → tm.get (.lo .d0 .d3) = some (.int .i64 (.ofNat (beN (l.take j)))) → tm.get (.lo .d0 .d4) = some (.int .i64 (.ofNat j)) → LoopT E c_number_b0 Q tm h := by
  intro k
  induction k using Nat.strongRecOn with
  | ind k ih =>
    intro j hk hjl hle tm e0 e3 e4
    obtain ⟨tm, rfl⟩ := sets3 e0 e3 e4
    refine LoopT.wp ?_
    unfold c_number_b0
    refine cS ?_
    refine cS (cR ?_)
    refine oI rfl ?_
    refine wp_bool rfl (fun hb1 => ?_) (fun hb1 => ?_)
    · have hj8 : j < 8 := of_ltN (b := 8) hb1
      have hj : j < l.length := by omega
      have hbj : l[j] < 256 := hb _ (List.getElem_mem hj)
      have hst := beN_step (l := l) hj
      refine oZ (cC rfl (cK (cS (cB ?_))))
      refine cS (cR ?_)
      refine oI rfl ?_
      refine oI (sem_int (m := .ofNat (beN (l.take j) * 256)) rfl ((w64 (by simp only [ofNat_cast]; omega) (by simp only [ofNat_cast]; omega)).trans (by simp only [ofNat_cast]; omega))) ?_
      refine oI rfl (oI rfl ?_)
      refine wp_byte H hs hj rfl rfl fun pv2 => ?_
      refine oI (convI_sem (a := l[j]) (by omega) rfl) ?_
      refine oI (sem_int (m := .ofNat (beN (l.take (j + 1)))) rfl ((w64 (by simp only [ofNat_cast]; omega) (by simp only [ofNat_cast]; omega)).trans (by rw [hst]; simp only [ofNat_cast]; omega))) ?_
      refine oI rfl (oZ ?_)
      refine cS (cR ?_)
      refine oI rfl ?_
      refine wp_bool rfl (fun hb3 => ?_) (fun hb3 => ?_)
      · have hbig := ltI_lt hb3
        simp only [ofNat_cast] at hbig
        refine oZ (cC rfl ?_)
        refine cS (cR ?_)
        refine oI rfl (oZ (cT ?_))
        have := beN_take_le l (j + 1)
        exact hret _ (by omega) rfl
      · have hbig := ltI_ge hb3
        simp only [ofNat_cast] at hbig
        refine oZ (cF rfl (cK (cR (oI rfl ?_))))
        refine oI (sem_int rfl (w64_succ (by omega))) ?_
        refine oI rfl (oZ ?_)
        exact ih (8 - (j + 1)) (by omega) (j + 1) rfl hj8 (by omega) _ rfl rfl rfl
    · have hj8 : 8 ≤ j := of_geN (b := 8) hb1
      refine oZ (cF rfl (cX ?_))
      have hl8 : l.take j = l := List.take_of_length_le (by omega)
      rw [hl8] at hle ⊢
      exact hend _ hle rfl
theorem number_ok (C : Code E) (H : Has h L) (hs : BV L v l) (hb : ∀ b ∈ l, b < 256) (hlen : l.length = 8) : CallT E (.func n_number [] []) [v] h fun r h' => r = .int .i64 (numI (beN l)) ∧ h' = h := by
  refine CallT.body C.number ?_
  unfold BodyT c_number
  refine cS (cR ?_)
  refine oI rfl (oZ ?_)
  refine cS (cR ?_)
  refine oI rfl (oZ (cS ?_))
  refine cS (cR ?_)
  refine oI rfl (oZ (cB ?_))
  refine wpC_loop (number_loop H hs hb hlen (fun tm hle e3 => ?_) (fun tm hle e2 => ?_) 8 0 rfl (by omega) (by simp [beN]) _ rfl rfl rfl)
  · obtain ⟨tm, rfl⟩ := sets1 e3
    refine cS (cR ?_)
    refine oI rfl (oI rfl (oZ (cT ?_)))
    refine ⟨trivial, _, rfl, ?_⟩
    exact ⟨by rw [numI, if_pos hle]; rfl, rfl⟩
  · obtain ⟨tm, rfl⟩ := sets1 e2
    refine ⟨trivial, _, rfl, ?_⟩
    exact ⟨by rw [numI, if_neg hle]; rfl, rfl⟩
theorem hasPrefix_ok (C : Code E) (H : Has h L) (hs : BV L v l) (hw : BV L w m) (hb : ∀ b ∈ l, b < 256) (hm : ∀ b ∈ m, b < 256) : CallT E (.func n_hasPrefix [] []) [v, w] h fun r h' => r = .bool (decide (m.length ≤ l.length ∧ l.take m.length = m)) ∧ h' = h := by
  refine CallT.body C.hasPrefix ?_
  unfold BodyT c_hasPrefix
  refine cS (cR ?_)
  refine oI rfl (oZ ?_)
  refine cS (cR ?_)
  refine oI rfl (oI (len_BV hs rfl) (oI rfl (oI (len_BV hw rfl) ?_)))
  refine wp_bool rfl (fun hb1 => ?_) (fun hb1 => ?_)
  · have hge := leI_le hb1
    simp only [ofNat_cast] at hge
    refine oI rfl (oN rfl (oI rfl (oN rfl (oI rfl (oN rfl (oI (len_BV hw rfl) (oN rfl ?_)))))))
    refine oI (cutB_sem (b := 0) (e := m.length) hs rfl (fun _ => rfl) (fun _ => rfl) (by omega) (by omega)) ?_
    refine oN rfl (oI rfl (oN rfl ?_))
    refine wp_call rfl (equal_ok C H (hs.cut (b := 0) (e := m.length) (by omega) (by omega)) hw (fun b hb1 => hb b (List.mem_of_mem_take (List.mem_of_mem_drop hb1))) hm) ?_
    rintro _ _ ⟨rfl, rfl⟩
    refine oI rfl (oI rfl (oZ (cT ?_)))
    refine ⟨trivial, _, rfl, ?_⟩
    refine ⟨?_, rfl⟩
    have h1 : (l.take m.length).drop 0 = l.take m.length := List.drop_zero ..
    rw [h1]
    have h2 : m.length ≤ l.length := by omega
    show AV.bool _ = AV.bool _
    simp [h2]
  · have hge := leI_gt hb1
    simp only [ofNat_cast] at hge
    refine oI rfl (oF rfl (oF rfl (oF rfl (oF rfl (oF rfl (oF rfl (oI rfl (oI rfl (oZ (cT ?_))))))))))
    refine ⟨trivial, _, rfl, ?_⟩
    refine ⟨?_, rfl⟩
    have h2 : ¬ m.length ≤ l.length := by omega
    show AV.bool _ = AV.bool _
    simp [h2]
theorem cutPrefix_ok (C : Code E) (H : Has h L) (hs : BV L v l) (hw : BV L w m) (hb : ∀ b ∈ l, b < 256) (hm : ∀ b ∈ m, b < 256) : CallT E (.func n_cutPrefix [] []) [v, w] h fun r h' => ((¬ (m.length ≤ l.length ∧ l.take m.length = m) ∧ r = .tuple [v, .bool false]) ∨ (m.length ≤ l.length ∧ l.take m.length = m ∧ r = .tuple [cutB v m.length l.length, .bool true])) ∧ h' = h := by
  refine CallT.body C.cutPrefix ?_
  unfold BodyT c_cutPrefix
  refine cS (cR ?_)
  refine oI rfl (oI rfl (oZ (cS ?_)))
  refine cS (cR ?_)
  refine oI rfl (oI rfl (wp_call rfl (hasPrefix_ok C H hs hw hb hm) ?_))
  rintro _ _ ⟨rfl, rfl⟩
  by_cases hp : m.length ≤ l.length ∧ l.take m.length = m
  · rw [decide_eq_true hp]
    refine oI rfl (oZ (cF rfl (cK ?_)))
    refine cS (cR ?_)
    refine oI rfl (oI rfl (oI (len_BV hw rfl) ?_))
    refine oI (cutB_sem (b := m.length) (e := l.length) hs rfl (fun _ => rfl) (fun _ => rfl) hp.1 (Nat.le_refl _)) ?_
    refine oI rfl (oI rfl (oZ (cT ?_)))
    refine ⟨trivial, _, rfl, ?_⟩
    exact ⟨.inr ⟨hp.1, hp.2, rfl⟩, rfl⟩
  · rw [decide_eq_false hp]
    refine oI rfl (oZ (cC rfl ?_))
    refine cS (cR ?_)
    refine oI rfl (oI rfl (oI rfl (oZ (cT ?_))))
    refine ⟨trivial, _, rfl, ?_⟩
    exact ⟨.inl ⟨hp, rfl⟩, rfl⟩
theorem bclone_ok (C : Code E) (H : Has h L) (hs : BV L v l) (hn : l.length ≤ 1000000) : CallT E (.func n_bclone [] []) [v] h fun r h' => Own h' L fun M => BV M r l := by
  refine CallT.body C.bclone ?_
  unfold BodyT c_bclone
  refine cS (cR ?_)
  refine oI rfl (oZ (cS ?_))
  refine cS (cR ?_)
  refine oI rfl ?_
  refine wp_isnil hs rfl (fun he => ?_) ?_
  · subst he
    refine oZ (cC rfl ?_)
    refine cS (cR ?_)
    refine oI rfl (oZ (cT ?_))
    refine ⟨trivial, _, rfl, ?_⟩
    exact ⟨L, fun _ m => m, H, .nil⟩
  · have := hn
    refine oZ (cF rfl (cK ?_))
    refine cS (cR ?_)
    refine wp_bslice (fun k => rfl) H fun q2 h H => ?_
    refine oI rfl ?_
    refine wp_app (l := []) (m := l) (.inr ⟨H, _, q2, 0, tyB, [], false, rfl, H, List.mem_cons_self, Nat.zero_le _, rfl⟩) (srcOf_BV H hs.cons) (by simp only [List.length_nil]; omega) rfl rfl fun v1 h hg hg1 hg0 => ?_
    refine oI rfl (oZ (cT ?_))
    refine ⟨trivial, _, rfl, ?_⟩
    by_cases hne : l = []
    · obtain ⟨rfl, rfl⟩ := hg0 hne
      subst hne
      exact ⟨_, fun _ m => List.mem_cons_of_mem _ m, H, .inr (.inr ⟨_, 0, .ex 0, tyB, [], false, rfl, List.mem_cons_self, Nat.zero_le _, rfl, Nat.le_refl _⟩)⟩
    · obtain ⟨x, H, hs⟩ := ((hg1 (.inl hne)).sub (List.sublist_cons_self _ _)).sv
      exact ⟨_, fun _ m => List.mem_cons_of_mem _ m, H, hs.bv⟩
end
end Go.X
