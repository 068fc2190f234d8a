/- The bytes of checkpoints, made and refused. -/
import Derived.Test.YtmnbopcehmcaeaaGreatDoorTCt1
namespace Go.X
open Go
section
variable {E : XEnv} {h : Heap} {L : List (Pos × AObj)} {v w : AV} {l m : List Nat}
theorem Gr1.sv {ty : TypeId} (hg : Gr1 ty h L v l) : ∃ x, Has h (x :: L) ∧ SV (x :: L) v l := by
  obtain ⟨p, rfl, H⟩ := hg
  exact ⟨_, H, p, 0, .up 1, ty, avBytes l, true, rfl, by simp, by rw [avB_len]; omega, by rw [List.drop_zero, List.take_of_length_le (by rw [avB_len]; omega)], rfl⟩
section
variable {P X : Nat} {tbl : List Nat} (F : Fin E P X tbl)
include F
theorem sealed_ok (C : Code E) (hl : l.length ≤ 100000) (hb : ∀ b ∈ l, b < 256) (hg : Gr1 tyB h L v l) : CallT E (.func n_sealed [] []) [v] h fun r h' => Gr1 tyB h' L r (l ++ be 8 (fpOf tbl l)) := by
  obtain ⟨x, H, hs⟩ := hg.sv
  have hlt := fold_lt F.ok l 1 (by omega) hb
  refine CallT.body C.sealed ?_
  unfold BodyT c_sealed
  refine cS (cR ?_)
  refine oI rfl (oZ ?_)
  refine cS (cR ?_)
  refine wp_call rfl (F.poly _) ?_
  rintro _ _ ⟨rfl, rfl⟩
  refine oI rfl (oI rfl (oI rfl (oI rfl (oI rfl (oZ ?_)))))
  refine cS (cR ?_)
  refine oI rfl (oI rfl (wp_call rfl (of_ok F C hl hb H hs.bv) ?_))
  rintro _ h ⟨rfl, H⟩
  refine oI rfl (oI rfl (oI rfl (oI rfl (oI rfl (oZ ?_)))))
  refine cS (cR ?_)
  refine oI rfl (wp_call rfl (clip_ok C hs) ?_)
  rintro v1 _ ⟨⟨p1, o1, ty1, cs1, sp1, rfl, hm1, hle1, he1⟩, rfl⟩
  refine oI rfl ?_
  refine wp_call rfl (placed_ok C (n := 8) (by omega) (Nat.le_refl _) (by omega) (.inr ⟨H.tail, _, p1, o1, ty1, cs1, sp1, rfl, H, hm1, hle1, he1⟩)) ?_
  rintro _ h hg2
  refine oI rfl (oZ (cT ?_))
  refine ⟨trivial, _, rfl, ?_⟩
  exact hg2
def FrameR (tbl : List Nat) (h : Heap) (L : List (Pos × AObj)) (z : Int) (l : List Nat) : AV → Heap → Prop := fun r h' => (¬ (1 ≤ z ∧ z ≤ 1000000000 ∧ l.length ≤ 90000) ∧ r = .tuple [.nilslice, .int .i64 1] ∧ h' = h) ∨
  ∃ g v, z = .ofNat g ∧ 1 ≤ g ∧ g ≤ 1000000000 ∧ l.length ≤ 90000 ∧ r = .tuple [v, .int .i64 0] ∧ Gr1 tyB h' L v (frame (fpOf tbl) g l)
theorem frame_call (C : Code E) {z : Int} (hl : l.length ≤ 9223372036854775807) (hb : ∀ b ∈ l, b < 256) (H : Has h L) (hs : BV L v l) : CallT E (.func n_frame [] []) [.int .i64 z, v] h (FrameR tbl h L z l) := by
  refine CallT.body C.frame ?_
  unfold BodyT c_frame
  refine cS (cR ?_)
  refine oI rfl (oI rfl (oZ (cS ?_)))
  refine cS (cR ?_)
  refine oI rfl ?_
  refine wp_bool rfl (fun hb1 => ?_) (fun hb1 => ?_)
  · have hb1 := ltI_lt hb1
    refine oI rfl (oF rfl (oF rfl (oI rfl (oI rfl (oF rfl (oF rfl (oF rfl (oI rfl (oZ (cC rfl ?_))))))))))
    refine cS (cR ?_)
    refine oI rfl (oI rfl (oZ (cT ?_)))
    refine ⟨trivial, _, rfl, ?_⟩
    exact .inl ⟨by first | omega | (simp only [ofNat_cast] at *; omega), rfl, rfl⟩
  · have hb1 := ltI_ge hb1
    refine oI rfl (oN rfl (oI rfl (oN rfl ?_)))
    refine wp_bool rfl (fun hb2 => ?_) (fun hb2 => ?_)
    · have hb2 := ltI_lt hb2
      refine oI rfl (oI rfl (oF rfl (oF rfl (oF rfl (oI rfl (oZ (cC rfl ?_)))))))
      refine cS (cR ?_)
      refine oI rfl (oI rfl (oZ (cT ?_)))
      refine ⟨trivial, _, rfl, ?_⟩
      exact .inl ⟨by first | omega | (simp only [ofNat_cast] at *; omega), rfl, rfl⟩
    · have hb2 := ltI_ge hb2
      refine oI rfl (oI rfl (oN rfl (oI rfl (oN rfl (oI (len_BV hs rfl) (oN rfl ?_))))))
      refine wp_bool rfl (fun hb3 => ?_) (fun hb3 => ?_)
      · have hb3 := ltI_lt hb3
        refine oI rfl (oZ (cC rfl ?_))
        refine cS (cR ?_)
        refine oI rfl (oI rfl (oZ (cT ?_)))
        refine ⟨trivial, _, rfl, ?_⟩
        exact .inl ⟨by first | omega | (simp only [ofNat_cast] at *; omega), rfl, rfl⟩
      · have hb3 := ltI_ge hb3
        obtain ⟨g, rfl⟩ : ∃ g : Nat, z = .ofNat g := ⟨z.toNat, by rw [ofNat_cast]; omega⟩
        have hg1 : 1 ≤ g := by simp only [ofNat_cast] at *; omega
        have hg2 : g ≤ 1000000000 := by simp only [ofNat_cast] at *; omega
        have hl2 : l.length ≤ 90000 := by rw [ofNat_cast] at hb3; omega
        refine oI rfl (oZ (cF rfl (cK ?_)))
        refine cS (cR ?_)
        refine wp_bslice (fun k => rfl) H fun q4 h H => ?_
        refine wp_mark (k := 0) H rfl rfl fun h H => ?_
        refine oI rfl (oZ ?_)
        refine cS (cR ?_)
        refine oI rfl (oI rfl ?_)
        refine oI (conv64_sem (a := g) (by omega) rfl) ?_
        refine wp_call rfl (placed_ok C (n := 8) (l := [70, 71, 67]) (by omega) (Nat.le_refl _) (by decide) (.inr ⟨H.tail, _, q4, 0, tyB, _, false, rfl, H, List.mem_cons_self, by decide, rfl⟩)) ?_
        rintro v1 h hgA
        refine oI rfl (oZ ?_)
        refine cS (cR ?_)
        refine oI rfl (oI rfl (oI (len_BV hs rfl) ?_))
        refine oI (conv64_sem (a := l.length) (by omega) rfl) ?_
        refine wp_call rfl (placed_ok C (n := 8) (by omega) (Nat.le_refl _) (by simp only [List.length_append, be_len, List.length_cons, List.length_nil]; omega) (.inl hgA)) ?_
        rintro v2 h hgB
        refine oI rfl (oZ ?_)
        refine cS (cR ?_)
        refine oI rfl (oI rfl ?_)
        refine wp_app (m := l) (.inl hgB) (srcOf_BV hgB.has hs) (by simp only [List.length_append, be_len, List.length_cons, List.length_nil]; omega) rfl rfl fun v3 h hgC0 hgC _ => ?_
        have hgC := hgC (.inr hgB)
        refine wp_call rfl (sealed_ok F C (l := fbody g l) (by rw [fbody_len]; omega) (fbody_byte (g := g) hb) hgC) ?_
        rintro v4 h hg4
        refine oI rfl (oI rfl (oZ (cT ?_)))
        refine ⟨trivial, _, rfl, ?_⟩
        exact .inr ⟨g, _, rfl, by omega, by omega, by omega, rfl, hg4⟩
end
theorem taken_loop (H : Has h L) (hs : BV L v l) (hb : ∀ b ∈ l, b < 256) (hlen : l.length ≤ 1000000) {Q : XExit → Tm → Heap → Prop} (hend : ∀ tm n, n < 2 ^ 64 → tm.get (.lo .d0 .d3) = some (.int .u64 (.ofNat n)) → Q (.exit 0) tm h) :
    ∀ (k j n : Nat), l.length - j = k → n < 2 ^ 64 → ∀ (tm : Tm), tm.get (.lo .d0 .d3) = some (.int .u64 (.ofNat n)) → tm.get (.lo .d0 .d6) = some v → tm.get (.lo .d0 .d7) = some (.int .i64 (.ofNat l.length)) → tm.get (.lo .d0 .d8) = some (.int .i64 (.ofNat j)) → LoopT E c_taken_b0 Q tm h := by
  intro k
  induction k using Nat.strongRecOn with
  | ind k ih =>
    intro j n hk hn tm e3 e6 e7 e8
    obtain ⟨tm, rfl⟩ := sets4 e3 e6 e7 e8
    refine LoopT.wp ?_
    unfold c_taken_b0
    refine cS (cR ?_)
    refine wp_bool rfl (fun hb1 => ?_) (fun hb1 => ?_)
    · have hj := of_ltN hb1
      have hbj : l[j] < 256 := hb _ (List.getElem_mem hj)
      have hsh : n * 2 ^ 8 % 18446744073709551616 < 2 ^ 64 := Nat.mod_lt _ (by omega)
      refine oZ (cS (cC rfl (cK (cS (cB ?_)))))
      refine cS (cR ?_)
      refine wp_byte H hs hj rfl rfl fun pv2 => ?_
      refine oI rfl (oZ (cR (oI rfl ?_)))
      refine oI (shl_sem (b := 8) (by omega) rfl rfl) ?_
      refine oI rfl ?_
      refine oI (conv64_sem (Nat.lt_trans hbj (by omega)) rfl) ?_
      refine oI (or_sem hsh (by omega) rfl rfl) ?_
      refine oI rfl (oZ (cR ?_))
      refine oI (sem_int rfl (w64_succ (by omega))) ?_
      refine oI rfl (oZ ?_)
      exact ih (l.length - (j + 1)) (by omega) (j + 1) _ rfl (Nat.or_lt_two_pow hsh (by omega)) _ rfl rfl rfl rfl
    · have hj := of_geN hb1
      refine oZ (cS (cF rfl (cX ?_)))
      exact hend _ n hn rfl
theorem taken_ok (C : Code E) (H : Has h L) (hs : BV L v l) (hb : ∀ b ∈ l, b < 256) (hlen : l.length ≤ 1000000) : CallT E (.func n_taken [] []) [v] h fun r h' => (∃ n, n < 2 ^ 64 ∧ r = .int .u64 (.ofNat n)) ∧ h' = h := by
  refine CallT.body C.taken ?_
  unfold BodyT c_taken
  refine cS (cR ?_)
  refine oI rfl (oZ ?_)
  refine cS (cR ?_)
  refine oI rfl (oZ (cS ?_))
  refine cS (cR ?_)
  refine oI rfl (oI (len_BV hs rfl) (oI rfl (oZ (cB ?_))))
  refine wpC_loop (taken_loop H hs hb hlen (fun tm n hn e3 => ?_) (l.length - 0) 0 0 rfl (by omega) _ rfl rfl rfl rfl)
  obtain ⟨tm, rfl⟩ := sets1 e3
  refine cS (cR ?_)
  refine oI rfl (oI rfl (oZ (cT ?_)))
  refine ⟨trivial, _, rfl, ?_⟩
  exact ⟨⟨n, hn, rfl⟩, rfl⟩
theorem hasPrefix_ok (C : Code E) (H : Has h L) (hs : SV L v l) (hw : SV L w m) (hb : ∀ b ∈ l, b < 256) (hm : ∀ b ∈ m, b < 256) : CallT E (.func n_hasPrefix [] []) [v, w] h fun r h' => r = .bool (decide (m.length ≤ l.length ∧ l.take m.length = m)) ∧ h' = h := by
  refine CallT.body C.hasPrefix ?_
  unfold BodyT c_hasPrefix
  refine cS (cR ?_)
  refine oI rfl (oZ ?_)
  refine cS (cR ?_)
  refine oI rfl (oI (len_BV hs.bv rfl) (oI rfl (oI (len_BV hw.bv rfl) ?_)))
  refine wp_bool rfl (fun hb1 => ?_) (fun hb1 => ?_)
  · have hge := leI_le hb1
    simp only [ofNat_cast] at hge
    refine oI rfl (oN rfl (oI rfl (oN rfl (oI rfl (oN rfl (oI (len_BV hw.bv rfl) (oN rfl ?_)))))))
    refine oI (cut_sem (b := 0) (e := m.length) hs rfl (fun _ => rfl) (fun _ => rfl) (by omega) (by omega)) ?_
    refine oN rfl (oI rfl (oN rfl ?_))
    refine wp_call rfl (equal_ok C H (hs.cut (b := 0) (e := m.length) (by omega) (by omega)).bv hw.bv (fun b hb1 => hb b (List.mem_of_mem_take (List.mem_of_mem_drop hb1))) hm) ?_
    rintro _ _ ⟨rfl, rfl⟩
    refine oI rfl (oI rfl (oZ (cT ?_)))
    refine ⟨trivial, _, rfl, ?_⟩
    refine ⟨?_, rfl⟩
    have h1 : (l.take m.length).drop 0 = l.take m.length := List.drop_zero ..
    rw [h1]
    have h2 : m.length ≤ l.length := by omega
    show AV.bool _ = AV.bool _
    simp [h2]
  · have hge := leI_gt hb1
    simp only [ofNat_cast] at hge
    refine oI rfl (oF rfl (oF rfl (oF rfl (oF rfl (oF rfl (oF rfl (oI rfl (oI rfl (oZ (cT ?_))))))))))
    refine ⟨trivial, _, rfl, ?_⟩
    refine ⟨?_, rfl⟩
    have h2 : ¬ m.length ≤ l.length := by omega
    show AV.bool _ = AV.bool _
    simp [h2]
theorem cutPrefix_ok (C : Code E) (H : Has h L) (hs : SV L v l) (hw : SV L w m) (hb : ∀ b ∈ l, b < 256) (hm : ∀ b ∈ m, b < 256) : CallT E (.func n_cutPrefix [] []) [v, w] h fun r h' => ((¬ (m.length ≤ l.length ∧ l.take m.length = m) ∧ r = .tuple [v, .bool false]) ∨ (m.length ≤ l.length ∧ l.take m.length = m ∧ r = .tuple [cutV v m.length l.length, .bool true])) ∧ h' = h := by
  refine CallT.body C.cutPrefix ?_
  unfold BodyT c_cutPrefix
  refine cS (cR ?_)
  refine oI rfl (oI rfl (oZ (cS ?_)))
  refine cS (cR ?_)
  refine oI rfl (oI rfl (wp_call rfl (hasPrefix_ok C H hs hw hb hm) ?_))
  rintro _ _ ⟨rfl, rfl⟩
  by_cases hp : m.length ≤ l.length ∧ l.take m.length = m
  · rw [decide_eq_true hp]
    refine oI rfl (oZ (cF rfl (cK ?_)))
    refine cS (cR ?_)
    refine oI rfl (oI rfl (oI (len_BV hw.bv rfl) ?_))
    refine oI (cut_sem (b := m.length) (e := l.length) hs rfl (fun _ => rfl) (fun _ => rfl) hp.1 (Nat.le_refl _)) ?_
    refine oI rfl (oI rfl (oZ (cT ?_)))
    refine ⟨trivial, _, rfl, ?_⟩
    exact ⟨.inr ⟨hp.1, hp.2, rfl⟩, rfl⟩
  · rw [decide_eq_false hp]
    refine oI rfl (oZ (cC rfl ?_))
    refine cS (cR ?_)
    refine oI rfl (oI rfl (oI rfl (oZ (cT ?_))))
    refine ⟨trivial, _, rfl, ?_⟩
    exact ⟨.inl ⟨hp, rfl⟩, rfl⟩
theorem clone_ok (C : Code E) (H : Has h L) (hs : SV L v l) (hn : l.length ≤ 1000000) : CallT E (.func n_clone [] []) [v] h fun r h' => (∃ x, Has h' (x :: L) ∧ SV (x :: L) r l) ∧ (l ≠ [] → Gr1 tyB h' L r l) := by
  refine CallT.body C.clone ?_
  unfold BodyT c_clone
  refine cS (cR ?_)
  refine oI rfl (oZ (cS ?_))
  refine cS (cR ?_)
  refine oI rfl (oI (isnil_SV hs rfl) (oZ (cF rfl (cK ?_))))
  refine cS (cR ?_)
  refine wp_bslice (fun k => rfl) H fun q1 h H => ?_
  refine oI rfl ?_
  refine wp_app (l := []) (m := l) (.inr ⟨H, _, q1, 0, tyB, [], false, rfl, H, List.mem_cons_self, Nat.zero_le _, rfl⟩) (srcOf_BV H hs.cons.bv) (by simp only [List.length_nil]; omega) rfl rfl fun v1 h hg hg1 hg0 => ?_
  refine oI rfl (oZ (cT ?_))
  refine ⟨trivial, _, rfl, ?_⟩
  refine ⟨?_, fun hne => (hg1 (.inl hne)).sub (List.sublist_cons_self _ _)⟩
  by_cases hne : l = []
  · obtain ⟨rfl, rfl⟩ := hg0 hne
    subst hne
    exact ⟨_, H, _, 0, .ex 0, tyB, [], false, rfl, List.mem_cons_self, Nat.zero_le _, rfl, Nat.le_refl _⟩
  · exact ((hg1 (.inl hne)).sub (List.sublist_cons_self _ _)).sv
theorem bclone_ok (C : Code E) (H : Has h L) (hs : SV L v l) (hn : l.length ≤ 1000000) : CallT E (.func n_bclone [] []) [v] h fun r h' => (∃ x, Has h' (x :: L) ∧ SV (x :: L) r l) ∧ (l ≠ [] → Gr1 tyB h' L r l) := by
  refine CallT.body C.bclone ?_
  unfold BodyT c_bclone
  refine cS (cR ?_)
  refine oI rfl (oZ (cS ?_))
  refine cS (cR ?_)
  refine oI rfl (oI (isnil_SV hs rfl) (oZ (cF rfl (cK ?_))))
  refine cS (cR ?_)
  refine wp_bslice (fun k => rfl) H fun q1 h H => ?_
  refine oI rfl ?_
  refine wp_app (l := []) (m := l) (.inr ⟨H, _, q1, 0, tyB, [], false, rfl, H, List.mem_cons_self, Nat.zero_le _, rfl⟩) (srcOf_BV H hs.cons.bv) (by simp only [List.length_nil]; omega) rfl rfl fun v1 h hg hg1 hg0 => ?_
  refine oI rfl (oZ (cT ?_))
  refine ⟨trivial, _, rfl, ?_⟩
  refine ⟨?_, fun hne => (hg1 (.inl hne)).sub (List.sublist_cons_self _ _)⟩
  by_cases hne : l = []
  · obtain ⟨rfl, rfl⟩ := hg0 hne
    subst hne
    exact ⟨_, H, _, 0, .ex 0, tyB, [], false, rfl, List.mem_cons_self, Nat.zero_le _, rfl, Nat.le_refl _⟩
  · exact ((hg1 (.inl hne)).sub (List.sublist_cons_self _ _)).sv
end
end Go.X
