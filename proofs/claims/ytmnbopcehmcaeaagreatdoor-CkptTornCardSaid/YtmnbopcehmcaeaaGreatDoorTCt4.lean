/- The law of torn checkpoints: true for all arguments, where sane is true. -/
import Derived.Test.YtmnbopcehmcaeaaGreatDoorTCt3
namespace Go.X
open Go
section
variable {E : XEnv} {h : Heap} {L : List (Pos × AObj)} {v w : AV} {l m : List Nat} {tm : Tm} {x y : XO}
theorem convU_any {k : IntKind} {z : Int} (hx : x.val tm = some (.int k z)) : ∃ a : Nat, a < 2 ^ 64 ∧ (XI.conv .u64 x).sem tm h = .ok (.int .u64 (.ofNat a)) h := by
  simp only [XI.sem, convS, XO.withI, withO_run hx]
  cases z with
  | ofNat n => exact ⟨n % 18446744073709551616, Nat.mod_lt _ (by omega), rfl⟩
  | negSucc n =>
    have hw : IntKind.u64.wrap (.negSucc n) = .negSucc n % 18446744073709551616 := by simp [IntKind.wrap, IntKind.bits, IntKind.signed]
    have h1 : ∃ a : Nat, a < 2 ^ 64 ∧ IntKind.u64.wrap (.negSucc n) = .ofNat a := by
      have h2 : 0 ≤ IntKind.u64.wrap (.negSucc n) := by rw [hw]; exact Int.emod_nonneg _ (by omega)
      have h3 : IntKind.u64.wrap (.negSucc n) < 2 ^ 64 := by rw [hw]; exact Int.emod_lt_of_pos _ (by omega)
      exact ⟨(IntKind.u64.wrap (.negSucc n)).toNat, by omega, by rw [ofNat_cast]; omega⟩
    obtain ⟨a, ha, e⟩ := h1
    exact ⟨a, ha, by show okI .u64 (IntKind.u64.wrap (.negSucc n)) h = _; rw [e]; rfl⟩
theorem wp_convU {d : Option Slot} {ops : List XOp} {Q : Tm → Heap → Prop} {k : IntKind} {z : Int} (hx : x.val tm = some (.int k z)) (hq : ∀ a : Nat, a < 2 ^ 64 → wpOps E ops Q (putT d (.int .u64 (.ofNat a)) tm) h) : wpOps E (⟨d, none, .ins (.conv .u64 x)⟩ :: ops) Q tm h := by
  obtain ⟨a, ha, e⟩ := convU_any (h := h) hx
  exact oI e (hq a ha)
theorem rem_sem {a b : Nat} (hb : b ≠ 0) (hx : x.val tm = some (.int .u64 (.ofNat a))) (hy : y.val tm = some (.int .u64 (.ofNat b))) : (XI.bin .rem x y).sem tm h = .ok (.int .u64 (.ofNat (a % b))) h := by
  simp only [XI.sem, binS, withO_run hx, withO_run hy]
  show remI .u64 (.ofNat a) (.ofNat b) h = _
  have h1 : eqI (.ofNat b) 0 = false := by rw [eqI_eq]; simp; exact hb
  simp only [remI, h1]
  rfl
theorem xor8_sem {a b : Nat} (ha : a < 256) (hb : b < 256) (hx : x.val tm = some (.int .u8 (.ofNat a))) (hy : y.val tm = some (.int .u8 (.ofNat b))) : (XI.bin .xor x y).sem tm h = .ok (.int .u8 (.ofNat (a ^^^ b))) h := by
  simp only [XI.sem, binS, withO_run hx, withO_run hy]
  have h1 : Nat.blt a 256 = true := blt_of ha
  have h2 : Nat.blt b 256 = true := blt_of hb
  have h3 : Nat.blt a 9223372036854775808 = true := blt_of (by omega)
  have h4 : Nat.blt b 9223372036854775808 = true := blt_of (by omega)
  show bitsI Nat.xor _ .u8 (.ofNat a) (.ofNat b) h = _
  simp only [bitsI, h1, h2, h3, h4]
  rfl
theorem sl_cellsB {nl fu : Bool} {n : Nat} {cs : List AV} : (slAV nl fu n cs).cellsO = some [slAV nl fu n cs] := by rcases slAV_cases nl fu n cs with ⟨_, e⟩ | e <;> rw [e] <;> rfl
theorem fill2B {a b z1 z2 : AV} (hx : x.val tm = some a) (ha : a.cellsO = some [a]) (hy : y.val tm = some b) (hb : b.cellsO = some [b]) (k : List AV → Out AV) : fillK .bad [(0, 1, x), (1, 1, y)] tm [z1, z2] k = k [a, b] := by
  simp only [fillK, withO_run hx, ha, withO_run hy, hb]
  rfl
theorem part_byte {i n : Nat} (hi : i < l.length) (hn : l[i] = n) : partOf (avBytes l) (0 + i * 1) none h = .ok (.int .u8 (.ofNat n)) h := by
  have h1 : nth (avBytes l) (0 + i * 1) = some (.int .u8 (.ofNat n)) := by rw [nth_eq, show 0 + i * 1 = i by omega, avB_get hi, hn]
  simp only [partOf, h1]
theorem set_byte {β : Type} {no : β} : ∀ {l : List Nat} {i x : Nat}, i < l.length → ∀ kk : List AV → β, spliceK no i [.int .u8 (.ofNat x)] (avBytes l) kk = kk (avBytes (l.set i x))
  | _ :: _, 0, _, _, _ => rfl
  | b :: l, i + 1, x, hi, kk => set_byte (l := l) (i := i) (x := x) (by simpa using hi) fun r => kk (.int .u8 (.ofNat b) :: r)
theorem xor_self_ne {a b : Nat} (hb : b ≠ 0) : a ^^^ b ≠ a := fun e => hb (xor_canL (e.trans (Nat.xor_zero a).symm))
theorem sv_own {p : Pos} {ty : TypeId} {sp : Bool} {n : Nat} (hn : n = l.length) : SV ((p, AObj.row ty (avBytes l) sp) :: L) (.slice p 0 n (.up 1)) l := ⟨p, 0, .up 1, ty, _, sp, by rw [hn], List.mem_cons_self, by rw [avB_len]; omega, by rw [List.drop_zero, List.take_of_length_le (by rw [avB_len]; omega)], rfl⟩
variable {P X : Nat} {tbl : List Nat} (F : Fin E P X tbl)
include F
theorem law_ok (C : Code E) (hsane : ∀ h, CallT E (.func n_sane [] []) [] h fun r h' => r = .bool true ∧ h' = h) {z z2 zat : Int} {by0 : Nat} {p s t : List Nat} {nl1 fu1 nl2 fu2 nl3 fu3 : Bool} (hp : ∀ b ∈ p, b < 256) (hs : ∀ b ∈ s, b < 256) (ht : ∀ b ∈ t, b < 256) (hby : by0 < 256) (hlp : p.length ≤ 9223372036854775807) (hls : s.length ≤ 9223372036854775807) :
    CallT E (.func n_law [] []) [.int .i64 z, slAV nl1 fu1 p.length (avBytes p), .int .i64 z2, slAV nl2 fu2 s.length (avBytes s), .int .i64 zat, .int .u8 (.ofNat by0), slAV nl3 fu3 t.length (avBytes t)] h fun r _ => r = .bool true := by
  have H : Has h [] := Has.nil
  have bp : ∀ {L}, BV L (slAV nl1 fu1 p.length (avBytes p)) p := BV.sl
  have bs : ∀ {L}, BV L (slAV nl2 fu2 s.length (avBytes s)) s := BV.sl
  have bt : ∀ {L}, BV L (slAV nl3 fu3 t.length (avBytes t)) t := BV.sl
  refine CallT.body C.law ?_
  unfold BodyT c_law
  refine cS (cR ?_)
  refine oI rfl (oZ (cS ?_))
  refine cS (cR ?_)
  refine wp_call rfl (hsane _) ?_
  rintro _ _ ⟨rfl, rfl⟩
  refine oI rfl (oZ (cF rfl (cK (cS ?_))))
  refine cS (cR ?_)
  refine oI rfl (oI (len_BV (L := []) bp rfl) ?_)
  refine wp_bool rfl (fun hb1 => ?_) (fun hb1 => ?_)
  · have hlp1 := ltI_lt hb1
    simp only [ofNat_cast] at hlp1
    refine oI rfl (oF rfl (oF rfl (oF rfl (oI rfl (oI rfl (oF rfl (oF rfl (oF rfl (oI rfl (oZ (cC rfl ?_)))))))))))
    refine cS (cR ?_)
    refine oI rfl (oZ (cT ?_))
    refine ⟨trivial, _, rfl, ?_⟩
    rfl
  · have hlp1 := ltI_ge hb1
    simp only [ofNat_cast] at hlp1
    refine oI rfl (oN rfl (oI rfl (oN rfl (oI (len_BV (L := []) bs rfl) (oN rfl ?_)))))
    refine wp_bool rfl (fun hb2 => ?_) (fun hb2 => ?_)
    · have hls1 := ltI_lt hb2
      simp only [ofNat_cast] at hls1
      refine oI rfl (oI rfl (oF rfl (oF rfl (oF rfl (oI rfl (oZ (cC rfl ?_)))))))
      refine cS (cR ?_)
      refine oI rfl (oZ (cT ?_))
      refine ⟨trivial, _, rfl, ?_⟩
      rfl
    · have hls1 := ltI_ge hb2
      simp only [ofNat_cast] at hls1
      refine oI rfl (oI rfl (oN rfl (oI rfl (oN rfl (oI (len_BV (L := []) bt rfl) (oN rfl ?_))))))
      refine wp_bool rfl (fun hb3 => ?_) (fun hb3 => ?_)
      · have hlt1 := ltI_lt hb3
        simp only [ofNat_cast] at hlt1
        refine oI rfl (oZ (cC rfl ?_))
        refine cS (cR ?_)
        refine oI rfl (oZ (cT ?_))
        refine ⟨trivial, _, rfl, ?_⟩
        rfl
      · have hlt1 := ltI_ge hb3
        simp only [ofNat_cast] at hlt1
        refine oI rfl (oZ (cF rfl (cK ?_)))
        refine cS (cR ?_)
        refine oI rfl (oI rfl (wp_call rfl (frame_call F C hlp hp H bp) ?_))
        rintro _ h (⟨_, rfl, rfl⟩ | ⟨g1, v1, rfl, hg11, hg12, hl1, rfl, p1, rfl, H⟩)
        · have hbad := hp
          refine oI rfl (oI rfl (oI rfl (oI rfl (oI rfl (oZ ?_)))))
          refine cS (cR ?_)
          refine oI rfl (oI rfl (wp_call rfl (frame_call F C hls hs H bs) ?_))
          rintro _ h (⟨_, rfl, rfl⟩ | ⟨g2, v2, rfl, hg21, hg22, hl2, rfl, p2, rfl, H⟩)
          · have hbad := hp
            refine oI rfl (oI rfl (oI rfl (oI rfl (oI rfl (oZ (cS ?_))))))
            refine cS (cR ?_)
            refine oI rfl (oI (sem_is (b := true) rfl rfl) (oI rfl (oF rfl (oF rfl (oI rfl (oZ (cC rfl ?_)))))))
            refine cS (cR ?_)
            refine oI rfl (oI (sem_is (b := false) rfl rfl) (oI rfl (oN rfl (oI rfl (oN rfl (oI rfl (oN rfl (oI (sem_is (b := true) rfl rfl) (oI rfl (oI rfl (oN rfl ?_)))))))))))
            refine oI rfl (oN rfl (oI (sem_is (b := false) rfl rfl) (oN rfl (oI rfl (oN rfl (oI rfl (oN rfl (oI rfl (oN rfl (oI (sem_is (b := true) rfl rfl) (oN rfl ?_)))))))))))
            refine oI rfl (oI rfl (oI rfl (oZ (cT ?_))))
            refine ⟨trivial, _, rfl, ?_⟩
            rfl
          · have hn2 := frame_len (fpOf tbl) g2 s
            refine oI rfl (oI rfl (oI rfl (oI rfl (oI rfl (oZ (cS ?_))))))
            refine cS (cR ?_)
            refine oI rfl (oI (sem_is (b := true) rfl rfl) (oI rfl (oF rfl (oF rfl (oI rfl (oZ (cC rfl ?_)))))))
            refine cS (cR ?_)
            refine oI rfl (oI (sem_is (b := false) rfl rfl) (oI rfl (oN rfl (oI rfl (oN rfl (oI rfl (oN rfl (oI (sem_is (b := true) rfl rfl) (oI rfl (oI rfl (oN rfl ?_)))))))))))
            refine oI rfl (oN rfl (oI (sem_is (b := true) rfl rfl) (oN rfl (oI rfl (oF rfl (oF rfl (oF rfl (oN rfl (oI rfl (oI rfl (oI rfl ?_)))))))))))
            refine oZ (cT ?_)
            refine ⟨trivial, _, rfl, ?_⟩
            rfl
        · have hn1 := frame_len (fpOf tbl) g1 p
          refine oI rfl (oI rfl (oI rfl (oI rfl (oI rfl (oZ ?_)))))
          refine cS (cR ?_)
          refine oI rfl (oI rfl (wp_call rfl (frame_call F C hls hs H bs) ?_))
          rintro _ h (⟨_, rfl, rfl⟩ | ⟨g2, v2, rfl, hg21, hg22, hl2, rfl, p2, rfl, H⟩)
          · have hbad := hp
            refine oI rfl (oI rfl (oI rfl (oI rfl (oI rfl (oZ (cS ?_))))))
            refine cS (cR ?_)
            refine oI rfl (oI (sem_is (b := false) rfl rfl) (oI rfl (oN rfl (oI rfl (oN rfl (oI (sem_is (b := true) rfl rfl) (oI rfl (oZ (cC rfl ?_)))))))))
            refine cS (cR ?_)
            refine oI rfl (oI (sem_is (b := true) rfl rfl) (oI rfl (oF rfl (oF rfl (oF rfl (oI rfl (oI rfl (oN rfl (oI rfl (oN rfl (oI (sem_is (b := false) rfl rfl) ?_)))))))))))
            refine oN rfl (oI rfl (oN rfl (oI rfl (oN rfl (oI rfl (oN rfl (oI (sem_is (b := true) rfl rfl) (oN rfl (oI rfl (oI rfl (oI rfl ?_)))))))))))
            refine oZ (cT ?_)
            refine ⟨trivial, _, rfl, ?_⟩
            rfl
          · have hn2 := frame_len (fpOf tbl) g2 s
            refine oI rfl (oI rfl (oI rfl (oI rfl (oI rfl (oZ (cS ?_))))))
            refine cS (cR ?_)
            refine oI rfl (oI (sem_is (b := false) rfl rfl) (oI rfl (oN rfl (oI rfl (oN rfl (oI (sem_is (b := false) rfl rfl) (oI rfl (oZ (cF rfl (cK (cS ?_)))))))))))
            refine cS (cR ?_)
            refine oI rfl ?_
            have b1 : SV [(p2, AObj.row tyB (avBytes (frame (fpOf tbl) g2 s)) true), (p1, AObj.row tyB (avBytes (frame (fpOf tbl) g1 p)) true)] (.slice p1 0 (frame (fpOf tbl) g1 p).length (.up 1)) (frame (fpOf tbl) g1 p) := (sv_own rfl).cons
            have b2 : SV [(p2, AObj.row tyB (avBytes (frame (fpOf tbl) g2 s)) true), (p1, AObj.row tyB (avBytes (frame (fpOf tbl) g1 p)) true)] (.slice p2 0 (frame (fpOf tbl) g2 s).length (.up 1)) (frame (fpOf tbl) g2 s) := sv_own rfl
            have fb1 : ∀ b ∈ frame (fpOf tbl) g1 p, b < 256 := frame_byte hp
            have fb2 : ∀ b ∈ frame (fpOf tbl) g2 s, b < 256 := frame_byte hs
            refine oI (len_BV b1.bv rfl) ?_
            refine oI (sem_is (b := false) rfl (by rw [eqI_eq]; exact decide_eq_false (by rw [ofNat_cast]; omega))) ?_
            refine oI rfl (oN rfl (oI rfl (oN rfl (oI rfl (oN rfl (wp_call rfl (equal_ok C H b1.bv b2.bv fb1 fb2) ?_))))))
            rintro _ _ ⟨rfl, rfl⟩
            by_cases hgs : g1 = g2 ∧ p = s
            · obtain ⟨rfl, rfl⟩ := hgs
              rw [decide_eq_true rfl]
              refine oN rfl (oI rfl (oN rfl (oI rfl (oN rfl (oI (sem_is (b := true) rfl (eqI_refl _)) (oN rfl (oI rfl (oN rfl (oI rfl (oN rfl (oI rfl ?_)))))))))))
              refine oN rfl (wp_call rfl (equal_ok C H bp bs hp hs) ?_)
              rintro _ _ ⟨rfl, rfl⟩
              rw [decide_eq_true rfl]
              refine oN rfl (oI rfl (oN rfl (oI (sem_is (b := false) rfl rfl) (oI rfl (oZ (cF rfl (cK ?_)))))))
              refine cS (cR ?_)
              refine oI rfl ?_
              refine wp_convU rfl fun a ha => ?_
              refine oI rfl (oI (len_BV b1.bv rfl) ?_)
              refine oI (conv64_sem (a := (frame (fpOf tbl) g1 p).length) (by omega) rfl) ?_
              refine oI (rem_sem (b := (frame (fpOf tbl) g1 p).length) (by omega) rfl rfl) ?_
              have hi : a % (frame (fpOf tbl) g1 p).length < (frame (fpOf tbl) g1 p).length := Nat.mod_lt _ (by omega)
              generalize a % (frame (fpOf tbl) g1 p).length = i at hi
              refine oI (convI_sem (a := i) (by omega) rfl) ?_
              refine oI rfl (oZ (cS ?_))
              refine cS (cR ?_)
              refine oI rfl (oI rfl ?_)
              refine oI (cut_sem (b := 0) (e := i) b1 rfl (fun _ => rfl) (fun _ => rfl) (Nat.zero_le _) (Nat.le_of_lt hi)) ?_
              refine wp_call rfl (torn_no F C H (b1.cut (b := 0) (e := i) (Nat.zero_le _) (Nat.le_of_lt hi)) (fun b hm => fb1 b (List.mem_of_mem_take (List.mem_of_mem_drop hm))) (by simp; omega) (by rw [List.drop_zero]; exact no_cut (by omega) (by omega) hi)) ?_
              rintro _ h ⟨rfl, H⟩
              refine oI rfl (oI rfl (oN rfl (oI rfl (oN rfl (oI (len_BV (L := []) bt rfl) (oN rfl ?_))))))
              refine wp_bool rfl (fun hb4 => ?_) (fun hb4 => ?_)
              · have hmo : t ≠ [] := fun e => by rw [e] at hb4; exact absurd hb4 (by decide)
                refine oN rfl (oI rfl (oN rfl (oI rfl (oN rfl (oI rfl (oN rfl ?_))))))
                refine wp_bslice (cs := [.slice p1 0 (frame (fpOf tbl) g1 p).length (.up 1), slAV nl3 fu3 t.length (avBytes t)]) (fun k => fill2B rfl rfl rfl sl_cellsB k) H fun q h H => ?_
                refine oN rfl ?_
                refine wp_call rfl (concat_ok C (m := t) (l := frame (fpOf tbl) g1 p) (fun e => by rw [e] at hn1; simp only [List.length_nil] at hn1; omega) (by omega) H List.mem_cons_self b1.cons.bv bt (fun _ => rfl) (fun _ => partOf_sl rfl)) ?_
                rintro _ h ⟨x3, H, hc3⟩
                refine oN rfl ?_
                refine wp_call rfl (torn_no F C H hc3 (fun b hm => (List.mem_append.1 hm).elim (fb1 b) (ht b)) (by rw [List.length_append]; omega) (no_more (by omega) (by omega) hmo)) ?_
                rintro _ h ⟨rfl, H⟩
                refine oN rfl (oI rfl (oN rfl (oI rfl (oI rfl (oZ (cF rfl (cK ?_)))))))
                refine cS (cR ?_)
                refine oI rfl ?_
                have H : Has h [(p2, AObj.row tyB (avBytes (frame (fpOf tbl) g1 p)) true), (p1, AObj.row tyB (avBytes (frame (fpOf tbl) g1 p)) true)] := by first | exact H | exact H.tail.tail
                refine wp_call rfl (clone_ok C H b1 (by omega)) ?_
                rintro r5 h ⟨_, hq5⟩
                obtain ⟨q5, rfl, H⟩ := hq5 fun e => by rw [e] at hn1; simp only [List.length_nil] at hn1; omega
                refine oI rfl (oZ ?_)
                refine cS (cR ?_)
                refine oI rfl (oI rfl (oI (iaddrS_sem rfl rfl hi) ?_))
                refine oI (sem_load rfl (H.at 0 rfl) (fun _ => part_byte hi rfl)) ?_
                refine oI rfl ?_
                refine oI (xor8_sem (fb1 _ (List.getElem_mem hi)) hby rfl rfl) ?_
                refine oI (iaddrS_sem rfl rfl hi) ?_
                refine wp_store (k := 0) (o := 0 + i * 1) (cs' := avBytes ((frame (fpOf tbl) g1 p).set i ((frame (fpOf tbl) g1 p)[i] ^^^ by0))) rfl rfl rfl rfl H rfl (fun kk => by rw [show 0 + i * 1 = i by omega]; exact set_byte hi kk) fun h H => ?_
                refine oZ ?_
                refine cS (cR ?_)
                refine oI rfl ?_
                refine wp_bool rfl (fun hb5 => ?_) (fun hb5 => ?_)
                · have := hp
                  refine oI rfl (oF rfl (oF rfl (oI rfl (oI rfl (oZ (cT ?_))))))
                  refine ⟨trivial, _, rfl, ?_⟩
                  rfl
                · have hb0 : by0 ≠ 0 := fun e => eqI_ne hb5 (by rw [e]; rfl)
                  refine oI rfl (oN rfl (oI rfl (oN rfl ?_)))
                  refine wp_call rfl (torn_no F C H (sv_own (by rw [List.length_set])) (fun b hm => (List.mem_or_eq_of_mem_set hm).elim (fb1 b) (fun e => e ▸ Nat.xor_lt_two_pow (n := 8) (fb1 _ (List.getElem_mem hi)) hby)) (by rw [List.length_set]; omega) (no_changed F.ok hp hi (Nat.xor_lt_two_pow (n := 8) (fb1 _ (List.getElem_mem hi)) hby) (xor_self_ne hb0))) ?_
                  rintro _ h ⟨rfl, H⟩
                  refine oI rfl (oI rfl (oZ (cT ?_)))
                  refine ⟨trivial, _, rfl, ?_⟩
                  rfl
              · have := hp
                refine oN rfl (oI rfl (oF rfl (oF rfl (oF rfl (oF rfl (oF rfl (oF rfl (oN rfl (oI rfl (oI rfl (oZ ?_)))))))))))
                refine cF rfl (cK ?_)
                refine cS (cR ?_)
                refine oI rfl ?_
                have H : Has h [(p2, AObj.row tyB (avBytes (frame (fpOf tbl) g1 p)) true), (p1, AObj.row tyB (avBytes (frame (fpOf tbl) g1 p)) true)] := by first | exact H | exact H.tail.tail
                refine wp_call rfl (clone_ok C H b1 (by omega)) ?_
                rintro r5 h ⟨_, hq5⟩
                obtain ⟨q5, rfl, H⟩ := hq5 fun e => by rw [e] at hn1; simp only [List.length_nil] at hn1; omega
                refine oI rfl (oZ ?_)
                refine cS (cR ?_)
                refine oI rfl (oI rfl (oI (iaddrS_sem rfl rfl hi) ?_))
                refine oI (sem_load rfl (H.at 0 rfl) (fun _ => part_byte hi rfl)) ?_
                refine oI rfl ?_
                refine oI (xor8_sem (fb1 _ (List.getElem_mem hi)) hby rfl rfl) ?_
                refine oI (iaddrS_sem rfl rfl hi) ?_
                refine wp_store (k := 0) (o := 0 + i * 1) (cs' := avBytes ((frame (fpOf tbl) g1 p).set i ((frame (fpOf tbl) g1 p)[i] ^^^ by0))) rfl rfl rfl rfl H rfl (fun kk => by rw [show 0 + i * 1 = i by omega]; exact set_byte hi kk) fun h H => ?_
                refine oZ ?_
                refine cS (cR ?_)
                refine oI rfl ?_
                refine wp_bool rfl (fun hb6 => ?_) (fun hb6 => ?_)
                · have := hp
                  refine oI rfl (oF rfl (oF rfl (oI rfl (oI rfl (oZ (cT ?_))))))
                  refine ⟨trivial, _, rfl, ?_⟩
                  rfl
                · have hb0 : by0 ≠ 0 := fun e => eqI_ne hb6 (by rw [e]; rfl)
                  refine oI rfl (oN rfl (oI rfl (oN rfl ?_)))
                  refine wp_call rfl (torn_no F C H (sv_own (by rw [List.length_set])) (fun b hm => (List.mem_or_eq_of_mem_set hm).elim (fb1 b) (fun e => e ▸ Nat.xor_lt_two_pow (n := 8) (fb1 _ (List.getElem_mem hi)) hby)) (by rw [List.length_set]; omega) (no_changed F.ok hp hi (Nat.xor_lt_two_pow (n := 8) (fb1 _ (List.getElem_mem hi)) hby) (xor_self_ne hb0))) ?_
                  rintro _ h ⟨rfl, H⟩
                  refine oI rfl (oI rfl (oZ (cT ?_)))
                  refine ⟨trivial, _, rfl, ?_⟩
                  rfl
            · rw [decide_eq_false (fun e => hgs (frame_inj (fpOf tbl) (by omega) (by omega) (by omega) (by omega) e))]
              refine oN rfl (oI rfl (oN rfl (oI rfl (oN rfl ?_))))
              refine wp_bool rfl (fun hb7 => ?_) (fun hb7 => ?_)
              · have hgg : g1 = g2 := Int.ofNat.inj (eqI_is hb7)
                have hps : p ≠ s := fun e => hgs ⟨hgg, e⟩
                refine oN rfl (oI rfl (oN rfl (oI rfl (oN rfl (oI rfl (oN rfl (wp_call rfl (equal_ok C H bp bs hp hs) ?_)))))))
                rintro _ _ ⟨rfl, rfl⟩
                rw [decide_eq_false hps]
                refine oN rfl (oI rfl (oN rfl (oI (sem_is (b := false) rfl rfl) (oI rfl (oZ (cF rfl (cK ?_)))))))
                refine cS (cR ?_)
                refine oI rfl ?_
                refine wp_convU rfl fun a ha => ?_
                refine oI rfl (oI (len_BV b1.bv rfl) ?_)
                refine oI (conv64_sem (a := (frame (fpOf tbl) g1 p).length) (by omega) rfl) ?_
                refine oI (rem_sem (b := (frame (fpOf tbl) g1 p).length) (by omega) rfl rfl) ?_
                have hi : a % (frame (fpOf tbl) g1 p).length < (frame (fpOf tbl) g1 p).length := Nat.mod_lt _ (by omega)
                generalize a % (frame (fpOf tbl) g1 p).length = i at hi
                refine oI (convI_sem (a := i) (by omega) rfl) ?_
                refine oI rfl (oZ (cS ?_))
                refine cS (cR ?_)
                refine oI rfl (oI rfl ?_)
                refine oI (cut_sem (b := 0) (e := i) b1 rfl (fun _ => rfl) (fun _ => rfl) (Nat.zero_le _) (Nat.le_of_lt hi)) ?_
                refine wp_call rfl (torn_no F C H (b1.cut (b := 0) (e := i) (Nat.zero_le _) (Nat.le_of_lt hi)) (fun b hm => fb1 b (List.mem_of_mem_take (List.mem_of_mem_drop hm))) (by simp; omega) (by rw [List.drop_zero]; exact no_cut (by omega) (by omega) hi)) ?_
                rintro _ h ⟨rfl, H⟩
                refine oI rfl (oI rfl (oN rfl (oI rfl (oN rfl (oI (len_BV (L := []) bt rfl) (oN rfl ?_))))))
                refine wp_bool rfl (fun hb8 => ?_) (fun hb8 => ?_)
                · have hmo : t ≠ [] := fun e => by rw [e] at hb8; exact absurd hb8 (by decide)
                  refine oN rfl (oI rfl (oN rfl (oI rfl (oN rfl (oI rfl (oN rfl ?_))))))
                  refine wp_bslice (cs := [.slice p1 0 (frame (fpOf tbl) g1 p).length (.up 1), slAV nl3 fu3 t.length (avBytes t)]) (fun k => fill2B rfl rfl rfl sl_cellsB k) H fun q h H => ?_
                  refine oN rfl ?_
                  refine wp_call rfl (concat_ok C (m := t) (l := frame (fpOf tbl) g1 p) (fun e => by rw [e] at hn1; simp only [List.length_nil] at hn1; omega) (by omega) H List.mem_cons_self b1.cons.bv bt (fun _ => rfl) (fun _ => partOf_sl rfl)) ?_
                  rintro _ h ⟨x3, H, hc3⟩
                  refine oN rfl ?_
                  refine wp_call rfl (torn_no F C H hc3 (fun b hm => (List.mem_append.1 hm).elim (fb1 b) (ht b)) (by rw [List.length_append]; omega) (no_more (by omega) (by omega) hmo)) ?_
                  rintro _ h ⟨rfl, H⟩
                  refine oN rfl (oI rfl (oN rfl (oI rfl (oI rfl (oZ (cF rfl (cK ?_)))))))
                  refine cS (cR ?_)
                  refine oI rfl ?_
                  have H : Has h [(p2, AObj.row tyB (avBytes (frame (fpOf tbl) g2 s)) true), (p1, AObj.row tyB (avBytes (frame (fpOf tbl) g1 p)) true)] := by first | exact H | exact H.tail.tail
                  refine wp_call rfl (clone_ok C H b1 (by omega)) ?_
                  rintro r5 h ⟨_, hq5⟩
                  obtain ⟨q5, rfl, H⟩ := hq5 fun e => by rw [e] at hn1; simp only [List.length_nil] at hn1; omega
                  refine oI rfl (oZ ?_)
                  refine cS (cR ?_)
                  refine oI rfl (oI rfl (oI (iaddrS_sem rfl rfl hi) ?_))
                  refine oI (sem_load rfl (H.at 0 rfl) (fun _ => part_byte hi rfl)) ?_
                  refine oI rfl ?_
                  refine oI (xor8_sem (fb1 _ (List.getElem_mem hi)) hby rfl rfl) ?_
                  refine oI (iaddrS_sem rfl rfl hi) ?_
                  refine wp_store (k := 0) (o := 0 + i * 1) (cs' := avBytes ((frame (fpOf tbl) g1 p).set i ((frame (fpOf tbl) g1 p)[i] ^^^ by0))) rfl rfl rfl rfl H rfl (fun kk => by rw [show 0 + i * 1 = i by omega]; exact set_byte hi kk) fun h H => ?_
                  refine oZ ?_
                  refine cS (cR ?_)
                  refine oI rfl ?_
                  refine wp_bool rfl (fun hb9 => ?_) (fun hb9 => ?_)
                  · have := hp
                    refine oI rfl (oF rfl (oF rfl (oI rfl (oI rfl (oZ (cT ?_))))))
                    refine ⟨trivial, _, rfl, ?_⟩
                    rfl
                  · have hb0 : by0 ≠ 0 := fun e => eqI_ne hb9 (by rw [e]; rfl)
                    refine oI rfl (oN rfl (oI rfl (oN rfl ?_)))
                    refine wp_call rfl (torn_no F C H (sv_own (by rw [List.length_set])) (fun b hm => (List.mem_or_eq_of_mem_set hm).elim (fb1 b) (fun e => e ▸ Nat.xor_lt_two_pow (n := 8) (fb1 _ (List.getElem_mem hi)) hby)) (by rw [List.length_set]; omega) (no_changed F.ok hp hi (Nat.xor_lt_two_pow (n := 8) (fb1 _ (List.getElem_mem hi)) hby) (xor_self_ne hb0))) ?_
                    rintro _ h ⟨rfl, H⟩
                    refine oI rfl (oI rfl (oZ (cT ?_)))
                    refine ⟨trivial, _, rfl, ?_⟩
                    rfl
                · have := hp
                  refine oN rfl (oI rfl (oF rfl (oF rfl (oF rfl (oF rfl (oF rfl (oF rfl (oN rfl (oI rfl (oI rfl (oZ ?_)))))))))))
                  refine cF rfl (cK ?_)
                  refine cS (cR ?_)
                  refine oI rfl ?_
                  have H : Has h [(p2, AObj.row tyB (avBytes (frame (fpOf tbl) g2 s)) true), (p1, AObj.row tyB (avBytes (frame (fpOf tbl) g1 p)) true)] := by first | exact H | exact H.tail.tail
                  refine wp_call rfl (clone_ok C H b1 (by omega)) ?_
                  rintro r5 h ⟨_, hq5⟩
                  obtain ⟨q5, rfl, H⟩ := hq5 fun e => by rw [e] at hn1; simp only [List.length_nil] at hn1; omega
                  refine oI rfl (oZ ?_)
                  refine cS (cR ?_)
                  refine oI rfl (oI rfl (oI (iaddrS_sem rfl rfl hi) ?_))
                  refine oI (sem_load rfl (H.at 0 rfl) (fun _ => part_byte hi rfl)) ?_
                  refine oI rfl ?_
                  refine oI (xor8_sem (fb1 _ (List.getElem_mem hi)) hby rfl rfl) ?_
                  refine oI (iaddrS_sem rfl rfl hi) ?_
                  refine wp_store (k := 0) (o := 0 + i * 1) (cs' := avBytes ((frame (fpOf tbl) g1 p).set i ((frame (fpOf tbl) g1 p)[i] ^^^ by0))) rfl rfl rfl rfl H rfl (fun kk => by rw [show 0 + i * 1 = i by omega]; exact set_byte hi kk) fun h H => ?_
                  refine oZ ?_
                  refine cS (cR ?_)
                  refine oI rfl ?_
                  refine wp_bool rfl (fun hb10 => ?_) (fun hb10 => ?_)
                  · have := hp
                    refine oI rfl (oF rfl (oF rfl (oI rfl (oI rfl (oZ (cT ?_))))))
                    refine ⟨trivial, _, rfl, ?_⟩
                    rfl
                  · have hb0 : by0 ≠ 0 := fun e => eqI_ne hb10 (by rw [e]; rfl)
                    refine oI rfl (oN rfl (oI rfl (oN rfl ?_)))
                    refine wp_call rfl (torn_no F C H (sv_own (by rw [List.length_set])) (fun b hm => (List.mem_or_eq_of_mem_set hm).elim (fb1 b) (fun e => e ▸ Nat.xor_lt_two_pow (n := 8) (fb1 _ (List.getElem_mem hi)) hby)) (by rw [List.length_set]; omega) (no_changed F.ok hp hi (Nat.xor_lt_two_pow (n := 8) (fb1 _ (List.getElem_mem hi)) hby) (xor_self_ne hb0))) ?_
                    rintro _ h ⟨rfl, H⟩
                    refine oI rfl (oI rfl (oZ (cT ?_)))
                    refine ⟨trivial, _, rfl, ?_⟩
                    rfl
              · have := hp
                refine oN rfl (oI rfl (oF rfl (oF rfl (oF rfl (oN rfl (oI rfl (oN rfl (oI (sem_is (b := false) rfl rfl) (oI rfl (oZ (cF rfl ?_)))))))))))
                refine cK ?_
                refine cS (cR ?_)
                refine oI rfl ?_
                refine wp_convU rfl fun a ha => ?_
                refine oI rfl (oI (len_BV b1.bv rfl) ?_)
                refine oI (conv64_sem (a := (frame (fpOf tbl) g1 p).length) (by omega) rfl) ?_
                refine oI (rem_sem (b := (frame (fpOf tbl) g1 p).length) (by omega) rfl rfl) ?_
                have hi : a % (frame (fpOf tbl) g1 p).length < (frame (fpOf tbl) g1 p).length := Nat.mod_lt _ (by omega)
                generalize a % (frame (fpOf tbl) g1 p).length = i at hi
                refine oI (convI_sem (a := i) (by omega) rfl) ?_
                refine oI rfl (oZ (cS ?_))
                refine cS (cR ?_)
                refine oI rfl (oI rfl ?_)
                refine oI (cut_sem (b := 0) (e := i) b1 rfl (fun _ => rfl) (fun _ => rfl) (Nat.zero_le _) (Nat.le_of_lt hi)) ?_
                refine wp_call rfl (torn_no F C H (b1.cut (b := 0) (e := i) (Nat.zero_le _) (Nat.le_of_lt hi)) (fun b hm => fb1 b (List.mem_of_mem_take (List.mem_of_mem_drop hm))) (by simp; omega) (by rw [List.drop_zero]; exact no_cut (by omega) (by omega) hi)) ?_
                rintro _ h ⟨rfl, H⟩
                refine oI rfl (oI rfl (oN rfl (oI rfl (oN rfl (oI (len_BV (L := []) bt rfl) (oN rfl ?_))))))
                refine wp_bool rfl (fun hb11 => ?_) (fun hb11 => ?_)
                · have hmo : t ≠ [] := fun e => by rw [e] at hb11; exact absurd hb11 (by decide)
                  refine oN rfl (oI rfl (oN rfl (oI rfl (oN rfl (oI rfl (oN rfl ?_))))))
                  refine wp_bslice (cs := [.slice p1 0 (frame (fpOf tbl) g1 p).length (.up 1), slAV nl3 fu3 t.length (avBytes t)]) (fun k => fill2B rfl rfl rfl sl_cellsB k) H fun q h H => ?_
                  refine oN rfl ?_
                  refine wp_call rfl (concat_ok C (m := t) (l := frame (fpOf tbl) g1 p) (fun e => by rw [e] at hn1; simp only [List.length_nil] at hn1; omega) (by omega) H List.mem_cons_self b1.cons.bv bt (fun _ => rfl) (fun _ => partOf_sl rfl)) ?_
                  rintro _ h ⟨x3, H, hc3⟩
                  refine oN rfl ?_
                  refine wp_call rfl (torn_no F C H hc3 (fun b hm => (List.mem_append.1 hm).elim (fb1 b) (ht b)) (by rw [List.length_append]; omega) (no_more (by omega) (by omega) hmo)) ?_
                  rintro _ h ⟨rfl, H⟩
                  refine oN rfl (oI rfl (oN rfl (oI rfl (oI rfl (oZ (cF rfl (cK ?_)))))))
                  refine cS (cR ?_)
                  refine oI rfl ?_
                  have H : Has h [(p2, AObj.row tyB (avBytes (frame (fpOf tbl) g2 s)) true), (p1, AObj.row tyB (avBytes (frame (fpOf tbl) g1 p)) true)] := by first | exact H | exact H.tail.tail
                  refine wp_call rfl (clone_ok C H b1 (by omega)) ?_
                  rintro r5 h ⟨_, hq5⟩
                  obtain ⟨q5, rfl, H⟩ := hq5 fun e => by rw [e] at hn1; simp only [List.length_nil] at hn1; omega
                  refine oI rfl (oZ ?_)
                  refine cS (cR ?_)
                  refine oI rfl (oI rfl (oI (iaddrS_sem rfl rfl hi) ?_))
                  refine oI (sem_load rfl (H.at 0 rfl) (fun _ => part_byte hi rfl)) ?_
                  refine oI rfl ?_
                  refine oI (xor8_sem (fb1 _ (List.getElem_mem hi)) hby rfl rfl) ?_
                  refine oI (iaddrS_sem rfl rfl hi) ?_
                  refine wp_store (k := 0) (o := 0 + i * 1) (cs' := avBytes ((frame (fpOf tbl) g1 p).set i ((frame (fpOf tbl) g1 p)[i] ^^^ by0))) rfl rfl rfl rfl H rfl (fun kk => by rw [show 0 + i * 1 = i by omega]; exact set_byte hi kk) fun h H => ?_
                  refine oZ ?_
                  refine cS (cR ?_)
                  refine oI rfl ?_
                  refine wp_bool rfl (fun hb12 => ?_) (fun hb12 => ?_)
                  · have := hp
                    refine oI rfl (oF rfl (oF rfl (oI rfl (oI rfl (oZ (cT ?_))))))
                    refine ⟨trivial, _, rfl, ?_⟩
                    rfl
                  · have hb0 : by0 ≠ 0 := fun e => eqI_ne hb12 (by rw [e]; rfl)
                    refine oI rfl (oN rfl (oI rfl (oN rfl ?_)))
                    refine wp_call rfl (torn_no F C H (sv_own (by rw [List.length_set])) (fun b hm => (List.mem_or_eq_of_mem_set hm).elim (fb1 b) (fun e => e ▸ Nat.xor_lt_two_pow (n := 8) (fb1 _ (List.getElem_mem hi)) hby)) (by rw [List.length_set]; omega) (no_changed F.ok hp hi (Nat.xor_lt_two_pow (n := 8) (fb1 _ (List.getElem_mem hi)) hby) (xor_self_ne hb0))) ?_
                    rintro _ h ⟨rfl, H⟩
                    refine oI rfl (oI rfl (oZ (cT ?_)))
                    refine ⟨trivial, _, rfl, ?_⟩
                    rfl
                · have := hp
                  refine oN rfl (oI rfl (oF rfl (oF rfl (oF rfl (oF rfl (oF rfl (oF rfl (oN rfl (oI rfl (oI rfl (oZ ?_)))))))))))
                  refine cF rfl (cK ?_)
                  refine cS (cR ?_)
                  refine oI rfl ?_
                  have H : Has h [(p2, AObj.row tyB (avBytes (frame (fpOf tbl) g2 s)) true), (p1, AObj.row tyB (avBytes (frame (fpOf tbl) g1 p)) true)] := by first | exact H | exact H.tail.tail
                  refine wp_call rfl (clone_ok C H b1 (by omega)) ?_
                  rintro r5 h ⟨_, hq5⟩
                  obtain ⟨q5, rfl, H⟩ := hq5 fun e => by rw [e] at hn1; simp only [List.length_nil] at hn1; omega
                  refine oI rfl (oZ ?_)
                  refine cS (cR ?_)
                  refine oI rfl (oI rfl (oI (iaddrS_sem rfl rfl hi) ?_))
                  refine oI (sem_load rfl (H.at 0 rfl) (fun _ => part_byte hi rfl)) ?_
                  refine oI rfl ?_
                  refine oI (xor8_sem (fb1 _ (List.getElem_mem hi)) hby rfl rfl) ?_
                  refine oI (iaddrS_sem rfl rfl hi) ?_
                  refine wp_store (k := 0) (o := 0 + i * 1) (cs' := avBytes ((frame (fpOf tbl) g1 p).set i ((frame (fpOf tbl) g1 p)[i] ^^^ by0))) rfl rfl rfl rfl H rfl (fun kk => by rw [show 0 + i * 1 = i by omega]; exact set_byte hi kk) fun h H => ?_
                  refine oZ ?_
                  refine cS (cR ?_)
                  refine oI rfl ?_
                  refine wp_bool rfl (fun hb13 => ?_) (fun hb13 => ?_)
                  · have := hp
                    refine oI rfl (oF rfl (oF rfl (oI rfl (oI rfl (oZ (cT ?_))))))
                    refine ⟨trivial, _, rfl, ?_⟩
                    rfl
                  · have hb0 : by0 ≠ 0 := fun e => eqI_ne hb13 (by rw [e]; rfl)
                    refine oI rfl (oN rfl (oI rfl (oN rfl ?_)))
                    refine wp_call rfl (torn_no F C H (sv_own (by rw [List.length_set])) (fun b hm => (List.mem_or_eq_of_mem_set hm).elim (fb1 b) (fun e => e ▸ Nat.xor_lt_two_pow (n := 8) (fb1 _ (List.getElem_mem hi)) hby)) (by rw [List.length_set]; omega) (no_changed F.ok hp hi (Nat.xor_lt_two_pow (n := 8) (fb1 _ (List.getElem_mem hi)) hby) (xor_self_ne hb0))) ?_
                    rintro _ h ⟨rfl, H⟩
                    refine oI rfl (oI rfl (oZ (cT ?_)))
                    refine ⟨trivial, _, rfl, ?_⟩
                    rfl
end
end Go.X
