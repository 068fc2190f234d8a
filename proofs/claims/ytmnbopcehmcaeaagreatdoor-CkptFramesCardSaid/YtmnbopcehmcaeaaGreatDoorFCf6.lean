/- What is loaded, by the program and by the specification; the law: true for all arguments, where sane is true. -/
import Derived.Test.YtmnbopcehmcaeaaGreatDoorFCf5
namespace Go.X
open Go
section
variable {E : XEnv} {d : Option Slot} {ops : List XOp} {Q : Tm → Heap → Prop} {tm : Tm} {x y : XO} {h : Heap} {L M : List (Pos × AObj)} {v w : AV} {l m : List Nat} {fs : List FV} {nl fu : Bool}
theorem idx2i_sem {i : Nat} (hi : i < 2) (hx : x.val tm = some (.agg [.str c0, .str c1])) (hy : y.val tm = some (.int .i64 (.ofNat i))) : (XI.idxA 2 1 none x y).sem tm h = .ok (.str (nameOf i)) h :=
  idx2_sem (g := i) hx (by rw [Nat.mod_eq_of_lt hi]; exact hy)
theorem lookup_none {p : Pos} {es : List (AV × AV × Nat)} {cl : Nat} {nm : List Nat} (hx : x.val tm = some (.map p)) (hy : y.val tm = some (.str nm)) (hg : h.get p = .map es cl) (hn : findE (.str nm) es 0 = some none) : (XI.lookup true .nilslice true x y).sem tm h = .ok (.tuple [.nilslice, .bool false]) h := by
  simp only [XI.sem, lookupS, withO_run hx, withO_run hy, isKey, hg, hn, lookRes]
theorem lookup_some {p : Pos} {es : List (AV × AV × Nat)} {cl j : Nat} {nm : List Nat} (hx : x.val tm = some (.map p)) (hy : y.val tm = some (.str nm)) (hg : h.get p = .map es cl) (hn : findE (.str nm) es 0 = some (some (j, v))) : (XI.lookup true .nilslice true x y).sem tm h = .ok (.tuple [v, .bool true]) h := by
  simp only [XI.sem, lookupS, withO_run hx, withO_run hy, isKey, hg, hn, lookRes]
theorem eqStr_T {a b : List Nat} (hx : x.val tm = some (.str a)) (hy : y.val tm = some (.str b)) (e : a = b) : (XI.bin .eq x y).sem tm h = .ok (.bool true) h := by
  have := strEq_sem (h := h) hx hy
  rwa [decide_eq_true e] at this
theorem eqStr_F {a b : List Nat} (hx : x.val tm = some (.str a)) (hy : y.val tm = some (.str b)) (e : a ≠ b) : (XI.bin .eq x y).sem tm h = .ok (.bool false) h := by
  have := strEq_sem (h := h) hx hy
  rwa [decide_eq_false e] at this
theorem wp_eqStr {a b : List Nat} (hx : x.val tm = some (.str a)) (hy : y.val tm = some (.str b)) (ht : a = b → wpOps E ops Q (putT d (.bool true) tm) h) (hf : a ≠ b → wpOps E ops Q (putT d (.bool false) tm) h) : wpOps E (⟨d, none, .ins (.bin .eq x y)⟩ :: ops) Q tm h := by
  by_cases e : a = b
  · exact oI (eqStr_T hx hy e) (ht e)
  · exact oI (eqStr_F hx hy e) (hf e)
theorem unE_is {fp : List Nat → Nat} : unE fp l = 0 ↔ isF fp l := by unfold unE; split <;> simp_all
theorem unQ_byte {fp : List Nat → Nat} (hb : ∀ b ∈ l, b < 256) : ∀ b ∈ unQ fp l, b < 256 := by
  unfold unQ
  split
  · exact unL_byte hb
  · intro b m; exact absurd m List.not_mem_nil
theorem ldI_byte {fp : List Nat → Nat} {i : Nat} {nm : List Nat} {st : Nat × List Nat} (hok : ∀ f ∈ fs, f.ok) (hs : ∀ b ∈ st.2, b < 256) : ∀ b ∈ (ldI fp i (fs.find? (named nm)) st).2, b < 256 := by
  cases hf : fs.find? (named nm) with
  | none => exact hs
  | some f =>
    simp only [ldI]
    split
    · exact unL_byte (hok f (List.mem_of_find?_eq_some hf)).2.1
    · exact hs
theorem ldQ_byte {fp : List Nat → Nat} (hok : ∀ f ∈ fs, f.ok) : ∀ b ∈ ldQ fp fs, b < 256 := by
  unfold ldQ
  split
  · split
    · intro b m; exact absurd m List.not_mem_nil
    · exact ldI_byte hok (ldI_byte hok fun b m => absurd m List.not_mem_nil)
  · intro b m; exact absurd m List.not_mem_nil
theorem okD_len (hd : okD fs) {f : FV} (m : f ∈ fs) : f.b.length ≤ 400000 := by
  obtain ⟨i, hi, rfl⟩ := List.getElem_of_mem m
  exact (hd.2 i hi hi).2.1
def LdO (fp : List Nat → Nat) (L : List (Pos × AObj)) (fs : List FV) : AV → Heap → Prop := fun r h' => ∃ v, r = .tuple [.int .i64 (ldZ fp fs), v, .int .i64 (ldE fp fs)] ∧ Own h' L fun M => BV M v (ldQ fp fs)
theorem ldO_bad {fp : List Nat → Nat} {L' : List (Pos × AObj)} (hn : ¬ okD fs) (hL : ∀ x ∈ L, x ∈ L') (H : Has h L') : LdO fp L fs (.tuple [.int .i64 0, .nilslice, .int .i64 370]) h :=
  ⟨.nilslice, by rw [ldZ, ldE, if_neg hn, if_neg hn], L', hL, H, by rw [ldQ, if_neg hn]; exact .nil⟩
theorem ldO_none {fp : List Nat → Nat} {L' : List (Pos × AObj)} (hd : okD fs) (h0 : (ld fp fs).1 = 0) (hL : ∀ x ∈ L, x ∈ L') (H : Has h L') : LdO fp L fs (.tuple [.int .i64 0, .nilslice, .int .i64 3]) h :=
  ⟨.nilslice, by rw [ldZ, ldE, if_pos hd, if_pos hd, if_pos h0, h0]; rfl, L', hL, H, by rw [ldQ, if_pos hd, if_pos h0]; exact .nil⟩
theorem ldO_some {fp : List Nat → Nat} {L' : List (Pos × AObj)} (hd : okD fs) (h0 : (ld fp fs).1 ≠ 0) (hL : ∀ x ∈ L, x ∈ L') (H : Has h L') (hv : BV L' v (ld fp fs).2) : LdO fp L fs (.tuple [.int .i64 (.ofNat (ld fp fs).1), v, .int .i64 0]) h :=
  ⟨v, by rw [ldZ, ldE, if_pos hd, if_pos hd, if_neg h0], L', hL, H, by rw [ldQ, if_pos hd, if_neg h0]; exact hv⟩
section
variable {P X : Nat} {tbl : List Nat} (F : Fin E P X tbl)
include F
theorem load_round (C : Code E) {i : Nat} (hi : i < 2) (hd : okD fs) (hok : ∀ f ∈ fs, f.ok) {qm : Pos} {st : Nat × List Nat} {Q : XExit → Tm → Heap → Prop} (H : Has h M) (hm : (qm, AObj.map (ents fs 0) fs.length) ∈ M) (hv : BV M w st.2)
    (next : ∀ tm h M' w', (∀ x ∈ M, x ∈ M') → Has h M' → BV M' w' (ldI (fpOf tbl) i (fs.find? (named (nameOf i))) st).2 → tm.get (.lo .d0 .d2) = some (.int .i64 (.ofNat (ldI (fpOf tbl) i (fs.find? (named (nameOf i))) st).1)) → tm.get (.lo .d0 .d3) = some w' → tm.get (.lo .d0 .d5) = some (.map qm) → tm.get (.lo .d1 .d2) = some (.agg [.str c0, .str c1]) → tm.get (.lo .d1 .d3) = some (.int .i64 (.ofNat (i + 1))) → LoopT E c_load_b0 Q tm h)
    (e2 : tm.get (.lo .d0 .d2) = some (.int .i64 (.ofNat st.1))) (e3 : tm.get (.lo .d0 .d3) = some w) (e5 : tm.get (.lo .d0 .d5) = some (.map qm)) (e18 : tm.get (.lo .d1 .d2) = some (.agg [.str c0, .str c1])) (e19 : tm.get (.lo .d1 .d3) = some (.int .i64 (.ofNat i))) : LoopT E c_load_b0 Q tm h := by
  obtain ⟨tm, rfl⟩ := sets5 e2 e3 e5 e18 e19
  refine LoopT.wp ?_
  unfold c_load_b0
  refine cS (cR ?_)
  refine oI (sem_is (b := true) rfl (ltI_of (b := 2) hi)) (oZ (cS (cC rfl (cK (cS (cB ?_))))))
  refine cS (cR ?_)
  refine oI rfl (oI (idx2i_sem hi rfl rfl) (oI rfl (oI rfl (oZ ?_))))
  refine cS (cR ?_)
  refine oI rfl (oI rfl ?_)
  rcases hf : fs.find? (named (nameOf i)) with _ | f
  · rw [hf] at next
    refine oI (lookup_none rfl rfl (H.mem (x := (qm, _)) hm) (findE_none hf 0 0)) (oI rfl (oI rfl (oI rfl (oI rfl (oI rfl (oZ (cS ?_)))))))
    refine cS (cR ?_)
    refine oI rfl (oI rfl (oZ (cC rfl (cX ?_))))
    dsimp only
    rw [if_pos rfl]
    refine cR ?_
    refine oI (sem_int rfl (w64_succ (by omega))) ?_
    refine oI rfl (oZ ?_)
    exact next _ _ M w (fun _ m => m) H hv rfl rfl rfl rfl rfl
  · rw [hf] at next
    obtain ⟨j, hj⟩ := findE_some hf 0 0
    have hfm := List.mem_of_find?_eq_some hf
    refine oI (lookup_some rfl rfl (H.mem (x := (qm, _)) hm) hj) (oI rfl (oI rfl (oI rfl (oI rfl (oI rfl (oZ (cS ?_)))))))
    refine cS (cR ?_)
    refine oI rfl (oI rfl (oZ (cF rfl (cK ?_))))
    refine cS (cR ?_)
    refine oI rfl ?_
    refine wp_call rfl (unframe_ok F C H (BV.sl (nl := f.nl) (fu := f.fu)) (hok f hfm).2.1 (by have := okD_len hd hfm; omega)) ?_
    rintro _ h ⟨v2, rfl, M2, hM2, H, hv2⟩
    refine oI rfl (oI rfl (oI rfl (oI rfl (oI rfl (oI rfl (oI rfl (oZ ?_)))))))
    refine cS (cR ?_)
    refine oI rfl ?_
    refine wp_bool rfl (fun hb1 => ?_) (fun hb1 => ?_)
    · have hF : isF (fpOf tbl) f.b := unE_is.1 (eqI_is hb1)
      have hz : unZ (fpOf tbl) f.b = .ofNat (unG f.b) := if_pos hF
      have hqq : unQ (fpOf tbl) f.b = unL f.b := if_pos hF
      rw [hz]
      rw [hqq] at hv2
      refine oI rfl (oN rfl (oI rfl (oN rfl ?_)))
      refine oI (remI_sem (a := unG f.b) (b := 2) (by decide) rfl rfl) ?_
      refine oN rfl (oI rfl (oN rfl ?_))
      refine wp_bool rfl (fun hb2 => ?_) (fun hb2 => ?_)
      · have h2 : unG f.b % 2 = i := Int.ofNat.inj (eqI_is hb2)
        refine oI rfl (oI rfl (oN rfl (oI rfl (oN rfl (oI rfl (oN rfl ?_))))))
        refine wp_bool rfl (fun hb3 => ?_) (fun hb3 => ?_)
        · have hgt := ltI_lt hb3
          try simp only [ofNat_cast] at hgt
          refine oI rfl (oZ (cC rfl (cR (oI rfl (oI rfl (oI rfl (oI rfl (oZ (cR ?_)))))))))
          refine oI (sem_int rfl (w64_succ (by omega))) ?_
          refine oI rfl (oZ ?_)
          have he : ldI (fpOf tbl) i (some f) st = (unG f.b, unL f.b) := if_pos ⟨hF, h2, by omega⟩
          rw [he] at next
          exact next _ _ M2 _ hM2 H hv2 rfl rfl rfl rfl rfl
        · have hgt := ltI_ge hb3
          try simp only [ofNat_cast] at hgt
          refine oI rfl (oZ (cF rfl (cK (cR ?_))))
          refine oI (sem_int rfl (w64_succ (by omega))) ?_
          refine oI rfl (oZ ?_)
          have he : ldI (fpOf tbl) i (some f) st = st := if_neg fun hc => by have := hc.2.2; omega
          rw [he] at next
          exact next _ _ M2 _ hM2 H (hv.mono hM2) rfl rfl rfl rfl rfl
      · have h2 : ¬ unG f.b % 2 = i := fun e => eqI_ne hb2 (congrArg Int.ofNat e)
        refine oI rfl (oI rfl (oF rfl (oF rfl (oF rfl (oI rfl (oZ (cF rfl (cK (cR ?_)))))))))
        refine oI (sem_int rfl (w64_succ (by omega))) ?_
        refine oI rfl (oZ ?_)
        have he : ldI (fpOf tbl) i (some f) st = st := if_neg fun hc => h2 hc.2.1
        rw [he] at next
        exact next _ _ M2 _ hM2 H (hv.mono hM2) rfl rfl rfl rfl rfl
    · have hF : ¬ isF (fpOf tbl) f.b := fun hF => eqI_ne hb1 (unE_is.2 hF)
      refine oI rfl (oF rfl (oF rfl (oF rfl (oF rfl (oI rfl (oI rfl (oF rfl (oF rfl (oF rfl (oI rfl (oZ ?_)))))))))))
      refine cF rfl (cK (cR ?_))
      refine oI (sem_int rfl (w64_succ (by omega))) ?_
      refine oI rfl (oZ ?_)
      have he : ldI (fpOf tbl) i (some f) st = st := if_neg fun hc => hF hc.1
      rw [he] at next
      exact next _ _ M2 _ hM2 H (hv.mono hM2) rfl rfl rfl rfl rfl
theorem ckLoad_ok (C : Code E) (H : Has h L) (hok : ∀ f ∈ fs, f.ok) : CallT E (.func n_load [] []) [.agg [dAV nl fu fs]] h (LdO (fpOf tbl) L fs) := by
  refine CallT.body C.load ?_
  unfold BodyT c_load
  refine cS (cR ?_)
  refine wp_box rfl rfl H fun q1 h H => ?_
  refine oI rfl (oI rfl (oI rfl (oZ (cS ?_))))
  refine cS (cR ?_)
  refine oI (sem_load rfl (H.at 0 rfl) (fun _ => by first | rfl | exact partOf_sl rfl)) ?_
  refine wp_call rfl (valid_ok C H hok) ?_
  rintro _ h ⟨b, rfl, hbd, H⟩
  cases b
  · have hn : ¬ okD fs := fun hd => by have := hbd.2 hd; simp at this
    refine oI rfl (oZ (cC rfl ?_))
    refine cS (cR ?_)
    refine oI rfl (oI rfl (oI rfl (oZ (cT ?_))))
    refine ⟨trivial, _, rfl, ?_⟩
    exact ldO_bad hn (fun _ m => m) H.tail
  · have hd : okD fs := hbd.1 rfl
    refine oI rfl (oZ (cF rfl (cK ?_)))
    refine cS (cR ?_)
    refine oI (sem_load rfl (H.at 0 rfl) (fun _ => by first | rfl | exact partOf_sl rfl)) ?_
    refine wp_call rfl (opened_ok C H hd) ?_
    rintro _ h ⟨qm, rfl, H⟩
    refine oI rfl (oZ (cS ?_))
    refine cS (cR ?_)
    refine wp_call rfl (places_ok C H) ?_
    rintro _ h ⟨rfl, H⟩
    refine oI rfl (oZ (cB ?_))
    refine wpC_loop (load_round F C (i := 0) (by decide) hd hok (st := (0, [])) H List.mem_cons_self .nil (fun tm h M1 w1 hM1 H hv e2 e3 e5 e18 e19 => ?_) rfl rfl rfl rfl rfl)
    refine load_round F C (i := 1) (by decide) hd hok H (hM1 _ List.mem_cons_self) hv (fun tm h M2 w2 hM2 H hv e2 e3 e5 e18 e19 => ?_) e2 e3 e5 e18 e19
    have hsub : ∀ x ∈ L, x ∈ M2 := fun x m => hM2 x (hM1 x (List.mem_cons_of_mem _ (List.mem_cons_of_mem _ m)))
    have hv : BV M2 w2 (ld (fpOf tbl) fs).2 := hv
    have e2 : tm.get (.lo .d0 .d2) = some (.int .i64 (.ofNat (ld (fpOf tbl) fs).1)) := e2
    obtain ⟨tm, rfl⟩ := sets5 e2 e3 e5 e18 e19
    refine LoopT.wp ?_
    unfold c_load_b0
    refine cS (cR ?_)
    refine oI (sem_is (b := false) rfl rfl) (oZ (cS (cF rfl (cX (cS ?_)))))
    refine cS (cR ?_)
    refine oI rfl ?_
    refine wp_bool rfl (fun hb2 => ?_) (fun hb2 => ?_)
    · have h0 : (ld (fpOf tbl) fs).1 = 0 := Int.ofNat.inj (eqI_is hb2)
      refine oZ (cC rfl ?_)
      refine cS (cR ?_)
      refine oI rfl (oI rfl (oI rfl (oZ (cT ?_))))
      refine ⟨trivial, _, rfl, ?_⟩
      exact ldO_none hd h0 hsub H
    · have h0 : ¬ (ld (fpOf tbl) fs).1 = 0 := fun e => eqI_ne hb2 (congrArg Int.ofNat e)
      refine oZ (cF rfl (cK ?_))
      refine cS (cR ?_)
      refine oI rfl (oI rfl (oI rfl (oI rfl (oI rfl (oZ (cT ?_))))))
      refine ⟨trivial, _, rfl, ?_⟩
      exact ldO_some hd h0 hsub H hv
end
theorem rload_loop (C : Code E) (G : RPoly E) {q : Pos} (hd : okD fs) (hok : ∀ f ∈ fs, f.ok) {fin : Nat × List Nat} {Q : XExit → Tm → Heap → Prop} (hend : ∀ tm h M' w, (∀ x ∈ M, x ∈ M') → Has h M' → BV M' w fin.2 → tm.get (.lo .d0 .d5) = some (.int .i64 (.ofNat fin.1)) → tm.get (.lo .d0 .d6) = some w → Q (.exit 0) tm h) :
    ∀ (k j : Nat) (st : Nat × List Nat), fs.length - j = k → (fs.drop j).foldl (ldR (fpOf tbl63)) st = fin → ∀ (tm : Tm) (h : Heap) (M' : List (Pos × AObj)) (w : AV), (∀ x ∈ M, x ∈ M') → Has h M' → (q, AObj.row tyD [dAV nl fu fs] false) ∈ M' → BV M' w st.2 → tm.get (.lo .d0 .d1) = some (.ptr q 0) → tm.get (.lo .d0 .d5) = some (.int .i64 (.ofNat st.1)) → tm.get (.lo .d0 .d6) = some w → tm.get (.lo .d0 .d7) = some (.int .i64 (.ofNat j)) → LoopT E c_rload_b0 Q tm h := by
  have hlen := hd.1
  intro k
  induction k using Nat.strongRecOn with
  | ind k ih =>
    intro j st hk hfin tm h M1 w hM H hq hv e1 e5 e6 e7
    obtain ⟨tm, rfl⟩ := sets4 e1 e5 e6 e7
    refine LoopT.wp ?_
    unfold c_rload_b0
    refine cS ?_
    refine cS (cR ?_)
    refine oI rfl (oI rfl ?_)
    refine oI (sem_load rfl (H.mem (x := (q, _)) hq) (fun _ => partOf_sl rfl)) ?_
    refine oI (sem_len rfl) ?_
    refine wp_bool rfl (fun hb1 => ?_) (fun hb1 => ?_)
    · have hj := of_ltN hb1
      have hfm := List.getElem_mem hj
      rw [List.drop_eq_getElem_cons hj, List.foldl_cons] at hfin
      refine oZ (cC rfl (cK (cS (cB ?_))))
      refine cS (cR ?_)
      refine oI rfl ?_
      refine oI (sem_load rfl (H.mem (x := (q, _)) hq) (fun _ => partOf_sl rfl)) ?_
      refine oI rfl ?_
      refine oI (sem_iaddrF (f := FV.cells) (fun _ => rfl) (by decide) rfl rfl rfl hj) ?_
      refine oI rfl (oI (partOf_sl rfl) ?_)
      refine wp_call rfl (runframe_ok C G H (BV.sl (nl := fs[j].nl) (fu := fs[j].fu)) (hok _ hfm).2.1 (by have := okD_len hd hfm; omega)) ?_
      rintro _ h ⟨v2, rfl, M2, hM2, H, hv2⟩
      have hq := hM2 _ hq
      have hv := hv.mono hM2
      refine oI rfl (oI rfl (oI rfl (oI rfl (oI rfl (oI rfl (oI rfl (oZ (cS (wpC_phase rfl (oI rfl ?_))))))))))
      refine wp_bool rfl (fun hb2 => ?_) (fun hb2 => ?_)
      · have hF : isF (fpOf tbl63) fs[j].b := unE_is.1 (eqI_is hb2)
        have hz : unZ (fpOf tbl63) fs[j].b = .ofNat (unG fs[j].b) := if_pos hF
        have hqq : unQ (fpOf tbl63) fs[j].b = unL fs[j].b := if_pos hF
        rw [hz]
        rw [hqq] at hv2
        refine oI rfl (oN rfl (oI rfl (oN rfl ?_)))
        refine oI (sem_load rfl (H.mem (x := (q, _)) hq) (fun _ => partOf_sl rfl)) ?_
        refine oN rfl (oI rfl (oN rfl ?_))
        refine oI (sem_iaddrF (f := FV.cells) (fun _ => rfl) (by decide) rfl rfl rfl hj) ?_
        refine oN rfl (oI rfl (oN rfl (oI rfl (oN rfl (oI rfl ?_)))))
        refine oZ ⟨?_, ?_⟩
        · refine kI (rfl) rfl rfl ?_
          refine kI (sem_is rfl (by first | assumption | exact neI_refl _ | exact eqI_refl _)) rfl rfl ?_
          refine kI (rfl) rfl rfl (kN rfl (kI (rfl) rfl rfl (kN rfl ?_)))
          refine kI (sem_load rfl (H.mem (x := (q, _)) hq) (fun _ => partOf_sl rfl)) rfl rfl ?_
          refine kN rfl (kI (rfl) rfl rfl (kN rfl ?_))
          refine kI (sem_iaddrF (f := FV.cells) (fun _ => rfl) (by decide) rfl rfl rfl hj) rfl rfl ?_
          refine kN rfl (kI (rfl) rfl rfl (kN rfl (kI (rfl) rfl rfl (kN rfl (kI (rfl) rfl rfl ?_)))))
          exact kZ
        · refine oN rfl (wp_call rfl (file_ok C (g := unG fs[j].b)) ?_)
          rintro _ _ ⟨rfl, rfl⟩
          refine oZ (cL rfl (oN rfl ?_))
          refine wp_eqStr rfl rfl (fun hnm => ?_) (fun hnm => ?_)
          · have := hF
            refine oI rfl (oI rfl (oN rfl (oI rfl (oN rfl (oI rfl (oN rfl ?_))))))
            refine wp_bool rfl (fun hb3 => ?_) (fun hb3 => ?_)
            · have hgt := ltI_lt hb3
              try simp only [ofNat_cast] at hgt
              refine oI rfl ?_
              refine oZ ⟨?_, ?_⟩
              · refine kN rfl (kI (rfl) rfl rfl (kN rfl ?_))
                refine kI (sem_load rfl (H.mem (x := (q, _)) hq) (fun _ => partOf_sl rfl)) rfl rfl ?_
                refine kN rfl (kI (rfl) rfl rfl (kN rfl ?_))
                refine kI (sem_iaddrF (f := FV.cells) (fun _ => rfl) (by decide) rfl rfl rfl hj) rfl rfl ?_
                refine kN rfl (kI (rfl) rfl rfl (kN rfl (kI (rfl) rfl rfl (kN rfl (kI (eqStr_T rfl rfl hnm) rfl rfl (kI (rfl) rfl rfl (kI (rfl) rfl rfl (kN rfl (kI (rfl) rfl rfl (kN rfl (kI (rfl) rfl rfl ?_)))))))))))
                refine kN rfl ?_
                refine kI (sem_is rfl (by first | assumption | exact neI_refl _ | exact eqI_refl _)) rfl rfl ?_
                refine kI (rfl) rfl rfl ?_
                exact kZ
              · refine cC rfl ?_
                refine cS (cR ?_)
                refine oI rfl (oI rfl (oZ (cR (oI rfl (oI rfl (oZ (cR (oI rfl ?_))))))))
                refine oI (sem_int rfl (w64_succ (by omega))) ?_
                refine oI rfl (oZ ?_)
                have he : ldR (fpOf tbl63) st fs[j] = (unG fs[j].b, unL fs[j].b) := if_pos ⟨hF, hnm, by omega⟩
                rw [he] at hfin
                exact ih (fs.length - (j + 1)) (by omega) (j + 1) _ rfl hfin _ _ M2 _ (fun x m => hM2 x (hM x m)) H hq hv2 rfl rfl rfl rfl
            · have hgt := ltI_ge hb3
              try simp only [ofNat_cast] at hgt
              refine oI rfl ?_
              refine oZ ⟨?_, ?_⟩
              · refine kN rfl (kI (rfl) rfl rfl (kN rfl ?_))
                refine kI (sem_load rfl (H.mem (x := (q, _)) hq) (fun _ => partOf_sl rfl)) rfl rfl ?_
                refine kN rfl (kI (rfl) rfl rfl (kN rfl ?_))
                refine kI (sem_iaddrF (f := FV.cells) (fun _ => rfl) (by decide) rfl rfl rfl hj) rfl rfl ?_
                refine kN rfl (kI (rfl) rfl rfl (kN rfl (kI (rfl) rfl rfl (kN rfl (kI (eqStr_T rfl rfl hnm) rfl rfl (kI (rfl) rfl rfl (kI (rfl) rfl rfl (kN rfl (kI (rfl) rfl rfl (kN rfl (kI (rfl) rfl rfl ?_)))))))))))
                refine kN rfl ?_
                refine kI (sem_is rfl (by first | assumption | exact neI_refl _ | exact eqI_refl _)) rfl rfl ?_
                refine kI (rfl) rfl rfl ?_
                exact kZ
              · refine cF rfl (cK (cR (oI rfl ?_)))
                refine oI (sem_int rfl (w64_succ (by omega))) ?_
                refine oI rfl (oZ ?_)
                have he : ldR (fpOf tbl63) st fs[j] = st := if_neg fun hc => by have := hc.2.2; omega
                rw [he] at hfin
                exact ih (fs.length - (j + 1)) (by omega) (j + 1) _ rfl hfin _ _ M2 _ (fun x m => hM2 x (hM x m)) H hq hv rfl rfl rfl rfl
          · have := hF
            refine oI rfl (oI rfl (oF rfl (oF rfl (oF rfl (oI rfl ?_)))))
            refine oZ ⟨?_, ?_⟩
            · refine kN rfl (kI (rfl) rfl rfl (kN rfl ?_))
              refine kI (sem_load rfl (H.mem (x := (q, _)) hq) (fun _ => partOf_sl rfl)) rfl rfl ?_
              refine kN rfl (kI (rfl) rfl rfl (kN rfl ?_))
              refine kI (sem_iaddrF (f := FV.cells) (fun _ => rfl) (by decide) rfl rfl rfl hj) rfl rfl ?_
              refine kN rfl (kI (rfl) rfl rfl (kN rfl (kI (rfl) rfl rfl (kN rfl (kI (eqStr_F rfl rfl hnm) rfl rfl (kI (rfl) rfl rfl (kI (rfl) rfl rfl (kF rfl rfl (kF rfl rfl (kF rfl rfl (kI (rfl) rfl rfl ?_)))))))))))
              exact kZ
            · refine cF rfl (cK (cR (oI rfl ?_)))
              refine oI (sem_int rfl (w64_succ (by omega))) ?_
              refine oI rfl (oZ ?_)
              have he : ldR (fpOf tbl63) st fs[j] = st := if_neg fun hc => hnm hc.2.1
              rw [he] at hfin
              exact ih (fs.length - (j + 1)) (by omega) (j + 1) _ rfl hfin _ _ M2 _ (fun x m => hM2 x (hM x m)) H hq hv rfl rfl rfl rfl
      · have hF : ¬ isF (fpOf tbl63) fs[j].b := fun hF => eqI_ne hb2 (unE_is.2 hF)
        refine oI rfl (oF rfl (oF rfl (oF rfl (oF rfl (oF rfl (oF rfl (oF rfl ?_)))))))
        refine oZ ⟨?_, ?_⟩
        · refine kI (rfl) rfl rfl ?_
          refine kI (sem_is rfl (by first | assumption | exact neI_refl _ | exact eqI_refl _)) rfl rfl ?_
          refine kI (rfl) rfl rfl (kF rfl rfl (kF rfl rfl (kF rfl rfl (kF rfl rfl (kF rfl rfl (kF rfl rfl (kF rfl rfl ?_)))))))
          exact kZ
        · refine oF rfl (oZ (cL rfl (oF rfl (oI rfl (oI rfl (oF rfl (oF rfl (oF rfl (oI rfl ?_)))))))))
          refine oZ ⟨?_, ?_⟩
          · refine kF rfl rfl (kF rfl rfl (kF rfl rfl (kF rfl rfl (kF rfl rfl (kF rfl rfl (kF rfl rfl (kI (rfl) rfl rfl (kI (rfl) rfl rfl (kF rfl rfl (kF rfl rfl (kF rfl rfl ?_)))))))))))
            refine kI (rfl) rfl rfl ?_
            exact kZ
          · refine cF rfl (cK (cR (oI rfl ?_)))
            refine oI (sem_int rfl (w64_succ (by omega))) ?_
            refine oI rfl (oZ ?_)
            have he : ldR (fpOf tbl63) st fs[j] = st := if_neg fun hc => hF hc.1
            rw [he] at hfin
            exact ih (fs.length - (j + 1)) (by omega) (j + 1) _ rfl hfin _ _ M2 _ (fun x m => hM2 x (hM x m)) H hq hv rfl rfl rfl rfl
    · have hj := of_geN hb1
      refine oZ (cF rfl (cX ?_))
      rw [List.drop_of_length_le (by omega)] at hfin
      obtain rfl : st = fin := hfin
      exact hend _ _ M1 w hM H hv rfl rfl
theorem rload_ok (C : Code E) (G : RPoly E) (H : Has h L) (hok : ∀ f ∈ fs, f.ok) : CallT E (.func n_rload [] []) [.agg [dAV nl fu fs]] h (LdO (fpOf tbl63) L fs) := by
  refine CallT.body C.rload ?_
  unfold BodyT c_rload
  refine cS (cR ?_)
  refine wp_box rfl rfl H fun q1 h H => ?_
  refine oI rfl (oI rfl (oI rfl (oZ (cS ?_))))
  refine cS (cR ?_)
  refine oI (sem_load rfl (H.at 0 rfl) (fun _ => by first | rfl | exact partOf_sl rfl)) ?_
  refine wp_call rfl (isDisk_ok C H hok) ?_
  rintro _ h ⟨b, rfl, hbd, H⟩
  cases b
  · have hn : ¬ okD fs := fun hd => by have := hbd.2 hd; simp at this
    refine oI rfl (oZ (cC rfl ?_))
    refine cS (cR ?_)
    refine oI rfl (oI rfl (oI rfl (oZ (cT ?_))))
    refine ⟨trivial, _, rfl, ?_⟩
    exact ldO_bad hn (fun _ m => m) H.tail
  · have hd : okD fs := hbd.1 rfl
    refine oI rfl (oZ (cF rfl (cK ?_)))
    refine cS (cR ?_)
    refine oI rfl (oZ ?_)
    refine cS (cR ?_)
    refine oI rfl (oZ (cS ?_))
    refine cS (cR ?_)
    refine oI rfl (oZ (cB ?_))
    refine wpC_loop (rload_loop C G (q := q1) (M := (q1, AObj.row tyD [dAV nl fu fs] false) :: L) (nl := nl) (fu := fu) hd hok (fin := ld (fpOf tbl63) fs) (fun tm h M2 w hM2 H hv e5 e6 => ?_) (fs.length - 0) 0 (0, []) rfl (ld_eq hd) _ _ _ _ (fun _ m => m) H List.mem_cons_self .nil rfl rfl rfl rfl)
    have hsub : ∀ x ∈ L, x ∈ M2 := fun x m => hM2 x (List.mem_cons_of_mem _ m)
    obtain ⟨tm, rfl⟩ := sets2 e5 e6
    refine cS ?_
    refine cS (cR ?_)
    refine oI rfl ?_
    refine wp_bool rfl (fun hb2 => ?_) (fun hb2 => ?_)
    · have h0 : (ld (fpOf tbl63) fs).1 = 0 := Int.ofNat.inj (eqI_is hb2)
      refine oZ (cC rfl ?_)
      refine cS (cR ?_)
      refine oI rfl (oI rfl (oI rfl (oZ (cT ?_))))
      refine ⟨trivial, _, rfl, ?_⟩
      exact ldO_none hd h0 hsub H
    · have h0 : ¬ (ld (fpOf tbl63) fs).1 = 0 := fun e => eqI_ne hb2 (congrArg Int.ofNat e)
      refine oZ (cF rfl (cK ?_))
      refine cS (cR ?_)
      refine oI rfl (oI rfl (oI rfl (oI rfl (oI rfl (oZ (cT ?_))))))
      refine ⟨trivial, _, rfl, ?_⟩
      exact ldO_some hd h0 hsub H hv
theorem slim_loop {q : Pos} (hlen : fs.length ≤ maxN) {Q : XExit → Tm → Heap → Prop} (hend : ∀ tm h z, Has h ((q, .row tyD [dAV nl fu fs] false) :: L) → tm.get (.lo .d0 .d1) = some .nilslice → tm.get (.lo .d0 .d2) = some (.ptr q 0) → tm.get (.lo .d0 .d5) = some (.int .i64 z) → Q (.exit 0) tm h) :
    ∀ (k j : Nat) (z : Int), fs.length - j = k → ∀ (tm : Tm) (h : Heap), Has h ((q, .row tyD [dAV nl fu fs] false) :: L) → tm.get (.lo .d0 .d1) = some .nilslice → tm.get (.lo .d0 .d2) = some (.ptr q 0) → tm.get (.lo .d0 .d5) = some (.int .i64 z) → tm.get (.lo .d0 .d11) = some (dAV nl fu fs) → tm.get (.lo .d0 .d12) = some (.int .i64 (.ofNat fs.length)) → tm.get (.lo .d0 .d13) = some (.int .i64 (.ofNat j)) → LoopT E c_slim_b0 Q tm h := by
  have hlen : fs.length ≤ 9223372036854775807 := hlen
  intro k
  induction k using Nat.strongRecOn with
  | ind k ih =>
    intro j z hk tm h H e1 e2 e5 e11 e12 e13
    obtain ⟨tm, rfl⟩ := sets6 e1 e2 e5 e11 e12 e13
    refine LoopT.wp ?_
    unfold c_slim_b0
    refine cS (cR ?_)
    refine wp_bool rfl (fun hb1 => ?_) (fun hb1 => ?_)
    · have hj := of_ltN hb1
      refine oZ (cS (cC rfl (cK (cS (cB ?_)))))
      refine cS (cR ?_)
      refine oI (sem_iaddrF (f := FV.cells) (fun _ => rfl) (by decide) rfl rfl rfl hj) ?_
      refine oI (sem_loadI rfl rfl) ?_
      refine wp_alloc H fun q2 h H => ?_
      refine wp_store (k := 0) rfl rfl rfl (by first | rfl | exact len_of (DT.len _) | exact len_of (DE.len _) | exact len_of (DV.len _)) H rfl (fun k => by first | exact spliceK_len (by first | exact DT.len _ | exact DE.len _ | exact DV.len _) k | rfl) fun h H => ?_
      refine oZ (cR (oI rfl (oI rfl ?_)))
      refine oI (sem_load rfl (H.at 0 rfl) (fun _ => by first | rfl | exact partOf_sl rfl)) ?_
      refine oI (len_str rfl) (oI rfl ?_)
      refine oI (sem_load rfl (H.at 0 rfl) (fun _ => by first | rfl | exact partOf_sl rfl)) ?_
      refine oI (sem_len rfl) (oI rfl (oI rfl (oI rfl (oZ (cR ?_)))))
      refine oI (sem_int rfl (w64_succ (by omega))) ?_
      refine oI rfl (oZ ?_)
      exact ih (fs.length - (j + 1)) (by omega) (j + 1) _ rfl _ _ H.tail rfl rfl rfl rfl rfl rfl
    · have hj := of_geN hb1
      refine oZ (cS (cF rfl (cX ?_)))
      exact hend _ _ z H rfl rfl rfl
theorem slim_ok (C : Code E) (H : Has h L) (hlen : fs.length ≤ maxN) : CallT E (.func n_slim [] []) [.agg [dAV nl fu fs], .nilslice] h fun r h' => ∃ b, r = .bool b ∧ Has h' L := by
  refine CallT.body C.slim ?_
  unfold BodyT c_slim
  refine cS (cR ?_)
  refine wp_box rfl rfl H fun q1 h H => ?_
  refine oI rfl (oZ ?_)
  refine cS (cR ?_)
  refine oI rfl (oZ (cS ?_))
  refine cS (cR ?_)
  refine oI rfl ?_
  refine oI (sem_load rfl (H.at 0 rfl) (fun _ => by first | rfl | exact partOf_sl rfl)) ?_
  refine oI (sem_len rfl) (oI rfl (oZ (cB ?_)))
  refine wpC_loop (slim_loop (q := q1) hlen (fun tm h z H e1 e2 e5 => ?_) (fs.length - 0) 0 0 rfl _ _ H rfl rfl rfl rfl rfl rfl)
  obtain ⟨tm, rfl⟩ := sets3 e1 e2 e5
  refine cS ?_
  refine cS (cR ?_)
  refine oI rfl (oI rfl (oI rfl (oZ (cB ?_))))
  refine wpC_loop (LoopT.wp ?_)
  unfold c_slim_b1
  refine cS (cR ?_)
  refine oI (sem_is (b := false) rfl rfl) (oZ (cS (cF rfl (cX ?_))))
  refine cS (cR ?_)
  refine oI rfl ?_
  refine oI (sem_load rfl (H.at 0 rfl) (fun _ => by first | rfl | exact partOf_sl rfl)) ?_
  refine oI (sem_len rfl) ?_
  refine wp_bool rfl (fun hb2 => ?_) (fun hb2 => ?_)
  · have h1 := leI_le hb2
    try simp only [ofNat_cast] at h1
    refine oI rfl (oN rfl (oI rfl (oN rfl (oI rfl (oN rfl (oI (sem_is (b := true) rfl rfl) (oI rfl (oI rfl (oN rfl (oI rfl (oN rfl ?_)))))))))))
    refine wp_bool rfl (fun hb3 => ?_) (fun hb3 => ?_)
    · have h2 := leI_le hb3
      try simp only [ofNat_cast] at h2
      refine oI rfl (oI rfl (oZ (cT ?_)))
      refine ⟨trivial, _, rfl, ?_⟩
      exact ⟨_, rfl, H.tail⟩
    · have h2 := leI_gt hb3
      try simp only [ofNat_cast] at h2
      refine oI rfl (oI rfl (oZ (cT ?_)))
      refine ⟨trivial, _, rfl, ?_⟩
      exact ⟨_, rfl, H.tail⟩
  · have h1 := leI_gt hb2
    try simp only [ofNat_cast] at h1
    refine oI rfl (oF rfl (oF rfl (oF rfl (oI rfl (oI rfl (oF rfl (oF rfl (oI rfl (oI rfl (oZ (cT ?_)))))))))))
    refine ⟨trivial, _, rfl, ?_⟩
    exact ⟨_, rfl, H.tail⟩
section
variable {P X : Nat} (F : Fin E P X tbl63)
include F
theorem law_ok (C : Code E) (G : RPoly E) (hsane : ∀ h, CallT E (.func n_sane [] []) [] h fun r h' => r = .bool true ∧ h' = h) {z : Int} {p s : List Nat} {nl1 fu1 nl2 fu2 : Bool} (hp : ∀ b ∈ p, b < 256) (hs : ∀ b ∈ s, b < 256) (hlp : p.length ≤ 9223372036854775807) (hok : ∀ f ∈ fs, f.ok) (hlf : fs.length ≤ maxN) :
    CallT E (.func n_law [] []) [.int .i64 z, slAV nl1 fu1 p.length (avBytes p), slAV nl2 fu2 s.length (avBytes s), .agg [dAV nl fu fs]] h fun r _ => r = .bool true := by
  have H : Has h [] := Has.nil
  have bp : ∀ {L}, BV L (slAV nl1 fu1 p.length (avBytes p)) p := BV.sl
  have bs : ∀ {L}, BV L (slAV nl2 fu2 s.length (avBytes s)) s := BV.sl
  refine CallT.body C.law ?_
  unfold BodyT c_law
  refine cS (cR ?_)
  refine wp_box rfl rfl H fun q1 h H => ?_
  refine oI rfl (oZ (cS ?_))
  refine cS (cR ?_)
  refine wp_call rfl (hsane _) ?_
  rintro _ _ ⟨rfl, rfl⟩
  refine oI rfl (oZ (cF rfl (cK (cS ?_))))
  refine cS (cR ?_)
  refine oI (sem_load rfl (H.at 0 rfl) (fun _ => rfl)) ?_
  refine wp_call rfl (slim_ok C H hlf) ?_
  rintro _ h ⟨b, rfl, H⟩
  cases b
  · have := hp
    refine oI rfl (oI rfl (oF rfl (oF rfl (oF rfl (oI rfl (oI rfl (oF rfl (oF rfl (oF rfl (oI rfl (oZ ?_)))))))))))
    refine cC rfl ?_
    refine cS (cR ?_)
    refine oI rfl (oZ (cT ?_))
    refine ⟨trivial, _, rfl, ?_⟩
    rfl
  · have hq : (q1, AObj.row tyD [dAV nl fu fs] false) ∈ [(q1, AObj.row tyD [dAV nl fu fs] false)] := List.mem_cons_self
    generalize [(q1, AObj.row tyD [dAV nl fu fs] false)] = M0 at H hq
    refine oI rfl (oI rfl (oN rfl (oI rfl (oN rfl (oI (len_BV (L := []) bp rfl) (oN rfl ?_))))))
    refine wp_bool rfl (fun hb2 => ?_) (fun hb2 => ?_)
    · have hlp1 := ltI_lt hb2
      try simp only [ofNat_cast] at hlp1
      refine oI rfl (oI rfl (oF rfl (oF rfl (oF rfl (oI rfl (oZ (cC rfl ?_)))))))
      refine cS (cR ?_)
      refine oI rfl (oZ (cT ?_))
      refine ⟨trivial, _, rfl, ?_⟩
      rfl
    · have hlp1 := ltI_ge hb2
      try simp only [ofNat_cast] at hlp1
      refine oI rfl (oI rfl (oN rfl (oI rfl (oN rfl (oI (len_BV (L := []) bs rfl) (oN rfl ?_))))))
      refine wp_bool rfl (fun hb3 => ?_) (fun hb3 => ?_)
      · have hls1 := ltI_lt hb3
        try simp only [ofNat_cast] at hls1
        refine oI rfl (oZ (cC rfl ?_))
        refine cS (cR ?_)
        refine oI rfl (oZ (cT ?_))
        refine ⟨trivial, _, rfl, ?_⟩
        rfl
      · have hls1 := ltI_ge hb3
        try simp only [ofNat_cast] at hls1
        refine oI rfl (oZ (cF rfl (cK ?_)))
        refine cS (cR ?_)
        refine oI rfl (oI rfl (wp_call rfl (frame_ok F C hlp hp H bp) ?_))
        rintro _ h ⟨v1, rfl, M1, hM1, H, hv1⟩
        have hq := hM1 _ hq
        refine oI rfl (oI rfl (oI rfl (oI rfl (oI rfl (oZ ?_)))))
        refine cS (cR ?_)
        refine oI rfl (oI rfl (wp_call rfl (rframe_ok C G hlp hp H bp) ?_))
        rintro _ h ⟨v2, rfl, M2, hM2, H, hv2⟩
        have hq := hM2 _ hq
        have hv1 := hv1.mono hM2
        refine oI rfl (oI rfl (oI rfl (oI rfl (oI rfl (oZ ?_)))))
        refine cS (cR ?_)
        refine oI rfl ?_
        refine wp_call rfl (unframe_ok F C H bs hs (by omega)) ?_
        rintro _ h ⟨v3, rfl, M3, hM3, H, hv3⟩
        have hq := hM3 _ hq
        have hv1 := hv1.mono hM3
        have hv2 := hv2.mono hM3
        refine oI rfl (oI rfl (oI rfl (oI rfl (oI rfl (oI rfl (oI rfl (oZ ?_)))))))
        refine cS (cR ?_)
        refine oI rfl ?_
        refine wp_call rfl (runframe_ok C G H bs hs (by omega)) ?_
        rintro _ h ⟨v4, rfl, M4, hM4, H, hv4⟩
        have hq := hM4 _ hq
        have hv1 := hv1.mono hM4
        have hv2 := hv2.mono hM4
        have hv3 := hv3.mono hM4
        refine oI rfl (oI rfl (oI rfl (oI rfl (oI rfl (oI rfl (oI rfl (oZ ?_)))))))
        refine cS (cR ?_)
        refine oI rfl (oI rfl (wp_call rfl (save_ok F C hlp hp H bp) ?_))
        rintro _ h ⟨v5, rfl, M5, hM5, H, hv5⟩
        have hq := hM5 _ hq
        have hv1 := hv1.mono hM5
        have hv2 := hv2.mono hM5
        have hv3 := hv3.mono hM5
        have hv4 := hv4.mono hM5
        refine oI rfl (oI rfl (oI rfl (oI rfl (oI rfl (oZ ?_)))))
        refine cS (cR ?_)
        refine oI rfl (oI rfl (wp_call rfl (rsave_ok C G hlp hp H bp) ?_))
        rintro _ h ⟨v6, rfl, M6, hM6, H, hv6⟩
        have hq := hM6 _ hq
        have hv1 := hv1.mono hM6
        have hv2 := hv2.mono hM6
        have hv3 := hv3.mono hM6
        have hv4 := hv4.mono hM6
        have hv5 := hv5.mono hM6
        refine oI rfl (oI rfl (oI rfl (oI rfl (oI rfl (oZ ?_)))))
        refine cS (cR ?_)
        refine oI (sem_load rfl (H.mem (x := (q1, _)) hq) (fun _ => rfl)) ?_
        refine wp_call rfl (ckLoad_ok F C H hok) ?_
        rintro _ h ⟨v7, rfl, M7, hM7, H, hv7⟩
        have hq := hM7 _ hq
        have hv1 := hv1.mono hM7
        have hv2 := hv2.mono hM7
        have hv3 := hv3.mono hM7
        have hv4 := hv4.mono hM7
        have hv5 := hv5.mono hM7
        have hv6 := hv6.mono hM7
        refine oI rfl (oI rfl (oI rfl (oI rfl (oI rfl (oI rfl (oI rfl (oZ ?_)))))))
        refine cS (cR ?_)
        refine oI (sem_load rfl (H.mem (x := (q1, _)) hq) (fun _ => rfl)) ?_
        refine wp_call rfl (rload_ok C G H hok) ?_
        rintro _ h ⟨v8, rfl, M8, hM8, H, hv8⟩
        have hq := hM8 _ hq
        have hv1 := hv1.mono hM8
        have hv2 := hv2.mono hM8
        have hv3 := hv3.mono hM8
        have hv4 := hv4.mono hM8
        have hv5 := hv5.mono hM8
        have hv6 := hv6.mono hM8
        have hv7 := hv7.mono hM8
        refine oI rfl (oI rfl (oI rfl (oI rfl (oI rfl (oI rfl (oI rfl (oZ ?_)))))))
        refine cS (cR ?_)
        refine oI rfl (oI rfl (oI (sem_is (b := true) rfl (eqI_refl _)) (oI rfl (oN rfl (oI rfl (oN rfl (oI rfl (oN rfl (oI (sem_is (b := true) rfl (eqI_refl _)) (oI rfl (oI rfl ?_)))))))))))
        refine oN rfl (oI rfl (oN rfl (oI rfl (oN rfl (oI (sem_is (b := true) rfl (eqI_refl _)) (oI rfl (oI rfl (oN rfl (oI rfl (oN rfl (oI rfl ?_)))))))))))
        refine oN rfl (oI (sem_is (b := true) rfl (eqI_refl _)) (oI rfl (oI rfl (oN rfl (oI rfl (oN rfl (oI rfl (oN rfl (wp_call rfl (equal_ok C H hv1 hv2 (frL_byte hp) (frL_byte hp)) ?_)))))))))
        rintro _ _ ⟨rfl, rfl⟩
        rw [decide_eq_true rfl]
        refine oI rfl (oI rfl (oN rfl (oI rfl (oN rfl (oI rfl (oN rfl (oI (sem_is (b := true) rfl (eqI_refl _)) (oI rfl (oI rfl (oN rfl (oI rfl ?_)))))))))))
        refine oN rfl (oI rfl (oN rfl (wp_call rfl (equal_ok C H hv3 hv4 (unQ_byte hs) (unQ_byte hs)) ?_)))
        rintro _ _ ⟨rfl, rfl⟩
        rw [decide_eq_true rfl]
        refine oI rfl (oI rfl (oN rfl (oI rfl (oN rfl (oI rfl (oN rfl (wp_call rfl (sameOps_ok C hp H hv5 hv6) ?_)))))))
        rintro _ _ ⟨rfl, rfl⟩
        refine oI rfl (oI rfl (oN rfl (oI rfl (oN rfl (oI rfl (oN rfl (oI (sem_is (b := true) rfl (eqI_refl _)) (oI rfl (oI rfl (oN rfl (oI rfl ?_)))))))))))
        refine oN rfl (oI rfl (oN rfl (wp_call rfl (equal_ok C H hv7 hv8 (ldQ_byte hok) (ldQ_byte hok)) ?_)))
        rintro _ _ ⟨rfl, rfl⟩
        rw [decide_eq_true rfl]
        refine oI rfl (oI rfl (oZ (cT ?_)))
        refine ⟨trivial, _, rfl, ?_⟩
        rfl
end
end
end Go.X
