/- Comparing verdicts: what the four functions come to. -/
import Derived.Test.YtphclenlannanaaGreatDoorCc2
namespace Go.X
open Go
section
variable {E : XEnv}
theorem DVd.cmp_ors (a b : DVd) : orL [orL [cmpN a.run.length b.run.length, cmpI a.k b.k, cmpI a.c b.c], orL [cmpI a.p b.p, cmpI a.w b.w, cmpI a.f b.f], cmpR a.run b.run] = a.cmp b := by simp only [DVd.cmp, orL, orI_assoc, orI_right]
def DVd.nums (a : DVd) : List Int := [.ofNat a.run.length, a.k, a.c, a.p, a.w, a.f]
theorem DVd.cmp_lex (a b : DVd) : a.cmp b = orI (lexI a.nums b.nums) (cmpR a.run b.run) := by simp only [DVd.cmp, DVd.nums, orL, lexI, orI_assoc, orI_right, cmpN]
theorem DVd.run_len {a b : DVd} (h : lexI a.nums b.nums = 0) : a.run.length = b.run.length := by
  simp only [DVd.nums, lexI, orI_zero] at h
  exact Int.ofNat.inj (cmpI_zero h.1)
theorem DVd.run_same {a b : DVd} (h : a.cmp b = 0) : sameR a.run b.run = true := by
  rw [DVd.cmp_lex, orI_zero] at h
  exact cmpR_same h.2
theorem le20 {n : Nat} (h : n ≤ 5864062014634) : n ≤ maxN := by unfold maxN; omega
theorem cCompare_ok (C : Code E) {a b : DVd} (hok : a.ok) (hok' : b.ok) {h : Heap} {L : List (Pos × AObj)} (H : Has h L) : CallT E (.func n_cCompare [] []) [.agg a.cells, .agg b.cells] h (Z L (.int .i64 (a.cmp b))) := by
  refine CallT.body C.cCompare ?_
  unfold BodyT c_cCompare
  refine wpC_seq (wpC_reg ?_)
  refine wp_box rfl rfl H fun q1 h H => ?_
  refine wp_box rfl rfl H fun q2 h H => ?_
  refine wpOps_ins rfl ?_
  refine wpOps_nil ?_
  refine wpC_seq ?_
  refine wpC_phase rfl ?_
  refine wpOps_ins rfl ?_
  refine wpOps_ins (sem_load rfl (H.at 1 rfl) (fun _ => by first | exact partOf_sl rfl | rfl | exact partOf_all (DV.len _))) ?_
  refine wpOps_ins (sem_len rfl) ?_
  refine wpOps_ins rfl ?_
  refine wpOps_ins (sem_load rfl (H.at 0 rfl) (fun _ => by first | exact partOf_sl rfl | rfl | exact partOf_all (DV.len _))) ?_
  refine wpOps_ins (sem_len rfl) ?_
  refine wpOps_ins rfl ?_
  refine wpOps_ins (sem_load rfl (H.at 1 rfl) (fun _ => by first | exact partOf_sl rfl | rfl | exact partOf_all (DV.len _))) ?_
  refine wpOps_ins rfl ?_
  refine wpOps_ins (sem_load rfl (H.at 0 rfl) (fun _ => by first | exact partOf_sl rfl | rfl | exact partOf_all (DV.len _))) ?_
  refine wpOps_ins rfl ?_
  refine wpOps_ins (sem_load rfl (H.at 1 rfl) (fun _ => by first | exact partOf_sl rfl | rfl | exact partOf_all (DV.len _))) ?_
  refine wpOps_ins rfl ?_
  refine wpOps_ins (sem_load rfl (H.at 0 rfl) (fun _ => by first | exact partOf_sl rfl | rfl | exact partOf_all (DV.len _))) ?_
  refine wpOps_nil ⟨?_, ?_⟩
  · refine wpK_ins (rfl) rfl rfl ?_
    refine wpK_ins (sem_load rfl (H.at 1 rfl) (fun _ => by first | exact partOf_sl rfl | rfl | exact partOf_all (DV.len _))) rfl rfl ?_
    refine wpK_ins (sem_len rfl) rfl rfl ?_
    refine wpK_ins (rfl) rfl rfl ?_
    refine wpK_ins (sem_load rfl (H.at 0 rfl) (fun _ => by first | exact partOf_sl rfl | rfl | exact partOf_all (DV.len _))) rfl rfl ?_
    refine wpK_ins (sem_len rfl) rfl rfl ?_
    refine wpK_ins (rfl) rfl rfl ?_
    refine wpK_ins (sem_load rfl (H.at 1 rfl) (fun _ => by first | exact partOf_sl rfl | rfl | exact partOf_all (DV.len _))) rfl rfl ?_
    refine wpK_ins (rfl) rfl rfl ?_
    refine wpK_ins (sem_load rfl (H.at 0 rfl) (fun _ => by first | exact partOf_sl rfl | rfl | exact partOf_all (DV.len _))) rfl rfl ?_
    refine wpK_ins (rfl) rfl rfl ?_
    refine wpK_ins (sem_load rfl (H.at 1 rfl) (fun _ => by first | exact partOf_sl rfl | rfl | exact partOf_all (DV.len _))) rfl rfl ?_
    refine wpK_ins (rfl) rfl rfl ?_
    refine wpK_ins (sem_load rfl (H.at 0 rfl) (fun _ => by first | exact partOf_sl rfl | rfl | exact partOf_all (DV.len _))) rfl rfl ?_
    exact wpK_nil
  · refine wp_call rfl (cmpI_ok C H) ?_
    rintro _ h ⟨rfl, H⟩
    refine wpOps_nil ?_
    refine wpC_phase rfl ?_
    refine wpOps_nil ⟨?_, ?_⟩
    · refine wpK_ins (rfl) rfl rfl ?_
      refine wpK_ins (sem_load rfl (H.at 1 rfl) (fun _ => by first | exact partOf_sl rfl | rfl | exact partOf_all (DV.len _))) rfl rfl ?_
      refine wpK_ins (rfl) rfl rfl ?_
      refine wpK_ins (sem_load rfl (H.at 0 rfl) (fun _ => by first | exact partOf_sl rfl | rfl | exact partOf_all (DV.len _))) rfl rfl ?_
      refine wpK_ins (rfl) rfl rfl ?_
      refine wpK_ins (sem_load rfl (H.at 1 rfl) (fun _ => by first | exact partOf_sl rfl | rfl | exact partOf_all (DV.len _))) rfl rfl ?_
      refine wpK_ins (rfl) rfl rfl ?_
      refine wpK_ins (sem_load rfl (H.at 0 rfl) (fun _ => by first | exact partOf_sl rfl | rfl | exact partOf_all (DV.len _))) rfl rfl ?_
      exact wpK_nil
    · refine wp_call rfl (cmpI_ok C H) ?_
      rintro _ h ⟨rfl, H⟩
      refine wpOps_nil ?_
      refine wpC_phase rfl ?_
      refine wpOps_nil ⟨?_, ?_⟩
      · refine wpK_ins (rfl) rfl rfl ?_
        refine wpK_ins (sem_load rfl (H.at 1 rfl) (fun _ => by first | exact partOf_sl rfl | rfl | exact partOf_all (DV.len _))) rfl rfl ?_
        refine wpK_ins (rfl) rfl rfl ?_
        refine wpK_ins (sem_load rfl (H.at 0 rfl) (fun _ => by first | exact partOf_sl rfl | rfl | exact partOf_all (DV.len _))) rfl rfl ?_
        exact wpK_nil
      · refine wp_call rfl (cmpI_ok C H) ?_
        rintro _ h ⟨rfl, H⟩
        refine wpOps_nil ?_
        refine wpC_phase rfl ?_
        refine wp_bslice (fun k => rfl) H fun q3 h H => ?_
        refine wpOps_nil ⟨?_, ?_⟩
        · refine wpK_bslice (fun k => rfl) rfl (H.at 0 rfl) ?_
          exact wpK_nil
        · refine wp_call rfl (or_ok C (len3 _ _ _) H List.mem_cons_self) ?_
          rintro _ h ⟨rfl, H⟩
          refine wpOps_nil ?_
          refine wpC_last rfl ?_
          refine wpOps_ins rfl ?_
          refine wpOps_nil ⟨?_, ?_⟩
          · refine wpK_ins (rfl) rfl rfl ?_
            exact wpK_nil
          · refine wpC_seq ?_
            refine wpC_phase rfl ?_
            refine wpOps_ins rfl ?_
            refine wpOps_ins (sem_load rfl (H.at 2 rfl) (fun _ => by first | exact partOf_sl rfl | rfl | exact partOf_all (DV.len _))) ?_
            refine wpOps_ins rfl ?_
            refine wpOps_ins (sem_load rfl (H.at 1 rfl) (fun _ => by first | exact partOf_sl rfl | rfl | exact partOf_all (DV.len _))) ?_
            refine wpOps_ins rfl ?_
            refine wpOps_ins (sem_load rfl (H.at 2 rfl) (fun _ => by first | exact partOf_sl rfl | rfl | exact partOf_all (DV.len _))) ?_
            refine wpOps_ins rfl ?_
            refine wpOps_ins (sem_load rfl (H.at 1 rfl) (fun _ => by first | exact partOf_sl rfl | rfl | exact partOf_all (DV.len _))) ?_
            refine wpOps_ins rfl ?_
            refine wpOps_ins (sem_load rfl (H.at 2 rfl) (fun _ => by first | exact partOf_sl rfl | rfl | exact partOf_all (DV.len _))) ?_
            refine wpOps_ins rfl ?_
            refine wpOps_ins (sem_load rfl (H.at 1 rfl) (fun _ => by first | exact partOf_sl rfl | rfl | exact partOf_all (DV.len _))) ?_
            refine wpOps_nil ⟨?_, ?_⟩
            · refine wpK_ins (rfl) rfl rfl ?_
              refine wpK_ins (sem_load rfl (H.at 2 rfl) (fun _ => by first | exact partOf_sl rfl | rfl | exact partOf_all (DV.len _))) rfl rfl ?_
              refine wpK_ins (rfl) rfl rfl ?_
              refine wpK_ins (sem_load rfl (H.at 1 rfl) (fun _ => by first | exact partOf_sl rfl | rfl | exact partOf_all (DV.len _))) rfl rfl ?_
              refine wpK_ins (rfl) rfl rfl ?_
              refine wpK_ins (sem_load rfl (H.at 2 rfl) (fun _ => by first | exact partOf_sl rfl | rfl | exact partOf_all (DV.len _))) rfl rfl ?_
              refine wpK_ins (rfl) rfl rfl ?_
              refine wpK_ins (sem_load rfl (H.at 1 rfl) (fun _ => by first | exact partOf_sl rfl | rfl | exact partOf_all (DV.len _))) rfl rfl ?_
              refine wpK_ins (rfl) rfl rfl ?_
              refine wpK_ins (sem_load rfl (H.at 2 rfl) (fun _ => by first | exact partOf_sl rfl | rfl | exact partOf_all (DV.len _))) rfl rfl ?_
              refine wpK_ins (rfl) rfl rfl ?_
              refine wpK_ins (sem_load rfl (H.at 1 rfl) (fun _ => by first | exact partOf_sl rfl | rfl | exact partOf_all (DV.len _))) rfl rfl ?_
              exact wpK_nil
            · refine wp_call rfl (cmpI_ok C H) ?_
              rintro _ h ⟨rfl, H⟩
              refine wpOps_nil ?_
              refine wpC_phase rfl ?_
              refine wpOps_nil ⟨?_, ?_⟩
              · refine wpK_ins (rfl) rfl rfl ?_
                refine wpK_ins (sem_load rfl (H.at 2 rfl) (fun _ => by first | exact partOf_sl rfl | rfl | exact partOf_all (DV.len _))) rfl rfl ?_
                refine wpK_ins (rfl) rfl rfl ?_
                refine wpK_ins (sem_load rfl (H.at 1 rfl) (fun _ => by first | exact partOf_sl rfl | rfl | exact partOf_all (DV.len _))) rfl rfl ?_
                refine wpK_ins (rfl) rfl rfl ?_
                refine wpK_ins (sem_load rfl (H.at 2 rfl) (fun _ => by first | exact partOf_sl rfl | rfl | exact partOf_all (DV.len _))) rfl rfl ?_
                refine wpK_ins (rfl) rfl rfl ?_
                refine wpK_ins (sem_load rfl (H.at 1 rfl) (fun _ => by first | exact partOf_sl rfl | rfl | exact partOf_all (DV.len _))) rfl rfl ?_
                exact wpK_nil
              · refine wp_call rfl (cmpI_ok C H) ?_
                rintro _ h ⟨rfl, H⟩
                refine wpOps_nil ?_
                refine wpC_phase rfl ?_
                refine wpOps_nil ⟨?_, ?_⟩
                · refine wpK_ins (rfl) rfl rfl ?_
                  refine wpK_ins (sem_load rfl (H.at 2 rfl) (fun _ => by first | exact partOf_sl rfl | rfl | exact partOf_all (DV.len _))) rfl rfl ?_
                  refine wpK_ins (rfl) rfl rfl ?_
                  refine wpK_ins (sem_load rfl (H.at 1 rfl) (fun _ => by first | exact partOf_sl rfl | rfl | exact partOf_all (DV.len _))) rfl rfl ?_
                  exact wpK_nil
                · refine wp_call rfl (cmpI_ok C H) ?_
                  rintro _ h ⟨rfl, H⟩
                  refine wpOps_nil ?_
                  refine wpC_phase rfl ?_
                  refine wp_bslice (fun k => rfl) H fun q4 h H => ?_
                  refine wpOps_nil ⟨?_, ?_⟩
                  · refine wpK_bslice (fun k => rfl) rfl (H.at 0 rfl) ?_
                    exact wpK_nil
                  · refine wp_call rfl (or_ok C (len3 _ _ _) H List.mem_cons_self) ?_
                    rintro _ h ⟨rfl, H⟩
                    refine wpOps_nil ?_
                    refine wpC_last rfl ?_
                    refine wpOps_ins rfl ?_
                    refine wpOps_nil ⟨?_, ?_⟩
                    · refine wpK_ins (rfl) rfl rfl ?_
                      exact wpK_nil
                    · refine wpC_seq (wpC_reg ?_)
                      refine wpOps_ins rfl ?_
                      refine wpOps_ins rfl ?_
                      refine wpOps_ins rfl ?_
                      refine wpOps_ins (sem_load rfl (H.at 3 rfl) (fun _ => by first | exact partOf_sl rfl | rfl | exact partOf_all (DV.len _))) ?_
                      refine wpOps_ins rfl ?_
                      refine wpOps_ins (sem_load rfl (H.at 2 rfl) (fun _ => by first | exact partOf_sl rfl | rfl | exact partOf_all (DV.len _))) ?_
                      refine wp_call rfl (cfR_ok C hok.1 hok'.1 (le20 hok.2.2.1) (le20 hok'.2.2.1) H) ?_
                      rintro _ h ⟨rfl, H⟩
                      refine wp_bslice (fun k => rfl) H fun q5 h H => ?_
                      refine wp_call rfl (or_ok C (len3 _ _ _) H List.mem_cons_self) ?_
                      rintro _ h ⟨rfl, H⟩
                      refine wpOps_ins rfl ?_
                      refine wpOps_nil ?_
                      refine wpC_ret ?_
                      refine ⟨trivial, _, rfl, ?_⟩
                      exact ⟨congrArg (AV.int .i64) (DVd.cmp_ors a b), H.tail.tail.tail.tail.tail⟩
theorem rCompare_nums (C : Code E) {xs ys : List Int} (he : xs.length = ys.length) (hlen : xs.length ≤ maxN) {qx qy : Pos} {cx cy : Cap} {tx ty : TypeId} {sx sy : Bool} {L : List (Pos × AObj)} (hx : (qx, AObj.row tx (xs.map (AV.int .i64)) sx) ∈ L) (hy : (qy, AObj.row ty (ys.map (AV.int .i64)) sy) ∈ L) {v2 v3 : AV} {Q : XExit → Tm → Heap → Prop} (hend : ∀ tm h, lexI xs ys = 0 → tm.get (.lo .d0 .d2) = some v2 → tm.get (.lo .d0 .d3) = some v3 → Has h L → Q (.exit 0) tm h) (hret : ∀ tm h, lexI xs ys ≠ 0 → tm.get (.lo .d0 .d4) = some (.int .i64 (lexI xs ys)) → Has h L → Q .ret tm h) :
    ∀ (k j : Nat), xs.length - j = k → ∀ (tm : Tm) (h : Heap), Has h L → (lexI xs ys = lexI (xs.drop j) (ys.drop j)) → tm.get (.lo .d0 .d2) = some (v2) → tm.get (.lo .d0 .d3) = some (v3) → tm.get (.lo .d0 .d5) = some (.slice qx 0 xs.length cx) → tm.get (.lo .d0 .d6) = some (.slice qy 0 ys.length cy) → tm.get (.lo .d0 .d7) = some (.int .i64 (.ofNat j)) → LoopT E c_rCompare_b0 Q tm h := by
  intro k
  induction k using Nat.strongRecOn with
  | ind k ih =>
    intro j hk tm h H hz e2 e3 e5 e6 e7
    obtain ⟨tm, rfl⟩ := sets5 e2 e3 e5 e6 e7
    refine LoopT.wp ?_
    unfold c_rCompare_b0
    refine wpC_seq ?_
    refine wpC_seq (wpC_reg ?_)
    refine wpOps_ins rfl ?_
    refine wpOps_ins rfl ?_
    refine wpOps_ins rfl ?_
    refine wp_bool rfl (fun hb1 => ?_) (fun hb1 => ?_)
    · have hj := of_ltN hb1
      have hj2 : j < ys.length := by omega
      refine wpOps_nil ?_
      refine wpC_condT rfl ?_
      refine wpC_skip ?_
      refine wpC_seq ?_
      refine wpC_block ?_
      refine wpC_seq ?_
      refine wpC_last rfl ?_
      refine wpOps_ins rfl ?_
      refine wpOps_ins rfl ?_
      refine wpOps_ins (sem_iaddrH rfl rfl hj) ?_
      refine wpOps_ins (sem_load rfl (H.mem (x := (qx, _)) hx) (fun _ => part_int hj)) ?_
      refine wpOps_ins rfl ?_
      refine wpOps_ins rfl ?_
      refine wpOps_ins (sem_iaddrH rfl rfl hj2) ?_
      refine wpOps_ins (sem_load rfl (H.mem (x := (qy, _)) hy) (fun _ => part_int hj2)) ?_
      refine wp_bool rfl (fun hb2 => ?_) (fun hb2 => ?_)
      · have hn := neI_ne hb2
        refine wpOps_nil ⟨?_, ?_⟩
        · refine wpK_ins (rfl) rfl rfl ?_
          refine wpK_ins (rfl) rfl rfl ?_
          refine wpK_ins (sem_iaddrH rfl rfl hj) rfl rfl ?_
          refine wpK_ins (sem_load rfl (H.mem (x := (qx, _)) hx) (fun _ => part_int hj)) rfl rfl ?_
          refine wpK_ins (rfl) rfl rfl ?_
          refine wpK_ins (rfl) rfl rfl ?_
          refine wpK_ins (sem_iaddrH rfl rfl hj2) rfl rfl ?_
          refine wpK_ins (sem_load rfl (H.mem (x := (qy, _)) hy) (fun _ => part_int hj2)) rfl rfl ?_
          refine wpK_ins (sem_is rfl (by first | assumption | exact neI_refl _ | exact eqI_refl _)) rfl rfl ?_
          exact wpK_nil
        · refine wpC_condT rfl ?_
          refine wpC_seq ?_
          refine wpC_phase rfl ?_
          refine wpOps_ins rfl ?_
          refine wpOps_ins rfl ?_
          refine wpOps_ins (sem_iaddrH rfl rfl hj) ?_
          refine wpOps_ins (sem_load rfl (H.mem (x := (qx, _)) hx) (fun _ => part_int hj)) ?_
          refine wpOps_ins rfl ?_
          refine wpOps_ins rfl ?_
          refine wpOps_ins (sem_iaddrH rfl rfl hj2) ?_
          refine wpOps_ins (sem_load rfl (H.mem (x := (qy, _)) hy) (fun _ => part_int hj2)) ?_
          refine wpOps_nil ⟨?_, ?_⟩
          · refine wpK_ins (rfl) rfl rfl ?_
            refine wpK_ins (rfl) rfl rfl ?_
            refine wpK_ins (sem_iaddrH rfl rfl hj) rfl rfl ?_
            refine wpK_ins (sem_load rfl (H.mem (x := (qx, _)) hx) (fun _ => part_int hj)) rfl rfl ?_
            refine wpK_ins (rfl) rfl rfl ?_
            refine wpK_ins (rfl) rfl rfl ?_
            refine wpK_ins (sem_iaddrH rfl rfl hj2) rfl rfl ?_
            refine wpK_ins (sem_load rfl (H.mem (x := (qy, _)) hy) (fun _ => part_int hj2)) rfl rfl ?_
            exact wpK_nil
          · refine wp_call rfl (sign_ok C H) ?_
            rintro _ h ⟨rfl, H⟩
            refine wpOps_nil ?_
            refine wpC_last rfl ?_
            refine wpOps_ins rfl ?_
            refine wpOps_nil ⟨?_, ?_⟩
            · refine wpK_ins (rfl) rfl rfl ?_
              exact wpK_nil
            · refine wpC_ret ?_
              have hq : lexI xs ys = cmpI xs[j] ys[j] := by rw [hz, lexI_drop hj hj2, orI_ne (cmpI_ne hn)]
              exact hret _ _ (by rw [hq]; exact cmpI_ne hn) (by rw [hq]; rfl) H
      · have hn := neI_is hb2
        refine wpOps_nil ⟨?_, ?_⟩
        · refine wpK_ins (rfl) rfl rfl ?_
          refine wpK_ins (rfl) rfl rfl ?_
          refine wpK_ins (sem_iaddrH rfl rfl hj) rfl rfl ?_
          refine wpK_ins (sem_load rfl (H.mem (x := (qx, _)) hx) (fun _ => part_int hj)) rfl rfl ?_
          refine wpK_ins (rfl) rfl rfl ?_
          refine wpK_ins (rfl) rfl rfl ?_
          refine wpK_ins (sem_iaddrH rfl rfl hj2) rfl rfl ?_
          refine wpK_ins (sem_load rfl (H.mem (x := (qy, _)) hy) (fun _ => part_int hj2)) rfl rfl ?_
          refine wpK_ins (sem_is rfl (by first | assumption | exact neI_refl _ | exact eqI_refl _)) rfl rfl ?_
          exact wpK_nil
        · refine wpC_condF rfl ?_
          refine wpC_skip ?_
          refine wpC_reg ?_
          refine wpOps_ins rfl ?_
          refine wpOps_ins (sem_int rfl (w64_succ (by unfold maxN at hlen; omega))) ?_
          refine wpOps_ins rfl ?_
          refine wpOps_nil ?_
          exact ih (xs.length - (j + 1)) (by omega) (j + 1) rfl _ _ H (by rw [hz, lexI_drop hj hj2, cmpI_eq.2 hn, orI_left]) rfl rfl rfl rfl rfl 
    · have hj := of_geN hb1
      refine wpOps_nil ?_
      refine wpC_condF rfl ?_
      refine wpC_exit ?_
      exact hend _ _ (by rw [hz, List.drop_of_length_le hj, List.drop_of_length_le (by omega)]; rfl) rfl rfl H
theorem rCompare_runs (C : Code E) {a b : DVd} (hok : a.ok) (hok' : b.ok) (he : a.run.length = b.run.length) {q1 q2 : Pos} {L : List (Pos × AObj)} {Q : XExit → Tm → Heap → Prop} (hend : ∀ tm h, cmpR a.run b.run = 0 → Has h L → Q (.exit 2) tm h) (hret : ∀ tm h, tm.get (.lo .d0 .d4) = some (.int .i64 (cmpR a.run b.run)) → Has h L → Q .ret tm h) :
    ∀ (k j : Nat), a.run.length - j = k → ∀ (tm : Tm) (h : Heap), Has h ((q2, AObj.row 26 b.cells false) :: (q1, AObj.row 26 a.cells false) :: L) → (cmpR a.run b.run = cmpR (a.run.drop j) (b.run.drop j)) → tm.get (.lo .d0 .d2) = some (.ptr q1 0) → tm.get (.lo .d0 .d3) = some (.ptr q2 0) → tm.get (.lo .d0 .d8) = some (.int .i64 (.ofNat j)) → LoopT E c_rCompare_b1 Q tm h := by
  intro k
  induction k using Nat.strongRecOn with
  | ind k ih =>
    intro j hk tm h H hz e2 e3 e8
    obtain ⟨tm, rfl⟩ := sets3 e2 e3 e8
    refine LoopT.wp ?_
    unfold c_rCompare_b1
    refine wpC_seq ?_
    refine wpC_seq (wpC_reg ?_)
    refine wpOps_ins rfl ?_
    refine wpOps_ins rfl ?_
    refine wpOps_ins (sem_load rfl (H.at 1 rfl) (fun _ => by first | exact partOf_sl rfl | rfl | exact partOf_all (DV.len _))) ?_
    refine wpOps_ins (sem_len rfl) ?_
    refine wp_bool rfl (fun hb1 => ?_) (fun hb1 => ?_)
    · have hj := of_ltN hb1
      have hj2 : j < b.run.length := by omega
      refine wpOps_nil ?_
      refine wpC_condT rfl ?_
      refine wpC_skip ?_
      refine wpC_seq ?_
      refine wpC_block ?_
      refine wpC_seq ?_
      refine wpC_phase rfl ?_
      refine wpOps_ins rfl ?_
      refine wpOps_ins (sem_load rfl (H.at 1 rfl) (fun _ => by first | exact partOf_sl rfl | rfl | exact partOf_all (DV.len _))) ?_
      refine wpOps_ins rfl ?_
      refine wpOps_ins (sem_iaddrF DS.len (by omega) rfl rfl rfl hj) ?_
      refine wpOps_ins (sem_loadSt rfl) ?_
      refine wpOps_ins rfl ?_
      refine wpOps_ins (sem_load rfl (H.at 0 rfl) (fun _ => by first | exact partOf_sl rfl | rfl | exact partOf_all (DV.len _))) ?_
      refine wpOps_ins rfl ?_
      refine wpOps_ins (sem_iaddrF DS.len (by omega) rfl rfl rfl hj2) ?_
      refine wpOps_ins (sem_loadSt rfl) ?_
      refine wpOps_nil ⟨?_, ?_⟩
      · refine wpK_ins (rfl) rfl rfl ?_
        refine wpK_ins (sem_load rfl (H.at 1 rfl) (fun _ => by first | exact partOf_sl rfl | rfl | exact partOf_all (DV.len _))) rfl rfl ?_
        refine wpK_ins (rfl) rfl rfl ?_
        refine wpK_ins (sem_iaddrF DS.len (by omega) rfl rfl rfl hj) rfl rfl ?_
        refine wpK_ins (sem_loadSt rfl) rfl rfl ?_
        refine wpK_ins (rfl) rfl rfl ?_
        refine wpK_ins (sem_load rfl (H.at 0 rfl) (fun _ => by first | exact partOf_sl rfl | rfl | exact partOf_all (DV.len _))) rfl rfl ?_
        refine wpK_ins (rfl) rfl rfl ?_
        refine wpK_ins (sem_iaddrF DS.len (by omega) rfl rfl rfl hj2) rfl rfl ?_
        refine wpK_ins (sem_loadSt rfl) rfl rfl ?_
        exact wpK_nil
      · refine wp_call rfl (rStates_ok C (DV.ok_mem (hok.1 _ (List.getElem_mem hj)).1) (DV.ok_mem (hok'.1 _ (List.getElem_mem hj2)).1) (hok.1 _ (List.getElem_mem hj)).2 (hok'.1 _ (List.getElem_mem hj2)).2 H) ?_
        rintro _ h ⟨rfl, H⟩
        refine wpOps_nil ?_
        refine wpC_last rfl ?_
        refine wpOps_ins rfl ?_
        refine wpOps_nil ⟨?_, ?_⟩
        · refine wpK_ins (rfl) rfl rfl ?_
          exact wpK_nil
        · refine wpC_seq (wpC_reg ?_)
          refine wpOps_ins rfl ?_
          refine wp_bool rfl (fun hb2 => ?_) (fun hb2 => ?_)
          · have hn := neI_ne hb2
            refine wpOps_nil ?_
            refine wpC_condT rfl ?_
            refine wpC_seq (wpC_reg ?_)
            refine wpOps_ins rfl ?_
            refine wpOps_ins rfl ?_
            refine wpOps_nil ?_
            refine wpC_ret ?_
            exact hret _ _ (by rw [hz, cmpR_drop hj hj2, orI_ne hn]; rfl) H.tail.tail
          · have hn := neI_is hb2
            refine wpOps_nil ?_
            refine wpC_condF rfl ?_
            refine wpC_skip ?_
            refine wpC_reg ?_
            refine wpOps_ins rfl ?_
            refine wpOps_ins (sem_int rfl (w64_succ (by have := hok.2.2.1; omega))) ?_
            refine wpOps_ins rfl ?_
            refine wpOps_nil ?_
            exact ih (a.run.length - (j + 1)) (by omega) (j + 1) rfl _ _ H (by rw [hz, cmpR_drop hj hj2, hn, orI_left]) rfl rfl rfl 
    · have hj := of_geN hb1
      refine wpOps_nil ?_
      refine wpC_condF rfl ?_
      refine wpC_exit ?_
      exact hend _ _ (by rw [hz, List.drop_of_length_le hj, List.drop_of_length_le (by omega)]; rfl) H.tail.tail
theorem rCompare_ok (C : Code E) {a b : DVd} (hok : a.ok) (hok' : b.ok) {h : Heap} {L : List (Pos × AObj)} (H : Has h L) : CallT E (.func n_rCompare [] []) [.agg a.cells, .agg b.cells] h (Z L (.int .i64 (a.cmp b))) := by
  refine CallT.body C.rCompare ?_
  unfold BodyT c_rCompare
  refine wpC_seq (wpC_reg ?_)
  refine wp_box rfl rfl H fun q1 h H => ?_
  refine wp_box rfl rfl H fun q2 h H => ?_
  refine wpOps_ins rfl ?_
  refine wpOps_nil ?_
  refine wpC_seq (wpC_reg ?_)
  refine wpOps_ins rfl ?_
  refine wpOps_ins (sem_load rfl (H.at 1 rfl) (fun _ => by first | exact partOf_sl rfl | rfl | exact partOf_all (DV.len _))) ?_
  refine wpOps_ins (sem_len rfl) ?_
  refine wpOps_ins rfl ?_
  refine wpOps_ins (sem_load rfl (H.at 1 rfl) (fun _ => by first | exact partOf_sl rfl | rfl | exact partOf_all (DV.len _))) ?_
  refine wpOps_ins rfl ?_
  refine wpOps_ins (sem_load rfl (H.at 1 rfl) (fun _ => by first | exact partOf_sl rfl | rfl | exact partOf_all (DV.len _))) ?_
  refine wpOps_ins rfl ?_
  refine wpOps_ins (sem_load rfl (H.at 1 rfl) (fun _ => by first | exact partOf_sl rfl | rfl | exact partOf_all (DV.len _))) ?_
  refine wpOps_ins rfl ?_
  refine wpOps_ins (sem_load rfl (H.at 1 rfl) (fun _ => by first | exact partOf_sl rfl | rfl | exact partOf_all (DV.len _))) ?_
  refine wpOps_ins rfl ?_
  refine wpOps_ins (sem_load rfl (H.at 1 rfl) (fun _ => by first | exact partOf_sl rfl | rfl | exact partOf_all (DV.len _))) ?_
  refine wp_bslice (fun k => rfl) H fun q3 h H => ?_
  refine wpOps_ins rfl ?_
  refine wpOps_nil ?_
  refine wpC_seq (wpC_reg ?_)
  refine wpOps_ins rfl ?_
  refine wpOps_ins (sem_load rfl (H.at 1 rfl) (fun _ => by first | exact partOf_sl rfl | rfl | exact partOf_all (DV.len _))) ?_
  refine wpOps_ins (sem_len rfl) ?_
  refine wpOps_ins rfl ?_
  refine wpOps_ins (sem_load rfl (H.at 1 rfl) (fun _ => by first | exact partOf_sl rfl | rfl | exact partOf_all (DV.len _))) ?_
  refine wpOps_ins rfl ?_
  refine wpOps_ins (sem_load rfl (H.at 1 rfl) (fun _ => by first | exact partOf_sl rfl | rfl | exact partOf_all (DV.len _))) ?_
  refine wpOps_ins rfl ?_
  refine wpOps_ins (sem_load rfl (H.at 1 rfl) (fun _ => by first | exact partOf_sl rfl | rfl | exact partOf_all (DV.len _))) ?_
  refine wpOps_ins rfl ?_
  refine wpOps_ins (sem_load rfl (H.at 1 rfl) (fun _ => by first | exact partOf_sl rfl | rfl | exact partOf_all (DV.len _))) ?_
  refine wpOps_ins rfl ?_
  refine wpOps_ins (sem_load rfl (H.at 1 rfl) (fun _ => by first | exact partOf_sl rfl | rfl | exact partOf_all (DV.len _))) ?_
  refine wp_bslice (fun k => rfl) H fun q4 h H => ?_
  refine wpOps_ins rfl ?_
  refine wpOps_nil ?_
  refine wpC_seq ?_
  refine wpC_seq (wpC_reg ?_)
  refine wpOps_ins rfl ?_
  refine wpOps_nil ?_
  refine wpC_block ?_
  refine wpC_loop (rCompare_nums (xs := a.nums) (ys := b.nums) C rfl (by show 6 ≤ maxN; decide) (L := _ :: _ :: _) (List.mem_cons_of_mem _ List.mem_cons_self) List.mem_cons_self (fun tm h hz e2 e3 H => ?_) (fun tm h hz e4 H => ?_) (6 - 0) 0 rfl _ _ H rfl rfl rfl rfl rfl rfl)
  · obtain ⟨tm, rfl⟩ := sets2 e2 e3
    have H := H.tail.tail
    refine wpC_seq ?_
    refine wpC_seq (wpC_reg ?_)
    refine wpOps_ins rfl ?_
    refine wpOps_nil ?_
    refine wpC_block ?_
    refine wpC_loop (rCompare_runs C hok hok' (DVd.run_len hz) (fun tm h hr H => ?_) (fun tm h e4 H => ?_) (a.run.length - 0) 0 rfl _ _ H rfl rfl rfl rfl)
    · refine wpC_seq (wpC_reg ?_)
      refine wpOps_ins rfl ?_
      refine wpOps_nil ?_
      refine wpC_ret ?_
      refine ⟨trivial, _, rfl, ?_⟩
      exact ⟨congrArg (AV.int .i64) (by rw [DVd.cmp_lex, hz, orI_left, hr]), H⟩
    · obtain ⟨tm, rfl⟩ := sets1 e4
      exact ⟨trivial, _, rfl, congrArg (AV.int .i64) (by rw [DVd.cmp_lex, hz, orI_left]), H⟩
  · obtain ⟨tm, rfl⟩ := sets1 e4
    exact ⟨trivial, _, rfl, congrArg (AV.int .i64) (by rw [DVd.cmp_lex, orI_ne hz]), H.tail.tail.tail.tail⟩
theorem cSame_ok (C : Code E) {a b : DVd} (hok : a.ok) (hok' : b.ok) {h : Heap} {L : List (Pos × AObj)} (H : Has h L) : CallT E (.func n_cSame [] []) [.agg a.cells, .agg b.cells] h (Z L (.bool (a.same b))) := by
  refine CallT.body C.cSame ?_
  unfold BodyT c_cSame
  refine wpC_seq (wpC_reg ?_)
  refine wp_box rfl rfl H fun q1 h H => ?_
  refine wp_box rfl rfl H fun q2 h H => ?_
  refine wpOps_ins rfl ?_
  refine wpOps_nil ?_
  refine wpC_seq (wpC_reg ?_)
  refine wpOps_ins (sem_load rfl (H.at 1 rfl) (fun _ => by first | exact partOf_sl rfl | rfl | exact partOf_all (DV.len _))) ?_
  refine wpOps_ins (sem_load rfl (H.at 0 rfl) (fun _ => by first | exact partOf_sl rfl | rfl | exact partOf_all (DV.len _))) ?_
  refine wp_call rfl (cCompare_ok C hok hok' H) ?_
  rintro _ h ⟨rfl, H⟩
  refine wp_bool rfl (fun hb3 => ?_) (fun hb3 => ?_)
  · have h1 := eqI_is hb3
    refine wpOps_ins rfl ?_
    refine wpOps_on rfl ?_
    refine wpOps_ins rfl ?_
    refine wpOps_on rfl ?_
    refine wpOps_ins (sem_load rfl (H.at 1 rfl) (fun _ => by first | exact partOf_sl rfl | rfl | exact partOf_all (DV.len _))) ?_
    refine wpOps_on rfl ?_
    refine wpOps_ins rfl ?_
    refine wpOps_on rfl ?_
    refine wpOps_ins (sem_load rfl (H.at 0 rfl) (fun _ => by first | exact partOf_sl rfl | rfl | exact partOf_all (DV.len _))) ?_
    refine wpOps_on rfl ?_
    refine wp_call rfl (csame_ok C hok.1 hok'.1 (le20 hok.2.2.1) (le20 hok'.2.2.1) H) ?_
    rintro _ h ⟨rfl, H⟩
    rw [DVd.run_same h1]
    refine wpOps_ins rfl ?_
    refine wpOps_ins rfl ?_
    refine wpOps_on rfl ?_
    refine wpOps_ins rfl ?_
    refine wpOps_on rfl ?_
    refine wpOps_ins rfl ?_
    refine wpOps_on rfl ?_
    refine wpOps_ins (sem_load rfl (H.at 1 rfl) (fun _ => by first | exact partOf_sl rfl | rfl | exact partOf_all (DV.len _))) ?_
    refine wpOps_on rfl ?_
    refine wpOps_ins rfl ?_
    refine wpOps_on rfl ?_
    refine wpOps_ins rfl ?_
    refine wpOps_on rfl ?_
    refine wpOps_ins (sem_load rfl (H.at 0 rfl) (fun _ => by first | exact partOf_sl rfl | rfl | exact partOf_all (DV.len _))) ?_
    refine wpOps_on rfl ?_
    refine wp_call rfl (csame_ok C hok.2.1 hok'.2.1 (le20 hok.2.2.2) (le20 hok'.2.2.2) H) ?_
    rintro _ h ⟨rfl, H⟩
    cases hbd : sameR a.las b.las
    · refine wpOps_ins rfl ?_
      refine wpOps_ins rfl ?_
      refine wpOps_off rfl ?_
      refine wpOps_off rfl ?_
      refine wpOps_off rfl ?_
      refine wpOps_off rfl ?_
      refine wpOps_off rfl ?_
      refine wpOps_off rfl ?_
      refine wpOps_off rfl ?_
      refine wpOps_ins rfl ?_
      refine wpOps_ins rfl ?_
      refine wpOps_off rfl ?_
      refine wpOps_off rfl ?_
      refine wpOps_off rfl ?_
      refine wpOps_off rfl ?_
      refine wpOps_off rfl ?_
      refine wpOps_ins rfl ?_
      refine wpOps_ins rfl ?_
      refine wpOps_off rfl ?_
      refine wpOps_off rfl ?_
      refine wpOps_off rfl ?_
      refine wpOps_off rfl ?_
      refine wpOps_off rfl ?_
      refine wpOps_ins rfl ?_
      refine wpOps_ins rfl ?_
      refine wpOps_nil ?_
      refine wpC_ret ?_
      refine ⟨trivial, _, rfl, ?_⟩
      exact ⟨congrArg (AV.bool) (by simp [DVd.same, h1, hbd]), H.tail.tail⟩
    · refine wpOps_ins rfl ?_
      refine wpOps_ins rfl ?_
      refine wpOps_on rfl ?_
      refine wpOps_ins rfl ?_
      refine wpOps_on rfl ?_
      refine wpOps_ins rfl ?_
      refine wpOps_on rfl ?_
      refine wpOps_ins (sem_load rfl (H.at 1 rfl) (fun _ => by first | exact partOf_sl rfl | rfl | exact partOf_all (DV.len _))) ?_
      refine wpOps_on rfl ?_
      refine wpOps_ins rfl ?_
      refine wpOps_on rfl ?_
      refine wpOps_ins rfl ?_
      refine wpOps_on rfl ?_
      refine wpOps_ins (sem_load rfl (H.at 0 rfl) (fun _ => by first | exact partOf_sl rfl | rfl | exact partOf_all (DV.len _))) ?_
      refine wpOps_on rfl ?_
      refine wp_bool rfl (fun hb4 => ?_) (fun hb4 => ?_)
      · have h2 := eqI_is hb4
        refine wpOps_ins rfl ?_
        refine wpOps_ins rfl ?_
        refine wpOps_on rfl ?_
        refine wpOps_ins rfl ?_
        refine wpOps_on rfl ?_
        refine wpOps_ins (sem_load rfl (H.at 1 rfl) (fun _ => by first | exact partOf_sl rfl | rfl | exact partOf_all (DV.len _))) ?_
        refine wpOps_on rfl ?_
        refine wpOps_ins rfl ?_
        refine wpOps_on rfl ?_
        refine wpOps_ins (sem_load rfl (H.at 0 rfl) (fun _ => by first | exact partOf_sl rfl | rfl | exact partOf_all (DV.len _))) ?_
        refine wpOps_on rfl ?_
        refine wp_bool rfl (fun hb5 => ?_) (fun hb5 => ?_)
        · have h3 := eqI_is hb5
          refine wpOps_ins rfl ?_
          refine wpOps_ins rfl ?_
          refine wpOps_on rfl ?_
          refine wpOps_ins rfl ?_
          refine wpOps_on rfl ?_
          refine wpOps_ins (sem_load rfl (H.at 1 rfl) (fun _ => by first | exact partOf_sl rfl | rfl | exact partOf_all (DV.len _))) ?_
          refine wpOps_on rfl ?_
          refine wpOps_ins rfl ?_
          refine wpOps_on rfl ?_
          refine wpOps_ins (sem_load rfl (H.at 0 rfl) (fun _ => by first | exact partOf_sl rfl | rfl | exact partOf_all (DV.len _))) ?_
          refine wpOps_on rfl ?_
          refine wp_bool rfl (fun hb6 => ?_) (fun hb6 => ?_)
          · have h4 := eqI_is hb6
            refine wpOps_ins rfl ?_
            refine wpOps_ins rfl ?_
            refine wpOps_nil ?_
            refine wpC_ret ?_
            refine ⟨trivial, _, rfl, ?_⟩
            exact ⟨congrArg (AV.bool) (by simp [DVd.same, h1, hbd, h2, h3, h4]), H.tail.tail⟩
          · have h4 := eqI_ne hb6
            refine wpOps_ins rfl ?_
            refine wpOps_ins rfl ?_
            refine wpOps_nil ?_
            refine wpC_ret ?_
            refine ⟨trivial, _, rfl, ?_⟩
            exact ⟨congrArg (AV.bool) (by simp [DVd.same, h1, hbd, h2, h3, h4]), H.tail.tail⟩
        · have h3 := eqI_ne hb5
          refine wpOps_ins rfl ?_
          refine wpOps_ins rfl ?_
          refine wpOps_off rfl ?_
          refine wpOps_off rfl ?_
          refine wpOps_off rfl ?_
          refine wpOps_off rfl ?_
          refine wpOps_off rfl ?_
          refine wpOps_ins rfl ?_
          refine wpOps_ins rfl ?_
          refine wpOps_nil ?_
          refine wpC_ret ?_
          refine ⟨trivial, _, rfl, ?_⟩
          exact ⟨congrArg (AV.bool) (by simp [DVd.same, h1, hbd, h2, h3]), H.tail.tail⟩
      · have h2 := eqI_ne hb4
        refine wpOps_ins rfl ?_
        refine wpOps_ins rfl ?_
        refine wpOps_off rfl ?_
        refine wpOps_off rfl ?_
        refine wpOps_off rfl ?_
        refine wpOps_off rfl ?_
        refine wpOps_off rfl ?_
        refine wpOps_ins rfl ?_
        refine wpOps_ins rfl ?_
        refine wpOps_off rfl ?_
        refine wpOps_off rfl ?_
        refine wpOps_off rfl ?_
        refine wpOps_off rfl ?_
        refine wpOps_off rfl ?_
        refine wpOps_ins rfl ?_
        refine wpOps_ins rfl ?_
        refine wpOps_nil ?_
        refine wpC_ret ?_
        refine ⟨trivial, _, rfl, ?_⟩
        exact ⟨congrArg (AV.bool) (by simp [DVd.same, h1, hbd, h2]), H.tail.tail⟩
  · have h1 := eqI_ne hb3
    refine wpOps_ins rfl ?_
    refine wpOps_off rfl ?_
    refine wpOps_off rfl ?_
    refine wpOps_off rfl ?_
    refine wpOps_off rfl ?_
    refine wpOps_off rfl ?_
    refine wpOps_ins rfl ?_
    refine wpOps_ins rfl ?_
    refine wpOps_off rfl ?_
    refine wpOps_off rfl ?_
    refine wpOps_off rfl ?_
    refine wpOps_off rfl ?_
    refine wpOps_off rfl ?_
    refine wpOps_off rfl ?_
    refine wpOps_off rfl ?_
    refine wpOps_ins rfl ?_
    refine wpOps_ins rfl ?_
    refine wpOps_off rfl ?_
    refine wpOps_off rfl ?_
    refine wpOps_off rfl ?_
    refine wpOps_off rfl ?_
    refine wpOps_off rfl ?_
    refine wpOps_off rfl ?_
    refine wpOps_off rfl ?_
    refine wpOps_ins rfl ?_
    refine wpOps_ins rfl ?_
    refine wpOps_off rfl ?_
    refine wpOps_off rfl ?_
    refine wpOps_off rfl ?_
    refine wpOps_off rfl ?_
    refine wpOps_off rfl ?_
    refine wpOps_ins rfl ?_
    refine wpOps_ins rfl ?_
    refine wpOps_off rfl ?_
    refine wpOps_off rfl ?_
    refine wpOps_off rfl ?_
    refine wpOps_off rfl ?_
    refine wpOps_off rfl ?_
    refine wpOps_ins rfl ?_
    refine wpOps_ins rfl ?_
    refine wpOps_nil ?_
    refine wpC_ret ?_
    refine ⟨trivial, _, rfl, ?_⟩
    exact ⟨congrArg (AV.bool) (by simp [DVd.same, h1]), H.tail.tail⟩
theorem rSame_loop (C : Code E) {a b : DVd} (hok : a.ok) (hok' : b.ok) (he : a.las.length = b.las.length) {q1 q2 : Pos} {L : List (Pos × AObj)} {Q : XExit → Tm → Heap → Prop} (hend : ∀ tm h, sameR a.las b.las = true → Has h L → Q (.exit 0) tm h) (hret : ∀ tm h, sameR a.las b.las = false → tm.get (.lo .d0 .d4) = some (.bool false) → Has h L → Q .ret tm h) :
    ∀ (k j : Nat), a.las.length - j = k → ∀ (tm : Tm) (h : Heap), Has h ((q2, AObj.row 26 b.cells false) :: (q1, AObj.row 26 a.cells false) :: L) → (sameR a.las b.las = sameR (a.las.drop j) (b.las.drop j)) → tm.get (.lo .d0 .d2) = some (.ptr q1 0) → tm.get (.lo .d0 .d3) = some (.ptr q2 0) → tm.get (.lo .d0 .d5) = some (.int .i64 (.ofNat j)) → LoopT E c_rSame_b0 Q tm h := by
  intro k
  induction k using Nat.strongRecOn with
  | ind k ih =>
    intro j hk tm h H hz e2 e3 e5
    obtain ⟨tm, rfl⟩ := sets3 e2 e3 e5
    refine LoopT.wp ?_
    unfold c_rSame_b0
    refine wpC_seq ?_
    refine wpC_seq (wpC_reg ?_)
    refine wpOps_ins rfl ?_
    refine wpOps_ins rfl ?_
    refine wpOps_ins rfl ?_
    refine wpOps_ins (sem_load rfl (H.at 1 rfl) (fun _ => by first | exact partOf_sl rfl | rfl | exact partOf_all (DV.len _))) ?_
    refine wpOps_ins (sem_len rfl) ?_
    refine wp_bool rfl (fun hb1 => ?_) (fun hb1 => ?_)
    · have hj := of_ltN hb1
      have hj2 : j < b.las.length := by omega
      refine wpOps_nil ?_
      refine wpC_condT rfl ?_
      refine wpC_skip ?_
      refine wpC_seq ?_
      refine wpC_block ?_
      refine wpC_seq ?_
      refine wpC_phase rfl ?_
      refine wpOps_ins rfl ?_
      refine wpOps_ins rfl ?_
      refine wpOps_ins (sem_load rfl (H.at 1 rfl) (fun _ => by first | exact partOf_sl rfl | rfl | exact partOf_all (DV.len _))) ?_
      refine wpOps_ins rfl ?_
      refine wpOps_ins (sem_iaddrF DS.len (by omega) rfl rfl rfl hj) ?_
      refine wpOps_ins (sem_loadSt rfl) ?_
      refine wpOps_ins rfl ?_
      refine wpOps_ins rfl ?_
      refine wpOps_ins (sem_load rfl (H.at 0 rfl) (fun _ => by first | exact partOf_sl rfl | rfl | exact partOf_all (DV.len _))) ?_
      refine wpOps_ins rfl ?_
      refine wpOps_ins (sem_iaddrF DS.len (by omega) rfl rfl rfl hj2) ?_
      refine wpOps_ins (sem_loadSt rfl) ?_
      refine wpOps_nil ⟨?_, ?_⟩
      · refine wpK_ins (rfl) rfl rfl ?_
        refine wpK_ins (rfl) rfl rfl ?_
        refine wpK_ins (sem_load rfl (H.at 1 rfl) (fun _ => by first | exact partOf_sl rfl | rfl | exact partOf_all (DV.len _))) rfl rfl ?_
        refine wpK_ins (rfl) rfl rfl ?_
        refine wpK_ins (sem_iaddrF DS.len (by omega) rfl rfl rfl hj) rfl rfl ?_
        refine wpK_ins (sem_loadSt rfl) rfl rfl ?_
        refine wpK_ins (rfl) rfl rfl ?_
        refine wpK_ins (rfl) rfl rfl ?_
        refine wpK_ins (sem_load rfl (H.at 0 rfl) (fun _ => by first | exact partOf_sl rfl | rfl | exact partOf_all (DV.len _))) rfl rfl ?_
        refine wpK_ins (rfl) rfl rfl ?_
        refine wpK_ins (sem_iaddrF DS.len (by omega) rfl rfl rfl hj2) rfl rfl ?_
        refine wpK_ins (sem_loadSt rfl) rfl rfl ?_
        exact wpK_nil
      · refine wp_call rfl (sameAll_ok C (DV.ok_mem (hok.2.1 _ (List.getElem_mem hj)).1) (DV.ok_mem (hok'.2.1 _ (List.getElem_mem hj2)).1) (hok.2.1 _ (List.getElem_mem hj)).2 (hok'.2.1 _ (List.getElem_mem hj2)).2 H) ?_
        rintro _ h ⟨rfl, H⟩
        cases hbd : (cmpL a.las[j].l b.las[j].l == 0)
        · refine wpOps_nil ?_
          refine wpC_last rfl ?_
          refine wpOps_ins rfl ?_
          refine wpOps_nil ⟨?_, ?_⟩
          · refine wpK_ins (rfl) rfl rfl ?_
            exact wpK_nil
          · refine wpC_condT rfl ?_
            refine wpC_seq (wpC_reg ?_)
            refine wpOps_ins rfl ?_
            refine wpOps_nil ?_
            refine wpC_ret ?_
            exact hret _ _ (by rw [hz, sameR_drop hj hj2, hbd, Bool.false_and]) rfl H.tail.tail
        · refine wpOps_nil ?_
          refine wpC_last rfl ?_
          refine wpOps_ins rfl ?_
          refine wpOps_nil ⟨?_, ?_⟩
          · refine wpK_ins (rfl) rfl rfl ?_
            exact wpK_nil
          · refine wpC_condF rfl ?_
            refine wpC_skip ?_
            refine wpC_reg ?_
            refine wpOps_ins rfl ?_
            refine wpOps_ins (sem_int rfl (w64_succ (by have := hok.2.2.2; omega))) ?_
            refine wpOps_ins rfl ?_
            refine wpOps_nil ?_
            exact ih (a.las.length - (j + 1)) (by omega) (j + 1) rfl _ _ H (by rw [hz, sameR_drop hj hj2, hbd, Bool.true_and]) rfl rfl rfl 
    · have hj := of_geN hb1
      refine wpOps_nil ?_
      refine wpC_condF rfl ?_
      refine wpC_exit ?_
      exact hend _ _ (by rw [hz, List.drop_of_length_le hj, List.drop_of_length_le (by omega)]; rfl) H.tail.tail
theorem rSame_ok (C : Code E) {a b : DVd} (hok : a.ok) (hok' : b.ok) {h : Heap} {L : List (Pos × AObj)} (H : Has h L) : CallT E (.func n_rSame [] []) [.agg a.cells, .agg b.cells] h (Z L (.bool (a.same b))) := by
  refine CallT.body C.rSame ?_
  unfold BodyT c_rSame
  refine wpC_seq (wpC_reg ?_)
  refine wp_box rfl rfl H fun q1 h H => ?_
  refine wp_box rfl rfl H fun q2 h H => ?_
  refine wpOps_ins rfl ?_
  refine wpOps_nil ?_
  refine wpC_seq ?_
  refine wpC_seq (wpC_reg ?_)
  refine wpOps_ins (sem_load rfl (H.at 1 rfl) (fun _ => by first | exact partOf_sl rfl | rfl | exact partOf_all (DV.len _))) ?_
  refine wpOps_ins (sem_load rfl (H.at 0 rfl) (fun _ => by first | exact partOf_sl rfl | rfl | exact partOf_all (DV.len _))) ?_
  refine wp_call rfl (rCompare_ok C hok hok' H) ?_
  rintro _ h ⟨rfl, H⟩
  refine wp_bool rfl (fun hb3 => ?_) (fun hb3 => ?_)
  · have h1 := neI_ne hb3
    refine wpOps_ins rfl ?_
    refine wpOps_off rfl ?_
    refine wpOps_off rfl ?_
    refine wpOps_off rfl ?_
    refine wpOps_off rfl ?_
    refine wpOps_off rfl ?_
    refine wpOps_ins rfl ?_
    refine wpOps_ins rfl ?_
    refine wpOps_off rfl ?_
    refine wpOps_off rfl ?_
    refine wpOps_off rfl ?_
    refine wpOps_off rfl ?_
    refine wpOps_off rfl ?_
    refine wpOps_ins rfl ?_
    refine wpOps_ins rfl ?_
    refine wpOps_off rfl ?_
    refine wpOps_off rfl ?_
    refine wpOps_off rfl ?_
    refine wpOps_off rfl ?_
    refine wpOps_off rfl ?_
    refine wpOps_off rfl ?_
    refine wpOps_off rfl ?_
    refine wpOps_ins rfl ?_
    refine wpOps_ins rfl ?_
    refine wpOps_off rfl ?_
    refine wpOps_off rfl ?_
    refine wpOps_off rfl ?_
    refine wpOps_off rfl ?_
    refine wpOps_off rfl ?_
    refine wpOps_off rfl ?_
    refine wpOps_off rfl ?_
    refine wpOps_off rfl ?_
    refine wpOps_off rfl ?_
    refine wpOps_ins rfl ?_
    refine wpOps_nil ?_
    refine wpC_condT rfl ?_
    refine wpC_seq (wpC_reg ?_)
    refine wpOps_ins rfl ?_
    refine wpOps_nil ?_
    refine wpC_ret ?_
    refine ⟨trivial, _, rfl, ?_⟩
    exact ⟨congrArg (AV.bool) (by simp [DVd.same, h1]), H.tail.tail⟩
  · have h1 := neI_is hb3
    refine wpOps_ins rfl ?_
    refine wpOps_on rfl ?_
    refine wpOps_ins rfl ?_
    refine wpOps_on rfl ?_
    refine wpOps_ins (sem_load rfl (H.at 1 rfl) (fun _ => by first | exact partOf_sl rfl | rfl | exact partOf_all (DV.len _))) ?_
    refine wpOps_on rfl ?_
    refine wpOps_ins rfl ?_
    refine wpOps_on rfl ?_
    refine wpOps_ins (sem_load rfl (H.at 0 rfl) (fun _ => by first | exact partOf_sl rfl | rfl | exact partOf_all (DV.len _))) ?_
    refine wpOps_on rfl ?_
    refine wp_bool rfl (fun hb4 => ?_) (fun hb4 => ?_)
    · have h2 := neI_ne hb4
      refine wpOps_ins rfl ?_
      refine wpOps_ins rfl ?_
      refine wpOps_off rfl ?_
      refine wpOps_off rfl ?_
      refine wpOps_off rfl ?_
      refine wpOps_off rfl ?_
      refine wpOps_off rfl ?_
      refine wpOps_ins rfl ?_
      refine wpOps_ins rfl ?_
      refine wpOps_off rfl ?_
      refine wpOps_off rfl ?_
      refine wpOps_off rfl ?_
      refine wpOps_off rfl ?_
      refine wpOps_off rfl ?_
      refine wpOps_off rfl ?_
      refine wpOps_off rfl ?_
      refine wpOps_ins rfl ?_
      refine wpOps_ins rfl ?_
      refine wpOps_off rfl ?_
      refine wpOps_off rfl ?_
      refine wpOps_off rfl ?_
      refine wpOps_off rfl ?_
      refine wpOps_off rfl ?_
      refine wpOps_off rfl ?_
      refine wpOps_off rfl ?_
      refine wpOps_off rfl ?_
      refine wpOps_off rfl ?_
      refine wpOps_ins rfl ?_
      refine wpOps_nil ?_
      refine wpC_condT rfl ?_
      refine wpC_seq (wpC_reg ?_)
      refine wpOps_ins rfl ?_
      refine wpOps_nil ?_
      refine wpC_ret ?_
      refine ⟨trivial, _, rfl, ?_⟩
      exact ⟨congrArg (AV.bool) (by simp [DVd.same, h1, h2]), H.tail.tail⟩
    · have h2 := neI_is hb4
      refine wpOps_ins rfl ?_
      refine wpOps_ins rfl ?_
      refine wpOps_on rfl ?_
      refine wpOps_ins rfl ?_
      refine wpOps_on rfl ?_
      refine wpOps_ins (sem_load rfl (H.at 1 rfl) (fun _ => by first | exact partOf_sl rfl | rfl | exact partOf_all (DV.len _))) ?_
      refine wpOps_on rfl ?_
      refine wpOps_ins rfl ?_
      refine wpOps_on rfl ?_
      refine wpOps_ins (sem_load rfl (H.at 0 rfl) (fun _ => by first | exact partOf_sl rfl | rfl | exact partOf_all (DV.len _))) ?_
      refine wpOps_on rfl ?_
      refine wp_bool rfl (fun hb5 => ?_) (fun hb5 => ?_)
      · have h3 := neI_ne hb5
        refine wpOps_ins rfl ?_
        refine wpOps_ins rfl ?_
        refine wpOps_off rfl ?_
        refine wpOps_off rfl ?_
        refine wpOps_off rfl ?_
        refine wpOps_off rfl ?_
        refine wpOps_off rfl ?_
        refine wpOps_off rfl ?_
        refine wpOps_off rfl ?_
        refine wpOps_ins rfl ?_
        refine wpOps_ins rfl ?_
        refine wpOps_off rfl ?_
        refine wpOps_off rfl ?_
        refine wpOps_off rfl ?_
        refine wpOps_off rfl ?_
        refine wpOps_off rfl ?_
        refine wpOps_off rfl ?_
        refine wpOps_off rfl ?_
        refine wpOps_off rfl ?_
        refine wpOps_off rfl ?_
        refine wpOps_ins rfl ?_
        refine wpOps_nil ?_
        refine wpC_condT rfl ?_
        refine wpC_seq (wpC_reg ?_)
        refine wpOps_ins rfl ?_
        refine wpOps_nil ?_
        refine wpC_ret ?_
        refine ⟨trivial, _, rfl, ?_⟩
        exact ⟨congrArg (AV.bool) (by simp [DVd.same, h1, h2, h3]), H.tail.tail⟩
      · have h3 := neI_is hb5
        refine wpOps_ins rfl ?_
        refine wpOps_ins rfl ?_
        refine wpOps_on rfl ?_
        refine wpOps_ins rfl ?_
        refine wpOps_on rfl ?_
        refine wpOps_ins rfl ?_
        refine wpOps_on rfl ?_
        refine wpOps_ins (sem_load rfl (H.at 1 rfl) (fun _ => by first | exact partOf_sl rfl | rfl | exact partOf_all (DV.len _))) ?_
        refine wpOps_on rfl ?_
        refine wpOps_ins rfl ?_
        refine wpOps_on rfl ?_
        refine wpOps_ins rfl ?_
        refine wpOps_on rfl ?_
        refine wpOps_ins (sem_load rfl (H.at 0 rfl) (fun _ => by first | exact partOf_sl rfl | rfl | exact partOf_all (DV.len _))) ?_
        refine wpOps_on rfl ?_
        refine wp_bool rfl (fun hb6 => ?_) (fun hb6 => ?_)
        · have h4 := neI_ne hb6
          refine wpOps_ins rfl ?_
          refine wpOps_ins rfl ?_
          refine wpOps_off rfl ?_
          refine wpOps_off rfl ?_
          refine wpOps_off rfl ?_
          refine wpOps_off rfl ?_
          refine wpOps_off rfl ?_
          refine wpOps_off rfl ?_
          refine wpOps_off rfl ?_
          refine wpOps_off rfl ?_
          refine wpOps_off rfl ?_
          refine wpOps_ins rfl ?_
          refine wpOps_nil ?_
          refine wpC_condT rfl ?_
          refine wpC_seq (wpC_reg ?_)
          refine wpOps_ins rfl ?_
          refine wpOps_nil ?_
          refine wpC_ret ?_
          refine ⟨trivial, _, rfl, ?_⟩
          exact ⟨congrArg (AV.bool) (by simp [DVd.same, h1, h2, h3, h4]), H.tail.tail⟩
        · have h4 := neI_is hb6
          refine wpOps_ins rfl ?_
          refine wpOps_ins rfl ?_
          refine wpOps_on rfl ?_
          refine wpOps_ins rfl ?_
          refine wpOps_on rfl ?_
          refine wpOps_ins rfl ?_
          refine wpOps_on rfl ?_
          refine wpOps_ins (sem_load rfl (H.at 1 rfl) (fun _ => by first | exact partOf_sl rfl | rfl | exact partOf_all (DV.len _))) ?_
          refine wpOps_on rfl ?_
          refine wpOps_ins (sem_len rfl) ?_
          refine wpOps_on rfl ?_
          refine wpOps_ins rfl ?_
          refine wpOps_on rfl ?_
          refine wpOps_ins rfl ?_
          refine wpOps_on rfl ?_
          refine wpOps_ins (sem_load rfl (H.at 0 rfl) (fun _ => by first | exact partOf_sl rfl | rfl | exact partOf_all (DV.len _))) ?_
          refine wpOps_on rfl ?_
          refine wpOps_ins (sem_len rfl) ?_
          refine wpOps_on rfl ?_
          refine wp_bool rfl (fun hb7 => ?_) (fun hb7 => ?_)
          · have he := neI_nat hb7
            refine wpOps_ins rfl ?_
            refine wpOps_nil ?_
            refine wpC_condT rfl ?_
            refine wpC_seq (wpC_reg ?_)
            refine wpOps_ins rfl ?_
            refine wpOps_nil ?_
            refine wpC_ret ?_
            refine ⟨trivial, _, rfl, ?_⟩
            exact ⟨congrArg (AV.bool) (by simp [DVd.same, h1, h2, h3, h4, sameR_len he]), H.tail.tail⟩
          · have he := neI_natE hb7
            refine wpOps_ins rfl ?_
            refine wpOps_nil ?_
            refine wpC_condF rfl ?_
            refine wpC_skip ?_
            refine wpC_seq ?_
            refine wpC_seq (wpC_reg ?_)
            refine wpOps_ins rfl ?_
            refine wpOps_nil ?_
            refine wpC_block ?_
            refine wpC_loop (rSame_loop C hok hok' he (fun tm h hs H => ?_) (fun tm h hs e4 H => ?_) (a.las.length - 0) 0 rfl _ _ H rfl rfl rfl rfl)
            · refine wpC_seq (wpC_reg ?_)
              refine wpOps_ins rfl ?_
              refine wpOps_nil ?_
              refine wpC_ret ?_
              refine ⟨trivial, _, rfl, ?_⟩
              exact ⟨congrArg (AV.bool) (by simp [DVd.same, h1, h2, h3, h4, hs]), H⟩
            · obtain ⟨tm, rfl⟩ := sets1 e4
              exact ⟨trivial, _, rfl, congrArg AV.bool (by simp [DVd.same, hs]), H⟩
end
end Go.X
