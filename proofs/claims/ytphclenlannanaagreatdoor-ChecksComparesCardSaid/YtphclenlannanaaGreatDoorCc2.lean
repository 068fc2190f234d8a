/- Comparing lists of values, values, states, runs: what the functions come to. -/
import Derived.Test.YtphclenlannanaaGreatDoorCc1
namespace Go.X
open Go
section
variable {E : XEnv}
theorem len2 (a b : Int) : [a, b].length ≤ maxN := by show 2 ≤ maxN; decide
theorem len3 (a b c : Int) : [a, b, c].length ≤ maxN := by show 3 ≤ maxN; decide
theorem eqI_beq (a b : Int) : eqI a b = (a == b) := by
  cases h : eqI a b with
  | true => rw [eqI_is h]; simp
  | false => have := eqI_ne h; simp [this]
theorem leI_nat (a b : Nat) : leI (.ofNat a) (.ofNat b) = decide (a ≤ b) := by
  unfold leI; rw [ltI_nat]
  by_cases h : b < a
  · rw [decide_eq_true h, decide_eq_false (by omega)]
  · rw [decide_eq_false h, decide_eq_true (by omega)]
theorem of_leN {a b : Nat} (h : leI (.ofNat a) (.ofNat b) = true) : a ≤ b := by rw [leI_nat] at h; exact of_decide_eq_true h
theorem of_gtN {a b : Nat} (h : leI (.ofNat a) (.ofNat b) = false) : b < a := by rw [leI_nat] at h; have := of_decide_eq_false h; omega
theorem sem_loadSt {tm : Tm} {h : Heap} {x : XO} {s : DS} {r : List AV} (hv : x.val tm = some (.iptr (s.cell ++ r))) : (XI.load none x).sem tm h = .ok (slAV s.nl s.fu s.l.length (DV.cellsL s.l)) h := by
  simp only [XI.sem, loadS, withO_run hv]
  exact partOf_sl rfl
def CmpOK (E : XEnv) (f : FuncId) (t : DV) : Prop := ∀ u : DV, t.ok → u.ok → ∀ {h : Heap} {L : List (Pos × AObj)}, Has h L → CallT E (.func f [] []) [.agg t.cells, .agg u.cells] h (Z L (.int .i64 (t.cmp u)))
def LsOK (E : XEnv) (l : List DV) : Prop := (∀ t ∈ l, t.ok) → l.length ≤ maxN → ∀ {l' : List DV}, (∀ t ∈ l', t.ok) → l'.length ≤ maxN → ∀ {nl fu nl' fu' : Bool} {h : Heap} {L : List (Pos × AObj)}, Has h L → CallT E (.func n_lists [] []) [slAV nl fu l.length (DV.cellsL l), slAV nl' fu' l'.length (DV.cellsL l'), .func n_vCompare [] []] h (Z L (.int .i64 (cmpL l l')))
def RLsOK (E : XEnv) (l : List DV) : Prop := (∀ t ∈ l, t.ok) → l.length ≤ maxN → ∀ {l' : List DV}, (∀ t ∈ l', t.ok) → l'.length ≤ maxN → ∀ {nl fu nl' fu' : Bool} {h : Heap} {L : List (Pos × AObj)}, Has h L → CallT E (.func n_rLists [] []) [slAV nl fu l.length (DV.cellsL l), slAV nl' fu' l'.length (DV.cellsL l')] h (Z L (.int .i64 (cmpL l l')))
theorem lists_loop (C : Code E) {l l' : List DV} (hall : ∀ t ∈ l, CmpOK E n_vCompare t) (hok : ∀ t ∈ l, t.ok) (hok' : ∀ t ∈ l', t.ok) (hlen : l.length ≤ maxN) (hlen' : l'.length ≤ maxN) (he : l.length = l'.length) {nl fu nl' fu' : Bool} {L : List (Pos × AObj)} {Q : XExit → Tm → Heap → Prop} (hend : ∀ tm h, DV.cmpX l l' = 0 → Has h L → Q (.exit 0) tm h) (hret : ∀ tm h, tm.get (.lo .d0 .d6) = some (.int .i64 (DV.cmpX l l')) → Has h L → Q .ret tm h) :
    ∀ (k j : Nat), l.length - j = k → ∀ (tm : Tm) (h : Heap), Has h L → (DV.cmpX l l' = DV.cmpX (l.drop j) (l'.drop j)) → tm.get (.lo .d0 .d0) = some (slAV nl fu l.length (DV.cellsL l)) → tm.get (.lo .d0 .d1) = some (slAV nl' fu' l'.length (DV.cellsL l')) → tm.get (.lo .d0 .d2) = some (.func n_vCompare [] []) → tm.get (.lo .d1 .d3) = some (.int .i64 (.ofNat l.length)) → tm.get (.lo .d1 .d4) = some (.int .i64 (.ofNat j)) → LoopT E c_lists_b0 Q tm h := by
  intro k
  induction k using Nat.strongRecOn with
  | ind k ih =>
    intro j hk tm h H hz e0 e1 e2 e19 e20
    obtain ⟨tm, rfl⟩ := sets5 e0 e1 e2 e19 e20
    refine LoopT.wp ?_
    unfold c_lists_b0
    refine wpC_seq (wpC_reg ?_)
    refine wp_bool rfl (fun hb1 => ?_) (fun hb1 => ?_)
    · have hj := of_ltN hb1
      have hj2 : j < l'.length := by omega
      refine wpOps_nil ?_
      refine wpC_seq ?_
      refine wpC_condT rfl ?_
      refine wpC_skip ?_
      refine wpC_seq ?_
      refine wpC_block ?_
      refine wpC_seq (wpC_reg ?_)
      refine wpOps_ins rfl ?_
      refine wpOps_ins rfl ?_
      refine wpOps_nil ?_
      refine wpC_seq ?_
      refine wpC_phase rfl ?_
      refine wpOps_ins rfl ?_
      refine wpOps_ins rfl ?_
      refine wpOps_ins rfl ?_
      refine wpOps_ins (sem_iaddrV rfl rfl hj) ?_
      refine wpOps_ins (sem_loadI rfl (DV.len _)) ?_
      refine wpOps_ins rfl ?_
      refine wpOps_ins rfl ?_
      refine wpOps_ins (sem_iaddrV rfl rfl hj2) ?_
      refine wpOps_ins (sem_loadI rfl (DV.len _)) ?_
      refine wpOps_nil ⟨?_, ?_⟩
      · refine wpK_ins (rfl) rfl rfl ?_
        refine wpK_ins (rfl) rfl rfl ?_
        refine wpK_ins (rfl) rfl rfl ?_
        refine wpK_ins (sem_iaddrV rfl rfl hj) rfl rfl ?_
        refine wpK_ins (sem_loadI rfl (DV.len _)) rfl rfl ?_
        refine wpK_ins (rfl) rfl rfl ?_
        refine wpK_ins (rfl) rfl rfl ?_
        refine wpK_ins (sem_iaddrV rfl rfl hj2) rfl rfl ?_
        refine wpK_ins (sem_loadI rfl (DV.len _)) rfl rfl ?_
        exact wpK_nil
      · refine wp_callv rfl rfl (hall _ (List.getElem_mem hj) _ (hok _ (List.getElem_mem hj)) (hok' _ (List.getElem_mem hj2)) H) ?_
        rintro _ h ⟨rfl, H⟩
        refine wpOps_nil ?_
        refine wpC_last rfl ?_
        refine wpOps_ins rfl ?_
        refine wpOps_nil ⟨?_, ?_⟩
        · refine wpK_ins (rfl) rfl rfl ?_
          exact wpK_nil
        · refine wpC_seq (wpC_reg ?_)
          refine wpOps_ins rfl ?_
          refine wp_bool rfl (fun hb2 => ?_) (fun hb2 => ?_)
          · have hn := neI_ne hb2
            refine wpOps_nil ?_
            refine wpC_condT rfl ?_
            refine wpC_seq (wpC_reg ?_)
            refine wpOps_ins rfl ?_
            refine wpOps_ins rfl ?_
            refine wpOps_nil ?_
            refine wpC_ret ?_
            exact hret _ _ (by rw [hz, cmpX_drop hj hj2, orI_ne hn]; rfl) H
          · have hn := neI_is hb2
            refine wpOps_nil ?_
            refine wpC_condF rfl ?_
            refine wpC_skip ?_
            refine wpC_reg ?_
            refine wpOps_ins (sem_int rfl (w64_succ (by unfold maxN at hlen; omega))) ?_
            refine wpOps_ins rfl ?_
            refine wpOps_nil ?_
            exact ih (l.length - (j + 1)) (by omega) (j + 1) rfl _ _ H (by rw [hz, cmpX_drop hj hj2, hn, orI_left]) rfl rfl rfl rfl rfl 
    · have hj := of_geN hb1
      refine wpOps_nil ?_
      refine wpC_seq ?_
      refine wpC_condF rfl ?_
      refine wpC_exit ?_
      exact hend _ _ (by rw [hz, List.drop_of_length_le hj, List.drop_of_length_le (by omega)]; rfl) H
theorem lists_of (C : Code E) {l : List DV} (hall : ∀ t ∈ l, CmpOK E n_vCompare t) : LsOK E l := by
  intro hok hlen l' hok' hlen' nl fu nl' fu' h L H
  refine CallT.body C.lists ?_
  unfold BodyT c_lists
  refine wpC_seq (wpC_reg ?_)
  refine wpOps_ins rfl ?_
  refine wpOps_nil ?_
  refine wpC_seq ?_
  refine wpC_seq (wpC_reg ?_)
  refine wpOps_ins rfl ?_
  refine wpOps_ins (sem_len rfl) ?_
  refine wpOps_ins rfl ?_
  refine wpOps_ins (sem_len rfl) ?_
  refine wp_call rfl (cmpI_ok C H) ?_
  rintro _ h ⟨rfl, H⟩
  refine wpOps_ins rfl ?_
  refine wpOps_nil ?_
  refine wpC_seq (wpC_reg ?_)
  refine wpOps_ins rfl ?_
  refine wp_bool rfl (fun hb1 => ?_) (fun hb1 => ?_)
  · have hn := neI_ne hb1
    have he : l.length ≠ l'.length := fun e => hn (by rw [e]; exact cmpI_self _)
    refine wpOps_nil ?_
    refine wpC_condT rfl ?_
    refine wpC_seq (wpC_reg ?_)
    refine wpOps_ins rfl ?_
    refine wpOps_ins rfl ?_
    refine wpOps_nil ?_
    refine wpC_ret ?_
    refine ⟨trivial, _, rfl, ?_⟩
    exact ⟨congrArg (AV.int .i64) ((cmpL_ne he).symm), H⟩
  · have he : l.length = l'.length := cmpN_eq.1 (neI_is hb1)
    refine wpOps_nil ?_
    refine wpC_condF rfl ?_
    refine wpC_skip ?_
    refine wpC_seq ?_
    refine wpC_seq (wpC_reg ?_)
    refine wpOps_ins rfl ?_
    refine wpOps_ins (sem_len rfl) ?_
    refine wpOps_ins rfl ?_
    refine wpOps_nil ?_
    refine wpC_block ?_
    refine wpC_loop (lists_loop C hall hok hok' hlen hlen' he (fun tm h hz H => ?_) (fun tm h e6 H => ?_) (l.length - 0) 0 rfl _ _ H rfl rfl rfl rfl rfl rfl )
    · refine wpC_seq (wpC_reg ?_)
      refine wpOps_ins rfl ?_
      refine wpOps_nil ?_
      refine wpC_ret ?_
      refine ⟨trivial, _, rfl, ?_⟩
      exact ⟨congrArg (AV.int .i64) (hz.symm.trans (cmpL_same he).symm), H⟩
    · obtain ⟨tm, rfl⟩ := sets1 e6
      exact ⟨trivial, _, rfl, congrArg (AV.int .i64) (cmpL_same he).symm, H⟩
theorem rLists_loop (C : Code E) {l l' : List DV} (hall : ∀ t ∈ l, CmpOK E n_rvCompare t) (hok : ∀ t ∈ l, t.ok) (hok' : ∀ t ∈ l', t.ok) (hlen : l.length ≤ maxN) (hlen' : l'.length ≤ maxN) (he : l.length = l'.length) {nl fu nl' fu' : Bool} {L : List (Pos × AObj)} {Q : XExit → Tm → Heap → Prop} (hend : ∀ tm h, DV.cmpX l l' = 0 → Has h L → Q (.exit 0) tm h) (hret : ∀ tm h, tm.get (.lo .d0 .d4) = some (.int .i64 (DV.cmpX l l')) → Has h L → Q .ret tm h) :
    ∀ (k j : Nat), l.length - j = k → ∀ (tm : Tm) (h : Heap), Has h L → (DV.cmpX l l' = DV.cmpX (l.drop j) (l'.drop j)) → tm.get (.lo .d0 .d0) = some (slAV nl fu l.length (DV.cellsL l)) → tm.get (.lo .d0 .d1) = some (slAV nl' fu' l'.length (DV.cellsL l')) → tm.get (.lo .d0 .d5) = some (.int .i64 (.ofNat j)) → LoopT E c_rLists_b0 Q tm h := by
  intro k
  induction k using Nat.strongRecOn with
  | ind k ih =>
    intro j hk tm h H hz e0 e1 e5
    obtain ⟨tm, rfl⟩ := sets3 e0 e1 e5
    refine LoopT.wp ?_
    unfold c_rLists_b0
    refine wpC_seq ?_
    refine wpC_seq (wpC_reg ?_)
    refine wpOps_ins rfl ?_
    refine wpOps_ins rfl ?_
    refine wpOps_ins (sem_len rfl) ?_
    refine wp_bool rfl (fun hb1 => ?_) (fun hb1 => ?_)
    · have hj := of_ltN hb1
      have hj2 : j < l'.length := by omega
      refine wpOps_nil ?_
      refine wpC_condT rfl ?_
      refine wpC_skip ?_
      refine wpC_seq ?_
      refine wpC_block ?_
      refine wpC_seq ?_
      refine wpC_phase rfl ?_
      refine wpOps_ins rfl ?_
      refine wpOps_ins rfl ?_
      refine wpOps_ins (sem_iaddrV rfl rfl hj) ?_
      refine wpOps_ins (sem_loadI rfl (DV.len _)) ?_
      refine wpOps_ins rfl ?_
      refine wpOps_ins rfl ?_
      refine wpOps_ins (sem_iaddrV rfl rfl hj2) ?_
      refine wpOps_ins (sem_loadI rfl (DV.len _)) ?_
      refine wpOps_nil ⟨?_, ?_⟩
      · refine wpK_ins (rfl) rfl rfl ?_
        refine wpK_ins (rfl) rfl rfl ?_
        refine wpK_ins (sem_iaddrV rfl rfl hj) rfl rfl ?_
        refine wpK_ins (sem_loadI rfl (DV.len _)) rfl rfl ?_
        refine wpK_ins (rfl) rfl rfl ?_
        refine wpK_ins (rfl) rfl rfl ?_
        refine wpK_ins (sem_iaddrV rfl rfl hj2) rfl rfl ?_
        refine wpK_ins (sem_loadI rfl (DV.len _)) rfl rfl ?_
        exact wpK_nil
      · refine wp_call rfl (hall _ (List.getElem_mem hj) _ (hok _ (List.getElem_mem hj)) (hok' _ (List.getElem_mem hj2)) H) ?_
        rintro _ h ⟨rfl, H⟩
        refine wpOps_nil ?_
        refine wpC_last rfl ?_
        refine wpOps_ins rfl ?_
        refine wpOps_nil ⟨?_, ?_⟩
        · refine wpK_ins (rfl) rfl rfl ?_
          exact wpK_nil
        · refine wpC_seq (wpC_reg ?_)
          refine wpOps_ins rfl ?_
          refine wp_bool rfl (fun hb2 => ?_) (fun hb2 => ?_)
          · have hn := neI_ne hb2
            refine wpOps_nil ?_
            refine wpC_condT rfl ?_
            refine wpC_seq (wpC_reg ?_)
            refine wpOps_ins rfl ?_
            refine wpOps_ins rfl ?_
            refine wpOps_nil ?_
            refine wpC_ret ?_
            exact hret _ _ (by rw [hz, cmpX_drop hj hj2, orI_ne hn]; rfl) H
          · have hn := neI_is hb2
            refine wpOps_nil ?_
            refine wpC_condF rfl ?_
            refine wpC_skip ?_
            refine wpC_reg ?_
            refine wpOps_ins rfl ?_
            refine wpOps_ins (sem_int rfl (w64_succ (by unfold maxN at hlen; omega))) ?_
            refine wpOps_ins rfl ?_
            refine wpOps_nil ?_
            exact ih (l.length - (j + 1)) (by omega) (j + 1) rfl _ _ H (by rw [hz, cmpX_drop hj hj2, hn, orI_left]) rfl rfl rfl 
    · have hj := of_geN hb1
      refine wpOps_nil ?_
      refine wpC_condF rfl ?_
      refine wpC_exit ?_
      exact hend _ _ (by rw [hz, List.drop_of_length_le hj, List.drop_of_length_le (by omega)]; rfl) H
theorem rLists_of (C : Code E) {l : List DV} (hall : ∀ t ∈ l, CmpOK E n_rvCompare t) : RLsOK E l := by
  intro hok hlen l' hok' hlen' nl fu nl' fu' h L H
  refine CallT.body C.rLists ?_
  unfold BodyT c_rLists
  refine wpC_seq (wpC_reg ?_)
  refine wpOps_ins rfl ?_
  refine wpOps_nil ?_
  refine wpC_seq ?_
  refine wpC_seq (wpC_reg ?_)
  refine wpOps_ins rfl ?_
  refine wpOps_ins (sem_len rfl) ?_
  refine wpOps_ins rfl ?_
  refine wpOps_ins (sem_len rfl) ?_
  refine wp_bool rfl (fun hb1 => ?_) (fun hb1 => ?_)
  · have he := neI_nat hb1
    refine wpOps_nil ?_
    refine wpC_condT rfl ?_
    refine wpC_seq (wpC_reg ?_)
    refine wpOps_ins rfl ?_
    refine wpOps_ins (sem_len rfl) ?_
    refine wpOps_ins rfl ?_
    refine wpOps_ins (sem_len rfl) ?_
    refine wp_call rfl (rcmp_ok C H) ?_
    rintro _ h ⟨rfl, H⟩
    refine wpOps_ins rfl ?_
    refine wpOps_nil ?_
    refine wpC_ret ?_
    refine ⟨trivial, _, rfl, ?_⟩
    exact ⟨congrArg (AV.int .i64) ((cmpL_ne he).symm), H⟩
  · have he := neI_natE hb1
    refine wpOps_nil ?_
    refine wpC_condF rfl ?_
    refine wpC_skip ?_
    refine wpC_seq ?_
    refine wpC_seq (wpC_reg ?_)
    refine wpOps_ins rfl ?_
    refine wpOps_nil ?_
    refine wpC_block ?_
    refine wpC_loop (rLists_loop C hall hok hok' hlen hlen' he (fun tm h hz H => ?_) (fun tm h e6 H => ?_) (l.length - 0) 0 rfl _ _ H rfl rfl rfl rfl )
    · refine wpC_seq (wpC_reg ?_)
      refine wpOps_ins rfl ?_
      refine wpOps_nil ?_
      refine wpC_ret ?_
      refine ⟨trivial, _, rfl, ?_⟩
      exact ⟨congrArg (AV.int .i64) (hz.symm.trans (cmpL_same he).symm), H⟩
    · obtain ⟨tm, rfl⟩ := sets1 e6
      exact ⟨trivial, _, rfl, congrArg (AV.int .i64) (cmpL_same he).symm, H⟩
theorem vCompare_of (C : Code E) {k n : Int} {neg dn df : Bool} {d : List Int} {s : List Nat} {ln lf : Bool} {l : List DV} {mn mf : Bool} {m : List DV} (hl : LsOK E l) (hm : LsOK E m) : CmpOK E n_vCompare (.mk k n neg dn df d s ln lf l mn mf m) := by
  rintro ⟨k', n', neg', dn', df', d', s', ln', lf', l', mn', mf', m'⟩ hok hok' h L H
  refine CallT.body C.vCompare ?_
  unfold BodyT c_vCompare
  refine wpC_seq (wpC_reg ?_)
  refine wp_box rfl rfl H fun q1 h H => ?_
  refine wp_box rfl rfl H fun q2 h H => ?_
  refine wpOps_ins rfl ?_
  refine wpOps_nil ?_
  refine wpC_seq ?_
  refine wpC_seq ?_
  refine wpC_phase rfl ?_
  refine wpOps_ins rfl ?_
  refine wpOps_ins (sem_load rfl (H.at 1 rfl) (fun _ => by first | exact partOf_sl rfl | rfl | exact partOf_all (DV.len _))) ?_
  refine wpOps_ins rfl ?_
  refine wpOps_ins (sem_load rfl (H.at 0 rfl) (fun _ => by first | exact partOf_sl rfl | rfl | exact partOf_all (DV.len _))) ?_
  refine wpOps_ins rfl ?_
  refine wpOps_ins (sem_load rfl (H.at 1 rfl) (fun _ => by first | exact partOf_sl rfl | rfl | exact partOf_all (DV.len _))) ?_
  refine wpOps_ins rfl ?_
  refine wpOps_ins (sem_load rfl (H.at 0 rfl) (fun _ => by first | exact partOf_sl rfl | rfl | exact partOf_all (DV.len _))) ?_
  refine wpOps_nil ⟨?_, ?_⟩
  · refine wpK_ins (rfl) rfl rfl ?_
    refine wpK_ins (sem_load rfl (H.at 1 rfl) (fun _ => by first | exact partOf_sl rfl | rfl | exact partOf_all (DV.len _))) rfl rfl ?_
    refine wpK_ins (rfl) rfl rfl ?_
    refine wpK_ins (sem_load rfl (H.at 0 rfl) (fun _ => by first | exact partOf_sl rfl | rfl | exact partOf_all (DV.len _))) rfl rfl ?_
    refine wpK_ins (rfl) rfl rfl ?_
    refine wpK_ins (sem_load rfl (H.at 1 rfl) (fun _ => by first | exact partOf_sl rfl | rfl | exact partOf_all (DV.len _))) rfl rfl ?_
    refine wpK_ins (rfl) rfl rfl ?_
    refine wpK_ins (sem_load rfl (H.at 0 rfl) (fun _ => by first | exact partOf_sl rfl | rfl | exact partOf_all (DV.len _))) rfl rfl ?_
    exact wpK_nil
  · refine wp_call rfl (cmpI_ok C H) ?_
    rintro _ h ⟨rfl, H⟩
    refine wpOps_nil ?_
    refine wpC_phase rfl ?_
    refine wpOps_nil ⟨?_, ?_⟩
    · refine wpK_ins (rfl) rfl rfl ?_
      refine wpK_ins (sem_load rfl (H.at 1 rfl) (fun _ => by first | exact partOf_sl rfl | rfl | exact partOf_all (DV.len _))) rfl rfl ?_
      refine wpK_ins (rfl) rfl rfl ?_
      refine wpK_ins (sem_load rfl (H.at 0 rfl) (fun _ => by first | exact partOf_sl rfl | rfl | exact partOf_all (DV.len _))) rfl rfl ?_
      exact wpK_nil
    · refine wp_call rfl (cmpI_ok C H) ?_
      rintro _ h ⟨rfl, H⟩
      refine wpOps_nil ?_
      refine wpC_phase rfl ?_
      refine wp_bslice (fun k => rfl) H fun q3 h H => ?_
      refine wpOps_nil ⟨?_, ?_⟩
      · refine wpK_bslice (fun k => rfl) rfl (H.at 0 rfl) ?_
        exact wpK_nil
      · refine wp_call rfl (or_ok C (len2 _ _) H List.mem_cons_self) ?_
        rintro _ h ⟨rfl, H⟩
        refine wpOps_nil ?_
        refine wpC_last rfl ?_
        refine wpOps_ins rfl ?_
        refine wpOps_nil ⟨?_, ?_⟩
        · refine wpK_ins (rfl) rfl rfl ?_
          exact wpK_nil
        · refine wpC_seq (wpC_reg ?_)
          refine wpOps_ins rfl ?_
          refine wp_bool rfl (fun hb4 => ?_) (fun hb4 => ?_)
          · have h1 := neI_ne hb4
            refine wpOps_nil ?_
            refine wpC_condT rfl ?_
            refine wpC_seq (wpC_reg ?_)
            refine wpOps_ins rfl ?_
            refine wpOps_ins rfl ?_
            refine wpOps_nil ?_
            refine wpC_ret ?_
            refine ⟨trivial, _, rfl, ?_⟩
            exact ⟨congrArg (AV.int .i64) (by rw [orL2] at h1; rw [orL2, DV.cmp_eq, ← orI_assoc, orI_ne h1]), H.tail.tail.tail⟩
          · have h1 := neI_is hb4
            refine wpOps_nil ?_
            refine wpC_condF rfl ?_
            refine wpC_skip ?_
            refine wpC_seq ?_
            refine wpC_seq ?_
            refine wpC_phase rfl ?_
            refine wpOps_ins rfl ?_
            refine wpOps_ins (sem_load rfl (H.at 2 rfl) (fun _ => by first | exact partOf_sl rfl | rfl | exact partOf_all (DV.len _))) ?_
            refine wpOps_ins rfl ?_
            refine wpOps_ins (sem_load rfl (H.at 1 rfl) (fun _ => by first | exact partOf_sl rfl | rfl | exact partOf_all (DV.len _))) ?_
            refine wpOps_ins rfl ?_
            refine wpOps_ins (sem_load rfl (H.at 2 rfl) (fun _ => by first | exact partOf_sl rfl | rfl | exact partOf_all (DV.len _))) ?_
            refine wpOps_ins rfl ?_
            refine wpOps_ins (sem_load rfl (H.at 1 rfl) (fun _ => by first | exact partOf_sl rfl | rfl | exact partOf_all (DV.len _))) ?_
            refine wpOps_nil ⟨?_, ?_⟩
            · refine wpK_ins (rfl) rfl rfl ?_
              refine wpK_ins (sem_load rfl (H.at 2 rfl) (fun _ => by first | exact partOf_sl rfl | rfl | exact partOf_all (DV.len _))) rfl rfl ?_
              refine wpK_ins (rfl) rfl rfl ?_
              refine wpK_ins (sem_load rfl (H.at 1 rfl) (fun _ => by first | exact partOf_sl rfl | rfl | exact partOf_all (DV.len _))) rfl rfl ?_
              refine wpK_ins (rfl) rfl rfl ?_
              refine wpK_ins (sem_load rfl (H.at 2 rfl) (fun _ => by first | exact partOf_sl rfl | rfl | exact partOf_all (DV.len _))) rfl rfl ?_
              refine wpK_ins (rfl) rfl rfl ?_
              refine wpK_ins (sem_load rfl (H.at 1 rfl) (fun _ => by first | exact partOf_sl rfl | rfl | exact partOf_all (DV.len _))) rfl rfl ?_
              exact wpK_nil
            · refine wp_call rfl (integers_ok C hok.1 hok'.1 H) ?_
              rintro _ h ⟨rfl, H⟩
              refine wpOps_nil ?_
              refine wpC_phase rfl ?_
              refine wpOps_nil ⟨?_, ?_⟩
              · refine wpK_ins (rfl) rfl rfl ?_
                refine wpK_ins (sem_load rfl (H.at 2 rfl) (fun _ => by first | exact partOf_sl rfl | rfl | exact partOf_all (DV.len _))) rfl rfl ?_
                refine wpK_ins (rfl) rfl rfl ?_
                refine wpK_ins (sem_load rfl (H.at 1 rfl) (fun _ => by first | exact partOf_sl rfl | rfl | exact partOf_all (DV.len _))) rfl rfl ?_
                exact wpK_nil
              · refine wp_call rfl (cmpS_ok C H) ?_
                rintro _ h ⟨rfl, H⟩
                refine wpOps_nil ?_
                refine wpC_phase rfl ?_
                refine wp_bslice (fun k => rfl) H fun q5 h H => ?_
                refine wpOps_nil ⟨?_, ?_⟩
                · refine wpK_bslice (fun k => rfl) rfl (H.at 0 rfl) ?_
                  exact wpK_nil
                · refine wp_call rfl (or_ok C (len2 _ _) H List.mem_cons_self) ?_
                  rintro _ h ⟨rfl, H⟩
                  refine wpOps_nil ?_
                  refine wpC_last rfl ?_
                  refine wpOps_ins rfl ?_
                  refine wpOps_nil ⟨?_, ?_⟩
                  · refine wpK_ins (rfl) rfl rfl ?_
                    exact wpK_nil
                  · refine wpC_seq (wpC_reg ?_)
                    refine wpOps_ins rfl ?_
                    refine wp_bool rfl (fun hb6 => ?_) (fun hb6 => ?_)
                    · have h2 := neI_ne hb6
                      refine wpOps_nil ?_
                      refine wpC_condT rfl ?_
                      refine wpC_seq (wpC_reg ?_)
                      refine wpOps_ins rfl ?_
                      refine wpOps_ins rfl ?_
                      refine wpOps_nil ?_
                      refine wpC_ret ?_
                      refine ⟨trivial, _, rfl, ?_⟩
                      exact ⟨congrArg (AV.int .i64) (by rw [orL2] at h1 h2; rw [orL2, DV.cmp_eq, ← orI_assoc, h1, orI_left, ← orI_assoc, orI_ne h2]), H.tail.tail.tail.tail⟩
                    · have h2 := neI_is hb6
                      refine wpOps_nil ?_
                      refine wpC_condF rfl ?_
                      refine wpC_skip ?_
                      refine wpC_seq ?_
                      refine wpC_seq (wpC_reg ?_)
                      refine wpOps_ins rfl ?_
                      refine wpOps_ins (sem_load rfl (H.at 3 rfl) (fun _ => by first | exact partOf_sl rfl | rfl | exact partOf_all (DV.len _))) ?_
                      refine wpOps_ins rfl ?_
                      refine wpOps_ins (sem_load rfl (H.at 2 rfl) (fun _ => by first | exact partOf_sl rfl | rfl | exact partOf_all (DV.len _))) ?_
                      refine wp_call rfl (hl (DV.ok_mem hok.2.2.2.1) hok.2.1 (DV.ok_mem hok'.2.2.2.1) hok'.2.1 H) ?_
                      rintro _ h ⟨rfl, H⟩
                      refine wpOps_ins rfl ?_
                      refine wpOps_nil ?_
                      refine wpC_seq (wpC_reg ?_)
                      refine wpOps_ins rfl ?_
                      refine wp_bool rfl (fun hb7 => ?_) (fun hb7 => ?_)
                      · have h3 := neI_ne hb7
                        refine wpOps_nil ?_
                        refine wpC_condT rfl ?_
                        refine wpC_seq (wpC_reg ?_)
                        refine wpOps_ins rfl ?_
                        refine wpOps_ins rfl ?_
                        refine wpOps_nil ?_
                        refine wpC_ret ?_
                        refine ⟨trivial, _, rfl, ?_⟩
                        exact ⟨congrArg (AV.int .i64) (by rw [orL2] at h1 h2; rw [DV.cmp_eq, ← orI_assoc, h1, orI_left, ← orI_assoc, h2, orI_left, orI_ne h3]), H.tail.tail.tail.tail⟩
                      · have h3 := neI_is hb7
                        refine wpOps_nil ?_
                        refine wpC_condF rfl ?_
                        refine wpC_skip ?_
                        refine wpC_seq (wpC_reg ?_)
                        refine wpOps_ins rfl ?_
                        refine wpOps_ins (sem_load rfl (H.at 3 rfl) (fun _ => by first | exact partOf_sl rfl | rfl | exact partOf_all (DV.len _))) ?_
                        refine wpOps_ins rfl ?_
                        refine wpOps_ins (sem_load rfl (H.at 2 rfl) (fun _ => by first | exact partOf_sl rfl | rfl | exact partOf_all (DV.len _))) ?_
                        refine wp_call rfl (hm (DV.ok_mem hok.2.2.2.2) hok.2.2.1 (DV.ok_mem hok'.2.2.2.2) hok'.2.2.1 H) ?_
                        rintro _ h ⟨rfl, H⟩
                        refine wpOps_ins rfl ?_
                        refine wpOps_nil ?_
                        refine wpC_ret ?_
                        refine ⟨trivial, _, rfl, ?_⟩
                        exact ⟨congrArg (AV.int .i64) (by rw [orL2] at h1 h2; rw [DV.cmp_eq, ← orI_assoc, h1, orI_left, ← orI_assoc, h2, orI_left, h3, orI_left]), H.tail.tail.tail.tail⟩
mutual
theorem vCompare_ok (C : Code E) : ∀ t : DV, CmpOK E n_vCompare t
  | .mk _ _ _ _ _ _ _ _ _ l _ _ m => vCompare_of C (lists_of C (vCompare_all C l)) (lists_of C (vCompare_all C m))
theorem vCompare_all (C : Code E) : ∀ l : List DV, ∀ t ∈ l, CmpOK E n_vCompare t
  | [], t, h => by simp at h
  | x :: l, t, h => (List.mem_cons.1 h).elim (fun e => e ▸ vCompare_ok C x) (fun h => vCompare_all C l t h)
end
theorem rvCompare_of (C : Code E) {k n : Int} {neg dn df : Bool} {d : List Int} {s : List Nat} {ln lf : Bool} {l : List DV} {mn mf : Bool} {m : List DV} (hl : RLsOK E l) (hm : RLsOK E m) : CmpOK E n_rvCompare (.mk k n neg dn df d s ln lf l mn mf m) := by
  rintro ⟨k', n', neg', dn', df', d', s', ln', lf', l', mn', mf', m'⟩ hok hok' h L H
  refine CallT.body C.rvCompare ?_
  unfold BodyT c_rvCompare
  refine wpC_seq (wpC_reg ?_)
  refine wp_box rfl rfl H fun q1 h H => ?_
  refine wp_box rfl rfl H fun q2 h H => ?_
  refine wpOps_ins rfl ?_
  refine wpOps_nil ?_
  refine wpC_seq ?_
  refine wpC_seq (wpC_reg ?_)
  refine wpOps_ins rfl ?_
  refine wpOps_ins (sem_load rfl (H.at 1 rfl) (fun _ => by first | exact partOf_sl rfl | rfl | exact partOf_all (DV.len _))) ?_
  refine wpOps_ins rfl ?_
  refine wpOps_ins (sem_load rfl (H.at 0 rfl) (fun _ => by first | exact partOf_sl rfl | rfl | exact partOf_all (DV.len _))) ?_
  refine wp_bool rfl (fun hb3 => ?_) (fun hb3 => ?_)
  · have h1 := neI_ne hb3
    refine wpOps_nil ?_
    refine wpC_condT rfl ?_
    refine wpC_seq (wpC_reg ?_)
    refine wpOps_ins rfl ?_
    refine wpOps_ins (sem_load rfl (H.at 1 rfl) (fun _ => by first | exact partOf_sl rfl | rfl | exact partOf_all (DV.len _))) ?_
    refine wpOps_ins rfl ?_
    refine wpOps_ins (sem_load rfl (H.at 0 rfl) (fun _ => by first | exact partOf_sl rfl | rfl | exact partOf_all (DV.len _))) ?_
    refine wp_call rfl (rcmp_ok C H) ?_
    rintro _ h ⟨rfl, H⟩
    refine wpOps_ins rfl ?_
    refine wpOps_nil ?_
    refine wpC_ret ?_
    refine ⟨trivial, _, rfl, ?_⟩
    exact ⟨congrArg (AV.int .i64) (by rw [DV.cmp_eq, orI_ne (cmpI_ne h1)]), H.tail.tail⟩
  · have h1 := neI_is hb3
    refine wpOps_nil ?_
    refine wpC_condF rfl ?_
    refine wpC_skip ?_
    refine wpC_seq ?_
    refine wpC_seq (wpC_reg ?_)
    refine wpOps_ins rfl ?_
    refine wpOps_ins (sem_load rfl (H.at 1 rfl) (fun _ => by first | exact partOf_sl rfl | rfl | exact partOf_all (DV.len _))) ?_
    refine wpOps_ins rfl ?_
    refine wpOps_ins (sem_load rfl (H.at 0 rfl) (fun _ => by first | exact partOf_sl rfl | rfl | exact partOf_all (DV.len _))) ?_
    refine wp_bool rfl (fun hb4 => ?_) (fun hb4 => ?_)
    · have h2 := neI_ne hb4
      refine wpOps_nil ?_
      refine wpC_condT rfl ?_
      refine wpC_seq (wpC_reg ?_)
      refine wpOps_ins rfl ?_
      refine wpOps_ins (sem_load rfl (H.at 1 rfl) (fun _ => by first | exact partOf_sl rfl | rfl | exact partOf_all (DV.len _))) ?_
      refine wpOps_ins rfl ?_
      refine wpOps_ins (sem_load rfl (H.at 0 rfl) (fun _ => by first | exact partOf_sl rfl | rfl | exact partOf_all (DV.len _))) ?_
      refine wp_call rfl (rcmp_ok C H) ?_
      rintro _ h ⟨rfl, H⟩
      refine wpOps_ins rfl ?_
      refine wpOps_nil ?_
      refine wpC_ret ?_
      refine ⟨trivial, _, rfl, ?_⟩
      exact ⟨congrArg (AV.int .i64) (by rw [DV.cmp_eq, cmpI_eq.2 h1, orI_left, orI_ne (cmpI_ne h2)]), H.tail.tail⟩
    · have h2 := neI_is hb4
      refine wpOps_nil ?_
      refine wpC_condF rfl ?_
      refine wpC_skip ?_
      refine wpC_seq (wpC_reg ?_)
      refine wpOps_ins rfl ?_
      refine wpOps_ins (sem_load rfl (H.at 1 rfl) (fun _ => by first | exact partOf_sl rfl | rfl | exact partOf_all (DV.len _))) ?_
      refine wpOps_ins rfl ?_
      refine wpOps_ins (sem_load rfl (H.at 0 rfl) (fun _ => by first | exact partOf_sl rfl | rfl | exact partOf_all (DV.len _))) ?_
      refine wp_call rfl (rInt_ok C hok.1 hok'.1 H) ?_
      rintro _ h ⟨rfl, H⟩
      refine wpOps_ins rfl ?_
      refine wpOps_nil ?_
      refine wpC_seq ?_
      refine wpC_seq (wpC_reg ?_)
      refine wpOps_ins rfl ?_
      refine wp_bool rfl (fun hb5 => ?_) (fun hb5 => ?_)
      · have h3 := eqI_is hb5
        refine wpOps_nil ?_
        refine wpC_condT rfl ?_
        refine wpC_reg ?_
        refine wpOps_ins rfl ?_
        refine wpOps_ins (sem_load rfl (H.at 1 rfl) (fun _ => by first | exact partOf_sl rfl | rfl | exact partOf_all (DV.len _))) ?_
        refine wpOps_ins rfl ?_
        refine wpOps_ins (sem_load rfl (H.at 0 rfl) (fun _ => by first | exact partOf_sl rfl | rfl | exact partOf_all (DV.len _))) ?_
        refine wp_call rfl (strCmp_ok C H) ?_
        rintro _ h ⟨rfl, H⟩
        refine wpOps_ins rfl ?_
        refine wpOps_nil ?_
        refine wpC_seq ?_
        refine wpC_seq (wpC_reg ?_)
        refine wpOps_ins rfl ?_
        refine wp_bool rfl (fun hb6 => ?_) (fun hb6 => ?_)
        · have h4 := eqI_is hb6
          refine wpOps_nil ?_
          refine wpC_condT rfl ?_
          refine wpC_reg ?_
          refine wpOps_ins rfl ?_
          refine wpOps_ins (sem_load rfl (H.at 1 rfl) (fun _ => by first | exact partOf_sl rfl | rfl | exact partOf_all (DV.len _))) ?_
          refine wpOps_ins rfl ?_
          refine wpOps_ins (sem_load rfl (H.at 0 rfl) (fun _ => by first | exact partOf_sl rfl | rfl | exact partOf_all (DV.len _))) ?_
          refine wp_call rfl (hl (DV.ok_mem hok.2.2.2.1) hok.2.1 (DV.ok_mem hok'.2.2.2.1) hok'.2.1 H) ?_
          rintro _ h ⟨rfl, H⟩
          refine wpOps_ins rfl ?_
          refine wpOps_nil ?_
          refine wpC_seq ?_
          refine wpC_seq (wpC_reg ?_)
          refine wpOps_ins rfl ?_
          refine wp_bool rfl (fun hb7 => ?_) (fun hb7 => ?_)
          · have h5 := eqI_is hb7
            refine wpOps_nil ?_
            refine wpC_condT rfl ?_
            refine wpC_reg ?_
            refine wpOps_ins rfl ?_
            refine wpOps_ins (sem_load rfl (H.at 1 rfl) (fun _ => by first | exact partOf_sl rfl | rfl | exact partOf_all (DV.len _))) ?_
            refine wpOps_ins rfl ?_
            refine wpOps_ins (sem_load rfl (H.at 0 rfl) (fun _ => by first | exact partOf_sl rfl | rfl | exact partOf_all (DV.len _))) ?_
            refine wp_call rfl (hm (DV.ok_mem hok.2.2.2.2) hok.2.2.1 (DV.ok_mem hok'.2.2.2.2) hok'.2.2.1 H) ?_
            rintro _ h ⟨rfl, H⟩
            refine wpOps_ins rfl ?_
            refine wpOps_nil ?_
            refine wpC_seq (wpC_reg ?_)
            refine wpOps_ins rfl ?_
            refine wpOps_ins rfl ?_
            refine wpOps_nil ?_
            refine wpC_ret ?_
            refine ⟨trivial, _, rfl, ?_⟩
            exact ⟨congrArg (AV.int .i64) (by rw [DV.cmp_eq, cmpI_eq.2 h1, cmpI_eq.2 h2, orI_left, orI_left, h3, orI_left, h4, orI_left, h5, orI_left]), H.tail.tail⟩
          · have h5 := eqI_ne hb7
            refine wpOps_nil ?_
            refine wpC_condF rfl ?_
            refine wpC_skip ?_
            refine wpC_seq (wpC_reg ?_)
            refine wpOps_ins rfl ?_
            refine wpOps_ins rfl ?_
            refine wpOps_nil ?_
            refine wpC_ret ?_
            refine ⟨trivial, _, rfl, ?_⟩
            exact ⟨congrArg (AV.int .i64) (by rw [DV.cmp_eq, cmpI_eq.2 h1, cmpI_eq.2 h2, orI_left, orI_left, h3, orI_left, h4, orI_left, orI_ne h5]), H.tail.tail⟩
        · have h4 := eqI_ne hb6
          refine wpOps_nil ?_
          refine wpC_condF rfl ?_
          refine wpC_skip ?_
          refine wpC_seq ?_
          refine wpC_seq (wpC_reg ?_)
          refine wpOps_ins rfl ?_
          refine wpOps_ins (sem_is (b := false) rfl hb6) ?_
          refine wpOps_nil ?_
          refine wpC_condF rfl ?_
          refine wpC_skip ?_
          refine wpC_seq (wpC_reg ?_)
          refine wpOps_ins rfl ?_
          refine wpOps_ins rfl ?_
          refine wpOps_nil ?_
          refine wpC_ret ?_
          refine ⟨trivial, _, rfl, ?_⟩
          exact ⟨congrArg (AV.int .i64) (by rw [DV.cmp_eq, cmpI_eq.2 h1, cmpI_eq.2 h2, orI_left, orI_left, h3, orI_left, orI_ne h4]), H.tail.tail⟩
      · have h3 := eqI_ne hb5
        refine wpOps_nil ?_
        refine wpC_condF rfl ?_
        refine wpC_skip ?_
        refine wpC_seq ?_
        refine wpC_seq (wpC_reg ?_)
        refine wpOps_ins rfl ?_
        refine wpOps_ins (sem_is (b := false) rfl hb5) ?_
        refine wpOps_nil ?_
        refine wpC_condF rfl ?_
        refine wpC_skip ?_
        refine wpC_seq ?_
        refine wpC_seq (wpC_reg ?_)
        refine wpOps_ins rfl ?_
        refine wpOps_ins (sem_is (b := false) rfl hb5) ?_
        refine wpOps_nil ?_
        refine wpC_condF rfl ?_
        refine wpC_skip ?_
        refine wpC_seq (wpC_reg ?_)
        refine wpOps_ins rfl ?_
        refine wpOps_ins rfl ?_
        refine wpOps_nil ?_
        refine wpC_ret ?_
        refine ⟨trivial, _, rfl, ?_⟩
        exact ⟨congrArg (AV.int .i64) (by rw [DV.cmp_eq, cmpI_eq.2 h1, cmpI_eq.2 h2, orI_left, orI_left, orI_ne h3]), H.tail.tail⟩
mutual
theorem rvCompare_ok (C : Code E) : ∀ t : DV, CmpOK E n_rvCompare t
  | .mk _ _ _ _ _ _ _ _ _ l _ _ m => rvCompare_of C (rLists_of C (rvCompare_all C l)) (rLists_of C (rvCompare_all C m))
theorem rvCompare_all (C : Code E) : ∀ l : List DV, ∀ t ∈ l, CmpOK E n_rvCompare t
  | [], t, h => by simp at h
  | x :: l, t, h => (List.mem_cons.1 h).elim (fun e => e ▸ rvCompare_ok C x) (fun h => rvCompare_all C l t h)
end
theorem rLists_ok (C : Code E) (l : List DV) : RLsOK E l := rLists_of C (rvCompare_all C l)
theorem cfV_loop (C : Code E) {l l' : List DV} (hok : ∀ t ∈ l, t.ok) (hok' : ∀ t ∈ l', t.ok) (hlen : l.length ≤ maxN) (hlen' : l'.length ≤ maxN) {nl fu nl' fu' : Bool} {L : List (Pos × AObj)} {Q : XExit → Tm → Heap → Prop} (hend : ∀ tm h, l.length ≤ l'.length → cmpSt l l' = (if l.length < l'.length then -1 else 0) → tm.get (.lo .d0 .d0) = some (slAV nl fu l.length (DV.cellsL l)) → tm.get (.lo .d0 .d1) = some (slAV nl' fu' l'.length (DV.cellsL l')) → Has h L → Q (.exit 0) tm h) (hret : ∀ tm h, tm.get (.lo .d0 .d6) = some (.int .i64 (cmpSt l l')) → Has h L → Q .ret tm h) :
    ∀ (k j : Nat), l.length - j = k → ∀ (tm : Tm) (h : Heap), Has h L → (cmpSt l l' = cmpSt (l.drop j) (l'.drop j)) → (j ≤ l'.length) → (j ≤ l.length) → tm.get (.lo .d0 .d0) = some (slAV nl fu l.length (DV.cellsL l)) → tm.get (.lo .d0 .d1) = some (slAV nl' fu' l'.length (DV.cellsL l')) → tm.get (.lo .d0 .d2) = some (.func n_vCompare [] []) → tm.get (.lo .d0 .d11) = some (slAV nl fu l.length (DV.cellsL l)) → tm.get (.lo .d0 .d12) = some (.int .i64 (.ofNat l.length)) → tm.get (.lo .d0 .d13) = some (.int .i64 (.ofNat j)) → LoopT E c_cfV_b0 Q tm h := by
  intro k
  induction k using Nat.strongRecOn with
  | ind k ih =>
    intro j hk tm h H hz hle hle2 e0 e1 e2 e11 e12 e13
    obtain ⟨tm, rfl⟩ := sets6 e0 e1 e2 e11 e12 e13
    refine LoopT.wp ?_
    unfold c_cfV_b0
    refine wpC_seq (wpC_reg ?_)
    refine wp_bool rfl (fun hb1 => ?_) (fun hb1 => ?_)
    · have hj := of_ltN hb1
      refine wpOps_nil ?_
      refine wpC_seq ?_
      refine wpC_condT rfl ?_
      refine wpC_skip ?_
      refine wpC_seq ?_
      refine wpC_block ?_
      refine wpC_seq (wpC_reg ?_)
      refine wpOps_ins rfl ?_
      refine wpOps_ins (sem_iaddrV rfl rfl hj) ?_
      refine wpOps_ins (sem_loadI rfl (DV.len _)) ?_
      refine wp_alloc H fun q2 h H => ?_
      refine wpOps_ins rfl ?_
      refine wp_store (k := 0) rfl rfl rfl (by first | rfl | exact len_of (DT.len _) | exact len_of (DE.len _) | exact len_of (DV.len _)) H rfl (fun k => by first | exact spliceK_len (by first | exact DT.len _ | exact DE.len _ | exact DV.len _) k | rfl) fun h H => ?_
      refine wpOps_nil ?_
      refine wpC_seq ?_
      refine wpC_seq (wpC_reg ?_)
      refine wpOps_ins rfl ?_
      refine wpOps_ins rfl ?_
      refine wpOps_ins (sem_len rfl) ?_
      refine wp_bool rfl (fun hb3 => ?_) (fun hb3 => ?_)
      · have hj2 := of_leN hb3
        refine wpOps_nil ?_
        refine wpC_condT rfl ?_
        refine wpC_seq (wpC_reg ?_)
        refine wpOps_ins rfl ?_
        refine wpOps_nil ?_
        refine wpC_ret ?_
        exact hret _ _ (by rw [hz, cmpSt_long hj hj2]; rfl) H.tail
      · have hj2 := of_gtN hb3
        refine wpOps_nil ?_
        refine wpC_condF rfl ?_
        refine wpC_skip ?_
        refine wpC_seq (wpC_reg ?_)
        refine wpOps_ins rfl ?_
        refine wpOps_ins rfl ?_
        refine wpOps_ins (sem_iaddrV rfl rfl hj2) ?_
        refine wpOps_ins (sem_loadI rfl (DV.len _)) ?_
        refine wp_alloc H fun q4 h H => ?_
        refine wp_store (k := 0) rfl rfl rfl (by first | rfl | exact len_of (DT.len _) | exact len_of (DE.len _) | exact len_of (DV.len _)) H rfl (fun k => by first | exact spliceK_len (by first | exact DT.len _ | exact DE.len _ | exact DV.len _) k | rfl) fun h H => ?_
        refine wpOps_nil ?_
        refine wpC_seq (wpC_reg ?_)
        refine wpOps_ins rfl ?_
        refine wpOps_ins (sem_load rfl (H.at 1 rfl) (fun _ => by first | exact partOf_sl rfl | rfl | exact partOf_all (DV.len _))) ?_
        refine wpOps_ins (sem_load rfl (H.at 0 rfl) (fun _ => by first | exact partOf_sl rfl | rfl | exact partOf_all (DV.len _))) ?_
        refine wp_callv rfl rfl (vCompare_ok C _ _ (hok _ (List.getElem_mem hj)) (hok' _ (List.getElem_mem hj2)) H) ?_
        rintro _ h ⟨rfl, H⟩
        refine wpOps_ins rfl ?_
        refine wpOps_nil ?_
        refine wpC_seq (wpC_reg ?_)
        refine wpOps_ins rfl ?_
        refine wp_bool rfl (fun hb5 => ?_) (fun hb5 => ?_)
        · have hn := neI_ne hb5
          refine wpOps_nil ?_
          refine wpC_condT rfl ?_
          refine wpC_seq (wpC_reg ?_)
          refine wpOps_ins rfl ?_
          refine wpOps_ins rfl ?_
          refine wpOps_nil ?_
          refine wpC_ret ?_
          exact hret _ _ (by rw [hz, cmpSt_drop hj hj2, orI_ne hn]; rfl) H.tail.tail
        · have hn := neI_is hb5
          refine wpOps_nil ?_
          refine wpC_condF rfl ?_
          refine wpC_skip ?_
          refine wpC_reg ?_
          refine wpOps_ins (sem_int rfl (w64_succ (by unfold maxN at hlen; omega))) ?_
          refine wpOps_ins rfl ?_
          refine wpOps_nil ?_
          exact ih (l.length - (j + 1)) (by omega) (j + 1) rfl _ _ H.tail.tail (by rw [hz, cmpSt_drop hj hj2, hn, orI_left]) (by omega) (by omega) rfl rfl rfl rfl rfl rfl 
    · have hj := of_geN hb1
      refine wpOps_nil ?_
      refine wpC_seq ?_
      refine wpC_condF rfl ?_
      refine wpC_exit ?_
      obtain rfl : j = l.length := by omega
      refine hend _ _ hle ?_ rfl rfl H
      rw [hz]
      split
      · exact cmpSt_short (Nat.le_refl _) (by assumption)
      · exact cmpSt_end (Nat.le_refl _) (by omega)
theorem cfV_ok (C : Code E) {l l' : List DV} (hok : ∀ t ∈ l, t.ok) (hok' : ∀ t ∈ l', t.ok) (hlen : l.length ≤ maxN) (hlen' : l'.length ≤ maxN) {nl fu nl' fu' : Bool} {h : Heap} {L : List (Pos × AObj)} (H : Has h L) : CallT E (.func n_cfV [] []) [slAV nl fu l.length (DV.cellsL l), slAV nl' fu' l'.length (DV.cellsL l'), .func n_vCompare [] []] h (Z L (.int .i64 (cmpSt l l'))) := by
  refine CallT.body C.cfV ?_
  unfold BodyT c_cfV
  refine wpC_seq (wpC_reg ?_)
  refine wpOps_ins rfl ?_
  refine wpOps_nil ?_
  refine wpC_seq ?_
  refine wpC_seq (wpC_reg ?_)
  refine wpOps_ins rfl ?_
  refine wpOps_ins (sem_len rfl) ?_
  refine wpOps_ins rfl ?_
  refine wpOps_nil ?_
  refine wpC_block ?_
  refine wpC_loop (cfV_loop C hok hok' hlen hlen' (fun tm h hlt hz e0 e1 H => ?_) (fun tm h e6 H => ?_) (l.length - 0) 0 rfl _ _ H rfl (Nat.zero_le _) (Nat.zero_le _) rfl rfl rfl rfl rfl rfl )
  · obtain ⟨tm, rfl⟩ := sets2 e0 e1
    refine wpC_seq ?_
    refine wpC_seq (wpC_reg ?_)
    refine wpOps_ins rfl ?_
    refine wpOps_ins (sem_len rfl) ?_
    refine wpOps_ins rfl ?_
    refine wpOps_ins (sem_len rfl) ?_
    refine wp_bool rfl (fun hb1 => ?_) (fun hb1 => ?_)
    · have hl2 := of_ltN hb1
      refine wpOps_nil ?_
      refine wpC_condT rfl ?_
      refine wpC_seq (wpC_reg ?_)
      refine wpOps_ins rfl ?_
      refine wpOps_nil ?_
      refine wpC_ret ?_
      refine ⟨trivial, _, rfl, ?_⟩
      exact ⟨congrArg (AV.int .i64) (by rw [hz, if_pos hl2]), H⟩
    · have hl2 := of_geN hb1
      refine wpOps_nil ?_
      refine wpC_condF rfl ?_
      refine wpC_skip ?_
      refine wpC_seq (wpC_reg ?_)
      refine wpOps_ins rfl ?_
      refine wpOps_nil ?_
      refine wpC_ret ?_
      refine ⟨trivial, _, rfl, ?_⟩
      exact ⟨congrArg (AV.int .i64) (by rw [hz, if_neg (by omega)]), H⟩
  · obtain ⟨tm, rfl⟩ := sets1 e6
    exact ⟨trivial, _, rfl, rfl, H⟩
theorem mStates_ok (C : Code E) {l l' : List DV} (hok : ∀ t ∈ l, t.ok) (hok' : ∀ t ∈ l', t.ok) (hlen : l.length ≤ maxN) (hlen' : l'.length ≤ maxN) {nl fu nl' fu' : Bool} {h : Heap} {L : List (Pos × AObj)} (H : Has h L) : CallT E (.func n_mStates [] []) [slAV nl fu l.length (DV.cellsL l), slAV nl' fu' l'.length (DV.cellsL l')] h (Z L (.int .i64 (cmpSt l l'))) := by
  refine CallT.body C.mStates ?_
  unfold BodyT c_mStates
  refine wpC_seq (wpC_reg ?_)
  refine wpOps_ins rfl ?_
  refine wpOps_nil ?_
  refine wpC_seq (wpC_reg ?_)
  refine wpOps_ins rfl ?_
  refine wpOps_ins rfl ?_
  refine wp_call rfl (cfV_ok C hok hok' hlen hlen' H) ?_
  rintro _ h ⟨rfl, H⟩
  refine wpOps_ins rfl ?_
  refine wpOps_nil ?_
  refine wpC_ret ?_
  refine ⟨trivial, _, rfl, ?_⟩
  exact ⟨congrArg (AV.int .i64) (rfl), H⟩
theorem rStates_loop (C : Code E) {l l' : List DV} (hok : ∀ t ∈ l, t.ok) (hok' : ∀ t ∈ l', t.ok) (hlen : l.length ≤ maxN) (hlen' : l'.length ≤ maxN) {nl fu nl' fu' : Bool} {L : List (Pos × AObj)} {Q : XExit → Tm → Heap → Prop} (hend : ∀ tm h, cmpSt l l' = (if l.length < l'.length then -1 else if l'.length < l.length then 1 else 0) → tm.get (.lo .d0 .d0) = some (slAV nl fu l.length (DV.cellsL l)) → tm.get (.lo .d0 .d1) = some (slAV nl' fu' l'.length (DV.cellsL l')) → Has h L → Q (.exit 0) tm h) (hret : ∀ tm h, tm.get (.lo .d0 .d4) = some (.int .i64 (cmpSt l l')) → Has h L → Q .ret tm h) :
    ∀ (k j : Nat), l.length - j = k → ∀ (tm : Tm) (h : Heap), Has h L → (cmpSt l l' = cmpSt (l.drop j) (l'.drop j)) → (j ≤ l'.length) → (j ≤ l.length) → tm.get (.lo .d0 .d0) = some (slAV nl fu l.length (DV.cellsL l)) → tm.get (.lo .d0 .d1) = some (slAV nl' fu' l'.length (DV.cellsL l')) → tm.get (.lo .d0 .d5) = some (.int .i64 (.ofNat j)) → LoopT E c_rStates_b0 Q tm h := by
  intro k
  induction k using Nat.strongRecOn with
  | ind k ih =>
    intro j hk tm h H hz hle hle2 e0 e1 e5
    obtain ⟨tm, rfl⟩ := sets3 e0 e1 e5
    refine LoopT.wp ?_
    unfold c_rStates_b0
    refine wpC_seq ?_
    refine wpC_seq (wpC_reg ?_)
    refine wpOps_ins rfl ?_
    refine wpOps_ins rfl ?_
    refine wpOps_ins (sem_len rfl) ?_
    refine wp_bool rfl (fun hb1 => ?_) (fun hb1 => ?_)
    · have hj := of_ltN hb1
      refine wpOps_ins rfl ?_
      refine wpOps_on rfl ?_
      refine wpOps_ins rfl ?_
      refine wpOps_on rfl ?_
      refine wpOps_ins rfl ?_
      refine wpOps_on rfl ?_
      refine wpOps_ins (sem_len rfl) ?_
      refine wpOps_on rfl ?_
      refine wp_bool rfl (fun hb2 => ?_) (fun hb2 => ?_)
      · have hj2 := of_ltN hb2
        refine wpOps_ins rfl ?_
        refine wpOps_nil ?_
        refine wpC_condT rfl ?_
        refine wpC_skip ?_
        refine wpC_seq ?_
        refine wpC_block ?_
        refine wpC_seq ?_
        refine wpC_phase rfl ?_
        refine wpOps_ins rfl ?_
        refine wpOps_ins rfl ?_
        refine wpOps_ins (sem_iaddrV rfl rfl hj) ?_
        refine wpOps_ins (sem_loadI rfl (DV.len _)) ?_
        refine wpOps_ins rfl ?_
        refine wpOps_ins rfl ?_
        refine wpOps_ins (sem_iaddrV rfl rfl hj2) ?_
        refine wpOps_ins (sem_loadI rfl (DV.len _)) ?_
        refine wpOps_nil ⟨?_, ?_⟩
        · refine wpK_ins (rfl) rfl rfl ?_
          refine wpK_ins (rfl) rfl rfl ?_
          refine wpK_ins (sem_iaddrV rfl rfl hj) rfl rfl ?_
          refine wpK_ins (sem_loadI rfl (DV.len _)) rfl rfl ?_
          refine wpK_ins (rfl) rfl rfl ?_
          refine wpK_ins (rfl) rfl rfl ?_
          refine wpK_ins (sem_iaddrV rfl rfl hj2) rfl rfl ?_
          refine wpK_ins (sem_loadI rfl (DV.len _)) rfl rfl ?_
          exact wpK_nil
        · refine wp_call rfl (rvCompare_ok C _ _ (hok _ (List.getElem_mem hj)) (hok' _ (List.getElem_mem hj2)) H) ?_
          rintro _ h ⟨rfl, H⟩
          refine wpOps_nil ?_
          refine wpC_last rfl ?_
          refine wpOps_ins rfl ?_
          refine wpOps_nil ⟨?_, ?_⟩
          · refine wpK_ins (rfl) rfl rfl ?_
            exact wpK_nil
          · refine wpC_seq (wpC_reg ?_)
            refine wpOps_ins rfl ?_
            refine wp_bool rfl (fun hb3 => ?_) (fun hb3 => ?_)
            · have hn := neI_ne hb3
              refine wpOps_nil ?_
              refine wpC_condT rfl ?_
              refine wpC_seq (wpC_reg ?_)
              refine wpOps_ins rfl ?_
              refine wpOps_ins rfl ?_
              refine wpOps_nil ?_
              refine wpC_ret ?_
              exact hret _ _ (by rw [hz, cmpSt_drop hj hj2, orI_ne hn]; rfl) H
            · have hn := neI_is hb3
              refine wpOps_nil ?_
              refine wpC_condF rfl ?_
              refine wpC_skip ?_
              refine wpC_reg ?_
              refine wpOps_ins rfl ?_
              refine wpOps_ins (sem_int rfl (w64_succ (by unfold maxN at hlen; omega))) ?_
              refine wpOps_ins rfl ?_
              refine wpOps_nil ?_
              exact ih (l.length - (j + 1)) (by omega) (j + 1) rfl _ _ H (by rw [hz, cmpSt_drop hj hj2, hn, orI_left]) (by omega) (by omega) rfl rfl rfl 
      · have hj2 := of_geN hb2
        refine wpOps_ins rfl ?_
        refine wpOps_nil ?_
        refine wpC_condF rfl ?_
        refine wpC_exit ?_
        refine hend _ _ ?_ rfl rfl H
        rw [hz]
        split
        · exact cmpSt_short (by omega) (by omega)
        · split
          · exact cmpSt_long (by omega) (by omega)
          · exact cmpSt_end (by omega) (by omega)
    · have hj := of_geN hb1
      refine wpOps_ins rfl ?_
      refine wpOps_off rfl ?_
      refine wpOps_off rfl ?_
      refine wpOps_off rfl ?_
      refine wpOps_off rfl ?_
      refine wpOps_ins rfl ?_
      refine wpOps_nil ?_
      refine wpC_condF rfl ?_
      refine wpC_exit ?_
      refine hend _ _ ?_ rfl rfl H
      rw [hz]
      split
      · exact cmpSt_short (by omega) (by omega)
      · split
        · exact cmpSt_long (by omega) (by omega)
        · exact cmpSt_end (by omega) (by omega)
theorem rStates_ok (C : Code E) {l l' : List DV} (hok : ∀ t ∈ l, t.ok) (hok' : ∀ t ∈ l', t.ok) (hlen : l.length ≤ maxN) (hlen' : l'.length ≤ maxN) {nl fu nl' fu' : Bool} {h : Heap} {L : List (Pos × AObj)} (H : Has h L) : CallT E (.func n_rStates [] []) [slAV nl fu l.length (DV.cellsL l), slAV nl' fu' l'.length (DV.cellsL l')] h (Z L (.int .i64 (cmpSt l l'))) := by
  refine CallT.body C.rStates ?_
  unfold BodyT c_rStates
  refine wpC_seq (wpC_reg ?_)
  refine wpOps_ins rfl ?_
  refine wpOps_nil ?_
  refine wpC_seq ?_
  refine wpC_seq (wpC_reg ?_)
  refine wpOps_ins rfl ?_
  refine wpOps_nil ?_
  refine wpC_block ?_
  refine wpC_loop (rStates_loop C hok hok' hlen hlen' (fun tm h hz e0 e1 H => ?_) (fun tm h e6 H => ?_) (l.length - 0) 0 rfl _ _ H rfl (Nat.zero_le _) (Nat.zero_le _) rfl rfl rfl)
  · obtain ⟨tm, rfl⟩ := sets2 e0 e1
    refine wpC_seq ?_
    refine wpC_seq (wpC_reg ?_)
    refine wpOps_ins rfl ?_
    refine wpOps_ins (sem_len rfl) ?_
    refine wpOps_ins rfl ?_
    refine wpOps_ins (sem_len rfl) ?_
    refine wp_bool rfl (fun hb1 => ?_) (fun hb1 => ?_)
    · have hl2 := of_ltN hb1
      refine wpOps_nil ?_
      refine wpC_condT rfl ?_
      refine wpC_seq (wpC_reg ?_)
      refine wpOps_ins rfl ?_
      refine wpOps_nil ?_
      refine wpC_ret ?_
      refine ⟨trivial, _, rfl, ?_⟩
      exact ⟨congrArg (AV.int .i64) (by rw [hz, if_pos hl2]), H⟩
    · have hl2 := of_geN hb1
      refine wpOps_nil ?_
      refine wpC_condF rfl ?_
      refine wpC_skip ?_
      refine wpC_seq ?_
      refine wpC_seq (wpC_reg ?_)
      refine wpOps_ins rfl ?_
      refine wpOps_ins (sem_len rfl) ?_
      refine wpOps_ins rfl ?_
      refine wpOps_ins (sem_len rfl) ?_
      refine wp_bool rfl (fun hb2 => ?_) (fun hb2 => ?_)
      · have hl3 := of_ltN hb2
        refine wpOps_nil ?_
        refine wpC_condT rfl ?_
        refine wpC_seq (wpC_reg ?_)
        refine wpOps_ins rfl ?_
        refine wpOps_nil ?_
        refine wpC_ret ?_
        refine ⟨trivial, _, rfl, ?_⟩
        exact ⟨congrArg (AV.int .i64) (by rw [hz, if_neg (by omega), if_pos hl3]), H⟩
      · have hl3 := of_geN hb2
        refine wpOps_nil ?_
        refine wpC_condF rfl ?_
        refine wpC_skip ?_
        refine wpC_seq (wpC_reg ?_)
        refine wpOps_ins rfl ?_
        refine wpOps_nil ?_
        refine wpC_ret ?_
        refine ⟨trivial, _, rfl, ?_⟩
        exact ⟨congrArg (AV.int .i64) (by rw [hz, if_neg (by omega), if_neg (by omega)]), H⟩
  · obtain ⟨tm, rfl⟩ := sets1 e6
    exact ⟨trivial, _, rfl, rfl, H⟩
theorem vSame_ok (C : Code E) {t u : DV} (hok : t.ok) (hok' : u.ok) {h : Heap} {L : List (Pos × AObj)} (H : Has h L) : CallT E (.func n_vSame [] []) [.agg t.cells, .agg u.cells] h (Z L (.bool (t.cmp u == 0))) := by
  refine CallT.body C.vSame ?_
  unfold BodyT c_vSame
  refine wpC_seq (wpC_reg ?_)
  refine wp_box rfl rfl H fun q1 h H => ?_
  refine wp_box rfl rfl H fun q2 h H => ?_
  refine wpOps_ins rfl ?_
  refine wpOps_nil ?_
  refine wpC_seq (wpC_reg ?_)
  refine wpOps_ins (sem_load rfl (H.at 1 rfl) (fun _ => by first | exact partOf_sl rfl | rfl | exact partOf_all (DV.len _))) ?_
  refine wpOps_ins (sem_load rfl (H.at 0 rfl) (fun _ => by first | exact partOf_sl rfl | rfl | exact partOf_all (DV.len _))) ?_
  refine wp_call rfl (vCompare_ok C _ _ hok hok' H) ?_
  rintro _ h ⟨rfl, H⟩
  refine wpOps_ins (sem_is rfl (eqI_beq _ _)) ?_
  refine wpOps_ins rfl ?_
  refine wpOps_nil ?_
  refine wpC_ret ?_
  refine ⟨trivial, _, rfl, ?_⟩
  exact ⟨congrArg (AV.bool) (rfl), H.tail.tail⟩
theorem efV_loop (C : Code E) {l l' : List DV} (hok : ∀ t ∈ l, t.ok) (hok' : ∀ t ∈ l', t.ok) (hlen : l.length ≤ maxN) (hlen' : l'.length ≤ maxN) {nl fu nl' fu' : Bool} (he : l.length = l'.length) {L : List (Pos × AObj)} {Q : XExit → Tm → Heap → Prop} (hend : ∀ tm h, DV.cmpX l l' = 0 → Has h L → Q (.exit 0) tm h) (hret : ∀ tm h, DV.cmpX l l' ≠ 0 → tm.get (.lo .d0 .d6) = some (.bool false) → Has h L → Q .ret tm h) :
    ∀ (k j : Nat), l.length - j = k → ∀ (tm : Tm) (h : Heap), Has h L → (DV.cmpX l l' = DV.cmpX (l.drop j) (l'.drop j)) → tm.get (.lo .d0 .d1) = some (slAV nl' fu' l'.length (DV.cellsL l')) → tm.get (.lo .d0 .d2) = some (.func n_vSame [] []) → tm.get (.lo .d0 .d15) = some (slAV nl fu l.length (DV.cellsL l)) → tm.get (.lo .d1 .d0) = some (.int .i64 (.ofNat l.length)) → tm.get (.lo .d1 .d1) = some (.int .i64 (.ofNat j)) → LoopT E c_efV_b0 Q tm h := by
  intro k
  induction k using Nat.strongRecOn with
  | ind k ih =>
    intro j hk tm h H hz e1 e2 e15 e16 e17
    obtain ⟨tm, rfl⟩ := sets5 e1 e2 e15 e16 e17
    refine LoopT.wp ?_
    unfold c_efV_b0
    refine wpC_seq (wpC_reg ?_)
    refine wp_bool rfl (fun hb1 => ?_) (fun hb1 => ?_)
    · have hj := of_ltN hb1
      have hj2 : j < l'.length := by omega
      refine wpOps_nil ?_
      refine wpC_seq ?_
      refine wpC_condT rfl ?_
      refine wpC_skip ?_
      refine wpC_seq ?_
      refine wpC_block ?_
      refine wpC_seq (wpC_reg ?_)
      refine wpOps_ins rfl ?_
      refine wpOps_ins (sem_iaddrV rfl rfl hj) ?_
      refine wpOps_ins (sem_loadI rfl (DV.len _)) ?_
      refine wp_alloc H fun q2 h H => ?_
      refine wpOps_ins rfl ?_
      refine wp_store (k := 0) rfl rfl rfl (by first | rfl | exact len_of (DT.len _) | exact len_of (DE.len _) | exact len_of (DV.len _)) H rfl (fun k => by first | exact spliceK_len (by first | exact DT.len _ | exact DE.len _ | exact DV.len _) k | rfl) fun h H => ?_
      refine wpOps_nil ?_
      refine wpC_seq (wpC_reg ?_)
      refine wpOps_ins rfl ?_
      refine wpOps_ins rfl ?_
      refine wpOps_ins (sem_iaddrV rfl rfl hj2) ?_
      refine wpOps_ins (sem_loadI rfl (DV.len _)) ?_
      refine wp_alloc H fun q3 h H => ?_
      refine wp_store (k := 0) rfl rfl rfl (by first | rfl | exact len_of (DT.len _) | exact len_of (DE.len _) | exact len_of (DV.len _)) H rfl (fun k => by first | exact spliceK_len (by first | exact DT.len _ | exact DE.len _ | exact DV.len _) k | rfl) fun h H => ?_
      refine wpOps_nil ?_
      refine wpC_seq (wpC_reg ?_)
      refine wpOps_ins rfl ?_
      refine wpOps_ins (sem_load rfl (H.at 1 rfl) (fun _ => by first | exact partOf_sl rfl | rfl | exact partOf_all (DV.len _))) ?_
      refine wpOps_ins (sem_load rfl (H.at 0 rfl) (fun _ => by first | exact partOf_sl rfl | rfl | exact partOf_all (DV.len _))) ?_
      refine wp_callv rfl rfl (vSame_ok C (hok _ (List.getElem_mem hj)) (hok' _ (List.getElem_mem hj2)) H) ?_
      rintro _ h ⟨rfl, H⟩
      cases hbd : (l[j].cmp l'[j] == 0)
      · refine wpOps_ins rfl ?_
        refine wpOps_nil ?_
        refine wpC_condT rfl ?_
        refine wpC_seq (wpC_reg ?_)
        refine wpOps_ins rfl ?_
        refine wpOps_nil ?_
        refine wpC_ret ?_
        have hn : l[j].cmp l'[j] ≠ 0 := by simpa using hbd
        exact hret _ _ (by rw [hz, cmpX_drop hj hj2, orI_ne hn]; exact hn) rfl H.tail.tail
      · refine wpOps_ins rfl ?_
        refine wpOps_nil ?_
        refine wpC_condF rfl ?_
        refine wpC_skip ?_
        refine wpC_reg ?_
        refine wpOps_ins (sem_int rfl (w64_succ (by unfold maxN at hlen; omega))) ?_
        refine wpOps_ins rfl ?_
        refine wpOps_nil ?_
        have hn : l[j].cmp l'[j] = 0 := by simpa using hbd
        exact ih (l.length - (j + 1)) (by omega) (j + 1) rfl _ _ H.tail.tail (by rw [hz, cmpX_drop hj hj2, hn, orI_left]) rfl rfl rfl rfl rfl 
    · have hj := of_geN hb1
      refine wpOps_nil ?_
      refine wpC_seq ?_
      refine wpC_condF rfl ?_
      refine wpC_exit ?_
      exact hend _ _ (by rw [hz, List.drop_of_length_le hj, List.drop_of_length_le (by omega)]; rfl) H
theorem efV_ok (C : Code E) {l l' : List DV} (hok : ∀ t ∈ l, t.ok) (hok' : ∀ t ∈ l', t.ok) (hlen : l.length ≤ maxN) (hlen' : l'.length ≤ maxN) {nl fu nl' fu' : Bool} {h : Heap} {L : List (Pos × AObj)} (H : Has h L) : CallT E (.func n_efV [] []) [slAV nl fu l.length (DV.cellsL l), slAV nl' fu' l'.length (DV.cellsL l'), .func n_vSame [] []] h (Z L (.bool (cmpL l l' == 0))) := by
  refine CallT.body C.efV ?_
  unfold BodyT c_efV
  refine wpC_seq (wpC_reg ?_)
  refine wpOps_ins rfl ?_
  refine wpOps_nil ?_
  refine wpC_seq ?_
  refine wpC_seq (wpC_reg ?_)
  refine wpOps_ins rfl ?_
  refine wpOps_ins (sem_len rfl) ?_
  refine wpOps_ins rfl ?_
  refine wpOps_ins (sem_len rfl) ?_
  refine wp_bool rfl (fun hb1 => ?_) (fun hb1 => ?_)
  · have he := neI_nat hb1
    refine wpOps_nil ?_
    refine wpC_condT rfl ?_
    refine wpC_seq (wpC_reg ?_)
    refine wpOps_ins rfl ?_
    refine wpOps_nil ?_
    refine wpC_ret ?_
    refine ⟨trivial, _, rfl, ?_⟩
    exact ⟨congrArg (AV.bool) (by rw [cmpL_ne he]; exact (beq_eq_false_iff_ne.2 (cmpN_ne he)).symm), H⟩
  · have he := neI_natE hb1
    refine wpOps_nil ?_
    refine wpC_condF rfl ?_
    refine wpC_skip ?_
    refine wpC_seq ?_
    refine wpC_seq (wpC_reg ?_)
    refine wpOps_ins rfl ?_
    refine wpOps_ins (sem_len rfl) ?_
    refine wpOps_ins rfl ?_
    refine wpOps_nil ?_
    refine wpC_block ?_
    refine wpC_loop (efV_loop C hok hok' hlen hlen' he (fun tm h hz H => ?_) (fun tm h hz e6 H => ?_) (l.length - 0) 0 rfl _ _ H rfl rfl rfl rfl rfl rfl)
    · refine wpC_seq (wpC_reg ?_)
      refine wpOps_ins rfl ?_
      refine wpOps_nil ?_
      refine wpC_ret ?_
      refine ⟨trivial, _, rfl, ?_⟩
      exact ⟨congrArg (AV.bool) (by rw [cmpL_same he, hz]; rfl), H⟩
    · obtain ⟨tm, rfl⟩ := sets1 e6
      exact ⟨trivial, _, rfl, congrArg AV.bool (by rw [cmpL_same he]; exact (beq_eq_false_iff_ne.2 hz).symm), H⟩
theorem same1_ok (C : Code E) {l l' : List DV} (hok : ∀ t ∈ l, t.ok) (hok' : ∀ t ∈ l', t.ok) (hlen : l.length ≤ maxN) (hlen' : l'.length ≤ maxN) {nl fu nl' fu' : Bool} {h : Heap} {L : List (Pos × AObj)} (H : Has h L) : CallT E (.func n_same1 [] []) [slAV nl fu l.length (DV.cellsL l), slAV nl' fu' l'.length (DV.cellsL l')] h (Z L (.bool (cmpL l l' == 0))) := by
  refine CallT.body C.same1 ?_
  unfold BodyT c_same1
  refine wpC_seq (wpC_reg ?_)
  refine wpOps_ins rfl ?_
  refine wpOps_nil ?_
  refine wpC_seq (wpC_reg ?_)
  refine wpOps_ins rfl ?_
  refine wpOps_ins rfl ?_
  refine wp_call rfl (efV_ok C hok hok' hlen hlen' H) ?_
  rintro _ h ⟨rfl, H⟩
  refine wpOps_ins rfl ?_
  refine wpOps_nil ?_
  refine wpC_ret ?_
  refine ⟨trivial, _, rfl, ?_⟩
  exact ⟨congrArg (AV.bool) (rfl), H⟩
theorem sameAll_ok (C : Code E) {l l' : List DV} (hok : ∀ t ∈ l, t.ok) (hok' : ∀ t ∈ l', t.ok) (hlen : l.length ≤ maxN) (hlen' : l'.length ≤ maxN) {nl fu nl' fu' : Bool} {h : Heap} {L : List (Pos × AObj)} (H : Has h L) : CallT E (.func n_sameAll [] []) [slAV nl fu l.length (DV.cellsL l), slAV nl' fu' l'.length (DV.cellsL l')] h (Z L (.bool (cmpL l l' == 0))) := by
  refine CallT.body C.sameAll ?_
  unfold BodyT c_sameAll
  refine wpC_seq (wpC_reg ?_)
  refine wpOps_ins rfl ?_
  refine wpOps_nil ?_
  refine wpC_seq (wpC_reg ?_)
  refine wpOps_ins rfl ?_
  refine wpOps_ins rfl ?_
  refine wp_call rfl (rLists_ok C l hok hlen hok' hlen' H) ?_
  rintro _ h ⟨rfl, H⟩
  refine wpOps_ins (sem_is rfl (eqI_beq _ _)) ?_
  refine wpOps_ins rfl ?_
  refine wpOps_nil ?_
  refine wpC_ret ?_
  refine ⟨trivial, _, rfl, ?_⟩
  exact ⟨congrArg (AV.bool) (rfl), H⟩
theorem cfR_loop (C : Code E) {l l' : List DS} (hok : ∀ t ∈ l, t.ok) (hok' : ∀ t ∈ l', t.ok) (hlen : l.length ≤ maxN) (hlen' : l'.length ≤ maxN) {nl fu nl' fu' : Bool} {L : List (Pos × AObj)} {Q : XExit → Tm → Heap → Prop} (hend : ∀ tm h, l.length ≤ l'.length → cmpR l l' = (if l.length < l'.length then -1 else 0) → tm.get (.lo .d0 .d0) = some (slAV nl fu l.length (l.flatMap DS.cell)) → tm.get (.lo .d0 .d1) = some (slAV nl' fu' l'.length (l'.flatMap DS.cell)) → Has h L → Q (.exit 0) tm h) (hret : ∀ tm h, tm.get (.lo .d0 .d6) = some (.int .i64 (cmpR l l')) → Has h L → Q .ret tm h) :
    ∀ (k j : Nat), l.length - j = k → ∀ (tm : Tm) (h : Heap), Has h L → (cmpR l l' = cmpR (l.drop j) (l'.drop j)) → (j ≤ l'.length) → (j ≤ l.length) → tm.get (.lo .d0 .d0) = some (slAV nl fu l.length (l.flatMap DS.cell)) → tm.get (.lo .d0 .d1) = some (slAV nl' fu' l'.length (l'.flatMap DS.cell)) → tm.get (.lo .d0 .d2) = some (.func n_mStates [] []) → tm.get (.lo .d0 .d11) = some (slAV nl fu l.length (l.flatMap DS.cell)) → tm.get (.lo .d0 .d12) = some (.int .i64 (.ofNat l.length)) → tm.get (.lo .d0 .d13) = some (.int .i64 (.ofNat j)) → LoopT E c_cfR_b0 Q tm h := by
  intro k
  induction k using Nat.strongRecOn with
  | ind k ih =>
    intro j hk tm h H hz hle hle2 e0 e1 e2 e11 e12 e13
    obtain ⟨tm, rfl⟩ := sets6 e0 e1 e2 e11 e12 e13
    refine LoopT.wp ?_
    unfold c_cfR_b0
    refine wpC_seq (wpC_reg ?_)
    refine wp_bool rfl (fun hb1 => ?_) (fun hb1 => ?_)
    · have hj := of_ltN hb1
      refine wpOps_nil ?_
      refine wpC_seq ?_
      refine wpC_condT rfl ?_
      refine wpC_skip ?_
      refine wpC_seq ?_
      refine wpC_block ?_
      refine wpC_seq (wpC_reg ?_)
      refine wpOps_ins rfl ?_
      refine wpOps_ins (sem_iaddrF DS.len (by omega) rfl rfl rfl hj) ?_
      refine wpOps_ins (sem_loadSt rfl) ?_
      refine wpOps_ins rfl ?_
      refine wpOps_ins rfl ?_
      refine wpOps_nil ?_
      refine wpC_seq ?_
      refine wpC_seq (wpC_reg ?_)
      refine wpOps_ins rfl ?_
      refine wpOps_ins rfl ?_
      refine wpOps_ins (sem_len rfl) ?_
      refine wp_bool rfl (fun hb2 => ?_) (fun hb2 => ?_)
      · have hj2 := of_leN hb2
        refine wpOps_nil ?_
        refine wpC_condT rfl ?_
        refine wpC_seq (wpC_reg ?_)
        refine wpOps_ins rfl ?_
        refine wpOps_nil ?_
        refine wpC_ret ?_
        exact hret _ _ (by rw [hz, cmpR_long hj hj2]; rfl) H
      · have hj2 := of_gtN hb2
        refine wpOps_nil ?_
        refine wpC_condF rfl ?_
        refine wpC_skip ?_
        refine wpC_seq (wpC_reg ?_)
        refine wpOps_ins rfl ?_
        refine wpOps_ins rfl ?_
        refine wpOps_ins (sem_iaddrF DS.len (by omega) rfl rfl rfl hj2) ?_
        refine wpOps_ins (sem_loadSt rfl) ?_
        refine wpOps_ins rfl ?_
        refine wpOps_nil ?_
        refine wpC_seq (wpC_reg ?_)
        refine wpOps_ins rfl ?_
        refine wpOps_ins rfl ?_
        refine wpOps_ins rfl ?_
        refine wp_callv rfl rfl (mStates_ok C (DV.ok_mem (hok _ (List.getElem_mem hj)).1) (DV.ok_mem (hok' _ (List.getElem_mem hj2)).1) (hok _ (List.getElem_mem hj)).2 (hok' _ (List.getElem_mem hj2)).2 H) ?_
        rintro _ h ⟨rfl, H⟩
        refine wpOps_ins rfl ?_
        refine wpOps_nil ?_
        refine wpC_seq (wpC_reg ?_)
        refine wpOps_ins rfl ?_
        refine wp_bool rfl (fun hb3 => ?_) (fun hb3 => ?_)
        · have hn := neI_ne hb3
          refine wpOps_nil ?_
          refine wpC_condT rfl ?_
          refine wpC_seq (wpC_reg ?_)
          refine wpOps_ins rfl ?_
          refine wpOps_ins rfl ?_
          refine wpOps_nil ?_
          refine wpC_ret ?_
          exact hret _ _ (by rw [hz, cmpR_drop hj hj2, orI_ne hn]; rfl) H
        · have hn := neI_is hb3
          refine wpOps_nil ?_
          refine wpC_condF rfl ?_
          refine wpC_skip ?_
          refine wpC_reg ?_
          refine wpOps_ins (sem_int rfl (w64_succ (by unfold maxN at hlen; omega))) ?_
          refine wpOps_ins rfl ?_
          refine wpOps_nil ?_
          exact ih (l.length - (j + 1)) (by omega) (j + 1) rfl _ _ H (by rw [hz, cmpR_drop hj hj2, hn, orI_left]) (by omega) (by omega) rfl rfl rfl rfl rfl rfl 
    · have hj := of_geN hb1
      refine wpOps_nil ?_
      refine wpC_seq ?_
      refine wpC_condF rfl ?_
      refine wpC_exit ?_
      obtain rfl : j = l.length := by omega
      refine hend _ _ hle ?_ rfl rfl H
      rw [hz]
      split
      · exact cmpR_short (Nat.le_refl _) (by assumption)
      · exact cmpR_end (Nat.le_refl _) (by omega)
theorem cfR_ok (C : Code E) {l l' : List DS} (hok : ∀ t ∈ l, t.ok) (hok' : ∀ t ∈ l', t.ok) (hlen : l.length ≤ maxN) (hlen' : l'.length ≤ maxN) {nl fu nl' fu' : Bool} {h : Heap} {L : List (Pos × AObj)} (H : Has h L) : CallT E (.func n_cfR [] []) [slAV nl fu l.length (l.flatMap DS.cell), slAV nl' fu' l'.length (l'.flatMap DS.cell), .func n_mStates [] []] h (Z L (.int .i64 (cmpR l l'))) := by
  refine CallT.body C.cfR ?_
  unfold BodyT c_cfR
  refine wpC_seq (wpC_reg ?_)
  refine wpOps_ins rfl ?_
  refine wpOps_nil ?_
  refine wpC_seq ?_
  refine wpC_seq (wpC_reg ?_)
  refine wpOps_ins rfl ?_
  refine wpOps_ins (sem_len rfl) ?_
  refine wpOps_ins rfl ?_
  refine wpOps_nil ?_
  refine wpC_block ?_
  refine wpC_loop (cfR_loop C hok hok' hlen hlen' (fun tm h hlt hz e0 e1 H => ?_) (fun tm h e6 H => ?_) (l.length - 0) 0 rfl _ _ H rfl (Nat.zero_le _) (Nat.zero_le _) rfl rfl rfl rfl rfl rfl )
  · obtain ⟨tm, rfl⟩ := sets2 e0 e1
    refine wpC_seq ?_
    refine wpC_seq (wpC_reg ?_)
    refine wpOps_ins rfl ?_
    refine wpOps_ins (sem_len rfl) ?_
    refine wpOps_ins rfl ?_
    refine wpOps_ins (sem_len rfl) ?_
    refine wp_bool rfl (fun hb1 => ?_) (fun hb1 => ?_)
    · have hl2 := of_ltN hb1
      refine wpOps_nil ?_
      refine wpC_condT rfl ?_
      refine wpC_seq (wpC_reg ?_)
      refine wpOps_ins rfl ?_
      refine wpOps_nil ?_
      refine wpC_ret ?_
      refine ⟨trivial, _, rfl, ?_⟩
      exact ⟨congrArg (AV.int .i64) (by rw [hz, if_pos hl2]), H⟩
    · have hl2 := of_geN hb1
      refine wpOps_nil ?_
      refine wpC_condF rfl ?_
      refine wpC_skip ?_
      refine wpC_seq (wpC_reg ?_)
      refine wpOps_ins rfl ?_
      refine wpOps_nil ?_
      refine wpC_ret ?_
      refine ⟨trivial, _, rfl, ?_⟩
      exact ⟨congrArg (AV.int .i64) (by rw [hz, if_neg (by omega)]), H⟩
  · obtain ⟨tm, rfl⟩ := sets1 e6
    exact ⟨trivial, _, rfl, rfl, H⟩
theorem efR_loop (C : Code E) {l l' : List DS} (hok : ∀ t ∈ l, t.ok) (hok' : ∀ t ∈ l', t.ok) (hlen : l.length ≤ maxN) (hlen' : l'.length ≤ maxN) {nl fu nl' fu' : Bool} (he : l.length = l'.length) {L : List (Pos × AObj)} {Q : XExit → Tm → Heap → Prop} (hend : ∀ tm h, sameR l l' = true → Has h L → Q (.exit 0) tm h) (hret : ∀ tm h, sameR l l' = false → tm.get (.lo .d0 .d6) = some (.bool false) → Has h L → Q .ret tm h) :
    ∀ (k j : Nat), l.length - j = k → ∀ (tm : Tm) (h : Heap), Has h L → (sameR l l' = sameR (l.drop j) (l'.drop j)) → tm.get (.lo .d0 .d1) = some (slAV nl' fu' l'.length (l'.flatMap DS.cell)) → tm.get (.lo .d0 .d2) = some (.func n_same1 [] []) → tm.get (.lo .d0 .d15) = some (slAV nl fu l.length (l.flatMap DS.cell)) → tm.get (.lo .d1 .d0) = some (.int .i64 (.ofNat l.length)) → tm.get (.lo .d1 .d1) = some (.int .i64 (.ofNat j)) → LoopT E c_efR_b0 Q tm h := by
  intro k
  induction k using Nat.strongRecOn with
  | ind k ih =>
    intro j hk tm h H hz e1 e2 e15 e16 e17
    obtain ⟨tm, rfl⟩ := sets5 e1 e2 e15 e16 e17
    refine LoopT.wp ?_
    unfold c_efR_b0
    refine wpC_seq (wpC_reg ?_)
    refine wp_bool rfl (fun hb1 => ?_) (fun hb1 => ?_)
    · have hj := of_ltN hb1
      have hj2 : j < l'.length := by omega
      refine wpOps_nil ?_
      refine wpC_seq ?_
      refine wpC_condT rfl ?_
      refine wpC_skip ?_
      refine wpC_seq ?_
      refine wpC_block ?_
      refine wpC_seq (wpC_reg ?_)
      refine wpOps_ins rfl ?_
      refine wpOps_ins (sem_iaddrF DS.len (by omega) rfl rfl rfl hj) ?_
      refine wpOps_ins (sem_loadSt rfl) ?_
      refine wpOps_ins rfl ?_
      refine wpOps_ins rfl ?_
      refine wpOps_nil ?_
      refine wpC_seq (wpC_reg ?_)
      refine wpOps_ins rfl ?_
      refine wpOps_ins rfl ?_
      refine wpOps_ins (sem_iaddrF DS.len (by omega) rfl rfl rfl hj2) ?_
      refine wpOps_ins (sem_loadSt rfl) ?_
      refine wpOps_ins rfl ?_
      refine wpOps_nil ?_
      refine wpC_seq (wpC_reg ?_)
      refine wpOps_ins rfl ?_
      refine wpOps_ins rfl ?_
      refine wpOps_ins rfl ?_
      refine wp_callv rfl rfl (same1_ok C (DV.ok_mem (hok _ (List.getElem_mem hj)).1) (DV.ok_mem (hok' _ (List.getElem_mem hj2)).1) (hok _ (List.getElem_mem hj)).2 (hok' _ (List.getElem_mem hj2)).2 H) ?_
      rintro _ h ⟨rfl, H⟩
      cases hbd : (cmpL l[j].l l'[j].l == 0)
      · refine wpOps_ins rfl ?_
        refine wpOps_nil ?_
        refine wpC_condT rfl ?_
        refine wpC_seq (wpC_reg ?_)
        refine wpOps_ins rfl ?_
        refine wpOps_nil ?_
        refine wpC_ret ?_
        exact hret _ _ (by rw [hz, sameR_drop hj hj2, hbd, Bool.false_and]) rfl H
      · refine wpOps_ins rfl ?_
        refine wpOps_nil ?_
        refine wpC_condF rfl ?_
        refine wpC_skip ?_
        refine wpC_reg ?_
        refine wpOps_ins (sem_int rfl (w64_succ (by unfold maxN at hlen; omega))) ?_
        refine wpOps_ins rfl ?_
        refine wpOps_nil ?_
        exact ih (l.length - (j + 1)) (by omega) (j + 1) rfl _ _ H (by rw [hz, sameR_drop hj hj2, hbd, Bool.true_and]) rfl rfl rfl rfl rfl 
    · have hj := of_geN hb1
      refine wpOps_nil ?_
      refine wpC_seq ?_
      refine wpC_condF rfl ?_
      refine wpC_exit ?_
      exact hend _ _ (by rw [hz, List.drop_of_length_le hj, List.drop_of_length_le (by omega)]; rfl) H
theorem efR_ok (C : Code E) {l l' : List DS} (hok : ∀ t ∈ l, t.ok) (hok' : ∀ t ∈ l', t.ok) (hlen : l.length ≤ maxN) (hlen' : l'.length ≤ maxN) {nl fu nl' fu' : Bool} {h : Heap} {L : List (Pos × AObj)} (H : Has h L) : CallT E (.func n_efR [] []) [slAV nl fu l.length (l.flatMap DS.cell), slAV nl' fu' l'.length (l'.flatMap DS.cell), .func n_same1 [] []] h (Z L (.bool (sameR l l'))) := by
  refine CallT.body C.efR ?_
  unfold BodyT c_efR
  refine wpC_seq (wpC_reg ?_)
  refine wpOps_ins rfl ?_
  refine wpOps_nil ?_
  refine wpC_seq ?_
  refine wpC_seq (wpC_reg ?_)
  refine wpOps_ins rfl ?_
  refine wpOps_ins (sem_len rfl) ?_
  refine wpOps_ins rfl ?_
  refine wpOps_ins (sem_len rfl) ?_
  refine wp_bool rfl (fun hb1 => ?_) (fun hb1 => ?_)
  · have he := neI_nat hb1
    refine wpOps_nil ?_
    refine wpC_condT rfl ?_
    refine wpC_seq (wpC_reg ?_)
    refine wpOps_ins rfl ?_
    refine wpOps_nil ?_
    refine wpC_ret ?_
    refine ⟨trivial, _, rfl, ?_⟩
    exact ⟨congrArg (AV.bool) ((sameR_len he).symm), H⟩
  · have he := neI_natE hb1
    refine wpOps_nil ?_
    refine wpC_condF rfl ?_
    refine wpC_skip ?_
    refine wpC_seq ?_
    refine wpC_seq (wpC_reg ?_)
    refine wpOps_ins rfl ?_
    refine wpOps_ins (sem_len rfl) ?_
    refine wpOps_ins rfl ?_
    refine wpOps_nil ?_
    refine wpC_block ?_
    refine wpC_loop (efR_loop C hok hok' hlen hlen' he (fun tm h hz H => ?_) (fun tm h hz e6 H => ?_) (l.length - 0) 0 rfl _ _ H rfl rfl rfl rfl rfl rfl)
    · refine wpC_seq (wpC_reg ?_)
      refine wpOps_ins rfl ?_
      refine wpOps_nil ?_
      refine wpC_ret ?_
      refine ⟨trivial, _, rfl, ?_⟩
      exact ⟨congrArg (AV.bool) (hz.symm), H⟩
    · obtain ⟨tm, rfl⟩ := sets1 e6
      exact ⟨trivial, _, rfl, congrArg AV.bool hz.symm, H⟩
theorem csame_ok (C : Code E) {l l' : List DS} (hok : ∀ t ∈ l, t.ok) (hok' : ∀ t ∈ l', t.ok) (hlen : l.length ≤ maxN) (hlen' : l'.length ≤ maxN) {nl fu nl' fu' : Bool} {h : Heap} {L : List (Pos × AObj)} (H : Has h L) : CallT E (.func n_csame [] []) [slAV nl fu l.length (l.flatMap DS.cell), slAV nl' fu' l'.length (l'.flatMap DS.cell)] h (Z L (.bool (sameR l l'))) := by
  refine CallT.body C.csame ?_
  unfold BodyT c_csame
  refine wpC_seq (wpC_reg ?_)
  refine wpOps_ins rfl ?_
  refine wpOps_nil ?_
  refine wpC_seq (wpC_reg ?_)
  refine wpOps_ins rfl ?_
  refine wpOps_ins rfl ?_
  refine wp_call rfl (efR_ok C hok hok' hlen hlen' H) ?_
  rintro _ h ⟨rfl, H⟩
  refine wpOps_ins rfl ?_
  refine wpOps_nil ?_
  refine wpC_ret ?_
  refine ⟨trivial, _, rfl, ?_⟩
  exact ⟨congrArg (AV.bool) (rfl), H⟩
end
end Go.X
