/- The meter: what its methods come to. -/
import Derived.Test.YtjbkanbdnoepmaaGreatDoorCpCode
namespace Go.X
open Go
section
variable {E : XEnv}
def MQ (p : Pos) (L : List (Pos × AObj)) (left : Int) (used : Nat) : AV → Heap → Prop := fun r h => ∃ b l, r = .bool b ∧ Has h ((p, rowI tyMeter l) :: L) ∧ (b = true → 0 ≤ l ∧ l + used ≤ left)
def ValOK (E : XEnv) (t : DV) : Prop := t.ok → ∀ {deep left : Int} {p : Pos} {h : Heap} {L : List (Pos × AObj)}, 0 ≤ left → left ≤ 500 → 0 ≤ deep → deep ≤ 200 → Has h ((p, rowI tyMeter left) :: L) → CallT E (.func n_val [] []) [.ptr p 0, .agg t.cells, .int .i64 deep] h (MQ p L left 1)
def ValsOK (E : XEnv) (t : List DV) : Prop := (DV.okL t ∧ t.length ≤ maxN) → ∀ {nl fu : Bool} {deep left : Int} {p : Pos} {h : Heap} {L : List (Pos × AObj)}, 0 ≤ left → left ≤ 500 → 0 ≤ deep → deep ≤ 200 → Has h ((p, rowI tyMeter left) :: L) → CallT E (.func n_vals [] []) [.ptr p 0, slAV nl fu t.length (DV.cellsL t), .int .i64 deep] h (MQ p L left 0)
def ExprOK (E : XEnv) (t : DE) : Prop := t.ok → ∀ {deep left : Int} {p : Pos} {h : Heap} {L : List (Pos × AObj)}, 0 ≤ left → left ≤ 500 → 0 ≤ deep → deep ≤ 200 → Has h ((p, rowI tyMeter left) :: L) → CallT E (.func n_expr [] []) [.ptr p 0, .agg t.cells, .int .i64 deep] h (MQ p L left 1)
def ExprsOK (E : XEnv) (t : List DE) : Prop := (DE.okL t ∧ t.length ≤ maxN) → ∀ {nl fu : Bool} {deep left : Int} {p : Pos} {h : Heap} {L : List (Pos × AObj)}, 0 ≤ left → left ≤ 500 → 0 ≤ deep → deep ≤ 200 → Has h ((p, rowI tyMeter left) :: L) → CallT E (.func n_exprs [] []) [.ptr p 0, slAV nl fu t.length (DE.cellsL t), .int .i64 deep] h (MQ p L left 0)
def TempOK (E : XEnv) (t : DT) : Prop := t.ok → ∀ {deep left : Int} {p : Pos} {h : Heap} {L : List (Pos × AObj)}, 0 ≤ left → left ≤ 500 → 0 ≤ deep → deep ≤ 200 → Has h ((p, rowI tyMeter left) :: L) → CallT E (.func n_temp [] []) [.ptr p 0, .agg t.cells, .int .i64 deep] h (MQ p L left t.size)
theorem val_of (C : Code E) {k n : Int} {neg dn df : Bool} {d : List Int} {s : List Nat} {ln lf : Bool} {l : List DV} {mn mf : Bool} {m : List DV} (hl : ValsOK E l) (hm : ValsOK E m) : ValOK E (.mk k n neg dn df d s ln lf l mn mf m) := by
  intro hok deep left p h L h0 h1 h2 h3 H
  refine CallT.body C.val ?_
  unfold BodyT c_val
  refine wpC_seq ?_
  refine wpC_reg ?_
  refine wp_box rfl rfl H fun q1 h H => ?_
  refine wpOps_ins (rfl) ?_
  refine wpOps_nil ?_
  refine wpC_seq ?_
  refine wpC_seq ?_
  refine wpC_reg ?_
  refine wpOps_ins (rfl) ?_
  refine wpOps_ins (rfl) ?_
  refine wpOps_ins (rfl) ?_
  refine wpOps_ins (sem_load rfl (H.at 1 rfl) (fun _ => by first | exact partOf_sl rfl | rfl | exact DT.part_E | exact DT.part_S | exact DT.part_L | exact DE.part_V | exact DE.part_L | exact partOf_all (DT.len _) | exact partOf_all (DE.len _) | exact partOf_all (DV.len _))) ?_
  refine wpOps_ins (sem_int rfl (w64 (by omega) (by omega))) ?_
  refine wpOps_ins (rfl) ?_
  refine wpOps_ins (rfl) ?_
  refine wp_store (k := 1) rfl rfl rfl (by first | rfl | exact len_of (DT.len _) | exact len_of (DE.len _) | exact len_of (DV.len _)) H rfl (fun k => by first | exact spliceK_len (by first | exact DT.len _ | exact DE.len _ | exact DV.len _) k | rfl) fun h H => ?_
  refine wpOps_nil ?_
  refine wpC_seq ?_
  refine wpC_reg ?_
  refine wpOps_ins (rfl) ?_
  refine wpOps_ins (rfl) ?_
  refine wpOps_ins (rfl) ?_
  refine wpOps_ins (sem_load rfl (H.at 1 rfl) (fun _ => by first | exact partOf_sl rfl | rfl | exact DT.part_E | exact DT.part_S | exact DT.part_L | exact DE.part_V | exact DE.part_L | exact partOf_all (DT.len _) | exact partOf_all (DE.len _) | exact partOf_all (DV.len _))) ?_
  refine wp_bool rfl (fun hb2 => ?_) (fun hb2 => ?_)
  · replace hb2 := ltI_lt hb2
    refine wpOps_ins (rfl) ?_
    refine wpOps_off rfl ?_
    refine wpOps_off rfl ?_
    refine wpOps_ins (rfl) ?_
    refine wpOps_ins (rfl) ?_
    refine wpOps_off rfl ?_
    refine wpOps_off rfl ?_
    refine wpOps_off rfl ?_
    refine wpOps_off rfl ?_
    refine wpOps_ins (rfl) ?_
    refine wpOps_ins (rfl) ?_
    refine wpOps_off rfl ?_
    refine wpOps_off rfl ?_
    refine wpOps_off rfl ?_
    refine wpOps_off rfl ?_
    refine wpOps_off rfl ?_
    refine wpOps_ins (rfl) ?_
    refine wpOps_nil ?_
    refine wpC_condT rfl ?_
    refine wpC_seq ?_
    refine wpC_reg ?_
    refine wpOps_ins (rfl) ?_
    refine wpOps_nil ?_
    refine wpC_ret ?_
    refine ⟨trivial, _, rfl, ?_⟩
    exact ⟨false, _, rfl, (H.front 1 rfl).tail2, fun e => by simp at e⟩
  · replace hb2 := ltI_ge hb2
    refine wpOps_ins (rfl) ?_
    refine wpOps_on rfl ?_
    refine wpOps_ins (rfl) ?_
    refine wpOps_on rfl ?_
    refine wp_bool rfl (fun hb3 => ?_) (fun hb3 => ?_)
    · replace hb3 := ltI_lt hb3
      refine wpOps_ins (rfl) ?_
      refine wpOps_ins (rfl) ?_
      refine wpOps_off rfl ?_
      refine wpOps_off rfl ?_
      refine wpOps_off rfl ?_
      refine wpOps_off rfl ?_
      refine wpOps_ins (rfl) ?_
      refine wpOps_ins (rfl) ?_
      refine wpOps_off rfl ?_
      refine wpOps_off rfl ?_
      refine wpOps_off rfl ?_
      refine wpOps_off rfl ?_
      refine wpOps_off rfl ?_
      refine wpOps_ins (rfl) ?_
      refine wpOps_nil ?_
      refine wpC_condT rfl ?_
      refine wpC_seq ?_
      refine wpC_reg ?_
      refine wpOps_ins (rfl) ?_
      refine wpOps_nil ?_
      refine wpC_ret ?_
      refine ⟨trivial, _, rfl, ?_⟩
      exact ⟨false, _, rfl, (H.front 1 rfl).tail2, fun e => by simp at e⟩
    · replace hb3 := ltI_ge hb3
      refine wpOps_ins (rfl) ?_
      refine wpOps_ins (rfl) ?_
      refine wpOps_on rfl ?_
      refine wpOps_ins (rfl) ?_
      refine wpOps_on rfl ?_
      refine wpOps_ins (sem_load rfl (H.at 0 rfl) (fun _ => by first | exact partOf_sl rfl | rfl | exact DT.part_E | exact DT.part_S | exact DT.part_L | exact DE.part_V | exact DE.part_L | exact partOf_all (DT.len _) | exact partOf_all (DE.len _) | exact partOf_all (DV.len _))) ?_
      refine wpOps_on rfl ?_
      refine wpOps_ins (rfl) ?_
      refine wpOps_on rfl ?_
      refine wp_bool rfl (fun hb4 => ?_) (fun hb4 => ?_)
      · replace hb4 := ltI_lt hb4
        refine wpOps_ins (rfl) ?_
        refine wpOps_ins (rfl) ?_
        refine wpOps_off rfl ?_
        refine wpOps_off rfl ?_
        refine wpOps_off rfl ?_
        refine wpOps_off rfl ?_
        refine wpOps_off rfl ?_
        refine wpOps_ins (rfl) ?_
        refine wpOps_nil ?_
        refine wpC_condT rfl ?_
        refine wpC_seq ?_
        refine wpC_reg ?_
        refine wpOps_ins (rfl) ?_
        refine wpOps_nil ?_
        refine wpC_ret ?_
        refine ⟨trivial, _, rfl, ?_⟩
        exact ⟨false, _, rfl, (H.front 1 rfl).tail2, fun e => by simp at e⟩
      · replace hb4 := ltI_ge hb4
        refine wpOps_ins (rfl) ?_
        refine wpOps_ins (rfl) ?_
        refine wpOps_on rfl ?_
        refine wpOps_ins (rfl) ?_
        refine wpOps_on rfl ?_
        refine wpOps_ins (rfl) ?_
        refine wpOps_on rfl ?_
        refine wpOps_ins (sem_load rfl (H.at 0 rfl) (fun _ => by first | exact partOf_sl rfl | rfl | exact DT.part_E | exact DT.part_S | exact DT.part_L | exact DE.part_V | exact DE.part_L | exact partOf_all (DT.len _) | exact partOf_all (DE.len _) | exact partOf_all (DV.len _))) ?_
        refine wpOps_on rfl ?_
        refine wpOps_ins (sem_len rfl) ?_
        refine wpOps_on rfl ?_
        refine wp_bool rfl (fun hb5 => ?_) (fun hb5 => ?_)
        · replace hb5 := ltI_lt hb5
          refine wpOps_ins (rfl) ?_
          refine wpOps_nil ?_
          refine wpC_condT rfl ?_
          refine wpC_seq ?_
          refine wpC_reg ?_
          refine wpOps_ins (rfl) ?_
          refine wpOps_nil ?_
          refine wpC_ret ?_
          refine ⟨trivial, _, rfl, ?_⟩
          exact ⟨false, _, rfl, (H.front 1 rfl).tail2, fun e => by simp at e⟩
        · replace hb5 := ltI_ge hb5
          refine wpOps_ins (rfl) ?_
          refine wpOps_nil ?_
          refine wpC_condF rfl ?_
          refine wpC_skip ?_
          refine wpC_seq ?_
          refine wpC_reg ?_
          refine wpOps_ins (rfl) ?_
          refine wpOps_ins (rfl) ?_
          refine wpOps_ins (sem_load rfl (H.at 0 rfl) (fun _ => by first | exact partOf_sl rfl | rfl | exact DT.part_E | exact DT.part_S | exact DT.part_L | exact DE.part_V | exact DE.part_L | exact partOf_all (DT.len _) | exact partOf_all (DE.len _) | exact partOf_all (DV.len _))) ?_
          refine wpOps_ins (rfl) ?_
          refine wpOps_ins (sem_int rfl (w64 (by omega) (by omega))) ?_
          refine wp_call rfl (hl ⟨hok.2.2.2.1, hok.2.1⟩ (by omega) (by omega) (by omega) (by omega) (H.front 1 rfl)) ?_
          rintro _ h ⟨b, left6, rfl, H, hl6⟩
          cases b
          · refine wpOps_ins (rfl) ?_
            refine wpOps_off rfl ?_
            refine wpOps_off rfl ?_
            refine wpOps_off rfl ?_
            refine wpOps_off rfl ?_
            refine wpOps_off rfl ?_
            refine wpOps_off rfl ?_
            refine wpOps_ins (rfl) ?_
            refine wpOps_ins (rfl) ?_
            refine wpOps_nil ?_
            refine wpC_ret ?_
            refine ⟨trivial, _, rfl, ?_⟩
            exact ⟨false, _, rfl, (H.front 0 rfl).tail2, fun e => by simp at e⟩
          · have hl6 := hl6 rfl
            refine wpOps_ins (rfl) ?_
            refine wpOps_on rfl ?_
            refine wpOps_ins (rfl) ?_
            refine wpOps_on rfl ?_
            refine wpOps_ins (rfl) ?_
            refine wpOps_on rfl ?_
            refine wpOps_ins (sem_load rfl (H.at 1 rfl) (fun _ => by first | exact partOf_sl rfl | rfl | exact DT.part_E | exact DT.part_S | exact DT.part_L | exact DE.part_V | exact DE.part_L | exact partOf_all (DT.len _) | exact partOf_all (DE.len _) | exact partOf_all (DV.len _))) ?_
            refine wpOps_on rfl ?_
            refine wpOps_ins (rfl) ?_
            refine wpOps_on rfl ?_
            refine wpOps_ins (sem_int rfl (w64 (by omega) (by omega))) ?_
            refine wpOps_on rfl ?_
            refine wp_call rfl (hm ⟨hok.2.2.2.2, hok.2.2.1⟩ (by omega) (by omega) (by omega) (by omega) (H.front 0 rfl)) ?_
            rintro _ h ⟨b, left7, rfl, H, hl7⟩
            cases b
            · refine wpOps_ins (rfl) ?_
              refine wpOps_ins (rfl) ?_
              refine wpOps_nil ?_
              refine wpC_ret ?_
              refine ⟨trivial, _, rfl, ?_⟩
              exact ⟨false, _, rfl, (H.front 0 rfl).tail2, fun e => by simp at e⟩
            · have hl7 := hl7 rfl
              refine wpOps_ins (rfl) ?_
              refine wpOps_ins (rfl) ?_
              refine wpOps_nil ?_
              refine wpC_ret ?_
              refine ⟨trivial, _, rfl, ?_⟩
              exact ⟨true, _, rfl, (H.front 0 rfl).tail2, fun e => ⟨by omega, by omega⟩⟩
theorem vals_loop (C : Code E) {l : List DV} (hall : ∀ t ∈ l, ValOK E t) (hok : ∀ t ∈ l, t.ok) (hlen : l.length ≤ maxN) {nl fu : Bool} {deep left0 : Int} {p : Pos} {L : List (Pos × AObj)} {Q : XExit → Tm → Heap → Prop} (h1 : left0 ≤ 500) (h2 : 0 ≤ deep) (h3 : deep ≤ 200)
    (hend : ∀ tm h left, Has h ((p, rowI tyMeter left) :: L) → 0 ≤ left → left ≤ left0 → Q (.exit 0) tm h) (hret : ∀ tm h left, tm.get (.lo .d0 .d6) = some (.bool false) → Has h ((p, rowI tyMeter left) :: L) → Q .ret tm h) :
    ∀ (k j : Nat), l.length - j = k → ∀ (left : Int) (tm : Tm) (h : Heap), Has h ((p, rowI tyMeter left) :: L) → 0 ≤ left → left ≤ left0 → tm.get (.lo .d0 .d0) = some (.ptr p 0) → tm.get (.lo .d0 .d2) = some (.int .i64 deep) → tm.get (.lo .d0 .d9) = some (slAV nl fu l.length (DV.cellsL l)) → tm.get (.lo .d0 .d10) = some (.int .i64 (.ofNat l.length)) → tm.get (.lo .d0 .d11) = some (.int .i64 (.ofNat j)) → LoopT E c_vals_b0 Q tm h := by
  intro k
  induction k using Nat.strongRecOn with
  | ind k ih =>
    intro j hk left tm h H h0 hle e0 e2 e9 e10 e11
    obtain ⟨tm, rfl⟩ := sets5 e0 e2 e9 e10 e11
    refine LoopT.wp ?_
    unfold c_vals_b0
    refine wpC_seq ?_
    refine wpC_reg ?_
    refine wp_bool rfl (fun hb1 => ?_) (fun hb1 => ?_)
    · have hj := of_ltN hb1
      refine wpOps_nil ?_
      refine wpC_seq ?_
      refine wpC_condT rfl ?_
      refine wpC_skip ?_
      refine wpC_seq ?_
      refine wpC_block ?_
      refine wpC_seq ?_
      refine wpC_reg ?_
      refine wpOps_ins (sem_iaddrV rfl rfl hj) ?_
      refine wpOps_ins (sem_loadI rfl (DV.len _)) ?_
      refine wp_alloc H fun q2 h H => ?_
      refine wp_store (k := 0) rfl rfl rfl (by first | rfl | exact len_of (DT.len _) | exact len_of (DE.len _) | exact len_of (DV.len _)) H rfl (fun k => by first | exact spliceK_len (by first | exact DT.len _ | exact DE.len _ | exact DV.len _) k | rfl) fun h H => ?_
      refine wpOps_nil ?_
      refine wpC_seq ?_
      refine wpC_reg ?_
      refine wpOps_ins (rfl) ?_
      refine wpOps_ins (sem_load rfl (H.at 0 rfl) (fun _ => by first | exact partOf_sl rfl | rfl | exact DT.part_E | exact DT.part_S | exact DT.part_L | exact DE.part_V | exact DE.part_L | exact partOf_all (DT.len _) | exact partOf_all (DE.len _) | exact partOf_all (DV.len _))) ?_
      refine wpOps_ins (rfl) ?_
      refine wp_call rfl (hall _ (List.getElem_mem hj) (hok _ (List.getElem_mem hj)) (by omega) (by omega) (by omega) (by omega) (H.front 1 rfl)) ?_
      rintro _ h ⟨b, left3, rfl, H, hl3⟩
      cases b
      · refine wpOps_ins (rfl) ?_
        refine wpOps_nil ?_
        refine wpC_condT rfl ?_
        refine wpC_seq ?_
        refine wpC_reg ?_
        refine wpOps_ins (rfl) ?_
        refine wpOps_nil ?_
        refine wpC_ret ?_
        exact hret _ _ _ rfl (H.front 0 rfl).tail2
      · have hl3 := hl3 rfl
        refine wpOps_ins (rfl) ?_
        refine wpOps_nil ?_
        refine wpC_condF rfl ?_
        refine wpC_skip ?_
        refine wpC_reg ?_
        refine wpOps_ins (sem_int rfl (w64_succ (by unfold maxN at hlen; omega))) ?_
        refine wpOps_ins (rfl) ?_
        refine wpOps_nil ?_
        exact ih (l.length - (j + 1)) (by omega) (j + 1) rfl _ _ _ (H.front 0 rfl).tail2 (by omega) (by omega) rfl rfl rfl rfl rfl
    · have hj := of_geN hb1
      refine wpOps_nil ?_
      refine wpC_seq ?_
      refine wpC_condF rfl ?_
      refine wpC_exit ?_
      exact hend _ _ _ (H.front 0 rfl) (by omega) (by omega)
theorem vals_of (C : Code E) {t : List DV} (hall : ∀ x ∈ t, ValOK E x) : ValsOK E t := by
  rintro ⟨hok, hlen⟩ nl fu deep left p h L h0 h1 h2 h3 H
  have hok := DV.ok_mem hok
  refine CallT.body C.vals ?_
  unfold BodyT c_vals
  refine wpC_seq ?_
  refine wpC_reg ?_
  refine wpOps_ins (rfl) ?_
  refine wpOps_nil ?_
  refine wpC_seq ?_
  refine wpC_seq ?_
  refine wpC_reg ?_
  refine wpOps_ins (rfl) ?_
  refine wpOps_ins (sem_len rfl) ?_
  refine wpOps_ins (rfl) ?_
  refine wpOps_nil ?_
  refine wpC_block ?_
  refine wpC_loop (vals_loop C hall hok hlen h1 h2 h3 (fun tm h left1 H h0 hl1 => ?_) (fun tm h left1 e6 H => ?_) (t.length - 0) 0 rfl left _ _ H h0 (Int.le_refl _) rfl rfl rfl rfl rfl)
  · refine wpC_seq ?_
    refine wpC_reg ?_
    refine wpOps_ins (rfl) ?_
    refine wpOps_nil ?_
    refine wpC_ret ?_
    refine ⟨trivial, _, rfl, ?_⟩
    exact ⟨true, _, rfl, (H.front 0 rfl), fun e => ⟨by omega, by omega⟩⟩
  · obtain ⟨tm, rfl⟩ := sets1 e6
    refine ⟨trivial, _, rfl, ?_⟩
    exact ⟨false, _, rfl, (H.front 0 rfl), fun e => by simp at e⟩
mutual
theorem val_ok (C : Code E) : ∀ t : DV, ValOK E t
  | .mk _ _ _ _ _ _ _ _ _ l _ _ m => val_of C (vals_of C (val_all C l)) (vals_of C (val_all C m))
theorem val_all (C : Code E) : ∀ l : List DV, ∀ t ∈ l, ValOK E t
  | [], t, h => by simp at h
  | x :: l, t, h => (List.mem_cons.1 h).elim (fun e => e ▸ val_ok C x) (fun h => val_all C l t h)
end
theorem expr_of (C : Code E) {k n : Int} {sn sf : Bool} {s : List (List Nat)} {v : DV} {ln lf : Bool} {l : List DE} (hl : ExprsOK E l) : ExprOK E (.mk k n sn sf s v ln lf l) := by
  intro hok deep left p h L h0 h1 h2 h3 H
  refine CallT.body C.expr ?_
  unfold BodyT c_expr
  refine wpC_seq ?_
  refine wpC_reg ?_
  refine wp_box rfl rfl H fun q1 h H => ?_
  refine wpOps_ins (rfl) ?_
  refine wpOps_nil ?_
  refine wpC_seq ?_
  refine wpC_seq ?_
  refine wpC_phase rfl ?_
  refine wpOps_ins (rfl) ?_
  refine wpOps_ins (rfl) ?_
  refine wpOps_ins (rfl) ?_
  refine wpOps_ins (sem_load rfl (H.at 1 rfl) (fun _ => by first | exact partOf_sl rfl | rfl | exact DT.part_E | exact DT.part_S | exact DT.part_L | exact DE.part_V | exact DE.part_L | exact partOf_all (DT.len _) | exact partOf_all (DE.len _) | exact partOf_all (DV.len _))) ?_
  refine wpOps_ins (rfl) ?_
  refine wpOps_ins (sem_load rfl (H.at 0 rfl) (fun _ => by first | exact partOf_sl rfl | rfl | exact DT.part_E | exact DT.part_S | exact DT.part_L | exact DE.part_V | exact DE.part_L | exact partOf_all (DT.len _) | exact partOf_all (DE.len _) | exact partOf_all (DV.len _))) ?_
  refine wpOps_ins (sem_len rfl) ?_
  refine wpOps_ins (rfl) ?_
  refine wpOps_ins (sem_int rfl (wrap_sub h0 h1 hok.1)) ?_
  refine wpOps_ins (rfl) ?_
  refine wpOps_ins (rfl) ?_
  refine wpOps_nil ⟨?_, ?_⟩
  · refine wpK_ins (rfl) rfl rfl ?_
    refine wpK_ins (rfl) rfl rfl ?_
    refine wpK_ins (rfl) rfl rfl ?_
    refine wpK_ins (sem_load rfl (H.at 1 rfl) (fun _ => by first | exact partOf_sl rfl | rfl | exact DT.part_E | exact DT.part_S | exact DT.part_L | exact DE.part_V | exact DE.part_L | exact partOf_all (DT.len _) | exact partOf_all (DE.len _) | exact partOf_all (DV.len _))) rfl rfl ?_
    refine wpK_ins (rfl) rfl rfl ?_
    refine wpK_ins (sem_load rfl (H.at 0 rfl) (fun _ => by first | exact partOf_sl rfl | rfl | exact DT.part_E | exact DT.part_S | exact DT.part_L | exact DE.part_V | exact DE.part_L | exact partOf_all (DT.len _) | exact partOf_all (DE.len _) | exact partOf_all (DV.len _))) rfl rfl ?_
    refine wpK_ins (sem_len rfl) rfl rfl ?_
    refine wpK_ins (rfl) rfl rfl ?_
    refine wpK_ins (sem_int rfl (wrap_sub h0 h1 hok.1)) rfl rfl ?_
    refine wpK_ins (rfl) rfl rfl ?_
    refine wpK_ins (rfl) rfl rfl ?_
    exact wpK_nil
  · refine wp_store (k := 1) rfl rfl rfl (by first | rfl | exact len_of (DT.len _) | exact len_of (DE.len _) | exact len_of (DV.len _)) H rfl (fun k => by first | exact spliceK_len (by first | exact DT.len _ | exact DE.len _ | exact DV.len _) k | rfl) fun h H => ?_
    refine wpOps_nil ?_
    refine wpC_last rfl ?_
    refine wpOps_nil ⟨?_, ?_⟩
    · exact wpK_nil
    · refine wpC_seq ?_
      refine wpC_reg ?_
      refine wpOps_ins (rfl) ?_
      refine wpOps_ins (rfl) ?_
      refine wpOps_ins (rfl) ?_
      refine wpOps_ins (sem_load rfl (H.at 1 rfl) (fun _ => by first | exact partOf_sl rfl | rfl | exact DT.part_E | exact DT.part_S | exact DT.part_L | exact DE.part_V | exact DE.part_L | exact partOf_all (DT.len _) | exact partOf_all (DE.len _) | exact partOf_all (DV.len _))) ?_
      refine wp_bool rfl (fun hb2 => ?_) (fun hb2 => ?_)
      · replace hb2 := ltI_lt hb2
        refine wpOps_ins (rfl) ?_
        refine wpOps_off rfl ?_
        refine wpOps_off rfl ?_
        refine wpOps_ins (rfl) ?_
        refine wpOps_ins (rfl) ?_
        refine wpOps_off rfl ?_
        refine wpOps_off rfl ?_
        refine wpOps_off rfl ?_
        refine wpOps_off rfl ?_
        refine wpOps_off rfl ?_
        refine wpOps_ins (rfl) ?_
        refine wpOps_nil ?_
        refine wpC_condT rfl ?_
        refine wpC_seq ?_
        refine wpC_reg ?_
        refine wpOps_ins (rfl) ?_
        refine wpOps_nil ?_
        refine wpC_ret ?_
        refine ⟨trivial, _, rfl, ?_⟩
        exact ⟨false, _, rfl, (H.front 1 rfl).tail2, fun e => by simp at e⟩
      · replace hb2 := ltI_ge hb2
        refine wpOps_ins (rfl) ?_
        refine wpOps_on rfl ?_
        refine wpOps_ins (rfl) ?_
        refine wpOps_on rfl ?_
        refine wp_bool rfl (fun hb3 => ?_) (fun hb3 => ?_)
        · replace hb3 := ltI_lt hb3
          refine wpOps_ins (rfl) ?_
          refine wpOps_ins (rfl) ?_
          refine wpOps_off rfl ?_
          refine wpOps_off rfl ?_
          refine wpOps_off rfl ?_
          refine wpOps_off rfl ?_
          refine wpOps_off rfl ?_
          refine wpOps_ins (rfl) ?_
          refine wpOps_nil ?_
          refine wpC_condT rfl ?_
          refine wpC_seq ?_
          refine wpC_reg ?_
          refine wpOps_ins (rfl) ?_
          refine wpOps_nil ?_
          refine wpC_ret ?_
          refine ⟨trivial, _, rfl, ?_⟩
          exact ⟨false, _, rfl, (H.front 1 rfl).tail2, fun e => by simp at e⟩
        · replace hb3 := ltI_ge hb3
          refine wpOps_ins (rfl) ?_
          refine wpOps_ins (rfl) ?_
          refine wpOps_on rfl ?_
          refine wpOps_ins (rfl) ?_
          refine wpOps_on rfl ?_
          refine wpOps_ins (rfl) ?_
          refine wpOps_on rfl ?_
          refine wpOps_ins (sem_load rfl (H.at 0 rfl) (fun _ => by first | exact partOf_sl rfl | rfl | exact DT.part_E | exact DT.part_S | exact DT.part_L | exact DE.part_V | exact DE.part_L | exact partOf_all (DT.len _) | exact partOf_all (DE.len _) | exact partOf_all (DV.len _))) ?_
          refine wpOps_on rfl ?_
          refine wp_call rfl (val_ok C v hok.2.1 (by omega) (by omega) (by omega) (by omega) (H.front 1 rfl)) ?_
          rintro _ h ⟨b, left4, rfl, H, hl4⟩
          cases b
          · refine wpOps_on rfl ?_
            refine wpOps_ins (rfl) ?_
            refine wpOps_ins (rfl) ?_
            refine wpOps_nil ?_
            refine wpC_condT rfl ?_
            refine wpC_seq ?_
            refine wpC_reg ?_
            refine wpOps_ins (rfl) ?_
            refine wpOps_nil ?_
            refine wpC_ret ?_
            refine ⟨trivial, _, rfl, ?_⟩
            exact ⟨false, _, rfl, (H.front 0 rfl).tail2, fun e => by simp at e⟩
          · have hl4 := hl4 rfl
            refine wpOps_on rfl ?_
            refine wpOps_ins (rfl) ?_
            refine wpOps_ins (rfl) ?_
            refine wpOps_nil ?_
            refine wpC_condF rfl ?_
            refine wpC_skip ?_
            refine wpC_seq ?_
            refine wpC_reg ?_
            refine wpOps_ins (rfl) ?_
            refine wpOps_ins (rfl) ?_
            refine wpOps_ins (sem_load rfl (H.at 1 rfl) (fun _ => by first | exact partOf_sl rfl | rfl | exact DT.part_E | exact DT.part_S | exact DT.part_L | exact DE.part_V | exact DE.part_L | exact partOf_all (DT.len _) | exact partOf_all (DE.len _) | exact partOf_all (DV.len _))) ?_
            refine wpOps_ins (rfl) ?_
            refine wpOps_ins (sem_int rfl (w64 (by omega) (by omega))) ?_
            refine wp_call rfl (hl ⟨hok.2.2.2, hok.2.2.1⟩ (by omega) (by omega) (by omega) (by omega) (H.front 0 rfl)) ?_
            rintro _ h ⟨b, left5, rfl, H, hl5⟩
            cases b
            · refine wpOps_ins (rfl) ?_
              refine wpOps_nil ?_
              refine wpC_ret ?_
              refine ⟨trivial, _, rfl, ?_⟩
              exact ⟨false, _, rfl, (H.front 0 rfl).tail2, fun e => by simp at e⟩
            · have hl5 := hl5 rfl
              refine wpOps_ins (rfl) ?_
              refine wpOps_nil ?_
              refine wpC_ret ?_
              refine ⟨trivial, _, rfl, ?_⟩
              exact ⟨true, _, rfl, (H.front 0 rfl).tail2, fun e => ⟨by omega, by omega⟩⟩
theorem exprs_loop (C : Code E) {l : List DE} (hall : ∀ t ∈ l, ExprOK E t) (hok : ∀ t ∈ l, t.ok) (hlen : l.length ≤ maxN) {nl fu : Bool} {deep left0 : Int} {p : Pos} {L : List (Pos × AObj)} {Q : XExit → Tm → Heap → Prop} (h1 : left0 ≤ 500) (h2 : 0 ≤ deep) (h3 : deep ≤ 200)
    (hend : ∀ tm h left, Has h ((p, rowI tyMeter left) :: L) → 0 ≤ left → left ≤ left0 → Q (.exit 0) tm h) (hret : ∀ tm h left, tm.get (.lo .d0 .d6) = some (.bool false) → Has h ((p, rowI tyMeter left) :: L) → Q .ret tm h) :
    ∀ (k j : Nat), l.length - j = k → ∀ (left : Int) (tm : Tm) (h : Heap), Has h ((p, rowI tyMeter left) :: L) → 0 ≤ left → left ≤ left0 → tm.get (.lo .d0 .d0) = some (.ptr p 0) → tm.get (.lo .d0 .d2) = some (.int .i64 deep) → tm.get (.lo .d0 .d9) = some (slAV nl fu l.length (DE.cellsL l)) → tm.get (.lo .d0 .d10) = some (.int .i64 (.ofNat l.length)) → tm.get (.lo .d0 .d11) = some (.int .i64 (.ofNat j)) → LoopT E c_exprs_b0 Q tm h := by
  intro k
  induction k using Nat.strongRecOn with
  | ind k ih =>
    intro j hk left tm h H h0 hle e0 e2 e9 e10 e11
    obtain ⟨tm, rfl⟩ := sets5 e0 e2 e9 e10 e11
    refine LoopT.wp ?_
    unfold c_exprs_b0
    refine wpC_seq ?_
    refine wpC_reg ?_
    refine wp_bool rfl (fun hb1 => ?_) (fun hb1 => ?_)
    · have hj := of_ltN hb1
      refine wpOps_nil ?_
      refine wpC_seq ?_
      refine wpC_condT rfl ?_
      refine wpC_skip ?_
      refine wpC_seq ?_
      refine wpC_block ?_
      refine wpC_seq ?_
      refine wpC_reg ?_
      refine wpOps_ins (sem_iaddrE rfl rfl hj) ?_
      refine wpOps_ins (sem_loadI rfl (DE.len _)) ?_
      refine wp_alloc H fun q2 h H => ?_
      refine wp_store (k := 0) rfl rfl rfl (by first | rfl | exact len_of (DT.len _) | exact len_of (DE.len _) | exact len_of (DV.len _)) H rfl (fun k => by first | exact spliceK_len (by first | exact DT.len _ | exact DE.len _ | exact DV.len _) k | rfl) fun h H => ?_
      refine wpOps_nil ?_
      refine wpC_seq ?_
      refine wpC_reg ?_
      refine wpOps_ins (rfl) ?_
      refine wpOps_ins (sem_load rfl (H.at 0 rfl) (fun _ => by first | exact partOf_sl rfl | rfl | exact DT.part_E | exact DT.part_S | exact DT.part_L | exact DE.part_V | exact DE.part_L | exact partOf_all (DT.len _) | exact partOf_all (DE.len _) | exact partOf_all (DV.len _))) ?_
      refine wpOps_ins (rfl) ?_
      refine wp_call rfl (hall _ (List.getElem_mem hj) (hok _ (List.getElem_mem hj)) (by omega) (by omega) (by omega) (by omega) (H.front 1 rfl)) ?_
      rintro _ h ⟨b, left3, rfl, H, hl3⟩
      cases b
      · refine wpOps_ins (rfl) ?_
        refine wpOps_nil ?_
        refine wpC_condT rfl ?_
        refine wpC_seq ?_
        refine wpC_reg ?_
        refine wpOps_ins (rfl) ?_
        refine wpOps_nil ?_
        refine wpC_ret ?_
        exact hret _ _ _ rfl (H.front 0 rfl).tail2
      · have hl3 := hl3 rfl
        refine wpOps_ins (rfl) ?_
        refine wpOps_nil ?_
        refine wpC_condF rfl ?_
        refine wpC_skip ?_
        refine wpC_reg ?_
        refine wpOps_ins (sem_int rfl (w64_succ (by unfold maxN at hlen; omega))) ?_
        refine wpOps_ins (rfl) ?_
        refine wpOps_nil ?_
        exact ih (l.length - (j + 1)) (by omega) (j + 1) rfl _ _ _ (H.front 0 rfl).tail2 (by omega) (by omega) rfl rfl rfl rfl rfl
    · have hj := of_geN hb1
      refine wpOps_nil ?_
      refine wpC_seq ?_
      refine wpC_condF rfl ?_
      refine wpC_exit ?_
      exact hend _ _ _ (H.front 0 rfl) (by omega) (by omega)
theorem exprs_of (C : Code E) {t : List DE} (hall : ∀ x ∈ t, ExprOK E x) : ExprsOK E t := by
  rintro ⟨hok, hlen⟩ nl fu deep left p h L h0 h1 h2 h3 H
  have hok := DE.ok_mem hok
  refine CallT.body C.exprs ?_
  unfold BodyT c_exprs
  refine wpC_seq ?_
  refine wpC_reg ?_
  refine wpOps_ins (rfl) ?_
  refine wpOps_nil ?_
  refine wpC_seq ?_
  refine wpC_seq ?_
  refine wpC_reg ?_
  refine wpOps_ins (rfl) ?_
  refine wpOps_ins (sem_len rfl) ?_
  refine wpOps_ins (rfl) ?_
  refine wpOps_nil ?_
  refine wpC_block ?_
  refine wpC_loop (exprs_loop C hall hok hlen h1 h2 h3 (fun tm h left1 H h0 hl1 => ?_) (fun tm h left1 e6 H => ?_) (t.length - 0) 0 rfl left _ _ H h0 (Int.le_refl _) rfl rfl rfl rfl rfl)
  · refine wpC_seq ?_
    refine wpC_reg ?_
    refine wpOps_ins (rfl) ?_
    refine wpOps_nil ?_
    refine wpC_ret ?_
    refine ⟨trivial, _, rfl, ?_⟩
    exact ⟨true, _, rfl, (H.front 0 rfl), fun e => ⟨by omega, by omega⟩⟩
  · obtain ⟨tm, rfl⟩ := sets1 e6
    refine ⟨trivial, _, rfl, ?_⟩
    exact ⟨false, _, rfl, (H.front 0 rfl), fun e => by simp at e⟩
mutual
theorem expr_ok (C : Code E) : ∀ t : DE, ExprOK E t
  | .mk _ _ _ _ _ _ _ _ l => expr_of C (exprs_of C (expr_all C l))
theorem expr_all (C : Code E) : ∀ l : List DE, ∀ t ∈ l, ExprOK E t
  | [], t, h => by simp at h
  | x :: l, t, h => (List.mem_cons.1 h).elim (fun e => e ▸ expr_ok C x) (fun h => expr_all C l t h)
end
theorem sizeL_take : ∀ (l : List DT) (j : Nat) (hj : j < l.length), DT.sizeL (l.take (j + 1)) = DT.sizeL (l.take j) + l[j].size
  | [], j, hj => by simp at hj
  | t :: l, 0, hj => by simp [DT.sizeL]
  | t :: l, j + 1, hj => by
    have := sizeL_take l j (by simpa using hj)
    simp only [List.take_succ_cons, DT.sizeL, List.getElem_cons_succ]
    omega
theorem temp_loop (C : Code E) {l : List DT} (hall : ∀ t ∈ l, TempOK E t) (hok : ∀ t ∈ l, t.ok) (hlen : l.length ≤ maxN) {nl fu : Bool} {deep left0 : Int} {p : Pos} {L : List (Pos × AObj)} {Q : XExit → Tm → Heap → Prop} (h1 : left0 ≤ 500) (h2 : 0 ≤ deep) (h3 : deep ≤ 199)
    (hend : ∀ tm h (left : Int), Has h ((p, rowI tyMeter left) :: L) → 0 ≤ left → left + DT.sizeL l ≤ left0 → Q (.exit 0) tm h) (hret : ∀ tm h left, tm.get (.lo .d0 .d6) = some (.bool false) → Has h ((p, rowI tyMeter left) :: L) → Q .ret tm h) :
    ∀ (k j : Nat), l.length - j = k → ∀ (left : Int) (tm : Tm) (h : Heap), Has h ((p, rowI tyMeter left) :: L) → 0 ≤ left → left + DT.sizeL (l.take j) ≤ left0 → tm.get (.lo .d0 .d0) = some (.ptr p 0) → tm.get (.lo .d0 .d2) = some (.int .i64 deep) → tm.get (.lo .d2 .d8) = some (slAV nl fu l.length (DT.cellsL l)) → tm.get (.lo .d2 .d9) = some (.int .i64 (.ofNat l.length)) → tm.get (.lo .d2 .d10) = some (.int .i64 (.ofNat j)) → LoopT E c_temp_b0 Q tm h := by
  intro k
  induction k using Nat.strongRecOn with
  | ind k ih =>
    intro j hk left tm h H h0 hle e0 e2 e9 e10 e11
    obtain ⟨tm, rfl⟩ := sets5 e0 e2 e9 e10 e11
    refine LoopT.wp ?_
    unfold c_temp_b0
    refine wpC_seq ?_
    refine wpC_reg ?_
    refine wp_bool rfl (fun hb1 => ?_) (fun hb1 => ?_)
    · have hj := of_ltN hb1
      refine wpOps_nil ?_
      refine wpC_seq ?_
      refine wpC_condT rfl ?_
      refine wpC_skip ?_
      refine wpC_seq ?_
      refine wpC_block ?_
      refine wpC_seq ?_
      refine wpC_reg ?_
      refine wpOps_ins (sem_iaddrT rfl rfl hj) ?_
      refine wpOps_ins (sem_loadI rfl (DT.len _)) ?_
      refine wp_alloc H fun q2 h H => ?_
      refine wp_store (k := 0) rfl rfl rfl (by first | rfl | exact len_of (DT.len _) | exact len_of (DE.len _) | exact len_of (DV.len _)) H rfl (fun k => by first | exact spliceK_len (by first | exact DT.len _ | exact DE.len _ | exact DV.len _) k | rfl) fun h H => ?_
      refine wpOps_nil ?_
      refine wpC_seq ?_
      refine wpC_reg ?_
      refine wpOps_ins (rfl) ?_
      refine wpOps_ins (sem_load rfl (H.at 0 rfl) (fun _ => by first | exact partOf_sl rfl | rfl | exact DT.part_E | exact DT.part_S | exact DT.part_L | exact DE.part_V | exact DE.part_L | exact partOf_all (DT.len _) | exact partOf_all (DE.len _) | exact partOf_all (DV.len _))) ?_
      refine wpOps_ins (rfl) ?_
      refine wpOps_ins (sem_int rfl (w64 (by omega) (by omega))) ?_
      refine wp_call rfl (hall _ (List.getElem_mem hj) (hok _ (List.getElem_mem hj)) (by omega) (by omega) (by omega) (by omega) (H.front 1 rfl)) ?_
      rintro _ h ⟨b, left3, rfl, H, hl3⟩
      cases b
      · refine wpOps_ins (rfl) ?_
        refine wpOps_nil ?_
        refine wpC_condT rfl ?_
        refine wpC_seq ?_
        refine wpC_reg ?_
        refine wpOps_ins (rfl) ?_
        refine wpOps_nil ?_
        refine wpC_ret ?_
        exact hret _ _ _ rfl (H.front 0 rfl).tail2
      · have hl3 := hl3 rfl
        refine wpOps_ins (rfl) ?_
        refine wpOps_nil ?_
        refine wpC_condF rfl ?_
        refine wpC_skip ?_
        refine wpC_reg ?_
        refine wpOps_ins (sem_int rfl (w64_succ (by unfold maxN at hlen; omega))) ?_
        refine wpOps_ins (rfl) ?_
        refine wpOps_nil ?_
        have hz := sizeL_take l j hj
        exact ih (l.length - (j + 1)) (by omega) (j + 1) rfl _ _ _ (H.front 0 rfl).tail2 (by omega) (by omega) rfl rfl rfl rfl rfl
    · have hj := of_geN hb1
      refine wpOps_nil ?_
      refine wpC_seq ?_
      refine wpC_condF rfl ?_
      refine wpC_exit ?_
      have hz : l.take j = l := List.take_of_length_le hj
      rw [hz] at hle
      exact hend _ _ _ (H.front 0 rfl) (by omega) (by omega)
theorem temp_of (C : Code E) {k : Int} {e sub : DE} {ln lf : Bool} {l : List DT} (hall : ∀ x ∈ l, TempOK E x) : TempOK E (.mk k e sub ln lf l) := by
  intro hok deep left p h L h0 h1 h2 h3 H
  refine CallT.body C.temp ?_
  unfold BodyT c_temp
  refine wpC_seq ?_
  refine wpC_reg ?_
  refine wp_box rfl rfl H fun q1 h H => ?_
  refine wpOps_ins (rfl) ?_
  refine wpOps_nil ?_
  refine wpC_seq ?_
  refine wpC_seq ?_
  refine wpC_reg ?_
  refine wpOps_ins (rfl) ?_
  refine wpOps_ins (rfl) ?_
  refine wpOps_ins (rfl) ?_
  refine wpOps_ins (sem_load rfl (H.at 1 rfl) (fun _ => by first | exact partOf_sl rfl | rfl | exact DT.part_E | exact DT.part_S | exact DT.part_L | exact DE.part_V | exact DE.part_L | exact partOf_all (DT.len _) | exact partOf_all (DE.len _) | exact partOf_all (DV.len _))) ?_
  refine wpOps_ins (sem_int rfl (w64 (by omega) (by omega))) ?_
  refine wpOps_ins (rfl) ?_
  refine wpOps_ins (rfl) ?_
  refine wp_store (k := 1) rfl rfl rfl (by first | rfl | exact len_of (DT.len _) | exact len_of (DE.len _) | exact len_of (DV.len _)) H rfl (fun k => by first | exact spliceK_len (by first | exact DT.len _ | exact DE.len _ | exact DV.len _) k | rfl) fun h H => ?_
  refine wpOps_nil ?_
  refine wpC_seq ?_
  refine wpC_reg ?_
  refine wpOps_ins (rfl) ?_
  refine wpOps_ins (rfl) ?_
  refine wpOps_ins (rfl) ?_
  refine wpOps_ins (sem_load rfl (H.at 1 rfl) (fun _ => by first | exact partOf_sl rfl | rfl | exact DT.part_E | exact DT.part_S | exact DT.part_L | exact DE.part_V | exact DE.part_L | exact partOf_all (DT.len _) | exact partOf_all (DE.len _) | exact partOf_all (DV.len _))) ?_
  refine wp_bool rfl (fun hb2 => ?_) (fun hb2 => ?_)
  · replace hb2 := ltI_lt hb2
    refine wpOps_ins (rfl) ?_
    refine wpOps_off rfl ?_
    refine wpOps_off rfl ?_
    refine wpOps_ins (rfl) ?_
    refine wpOps_ins (rfl) ?_
    refine wpOps_off rfl ?_
    refine wpOps_off rfl ?_
    refine wpOps_off rfl ?_
    refine wpOps_off rfl ?_
    refine wpOps_off rfl ?_
    refine wpOps_ins (rfl) ?_
    refine wpOps_ins (rfl) ?_
    refine wpOps_off rfl ?_
    refine wpOps_off rfl ?_
    refine wpOps_off rfl ?_
    refine wpOps_off rfl ?_
    refine wpOps_off rfl ?_
    refine wpOps_ins (rfl) ?_
    refine wpOps_nil ?_
    refine wpC_condT rfl ?_
    refine wpC_seq ?_
    refine wpC_reg ?_
    refine wpOps_ins (rfl) ?_
    refine wpOps_nil ?_
    refine wpC_ret ?_
    refine ⟨trivial, _, rfl, ?_⟩
    exact ⟨false, _, rfl, (H.front 1 rfl).tail2, fun e => by simp at e⟩
  · replace hb2 := ltI_ge hb2
    refine wpOps_ins (rfl) ?_
    refine wpOps_on rfl ?_
    refine wpOps_ins (rfl) ?_
    refine wpOps_on rfl ?_
    refine wp_bool rfl (fun hb3 => ?_) (fun hb3 => ?_)
    · replace hb3 := ltI_lt hb3
      refine wpOps_ins (rfl) ?_
      refine wpOps_ins (rfl) ?_
      refine wpOps_off rfl ?_
      refine wpOps_off rfl ?_
      refine wpOps_off rfl ?_
      refine wpOps_off rfl ?_
      refine wpOps_off rfl ?_
      refine wpOps_ins (rfl) ?_
      refine wpOps_ins (rfl) ?_
      refine wpOps_off rfl ?_
      refine wpOps_off rfl ?_
      refine wpOps_off rfl ?_
      refine wpOps_off rfl ?_
      refine wpOps_off rfl ?_
      refine wpOps_ins (rfl) ?_
      refine wpOps_nil ?_
      refine wpC_condT rfl ?_
      refine wpC_seq ?_
      refine wpC_reg ?_
      refine wpOps_ins (rfl) ?_
      refine wpOps_nil ?_
      refine wpC_ret ?_
      refine ⟨trivial, _, rfl, ?_⟩
      exact ⟨false, _, rfl, (H.front 1 rfl).tail2, fun e => by simp at e⟩
    · replace hb3 := ltI_ge hb3
      refine wpOps_ins (rfl) ?_
      refine wpOps_ins (rfl) ?_
      refine wpOps_on rfl ?_
      refine wpOps_ins (rfl) ?_
      refine wpOps_on rfl ?_
      refine wpOps_ins (rfl) ?_
      refine wpOps_on rfl ?_
      refine wpOps_ins (sem_load rfl (H.at 0 rfl) (fun _ => by first | exact partOf_sl rfl | rfl | exact DT.part_E | exact DT.part_S | exact DT.part_L | exact DE.part_V | exact DE.part_L | exact partOf_all (DT.len _) | exact partOf_all (DE.len _) | exact partOf_all (DV.len _))) ?_
      refine wpOps_on rfl ?_
      refine wp_call rfl (expr_ok C e hok.1 (by omega) (by omega) (by omega) (by omega) (H.front 1 rfl)) ?_
      rintro _ h ⟨b, left4, rfl, H, hl4⟩
      cases b
      · refine wpOps_on rfl ?_
        refine wpOps_ins (rfl) ?_
        refine wpOps_ins (rfl) ?_
        refine wpOps_ins (rfl) ?_
        refine wpOps_off rfl ?_
        refine wpOps_off rfl ?_
        refine wpOps_off rfl ?_
        refine wpOps_off rfl ?_
        refine wpOps_off rfl ?_
        refine wpOps_ins (rfl) ?_
        refine wpOps_nil ?_
        refine wpC_condT rfl ?_
        refine wpC_seq ?_
        refine wpC_reg ?_
        refine wpOps_ins (rfl) ?_
        refine wpOps_nil ?_
        refine wpC_ret ?_
        refine ⟨trivial, _, rfl, ?_⟩
        exact ⟨false, _, rfl, (H.front 0 rfl).tail2, fun e => by simp at e⟩
      · have hl4 := hl4 rfl
        refine wpOps_on rfl ?_
        refine wpOps_ins (rfl) ?_
        refine wpOps_ins (rfl) ?_
        refine wpOps_ins (rfl) ?_
        refine wpOps_on rfl ?_
        refine wpOps_ins (rfl) ?_
        refine wpOps_on rfl ?_
        refine wpOps_ins (rfl) ?_
        refine wpOps_on rfl ?_
        refine wpOps_ins (sem_load rfl (H.at 1 rfl) (fun _ => by first | exact partOf_sl rfl | rfl | exact DT.part_E | exact DT.part_S | exact DT.part_L | exact DE.part_V | exact DE.part_L | exact partOf_all (DT.len _) | exact partOf_all (DE.len _) | exact partOf_all (DV.len _))) ?_
        refine wpOps_on rfl ?_
        refine wp_call rfl (expr_ok C sub hok.2.1 (by omega) (by omega) (by omega) (by omega) (H.front 0 rfl)) ?_
        rintro _ h ⟨b, left5, rfl, H, hl5⟩
        cases b
        · refine wpOps_on rfl ?_
          refine wpOps_ins (rfl) ?_
          refine wpOps_ins (rfl) ?_
          refine wpOps_nil ?_
          refine wpC_condT rfl ?_
          refine wpC_seq ?_
          refine wpC_reg ?_
          refine wpOps_ins (rfl) ?_
          refine wpOps_nil ?_
          refine wpC_ret ?_
          refine ⟨trivial, _, rfl, ?_⟩
          exact ⟨false, _, rfl, (H.front 0 rfl).tail2, fun e => by simp at e⟩
        · have hl5 := hl5 rfl
          refine wpOps_on rfl ?_
          refine wpOps_ins (rfl) ?_
          refine wpOps_ins (rfl) ?_
          refine wpOps_nil ?_
          refine wpC_condF rfl ?_
          refine wpC_skip ?_
          refine wpC_seq ?_
          refine wpC_seq ?_
          refine wpC_reg ?_
          refine wpOps_ins (rfl) ?_
          refine wpOps_ins (sem_load rfl (H.at 1 rfl) (fun _ => by first | exact partOf_sl rfl | rfl | exact DT.part_E | exact DT.part_S | exact DT.part_L | exact DE.part_V | exact DE.part_L | exact partOf_all (DT.len _) | exact partOf_all (DE.len _) | exact partOf_all (DV.len _))) ?_
          refine wpOps_ins (sem_len rfl) ?_
          refine wpOps_ins (rfl) ?_
          refine wpOps_nil ?_
          refine wpC_block ?_
          refine wpC_loop (temp_loop (left0 := left5) C hall (DT.ok_mem hok.2.2.2) hok.2.2.1 (by omega) (by omega) (by omega) (fun tm h left1 H h0 hl1 => ?_) (fun tm h left1 e6 H => ?_) (l.length - 0) 0 rfl _ _ _ (H.front 0 rfl) (by omega) (by simp only [List.take_zero, DT.sizeL]; exact Int.le_of_eq (Int.add_zero _)) rfl rfl rfl rfl rfl)
          · refine wpC_seq ?_
            refine wpC_reg ?_
            refine wpOps_ins (rfl) ?_
            refine wpOps_nil ?_
            refine wpC_ret ?_
            refine ⟨trivial, _, rfl, ?_⟩
            exact ⟨true, _, rfl, (H.front 0 rfl).tail2, fun e => ⟨by omega, by simp only [DT.size]; omega⟩⟩
          · obtain ⟨tm, rfl⟩ := sets1 e6
            refine ⟨trivial, _, rfl, ?_⟩
            exact ⟨false, _, rfl, (H.front 0 rfl).tail2, fun e => by simp at e⟩
mutual
theorem temp_ok (C : Code E) : ∀ t : DT, TempOK E t
  | .mk _ _ _ _ _ l => temp_of C (temp_all C l)
theorem temp_all (C : Code E) : ∀ l : List DT, ∀ t ∈ l, TempOK E t
  | [], t, h => by simp at h
  | x :: l, t, h => (List.mem_cons.1 h).elim (fun e => e ▸ temp_ok C x) (fun h => temp_all C l t h)
end
end
end Go.X
