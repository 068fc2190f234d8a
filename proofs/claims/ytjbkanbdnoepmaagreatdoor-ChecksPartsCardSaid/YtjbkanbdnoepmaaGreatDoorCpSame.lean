/- Comparisons of equal trees: 0, and true. -/
import Derived.Test.YtjbkanbdnoepmaaGreatDoorCpCode
namespace Go.X
open Go
section
variable {E : XEnv}
def Z (L : List (Pos × AObj)) (v : AV) : AV → Heap → Prop := fun r h => r = v ∧ Has h L
def dn : Nat → Int
  | 0 => -1
  | m + 1 => .ofNat m
theorem w64_pred {m : Nat} (h : m ≤ maxN) : wrapF .i64 (.ofNat m - 1) = dn m := by
  unfold maxN at h
  have e : Int.ofNat m = (m : Int) := ofNat_cast m
  rw [w64 (by omega) (by omega)]
  cases m with
  | zero => rfl
  | succ m => show Int.ofNat (m + 1) - 1 = Int.ofNat m; rw [ofNat_cast, ofNat_cast]; omega
theorem len_intC (x : Int) : (intC x).length = 1 := rfl
theorem len_strC (x : List Nat) : (strC x).length = 1 := rfl
theorem sizes_loop (C : Code E) {d : List Int} {nl fu : Bool} (hlen : d.length ≤ maxN) {L : List (Pos × AObj)} {Q : XExit → Tm → Heap → Prop} (hend : ∀ tm h, Has h L → Q (.exit 0) tm h) :
    ∀ (j : Nat), j ≤ d.length → ∀ (tm : Tm) (h : Heap), Has h L → tm.get (.lo .d0 .d0) = some (slAV nl fu d.length (d.flatMap intC)) → tm.get (.lo .d0 .d1) = some (slAV nl fu d.length (d.flatMap intC)) → tm.get (.lo .d0 .d5) = some (.int .i64 (dn j)) → LoopT E c_sizes_b0 Q tm h := by
  intro j
  induction j with
  | zero =>
    intro hj tm h H e0 e1 e5
    obtain ⟨tm, rfl⟩ := sets3 e0 e1 e5
    refine LoopT.wp ?_
    unfold c_sizes_b0
    refine wpC_seq ?_
    refine wpC_seq ?_
    refine wpC_reg ?_
    refine wpOps_ins (rfl) ?_
    refine wpOps_ins (sem_is (b := false) rfl rfl) ?_
    refine wpOps_nil ?_
    refine wpC_condF rfl ?_
    refine wpC_exit ?_
    exact hend _ _ H
  | succ m ih =>
    intro hj tm h H e0 e1 e5
    obtain ⟨tm, rfl⟩ := sets3 e0 e1 e5
    refine LoopT.wp ?_
    unfold c_sizes_b0
    refine wpC_seq ?_
    refine wpC_seq ?_
    refine wpC_reg ?_
    refine wpOps_ins (rfl) ?_
    refine wpOps_ins (sem_is (b := true) rfl rfl) ?_
    refine wpOps_nil ?_
    refine wpC_condT rfl ?_
    refine wpC_skip ?_
    refine wpC_seq ?_
    refine wpC_block ?_
    refine wpC_seq ?_
    refine wpC_last rfl ?_
    refine wpOps_ins (rfl) ?_
    refine wpOps_ins (rfl) ?_
    refine wpOps_ins (sem_iaddrF len_intC (by omega) rfl rfl rfl (show m < d.length by omega)) ?_
    refine wpOps_ins (rfl) ?_
    refine wpOps_ins (rfl) ?_
    refine wpOps_ins (rfl) ?_
    refine wpOps_ins (sem_iaddrF len_intC (by omega) rfl rfl rfl (show m < d.length by omega)) ?_
    refine wpOps_ins (rfl) ?_
    refine wpOps_ins (sem_is rfl (neI_refl _)) ?_
    refine wpOps_nil ⟨?_, ?_⟩
    · refine wpK_ins (rfl) rfl rfl ?_
      refine wpK_ins (rfl) rfl rfl ?_
      refine wpK_ins (sem_iaddrF len_intC (by omega) rfl rfl rfl (show m < d.length by omega)) rfl rfl ?_
      refine wpK_ins (rfl) rfl rfl ?_
      refine wpK_ins (rfl) rfl rfl ?_
      refine wpK_ins (rfl) rfl rfl ?_
      refine wpK_ins (sem_iaddrF len_intC (by omega) rfl rfl rfl (show m < d.length by omega)) rfl rfl ?_
      refine wpK_ins (rfl) rfl rfl ?_
      refine wpK_ins (sem_is rfl (neI_refl _)) rfl rfl ?_
      exact wpK_nil
    · refine wpC_condF rfl ?_
      refine wpC_skip ?_
      refine wpC_reg ?_
      refine wpOps_ins (rfl) ?_
      refine wpOps_ins (sem_int rfl (w64_pred (by omega))) ?_
      refine wpOps_ins (rfl) ?_
      refine wpOps_nil ?_
      exact ih (by omega) _ _ H rfl rfl rfl
theorem sizes_eq (C : Code E) {d : List Int} {nl fu : Bool} (hlen : d.length ≤ maxN) {h : Heap} {L : List (Pos × AObj)} (H : Has h L) : CallT E (.func n_sizes [] []) [slAV nl fu d.length (d.flatMap intC), slAV nl fu d.length (d.flatMap intC)] h (Z L (.int .i64 0)) := by
  refine CallT.body C.sizes ?_
  unfold BodyT c_sizes
  refine wpC_seq ?_
  refine wpC_reg ?_
  refine wpOps_ins (rfl) ?_
  refine wpOps_nil ?_
  refine wpC_seq ?_
  refine wpC_seq ?_
  refine wpC_reg ?_
  refine wpOps_ins (rfl) ?_
  refine wpOps_ins (sem_len rfl) ?_
  refine wpOps_ins (rfl) ?_
  refine wpOps_ins (sem_len rfl) ?_
  refine wpOps_ins (sem_is rfl (neI_refl _)) ?_
  refine wpOps_nil ?_
  refine wpC_condF rfl ?_
  refine wpC_skip ?_
  refine wpC_seq ?_
  refine wpC_seq ?_
  refine wpC_reg ?_
  refine wpOps_ins (rfl) ?_
  refine wpOps_ins (sem_len rfl) ?_
  refine wpOps_ins (sem_int rfl (w64_pred hlen)) ?_
  refine wpOps_ins (rfl) ?_
  refine wpOps_nil ?_
  refine wpC_block ?_
  refine wpC_loop (sizes_loop C hlen (fun tm h H => ?_) d.length (Nat.le_refl _) _ _ H rfl rfl rfl)
  refine wpC_seq ?_
  refine wpC_reg ?_
  refine wpOps_ins (rfl) ?_
  refine wpOps_nil ?_
  refine wpC_ret ?_
  refine ⟨trivial, _, rfl, ?_⟩
  exact ⟨rfl, H⟩
theorem compareI_T (C : Code E) {d : List Int} {nl fu : Bool} (hlen : d.length ≤ maxN) {h : Heap} {L : List (Pos × AObj)} (H : Has h L) : CallT E (.func n_compareI [] []) [.agg [.bool true, slAV nl fu d.length (d.flatMap intC)], .agg [.bool true, slAV nl fu d.length (d.flatMap intC)]] h (Z L (.int .i64 0)) := by
  refine CallT.body C.compareI ?_
  unfold BodyT c_compareI
  refine wpC_seq ?_
  refine wpC_reg ?_
  refine wp_box rfl rfl H fun q1 h H => ?_
  refine wp_box rfl rfl H fun q2 h H => ?_
  refine wpOps_ins (rfl) ?_
  refine wpOps_nil ?_
  refine wpC_seq ?_
  refine wpC_seq ?_
  refine wpC_reg ?_
  refine wpOps_ins (rfl) ?_
  refine wpOps_ins (sem_load rfl (H.at 1 rfl) (fun _ => by first | exact partOf_sl rfl | rfl | exact DT.part_E | exact DT.part_S | exact DT.part_L | exact DE.part_V | exact DE.part_L | exact partOf_all (DT.len _) | exact partOf_all (DE.len _) | exact partOf_all (DV.len _))) ?_
  refine wpOps_ins (rfl) ?_
  refine wpOps_ins (sem_load rfl (H.at 0 rfl) (fun _ => by first | exact partOf_sl rfl | rfl | exact DT.part_E | exact DT.part_S | exact DT.part_L | exact DE.part_V | exact DE.part_L | exact partOf_all (DT.len _) | exact partOf_all (DE.len _) | exact partOf_all (DV.len _))) ?_
  refine wpOps_ins (sem_is (b := false) rfl rfl) ?_
  refine wpOps_nil ?_
  refine wpC_condF rfl ?_
  refine wpC_skip ?_
  refine wpC_seq ?_
  refine wpC_seq ?_
  refine wpC_reg ?_
  refine wpOps_ins (rfl) ?_
  refine wpOps_ins (sem_load rfl (H.at 1 rfl) (fun _ => rfl)) ?_
  refine wpOps_nil ?_
  refine wpC_condT rfl ?_
  refine wpC_seq ?_
  refine wpC_reg ?_
  refine wpOps_ins (rfl) ?_
  refine wpOps_ins (sem_load rfl (H.at 0 rfl) (fun _ => by first | exact partOf_sl rfl | rfl | exact DT.part_E | exact DT.part_S | exact DT.part_L | exact DE.part_V | exact DE.part_L | exact partOf_all (DT.len _) | exact partOf_all (DE.len _) | exact partOf_all (DV.len _))) ?_
  refine wpOps_ins (rfl) ?_
  refine wpOps_ins (sem_load rfl (H.at 1 rfl) (fun _ => by first | exact partOf_sl rfl | rfl | exact DT.part_E | exact DT.part_S | exact DT.part_L | exact DE.part_V | exact DE.part_L | exact partOf_all (DT.len _) | exact partOf_all (DE.len _) | exact partOf_all (DV.len _))) ?_
  refine wp_call rfl (sizes_eq C hlen H) ?_
  rintro _ h ⟨rfl, H⟩
  refine wpOps_ins (rfl) ?_
  refine wpOps_nil ?_
  refine wpC_ret ?_
  refine ⟨trivial, _, rfl, ?_⟩
  exact ⟨rfl, H.tail.tail⟩
theorem compareI_F (C : Code E) {d : List Int} {nl fu : Bool} (hlen : d.length ≤ maxN) {h : Heap} {L : List (Pos × AObj)} (H : Has h L) : CallT E (.func n_compareI [] []) [.agg [.bool false, slAV nl fu d.length (d.flatMap intC)], .agg [.bool false, slAV nl fu d.length (d.flatMap intC)]] h (Z L (.int .i64 0)) := by
  refine CallT.body C.compareI ?_
  unfold BodyT c_compareI
  refine wpC_seq ?_
  refine wpC_reg ?_
  refine wp_box rfl rfl H fun q1 h H => ?_
  refine wp_box rfl rfl H fun q2 h H => ?_
  refine wpOps_ins (rfl) ?_
  refine wpOps_nil ?_
  refine wpC_seq ?_
  refine wpC_seq ?_
  refine wpC_reg ?_
  refine wpOps_ins (rfl) ?_
  refine wpOps_ins (sem_load rfl (H.at 1 rfl) (fun _ => by first | exact partOf_sl rfl | rfl | exact DT.part_E | exact DT.part_S | exact DT.part_L | exact DE.part_V | exact DE.part_L | exact partOf_all (DT.len _) | exact partOf_all (DE.len _) | exact partOf_all (DV.len _))) ?_
  refine wpOps_ins (rfl) ?_
  refine wpOps_ins (sem_load rfl (H.at 0 rfl) (fun _ => by first | exact partOf_sl rfl | rfl | exact DT.part_E | exact DT.part_S | exact DT.part_L | exact DE.part_V | exact DE.part_L | exact partOf_all (DT.len _) | exact partOf_all (DE.len _) | exact partOf_all (DV.len _))) ?_
  refine wpOps_ins (sem_is (b := false) rfl rfl) ?_
  refine wpOps_nil ?_
  refine wpC_condF rfl ?_
  refine wpC_skip ?_
  refine wpC_seq ?_
  refine wpC_seq ?_
  refine wpC_reg ?_
  refine wpOps_ins (rfl) ?_
  refine wpOps_ins (sem_load rfl (H.at 1 rfl) (fun _ => rfl)) ?_
  refine wpOps_nil ?_
  refine wpC_condF rfl ?_
  refine wpC_skip ?_
  refine wpC_seq ?_
  refine wpC_reg ?_
  refine wpOps_ins (rfl) ?_
  refine wpOps_ins (sem_load rfl (H.at 1 rfl) (fun _ => by first | exact partOf_sl rfl | rfl | exact DT.part_E | exact DT.part_S | exact DT.part_L | exact DE.part_V | exact DE.part_L | exact partOf_all (DT.len _) | exact partOf_all (DE.len _) | exact partOf_all (DV.len _))) ?_
  refine wpOps_ins (rfl) ?_
  refine wpOps_ins (sem_load rfl (H.at 0 rfl) (fun _ => by first | exact partOf_sl rfl | rfl | exact DT.part_E | exact DT.part_S | exact DT.part_L | exact DE.part_V | exact DE.part_L | exact partOf_all (DT.len _) | exact partOf_all (DE.len _) | exact partOf_all (DV.len _))) ?_
  refine wp_call rfl (sizes_eq C hlen H) ?_
  rintro _ h ⟨rfl, H⟩
  refine wpOps_ins (rfl) ?_
  refine wpOps_nil ?_
  refine wpC_ret ?_
  refine ⟨trivial, _, rfl, ?_⟩
  exact ⟨rfl, H.tail.tail⟩
theorem compareI_eq (C : Code E) {neg : Bool} {d : List Int} {nl fu : Bool} (hlen : d.length ≤ maxN) {h : Heap} {L : List (Pos × AObj)} (H : Has h L) : CallT E (.func n_compareI [] []) [.agg [.bool neg, slAV nl fu d.length (d.flatMap intC)], .agg [.bool neg, slAV nl fu d.length (d.flatMap intC)]] h (Z L (.int .i64 0)) := by
  cases neg with
  | true => exact compareI_T C hlen H
  | false => exact compareI_F C hlen H
theorem bstr_eq (C : Code E) {s : List Nat} {h : Heap} {L : List (Pos × AObj)} (H : Has h L) : CallT E (.func n_bstr [] []) [.str s, .str s] h (Z L (.int .i64 0)) := by
  refine CallT.body C.bstr ?_
  unfold BodyT c_bstr
  refine wpC_seq ?_
  refine wpC_reg ?_
  refine wpOps_ins (rfl) ?_
  refine wpOps_nil ?_
  refine wpC_seq ?_
  refine wpC_reg ?_
  refine wpOps_ins (rfl) ?_
  refine wpOps_ins (rfl) ?_
  refine wpOps_ins (sem_int rfl (by rw [ltN_refl, beqN_refl])) ?_
  refine wpOps_ins (rfl) ?_
  refine wpOps_nil ?_
  refine wpC_ret ?_
  refine ⟨trivial, _, rfl, ?_⟩
  exact ⟨rfl, H⟩
theorem strCmp_eq (C : Code E) {s : List Nat} {h : Heap} {L : List (Pos × AObj)} (H : Has h L) : CallT E (.func n_strCmp [] []) [.str s, .str s] h (Z L (.int .i64 0)) := by
  refine CallT.body C.strCmp ?_
  unfold BodyT c_strCmp
  refine wpC_seq ?_
  refine wpC_reg ?_
  refine wpOps_ins (rfl) ?_
  refine wpOps_nil ?_
  refine wpC_seq ?_
  refine wpC_reg ?_
  refine wpOps_ins (rfl) ?_
  refine wpOps_ins (rfl) ?_
  refine wp_call rfl (bstr_eq C H) ?_
  rintro _ h ⟨rfl, H⟩
  refine wpOps_ins (rfl) ?_
  refine wpOps_nil ?_
  refine wpC_ret ?_
  refine ⟨trivial, _, rfl, ?_⟩
  exact ⟨rfl, H⟩
def CmpOK (E : XEnv) (t : DV) : Prop := t.ok → ∀ {h : Heap} {L : List (Pos × AObj)}, Has h L → CallT E (.func n_compare [] []) [.agg t.cells, .agg t.cells] h (Z L (.int .i64 0))
def CmpLOK (E : XEnv) (l : List DV) : Prop := (∀ t ∈ l, t.ok) → l.length ≤ maxN → ∀ {nl fu : Bool} {h : Heap} {L : List (Pos × AObj)}, Has h L → CallT E (.func n_compareL [] []) [slAV nl fu l.length (DV.cellsL l), slAV nl fu l.length (DV.cellsL l)] h (Z L (.int .i64 0))
theorem compare_of (C : Code E) {k n : Int} {neg dn df : Bool} {d : List Int} {s : List Nat} {ln lf : Bool} {l : List DV} {mn mf : Bool} {m : List DV} (hl : CmpLOK E l) (hm : CmpLOK E m) : CmpOK E (.mk k n neg dn df d s ln lf l mn mf m) := by
  intro hok h L H
  refine CallT.body C.compare ?_
  unfold BodyT c_compare
  refine wpC_seq ?_
  refine wpC_reg ?_
  refine wp_box rfl rfl H fun q1 h H => ?_
  refine wp_box rfl rfl H fun q2 h H => ?_
  refine wpOps_ins (rfl) ?_
  refine wpOps_nil ?_
  refine wpC_seq ?_
  refine wpC_seq ?_
  refine wpC_reg ?_
  refine wpOps_ins (rfl) ?_
  refine wpOps_ins (sem_load rfl (H.at 1 rfl) (fun _ => by first | exact partOf_sl rfl | rfl | exact DT.part_E | exact DT.part_S | exact DT.part_L | exact DE.part_V | exact DE.part_L | exact partOf_all (DT.len _) | exact partOf_all (DE.len _) | exact partOf_all (DV.len _))) ?_
  refine wpOps_ins (rfl) ?_
  refine wpOps_ins (sem_load rfl (H.at 0 rfl) (fun _ => by first | exact partOf_sl rfl | rfl | exact DT.part_E | exact DT.part_S | exact DT.part_L | exact DE.part_V | exact DE.part_L | exact partOf_all (DT.len _) | exact partOf_all (DE.len _) | exact partOf_all (DV.len _))) ?_
  refine wpOps_ins (sem_is rfl (neI_refl _)) ?_
  refine wpOps_nil ?_
  refine wpC_condF rfl ?_
  refine wpC_skip ?_
  refine wpC_seq ?_
  refine wpC_seq ?_
  refine wpC_reg ?_
  refine wpOps_ins (rfl) ?_
  refine wpOps_ins (sem_load rfl (H.at 1 rfl) (fun _ => by first | exact partOf_sl rfl | rfl | exact DT.part_E | exact DT.part_S | exact DT.part_L | exact DE.part_V | exact DE.part_L | exact partOf_all (DT.len _) | exact partOf_all (DE.len _) | exact partOf_all (DV.len _))) ?_
  refine wpOps_ins (rfl) ?_
  refine wpOps_ins (sem_load rfl (H.at 0 rfl) (fun _ => by first | exact partOf_sl rfl | rfl | exact DT.part_E | exact DT.part_S | exact DT.part_L | exact DE.part_V | exact DE.part_L | exact partOf_all (DT.len _) | exact partOf_all (DE.len _) | exact partOf_all (DV.len _))) ?_
  refine wpOps_ins (sem_is rfl (neI_refl _)) ?_
  refine wpOps_nil ?_
  refine wpC_condF rfl ?_
  refine wpC_skip ?_
  refine wpC_seq ?_
  refine wpC_reg ?_
  refine wpOps_ins (rfl) ?_
  refine wpOps_ins (sem_load rfl (H.at 1 rfl) (fun _ => by first | exact partOf_sl rfl | rfl | exact DT.part_E | exact DT.part_S | exact DT.part_L | exact DE.part_V | exact DE.part_L | exact partOf_all (DT.len _) | exact partOf_all (DE.len _) | exact partOf_all (DV.len _))) ?_
  refine wpOps_ins (rfl) ?_
  refine wpOps_ins (sem_load rfl (H.at 0 rfl) (fun _ => by first | exact partOf_sl rfl | rfl | exact DT.part_E | exact DT.part_S | exact DT.part_L | exact DE.part_V | exact DE.part_L | exact partOf_all (DT.len _) | exact partOf_all (DE.len _) | exact partOf_all (DV.len _))) ?_
  refine wp_call rfl (compareI_eq C hok.1 H) ?_
  rintro _ h ⟨rfl, H⟩
  refine wpOps_ins (rfl) ?_
  refine wpOps_nil ?_
  refine wpC_seq ?_
  refine wpC_seq ?_
  refine wpC_reg ?_
  refine wpOps_ins (rfl) ?_
  refine wpOps_ins (sem_is (b := true) rfl rfl) ?_
  refine wpOps_nil ?_
  refine wpC_condT rfl ?_
  refine wpC_reg ?_
  refine wpOps_ins (rfl) ?_
  refine wpOps_ins (sem_load rfl (H.at 1 rfl) (fun _ => by first | exact partOf_sl rfl | rfl | exact DT.part_E | exact DT.part_S | exact DT.part_L | exact DE.part_V | exact DE.part_L | exact partOf_all (DT.len _) | exact partOf_all (DE.len _) | exact partOf_all (DV.len _))) ?_
  refine wpOps_ins (rfl) ?_
  refine wpOps_ins (sem_load rfl (H.at 0 rfl) (fun _ => by first | exact partOf_sl rfl | rfl | exact DT.part_E | exact DT.part_S | exact DT.part_L | exact DE.part_V | exact DE.part_L | exact partOf_all (DT.len _) | exact partOf_all (DE.len _) | exact partOf_all (DV.len _))) ?_
  refine wp_call rfl (strCmp_eq C H) ?_
  rintro _ h ⟨rfl, H⟩
  refine wpOps_ins (rfl) ?_
  refine wpOps_nil ?_
  refine wpC_seq ?_
  refine wpC_seq ?_
  refine wpC_reg ?_
  refine wpOps_ins (rfl) ?_
  refine wpOps_ins (sem_is (b := true) rfl rfl) ?_
  refine wpOps_nil ?_
  refine wpC_condT rfl ?_
  refine wpC_reg ?_
  refine wpOps_ins (rfl) ?_
  refine wpOps_ins (sem_load rfl (H.at 1 rfl) (fun _ => by first | exact partOf_sl rfl | rfl | exact DT.part_E | exact DT.part_S | exact DT.part_L | exact DE.part_V | exact DE.part_L | exact partOf_all (DT.len _) | exact partOf_all (DE.len _) | exact partOf_all (DV.len _))) ?_
  refine wpOps_ins (rfl) ?_
  refine wpOps_ins (sem_load rfl (H.at 0 rfl) (fun _ => by first | exact partOf_sl rfl | rfl | exact DT.part_E | exact DT.part_S | exact DT.part_L | exact DE.part_V | exact DE.part_L | exact partOf_all (DT.len _) | exact partOf_all (DE.len _) | exact partOf_all (DV.len _))) ?_
  refine wp_call rfl (hl (DV.ok_mem hok.2.2.2.1) hok.2.1 H) ?_
  rintro _ h ⟨rfl, H⟩
  refine wpOps_ins (rfl) ?_
  refine wpOps_nil ?_
  refine wpC_seq ?_
  refine wpC_seq ?_
  refine wpC_reg ?_
  refine wpOps_ins (rfl) ?_
  refine wpOps_ins (sem_is (b := true) rfl rfl) ?_
  refine wpOps_nil ?_
  refine wpC_condT rfl ?_
  refine wpC_reg ?_
  refine wpOps_ins (rfl) ?_
  refine wpOps_ins (sem_load rfl (H.at 1 rfl) (fun _ => by first | exact partOf_sl rfl | rfl | exact DT.part_E | exact DT.part_S | exact DT.part_L | exact DE.part_V | exact DE.part_L | exact partOf_all (DT.len _) | exact partOf_all (DE.len _) | exact partOf_all (DV.len _))) ?_
  refine wpOps_ins (rfl) ?_
  refine wpOps_ins (sem_load rfl (H.at 0 rfl) (fun _ => by first | exact partOf_sl rfl | rfl | exact DT.part_E | exact DT.part_S | exact DT.part_L | exact DE.part_V | exact DE.part_L | exact partOf_all (DT.len _) | exact partOf_all (DE.len _) | exact partOf_all (DV.len _))) ?_
  refine wp_call rfl (hm (DV.ok_mem hok.2.2.2.2) hok.2.2.1 H) ?_
  rintro _ h ⟨rfl, H⟩
  refine wpOps_ins (rfl) ?_
  refine wpOps_nil ?_
  refine wpC_seq ?_
  refine wpC_reg ?_
  refine wpOps_ins (rfl) ?_
  refine wpOps_ins (rfl) ?_
  refine wpOps_nil ?_
  refine wpC_ret ?_
  refine ⟨trivial, _, rfl, ?_⟩
  exact ⟨rfl, H.tail.tail⟩
theorem compareL_loop (C : Code E) {l : List DV} (hall : ∀ t ∈ l, CmpOK E t) (hok : ∀ t ∈ l, t.ok) (hlen : l.length ≤ maxN) {nl fu : Bool} {L : List (Pos × AObj)} {Q : XExit → Tm → Heap → Prop} (hend : ∀ tm h, Has h L → Q (.exit 0) tm h) :
    ∀ (k j : Nat), l.length - j = k → ∀ (tm : Tm) (h : Heap), Has h L → tm.get (.lo .d0 .d0) = some (slAV nl fu l.length (DV.cellsL l)) → tm.get (.lo .d0 .d1) = some (slAV nl fu l.length (DV.cellsL l)) → tm.get (.lo .d0 .d5) = some (.int .i64 (.ofNat j)) → LoopT E c_compareL_b0 Q tm h := by
  intro k
  induction k using Nat.strongRecOn with
  | ind k ih =>
    intro j hk tm h H e0 e1 e5
    obtain ⟨tm, rfl⟩ := sets3 e0 e1 e5
    refine LoopT.wp ?_
    unfold c_compareL_b0
    refine wpC_seq ?_
    refine wpC_seq ?_
    refine wpC_reg ?_
    refine wpOps_ins (rfl) ?_
    refine wpOps_ins (rfl) ?_
    refine wpOps_ins (sem_len rfl) ?_
    refine wp_bool rfl (fun hb1 => ?_) (fun hb1 => ?_)
    · have hj := of_ltN hb1
      refine wpOps_nil ?_
      refine wpC_condT rfl ?_
      refine wpC_skip ?_
      refine wpC_seq ?_
      refine wpC_block ?_
      refine wpC_seq ?_
      refine wpC_phase rfl ?_
      refine wpOps_ins (rfl) ?_
      refine wpOps_ins (rfl) ?_
      refine wpOps_ins (sem_iaddrV rfl rfl hj) ?_
      refine wpOps_ins (sem_loadI rfl (DV.len _)) ?_
      refine wpOps_ins (rfl) ?_
      refine wpOps_ins (rfl) ?_
      refine wpOps_ins (sem_iaddrV rfl rfl hj) ?_
      refine wpOps_ins (sem_loadI rfl (DV.len _)) ?_
      refine wpOps_nil ⟨?_, ?_⟩
      · refine wpK_ins (rfl) rfl rfl ?_
        refine wpK_ins (rfl) rfl rfl ?_
        refine wpK_ins (sem_iaddrV rfl rfl hj) rfl rfl ?_
        refine wpK_ins (sem_loadI rfl (DV.len _)) rfl rfl ?_
        refine wpK_ins (rfl) rfl rfl ?_
        refine wpK_ins (rfl) rfl rfl ?_
        refine wpK_ins (sem_iaddrV rfl rfl hj) rfl rfl ?_
        refine wpK_ins (sem_loadI rfl (DV.len _)) rfl rfl ?_
        exact wpK_nil
      · refine wp_call rfl (hall _ (List.getElem_mem hj) (hok _ (List.getElem_mem hj)) H) ?_
        rintro _ h ⟨rfl, H⟩
        refine wpOps_nil ?_
        refine wpC_last rfl ?_
        refine wpOps_ins (rfl) ?_
        refine wpOps_nil ⟨?_, ?_⟩
        · refine wpK_ins (rfl) rfl rfl ?_
          exact wpK_nil
        · refine wpC_seq ?_
          refine wpC_reg ?_
          refine wpOps_ins (rfl) ?_
          refine wpOps_ins (sem_is (b := false) rfl rfl) ?_
          refine wpOps_nil ?_
          refine wpC_condF rfl ?_
          refine wpC_skip ?_
          refine wpC_reg ?_
          refine wpOps_ins (rfl) ?_
          refine wpOps_ins (sem_int rfl (w64_succ (by unfold maxN at hlen; omega))) ?_
          refine wpOps_ins (rfl) ?_
          refine wpOps_nil ?_
          exact ih (l.length - (j + 1)) (by omega) (j + 1) rfl _ _ H rfl rfl rfl
    · have hj := of_geN hb1
      refine wpOps_nil ?_
      refine wpC_condF rfl ?_
      refine wpC_exit ?_
      exact hend _ _ H
theorem compareL_of (C : Code E) {l : List DV} (hall : ∀ t ∈ l, CmpOK E t) : CmpLOK E l := by
  intro hok hlen nl fu h L H
  refine CallT.body C.compareL ?_
  unfold BodyT c_compareL
  refine wpC_seq ?_
  refine wpC_reg ?_
  refine wpOps_ins (rfl) ?_
  refine wpOps_nil ?_
  refine wpC_seq ?_
  refine wpC_seq ?_
  refine wpC_reg ?_
  refine wpOps_ins (rfl) ?_
  refine wpOps_ins (sem_len rfl) ?_
  refine wpOps_ins (rfl) ?_
  refine wpOps_ins (sem_len rfl) ?_
  refine wpOps_ins (sem_is rfl (neI_refl _)) ?_
  refine wpOps_nil ?_
  refine wpC_condF rfl ?_
  refine wpC_skip ?_
  refine wpC_seq ?_
  refine wpC_seq ?_
  refine wpC_reg ?_
  refine wpOps_ins (rfl) ?_
  refine wpOps_nil ?_
  refine wpC_block ?_
  refine wpC_loop (compareL_loop C hall hok hlen (fun tm h H => ?_) (l.length - 0) 0 rfl _ _ H rfl rfl rfl)
  refine wpC_seq ?_
  refine wpC_reg ?_
  refine wpOps_ins (rfl) ?_
  refine wpOps_nil ?_
  refine wpC_ret ?_
  refine ⟨trivial, _, rfl, ?_⟩
  exact ⟨rfl, H⟩
mutual
theorem compare_ok (C : Code E) : ∀ t : DV, CmpOK E t
  | .mk _ _ _ _ _ _ _ _ _ l _ _ m => compare_of C (compareL_of C (compare_all C l)) (compareL_of C (compare_all C m))
theorem compare_all (C : Code E) : ∀ l : List DV, ∀ t ∈ l, CmpOK E t
  | [], t, h => by simp at h
  | x :: l, t, h => (List.mem_cons.1 h).elim (fun e => e ▸ compare_ok C x) (fun h => compare_all C l t h)
end
theorem sameV_ok (C : Code E) {t : DV} (hok : t.ok) {h : Heap} {L : List (Pos × AObj)} (H : Has h L) : CallT E (.func n_same [] []) [.agg t.cells, .agg t.cells] h (Z L (.bool true)) := by
  refine CallT.body C.same ?_
  unfold BodyT c_same
  refine wpC_seq ?_
  refine wpC_reg ?_
  refine wp_box rfl rfl H fun q1 h H => ?_
  refine wp_box rfl rfl H fun q2 h H => ?_
  refine wpOps_ins (rfl) ?_
  refine wpOps_nil ?_
  refine wpC_seq ?_
  refine wpC_reg ?_
  refine wpOps_ins (sem_load rfl (H.at 1 rfl) (fun _ => by first | exact partOf_sl rfl | rfl | exact DT.part_E | exact DT.part_S | exact DT.part_L | exact DE.part_V | exact DE.part_L | exact partOf_all (DT.len _) | exact partOf_all (DE.len _) | exact partOf_all (DV.len _))) ?_
  refine wpOps_ins (sem_load rfl (H.at 0 rfl) (fun _ => by first | exact partOf_sl rfl | rfl | exact DT.part_E | exact DT.part_S | exact DT.part_L | exact DE.part_V | exact DE.part_L | exact partOf_all (DT.len _) | exact partOf_all (DE.len _) | exact partOf_all (DV.len _))) ?_
  refine wp_call rfl (compare_ok C t hok H) ?_
  rintro _ h ⟨rfl, H⟩
  refine wpOps_ins (sem_is (b := true) rfl rfl) ?_
  refine wpOps_ins (rfl) ?_
  refine wpOps_nil ?_
  refine wpC_ret ?_
  refine ⟨trivial, _, rfl, ?_⟩
  exact ⟨rfl, H.tail.tail⟩
theorem equalS_loop (C : Code E) {l : List (List Nat)} (hlen : l.length ≤ maxN) {nl fu : Bool} {L : List (Pos × AObj)} {Q : XExit → Tm → Heap → Prop} (hend : ∀ tm h, Has h L → Q (.exit 0) tm h) :
    ∀ (k j : Nat), l.length - j = k → ∀ (tm : Tm) (h : Heap), Has h L → tm.get (.lo .d0 .d0) = some (slAV nl fu l.length (l.flatMap strC)) → tm.get (.lo .d0 .d1) = some (slAV nl fu l.length (l.flatMap strC)) → tm.get (.lo .d0 .d12) = some (.int .i64 (.ofNat l.length)) → tm.get (.lo .d0 .d13) = some (.int .i64 (.ofNat j)) → LoopT E c_equalS_b0 Q tm h := by
  intro k
  induction k using Nat.strongRecOn with
  | ind k ih =>
    intro j hk tm h H e0 e1 e12 e13
    obtain ⟨tm, rfl⟩ := sets4 e0 e1 e12 e13
    refine LoopT.wp ?_
    unfold c_equalS_b0
    refine wpC_seq ?_
    refine wpC_reg ?_
    refine wp_bool rfl (fun hb1 => ?_) (fun hb1 => ?_)
    · have hj := of_ltN hb1
      refine wpOps_nil ?_
      refine wpC_seq ?_
      refine wpC_condT rfl ?_
      refine wpC_skip ?_
      refine wpC_seq ?_
      refine wpC_block ?_
      refine wpC_seq ?_
      refine wpC_reg ?_
      refine wpOps_ins (rfl) ?_
      refine wpOps_ins (rfl) ?_
      refine wpOps_nil ?_
      refine wpC_seq ?_
      refine wpC_last rfl ?_
      refine wpOps_ins (rfl) ?_
      refine wpOps_ins (rfl) ?_
      refine wpOps_ins (sem_iaddrF len_strC (by omega) rfl rfl rfl hj) ?_
      refine wpOps_ins (rfl) ?_
      refine wpOps_ins (rfl) ?_
      refine wpOps_ins (rfl) ?_
      refine wpOps_ins (sem_iaddrF len_strC (by omega) rfl rfl rfl hj) ?_
      refine wpOps_ins (rfl) ?_
      refine wpOps_ins (sem_is rfl (by rw [beqN_refl])) ?_
      refine wpOps_nil ⟨?_, ?_⟩
      · refine wpK_ins (rfl) rfl rfl ?_
        refine wpK_ins (rfl) rfl rfl ?_
        refine wpK_ins (sem_iaddrF len_strC (by omega) rfl rfl rfl hj) rfl rfl ?_
        refine wpK_ins (rfl) rfl rfl ?_
        refine wpK_ins (rfl) rfl rfl ?_
        refine wpK_ins (rfl) rfl rfl ?_
        refine wpK_ins (sem_iaddrF len_strC (by omega) rfl rfl rfl hj) rfl rfl ?_
        refine wpK_ins (rfl) rfl rfl ?_
        refine wpK_ins (sem_is rfl (by rw [beqN_refl])) rfl rfl ?_
        exact wpK_nil
      · refine wpC_condF rfl ?_
        refine wpC_skip ?_
        refine wpC_reg ?_
        refine wpOps_ins (sem_int rfl (w64_succ (by unfold maxN at hlen; omega))) ?_
        refine wpOps_ins (rfl) ?_
        refine wpOps_nil ?_
        exact ih (l.length - (j + 1)) (by omega) (j + 1) rfl _ _ H rfl rfl rfl rfl
    · have hj := of_geN hb1
      refine wpOps_nil ?_
      refine wpC_seq ?_
      refine wpC_condF rfl ?_
      refine wpC_exit ?_
      exact hend _ _ H
theorem equalS_ok (C : Code E) {l : List (List Nat)} (hlen : l.length ≤ maxN) {nl fu : Bool} {h : Heap} {L : List (Pos × AObj)} (H : Has h L) : CallT E (.func n_equalS [] []) [slAV nl fu l.length (l.flatMap strC), slAV nl fu l.length (l.flatMap strC)] h (Z L (.bool true)) := by
  refine CallT.body C.equalS ?_
  unfold BodyT c_equalS
  refine wpC_seq ?_
  refine wpC_reg ?_
  refine wpOps_ins (rfl) ?_
  refine wpOps_nil ?_
  refine wpC_seq ?_
  refine wpC_seq ?_
  refine wpC_reg ?_
  refine wpOps_ins (rfl) ?_
  refine wpOps_ins (sem_len rfl) ?_
  refine wpOps_ins (rfl) ?_
  refine wpOps_ins (sem_len rfl) ?_
  refine wpOps_ins (sem_is rfl (neI_refl _)) ?_
  refine wpOps_nil ?_
  refine wpC_condF rfl ?_
  refine wpC_skip ?_
  refine wpC_seq ?_
  refine wpC_seq ?_
  refine wpC_reg ?_
  refine wpOps_ins (rfl) ?_
  refine wpOps_ins (sem_len rfl) ?_
  refine wpOps_ins (rfl) ?_
  refine wpOps_nil ?_
  refine wpC_block ?_
  refine wpC_loop (equalS_loop C hlen (fun tm h H => ?_) (l.length - 0) 0 rfl _ _ H rfl rfl rfl rfl)
  refine wpC_seq ?_
  refine wpC_reg ?_
  refine wpOps_ins (rfl) ?_
  refine wpOps_nil ?_
  refine wpC_ret ?_
  refine ⟨trivial, _, rfl, ?_⟩
  exact ⟨rfl, H⟩
def SameEOK (E : XEnv) (t : DE) : Prop := t.ok → ∀ {h : Heap} {L : List (Pos × AObj)}, Has h L → CallT E (.func n_sameE [] []) [.agg t.cells, .agg t.cells] h (Z L (.bool true))
abbrev tyExpr : TypeId := 31
theorem sameE_loop (C : Code E) {k0 n0 : Int} {sn sf : Bool} {s : List (List Nat)} {v : DV} {nl fu : Bool} {l : List DE} (hall : ∀ t ∈ l, SameEOK E t) (hok : ∀ t ∈ l, t.ok) (hlen : l.length ≤ maxN) {q1 q2 : Pos} {L : List (Pos × AObj)} {Q : XExit → Tm → Heap → Prop} (hend : ∀ tm h, Has h ((q2, .row tyExpr (DE.mk k0 n0 sn sf s v nl fu l).cells false) :: (q1, .row tyExpr (DE.mk k0 n0 sn sf s v nl fu l).cells false) :: L) → Q (.exit 0) tm h) :
    ∀ (k j : Nat), l.length - j = k → ∀ (tm : Tm) (h : Heap), Has h ((q2, .row tyExpr (DE.mk k0 n0 sn sf s v nl fu l).cells false) :: (q1, .row tyExpr (DE.mk k0 n0 sn sf s v nl fu l).cells false) :: L) → tm.get (.lo .d0 .d2) = some (.ptr q1 0) → tm.get (.lo .d0 .d3) = some (.ptr q2 0) → tm.get (.lo .d0 .d5) = some (.int .i64 (.ofNat j)) → LoopT E c_sameE_b0 Q tm h := by
  intro k
  induction k using Nat.strongRecOn with
  | ind k ih =>
    intro j hk tm h H e2 e3 e5
    obtain ⟨tm, rfl⟩ := sets3 e2 e3 e5
    refine LoopT.wp ?_
    unfold c_sameE_b0
    refine wpC_seq ?_
    refine wpC_seq ?_
    refine wpC_reg ?_
    refine wpOps_ins (rfl) ?_
    refine wpOps_ins (rfl) ?_
    refine wpOps_ins (sem_load rfl (H.at 1 rfl) (fun _ => by first | exact partOf_sl rfl | rfl | exact DT.part_E | exact DT.part_S | exact DT.part_L | exact DE.part_V | exact DE.part_L | exact partOf_all (DT.len _) | exact partOf_all (DE.len _) | exact partOf_all (DV.len _))) ?_
    refine wpOps_ins (sem_len rfl) ?_
    refine wp_bool rfl (fun hb1 => ?_) (fun hb1 => ?_)
    · have hj := of_ltN hb1
      refine wpOps_nil ?_
      refine wpC_condT rfl ?_
      refine wpC_skip ?_
      refine wpC_seq ?_
      refine wpC_block ?_
      refine wpC_seq ?_
      refine wpC_phase rfl ?_
      refine wpOps_ins (rfl) ?_
      refine wpOps_ins (sem_load rfl (H.at 1 rfl) (fun _ => by first | exact partOf_sl rfl | rfl | exact DT.part_E | exact DT.part_S | exact DT.part_L | exact DE.part_V | exact DE.part_L | exact partOf_all (DT.len _) | exact partOf_all (DE.len _) | exact partOf_all (DV.len _))) ?_
      refine wpOps_ins (rfl) ?_
      refine wpOps_ins (sem_iaddrE rfl rfl hj) ?_
      refine wpOps_ins (sem_loadI rfl (DE.len _)) ?_
      refine wpOps_ins (rfl) ?_
      refine wpOps_ins (sem_load rfl (H.at 0 rfl) (fun _ => by first | exact partOf_sl rfl | rfl | exact DT.part_E | exact DT.part_S | exact DT.part_L | exact DE.part_V | exact DE.part_L | exact partOf_all (DT.len _) | exact partOf_all (DE.len _) | exact partOf_all (DV.len _))) ?_
      refine wpOps_ins (rfl) ?_
      refine wpOps_ins (sem_iaddrE rfl rfl hj) ?_
      refine wpOps_ins (sem_loadI rfl (DE.len _)) ?_
      refine wpOps_nil ⟨?_, ?_⟩
      · refine wpK_ins (rfl) rfl rfl ?_
        refine wpK_ins (sem_load rfl (H.at 1 rfl) (fun _ => by first | exact partOf_sl rfl | rfl | exact DT.part_E | exact DT.part_S | exact DT.part_L | exact DE.part_V | exact DE.part_L | exact partOf_all (DT.len _) | exact partOf_all (DE.len _) | exact partOf_all (DV.len _))) rfl rfl ?_
        refine wpK_ins (rfl) rfl rfl ?_
        refine wpK_ins (sem_iaddrE rfl rfl hj) rfl rfl ?_
        refine wpK_ins (sem_loadI rfl (DE.len _)) rfl rfl ?_
        refine wpK_ins (rfl) rfl rfl ?_
        refine wpK_ins (sem_load rfl (H.at 0 rfl) (fun _ => by first | exact partOf_sl rfl | rfl | exact DT.part_E | exact DT.part_S | exact DT.part_L | exact DE.part_V | exact DE.part_L | exact partOf_all (DT.len _) | exact partOf_all (DE.len _) | exact partOf_all (DV.len _))) rfl rfl ?_
        refine wpK_ins (rfl) rfl rfl ?_
        refine wpK_ins (sem_iaddrE rfl rfl hj) rfl rfl ?_
        refine wpK_ins (sem_loadI rfl (DE.len _)) rfl rfl ?_
        exact wpK_nil
      · refine wp_call rfl (hall _ (List.getElem_mem hj) (hok _ (List.getElem_mem hj)) H) ?_
        rintro _ h ⟨rfl, H⟩
        refine wpOps_nil ?_
        refine wpC_last rfl ?_
        refine wpOps_ins (rfl) ?_
        refine wpOps_nil ⟨?_, ?_⟩
        · refine wpK_ins (rfl) rfl rfl ?_
          exact wpK_nil
        · refine wpC_condF rfl ?_
          refine wpC_skip ?_
          refine wpC_reg ?_
          refine wpOps_ins (rfl) ?_
          refine wpOps_ins (sem_int rfl (w64_succ (by unfold maxN at hlen; omega))) ?_
          refine wpOps_ins (rfl) ?_
          refine wpOps_nil ?_
          exact ih (l.length - (j + 1)) (by omega) (j + 1) rfl _ _ H rfl rfl rfl
    · have hj := of_geN hb1
      refine wpOps_nil ?_
      refine wpC_condF rfl ?_
      refine wpC_exit ?_
      exact hend _ _ H
theorem sameE_of (C : Code E) {k0 n0 : Int} {sn sf : Bool} {s : List (List Nat)} {v : DV} {nl fu : Bool} {l : List DE} (hall : ∀ t ∈ l, SameEOK E t) : SameEOK E (.mk k0 n0 sn sf s v nl fu l) := by
  intro hok h L H
  refine CallT.body C.sameE ?_
  unfold BodyT c_sameE
  refine wpC_seq ?_
  refine wpC_reg ?_
  refine wp_box rfl rfl H fun q1 h H => ?_
  refine wp_box rfl rfl H fun q2 h H => ?_
  refine wpOps_ins (rfl) ?_
  refine wpOps_nil ?_
  refine wpC_seq ?_
  refine wpC_seq ?_
  refine wpC_reg ?_
  refine wpOps_ins (rfl) ?_
  refine wpOps_ins (sem_load rfl (H.at 1 rfl) (fun _ => by first | exact partOf_sl rfl | rfl | exact DT.part_E | exact DT.part_S | exact DT.part_L | exact DE.part_V | exact DE.part_L | exact partOf_all (DT.len _) | exact partOf_all (DE.len _) | exact partOf_all (DV.len _))) ?_
  refine wpOps_ins (rfl) ?_
  refine wpOps_ins (sem_load rfl (H.at 0 rfl) (fun _ => by first | exact partOf_sl rfl | rfl | exact DT.part_E | exact DT.part_S | exact DT.part_L | exact DE.part_V | exact DE.part_L | exact partOf_all (DT.len _) | exact partOf_all (DE.len _) | exact partOf_all (DV.len _))) ?_
  refine wpOps_ins (sem_is rfl (neI_refl _)) ?_
  refine wpOps_ins (rfl) ?_
  refine wpOps_on rfl ?_
  refine wpOps_ins (rfl) ?_
  refine wpOps_on rfl ?_
  refine wpOps_ins (sem_load rfl (H.at 1 rfl) (fun _ => by first | exact partOf_sl rfl | rfl | exact DT.part_E | exact DT.part_S | exact DT.part_L | exact DE.part_V | exact DE.part_L | exact partOf_all (DT.len _) | exact partOf_all (DE.len _) | exact partOf_all (DV.len _))) ?_
  refine wpOps_on rfl ?_
  refine wpOps_ins (rfl) ?_
  refine wpOps_on rfl ?_
  refine wpOps_ins (sem_load rfl (H.at 0 rfl) (fun _ => by first | exact partOf_sl rfl | rfl | exact DT.part_E | exact DT.part_S | exact DT.part_L | exact DE.part_V | exact DE.part_L | exact partOf_all (DT.len _) | exact partOf_all (DE.len _) | exact partOf_all (DV.len _))) ?_
  refine wpOps_on rfl ?_
  refine wpOps_ins (sem_is rfl (neI_refl _)) ?_
  refine wpOps_ins (rfl) ?_
  refine wpOps_ins (rfl) ?_
  refine wpOps_on rfl ?_
  refine wpOps_ins (rfl) ?_
  refine wpOps_on rfl ?_
  refine wpOps_ins (sem_load rfl (H.at 1 rfl) (fun _ => by first | exact partOf_sl rfl | rfl | exact DT.part_E | exact DT.part_S | exact DT.part_L | exact DE.part_V | exact DE.part_L | exact partOf_all (DT.len _) | exact partOf_all (DE.len _) | exact partOf_all (DV.len _))) ?_
  refine wpOps_on rfl ?_
  refine wpOps_ins (rfl) ?_
  refine wpOps_on rfl ?_
  refine wpOps_ins (sem_load rfl (H.at 0 rfl) (fun _ => by first | exact partOf_sl rfl | rfl | exact DT.part_E | exact DT.part_S | exact DT.part_L | exact DE.part_V | exact DE.part_L | exact partOf_all (DT.len _) | exact partOf_all (DE.len _) | exact partOf_all (DV.len _))) ?_
  refine wpOps_on rfl ?_
  refine wp_call rfl (equalS_ok C hok.1 H) ?_
  rintro _ h ⟨rfl, H⟩
  refine wpOps_on rfl ?_
  refine wpOps_ins (rfl) ?_
  refine wpOps_ins (rfl) ?_
  refine wpOps_ins (rfl) ?_
  refine wpOps_on rfl ?_
  refine wpOps_ins (rfl) ?_
  refine wpOps_on rfl ?_
  refine wpOps_ins (sem_load rfl (H.at 1 rfl) (fun _ => by first | exact partOf_sl rfl | rfl | exact DT.part_E | exact DT.part_S | exact DT.part_L | exact DE.part_V | exact DE.part_L | exact partOf_all (DT.len _) | exact partOf_all (DE.len _) | exact partOf_all (DV.len _))) ?_
  refine wpOps_on rfl ?_
  refine wpOps_ins (rfl) ?_
  refine wpOps_on rfl ?_
  refine wpOps_ins (sem_load rfl (H.at 0 rfl) (fun _ => by first | exact partOf_sl rfl | rfl | exact DT.part_E | exact DT.part_S | exact DT.part_L | exact DE.part_V | exact DE.part_L | exact partOf_all (DT.len _) | exact partOf_all (DE.len _) | exact partOf_all (DV.len _))) ?_
  refine wpOps_on rfl ?_
  refine wp_call rfl (sameV_ok C hok.2.1 H) ?_
  rintro _ h ⟨rfl, H⟩
  refine wpOps_on rfl ?_
  refine wpOps_ins (rfl) ?_
  refine wpOps_ins (rfl) ?_
  refine wpOps_ins (rfl) ?_
  refine wpOps_on rfl ?_
  refine wpOps_ins (rfl) ?_
  refine wpOps_on rfl ?_
  refine wpOps_ins (sem_load rfl (H.at 1 rfl) (fun _ => by first | exact partOf_sl rfl | rfl | exact DT.part_E | exact DT.part_S | exact DT.part_L | exact DE.part_V | exact DE.part_L | exact partOf_all (DT.len _) | exact partOf_all (DE.len _) | exact partOf_all (DV.len _))) ?_
  refine wpOps_on rfl ?_
  refine wpOps_ins (sem_len rfl) ?_
  refine wpOps_on rfl ?_
  refine wpOps_ins (rfl) ?_
  refine wpOps_on rfl ?_
  refine wpOps_ins (sem_load rfl (H.at 0 rfl) (fun _ => by first | exact partOf_sl rfl | rfl | exact DT.part_E | exact DT.part_S | exact DT.part_L | exact DE.part_V | exact DE.part_L | exact partOf_all (DT.len _) | exact partOf_all (DE.len _) | exact partOf_all (DV.len _))) ?_
  refine wpOps_on rfl ?_
  refine wpOps_ins (sem_len rfl) ?_
  refine wpOps_on rfl ?_
  refine wpOps_ins (sem_is rfl (neI_refl _)) ?_
  refine wpOps_ins (rfl) ?_
  refine wpOps_nil ?_
  refine wpC_condF rfl ?_
  refine wpC_skip ?_
  refine wpC_seq ?_
  refine wpC_seq ?_
  refine wpC_reg ?_
  refine wpOps_ins (rfl) ?_
  refine wpOps_nil ?_
  refine wpC_block ?_
  refine wpC_loop (sameE_loop C hall (DE.ok_mem hok.2.2.2) hok.2.2.1 (fun tm h H => ?_) (l.length - 0) 0 rfl _ _ H rfl rfl rfl)
  refine wpC_seq ?_
  refine wpC_reg ?_
  refine wpOps_ins (rfl) ?_
  refine wpOps_nil ?_
  refine wpC_ret ?_
  refine ⟨trivial, _, rfl, ?_⟩
  exact ⟨rfl, H.tail.tail⟩
mutual
theorem sameE_ok (C : Code E) : ∀ t : DE, SameEOK E t
  | .mk _ _ _ _ _ _ _ _ l => sameE_of C (sameE_all C l)
theorem sameE_all (C : Code E) : ∀ l : List DE, ∀ t ∈ l, SameEOK E t
  | [], t, h => by simp at h
  | x :: l, t, h => (List.mem_cons.1 h).elim (fun e => e ▸ sameE_ok C x) (fun h => sameE_all C l t h)
end
end
end Go.X
