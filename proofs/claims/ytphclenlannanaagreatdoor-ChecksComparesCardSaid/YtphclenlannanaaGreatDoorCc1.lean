/- Comparing numbers, strings, integers, values: what the functions come to. -/
import Derived.Test.YtphclenlannanaaGreatDoorCcCode
namespace Go.X
open Go
section
variable {E : XEnv}
def Z (L : List (Pos × AObj)) (v : AV) : AV → Heap → Prop := fun r h => r = v ∧ Has h L
def dn : Nat → Int
  | 0 => -1
  | m + 1 => .ofNat m
theorem w64_pred {m : Nat} (h : m ≤ maxN) : wrapF .i64 (.ofNat m - 1) = dn m := by
  unfold maxN at h
  have e : Int.ofNat m = (m : Int) := ofNat_cast m
  rw [w64 (by omega) (by omega)]
  cases m with
  | zero => rfl
  | succ m => show Int.ofNat (m + 1) - 1 = Int.ofNat m; rw [ofNat_cast, ofNat_cast]; omega
theorem len_intC (x : Int) : (intC x).length = 1 := rfl
theorem sem_iaddrH {tm : Tm} {h : Heap} {esz len o j : Nat} {q : Pos} {cap : Cap} {k : IntKind} {x i : XO} (hv : x.val tm = some (.slice q o len cap)) (hi : i.val tm = some (.int k (.ofNat j))) (hlt : j < len) : (XI.iaddrS esz x i).sem tm h = .ok (.ptr q (o + j * esz)) h := by
  have hb : Nat.blt j len = true := blt_of hlt
  simp only [XI.sem, iaddrSS, withO_run hv, XO.withN, XO.withI, withO_run hi, hb]
theorem part_int {l : List Int} {j : Nat} (hj : j < l.length) {h : Heap} : partOf (l.map (AV.int .i64)) (0 + j * 1) none h = .ok (.int .i64 l[j]) h := by
  have : nth (l.map (AV.int .i64)) (0 + j * 1) = some (.int .i64 l[j]) := by
    rw [Nat.zero_add, Nat.mul_one]
    induction l generalizing j with
    | nil => simp at hj
    | cons a l ih => cases j with
      | zero => rfl
      | succ j => exact ih (by simpa using hj)
  simp only [partOf, this]
theorem wpK_bslice {d : Slot} {l : List XOp} {tm : Tm} {h : Heap} {ty : TypeId} {esz len : Nat} {zeros cs : List AV} {parts : List (Nat × Nat × XO)} {q : Pos} (hf : ∀ k : List AV → Out AV, fillK .bad parts tm zeros k = k cs) (hg : tm.get d = some (.slice q 0 len (.ex len))) (hq : h.get q = .row ty cs false) (hl : wpK l tm h) :
    wpK (⟨some d, none, .ins (.bslice ty esz len zeros parts)⟩ :: l) tm h := by
  refine ⟨fun k => ?_, hl⟩
  have hs : (XI.bslice ty esz len zeros parts).sem tm h = .ok (.slice h.next 0 len (.ex len)) (h.push (.row ty cs false)) := by simp only [XI.sem, bsliceS, hf, Heap.pushK]
  have e1 : chkF ⟨some d, none, .ins (.bslice ty esz len zeros parts)⟩ tm h k = semF (.bslice ty esz len zeros parts) tm h fun v h' => getF tm d fun v' => sameNew v h' v' h k := rfl
  rw [e1, semF_eq, hs, viaOut_ok, getF_eq, hg, optR_some]
  have e2 : sameNew (.slice h.next 0 len (.ex len)) (h.push (.row ty cs false)) (.slice q 0 len (.ex len)) h k = (match beqMod (.slice h.next 0 len (.ex len)) (.slice q 0 len (.ex len)) with | true => yes? (beqObj ((h.push (.row ty cs false)).get h.next) (h.get q)) k .bad | false => .bad) := by
    unfold sameNew AV.pos
    cases beqMod (.slice h.next 0 len (.ex len)) (.slice q 0 len (.ex len)) <;> rfl
  have e3 : beqMod (.slice h.next 0 len (.ex len)) (.slice q 0 len (.ex len)) = true := by simp [beqMod, beqCap]
  have e4 : beqObj (.row ty cs false) (.row ty cs false) = true := by simp [beqObj, AV.beqs_refl, beqB]
  rw [e2, e3, Heap.get_push_same, hq, e4]
  rfl
theorem nanI_ok (C : Code E) {a : Int} {h : Heap} {L : List (Pos × AObj)} (H : Has h L) : CallT E (.func n_nanI [] []) [.int .i64 a] h (Z L (.bool false)) := by
  refine CallT.body C.nanI ?_
  unfold BodyT c_nanI
  refine wpC_seq (wpC_reg ?_)
  refine wpOps_ins rfl ?_
  refine wpOps_nil ?_
  refine wpC_seq (wpC_reg ?_)
  refine wpOps_ins rfl ?_
  refine wpOps_ins rfl ?_
  refine wpOps_ins (sem_is rfl (neI_refl _)) ?_
  refine wpOps_ins rfl ?_
  refine wpOps_nil ?_
  refine wpC_ret ?_
  refine ⟨trivial, _, rfl, ?_⟩
  exact ⟨rfl, H⟩
theorem nanS_ok (C : Code E) {a : List Nat} {h : Heap} {L : List (Pos × AObj)} (H : Has h L) : CallT E (.func n_nanS [] []) [.str a] h (Z L (.bool false)) := by
  refine CallT.body C.nanS ?_
  unfold BodyT c_nanS
  refine wpC_seq (wpC_reg ?_)
  refine wpOps_ins rfl ?_
  refine wpOps_nil ?_
  refine wpC_seq (wpC_reg ?_)
  refine wpOps_ins rfl ?_
  refine wpOps_ins rfl ?_
  refine wpOps_ins (sem_is rfl (by rw [beqN_refl])) ?_
  refine wpOps_ins rfl ?_
  refine wpOps_nil ?_
  refine wpC_ret ?_
  refine ⟨trivial, _, rfl, ?_⟩
  exact ⟨rfl, H⟩
theorem cmpI_ok (C : Code E) {a b : Int} {h : Heap} {L : List (Pos × AObj)} (H : Has h L) : CallT E (.func n_cmpI [] []) [.int .i64 a, .int .i64 b] h (Z L (.int .i64 (cmpI a b))) := by
  refine CallT.body C.cmpI ?_
  unfold BodyT c_cmpI
  refine wpC_seq (wpC_reg ?_)
  refine wpOps_ins rfl ?_
  refine wpOps_nil ?_
  refine wpC_seq (wpC_reg ?_)
  refine wpOps_ins rfl ?_
  refine wp_call rfl (nanI_ok C H) ?_
  rintro _ h ⟨rfl, H⟩
  refine wpOps_ins rfl ?_
  refine wpOps_nil ?_
  refine wpC_seq (wpC_reg ?_)
  refine wpOps_ins rfl ?_
  refine wp_call rfl (nanI_ok C H) ?_
  rintro _ h ⟨rfl, H⟩
  refine wpOps_ins rfl ?_
  refine wpOps_nil ?_
  refine wpC_seq ?_
  refine wpC_seq (wpC_reg ?_)
  refine wpOps_ins rfl ?_
  refine wpOps_nil ?_
  refine wpC_condF rfl ?_
  refine wpC_skip ?_
  refine wpC_seq ?_
  refine wpC_seq (wpC_reg ?_)
  refine wpOps_ins rfl ?_
  refine wpOps_nil ?_
  refine wpC_condF rfl ?_
  refine wpC_skip ?_
  refine wpC_seq ?_
  refine wpC_seq (wpC_reg ?_)
  refine wpOps_ins rfl ?_
  refine wpOps_ins rfl ?_
  refine wp_bool rfl (fun hb1 => ?_) (fun hb1 => ?_)
  · have h1 := ltI_lt hb1
    refine wpOps_nil ?_
    refine wpC_condT rfl ?_
    refine wpC_seq (wpC_reg ?_)
    refine wpOps_ins rfl ?_
    refine wpOps_nil ?_
    refine wpC_ret ?_
    refine ⟨trivial, _, rfl, ?_⟩
    exact ⟨congrArg (AV.int .i64) (cmpI_lt h1), H⟩
  · have h1 := ltI_ge hb1
    refine wpOps_nil ?_
    refine wpC_condF rfl ?_
    refine wpC_skip ?_
    refine wpC_seq ?_
    refine wpC_seq (wpC_reg ?_)
    refine wpOps_ins rfl ?_
    refine wpOps_ins rfl ?_
    refine wp_bool rfl (fun hb2 => ?_) (fun hb2 => ?_)
    · have h2 := ltI_lt hb2
      refine wpOps_nil ?_
      refine wpC_condT rfl ?_
      refine wpC_seq (wpC_reg ?_)
      refine wpOps_ins rfl ?_
      refine wpOps_nil ?_
      refine wpC_ret ?_
      refine ⟨trivial, _, rfl, ?_⟩
      exact ⟨congrArg (AV.int .i64) (cmpI_gt h2), H⟩
    · have h2 := ltI_ge hb2
      refine wpOps_nil ?_
      refine wpC_condF rfl ?_
      refine wpC_skip ?_
      refine wpC_seq (wpC_reg ?_)
      refine wpOps_ins rfl ?_
      refine wpOps_nil ?_
      refine wpC_ret ?_
      refine ⟨trivial, _, rfl, ?_⟩
      exact ⟨congrArg (AV.int .i64) (cmpI_0 h1 h2), H⟩
theorem cmpS_ok (C : Code E) {a b : List Nat} {h : Heap} {L : List (Pos × AObj)} (H : Has h L) : CallT E (.func n_cmpS [] []) [.str a, .str b] h (Z L (.int .i64 (cmpS a b))) := by
  refine CallT.body C.cmpS ?_
  unfold BodyT c_cmpS
  refine wpC_seq (wpC_reg ?_)
  refine wpOps_ins rfl ?_
  refine wpOps_nil ?_
  refine wpC_seq (wpC_reg ?_)
  refine wpOps_ins rfl ?_
  refine wp_call rfl (nanS_ok C H) ?_
  rintro _ h ⟨rfl, H⟩
  refine wpOps_ins rfl ?_
  refine wpOps_nil ?_
  refine wpC_seq (wpC_reg ?_)
  refine wpOps_ins rfl ?_
  refine wp_call rfl (nanS_ok C H) ?_
  rintro _ h ⟨rfl, H⟩
  refine wpOps_ins rfl ?_
  refine wpOps_nil ?_
  refine wpC_seq ?_
  refine wpC_seq (wpC_reg ?_)
  refine wpOps_ins rfl ?_
  refine wpOps_nil ?_
  refine wpC_condF rfl ?_
  refine wpC_skip ?_
  refine wpC_seq ?_
  refine wpC_seq (wpC_reg ?_)
  refine wpOps_ins rfl ?_
  refine wpOps_nil ?_
  refine wpC_condF rfl ?_
  refine wpC_skip ?_
  refine wpC_seq ?_
  refine wpC_seq (wpC_reg ?_)
  refine wpOps_ins rfl ?_
  refine wpOps_ins rfl ?_
  refine wp_bool rfl (fun hb1 => ?_) (fun hb1 => ?_)
  · refine wpOps_nil ?_
    refine wpC_condT rfl ?_
    refine wpC_seq (wpC_reg ?_)
    refine wpOps_ins rfl ?_
    refine wpOps_nil ?_
    refine wpC_ret ?_
    refine ⟨trivial, _, rfl, ?_⟩
    exact ⟨congrArg (AV.int .i64) (by simp [cmpS, hb1]), H⟩
  · refine wpOps_nil ?_
    refine wpC_condF rfl ?_
    refine wpC_skip ?_
    refine wpC_seq ?_
    refine wpC_seq (wpC_reg ?_)
    refine wpOps_ins rfl ?_
    refine wpOps_ins rfl ?_
    refine wp_bool rfl (fun hb2 => ?_) (fun hb2 => ?_)
    · refine wpOps_nil ?_
      refine wpC_condT rfl ?_
      refine wpC_seq (wpC_reg ?_)
      refine wpOps_ins rfl ?_
      refine wpOps_nil ?_
      refine wpC_ret ?_
      refine ⟨trivial, _, rfl, ?_⟩
      exact ⟨congrArg (AV.int .i64) (by simp only [hb1] at hb2; cases hq : beqN a b <;> simp_all [cmpS]), H⟩
    · refine wpOps_nil ?_
      refine wpC_condF rfl ?_
      refine wpC_skip ?_
      refine wpC_seq (wpC_reg ?_)
      refine wpOps_ins rfl ?_
      refine wpOps_nil ?_
      refine wpC_ret ?_
      refine ⟨trivial, _, rfl, ?_⟩
      exact ⟨congrArg (AV.int .i64) (by simp only [hb1] at hb2; cases hq : beqN a b <;> simp_all [cmpS]), H⟩
theorem sign_ok (C : Code E) {a b : Int} {h : Heap} {L : List (Pos × AObj)} (H : Has h L) : CallT E (.func n_sign [] []) [.int .i64 a, .int .i64 b] h (Z L (.int .i64 (cmpI a b))) := by
  refine CallT.body C.sign ?_
  unfold BodyT c_sign
  refine wpC_seq (wpC_reg ?_)
  refine wpOps_ins rfl ?_
  refine wpOps_nil ?_
  refine wpC_seq ?_
  refine wpC_seq (wpC_reg ?_)
  refine wpOps_ins rfl ?_
  refine wpOps_ins rfl ?_
  refine wp_bool rfl (fun hb1 => ?_) (fun hb1 => ?_)
  · have h1 := ltI_lt hb1
    refine wpOps_nil ?_
    refine wpC_condT rfl ?_
    refine wpC_seq (wpC_reg ?_)
    refine wpOps_ins rfl ?_
    refine wpOps_nil ?_
    refine wpC_ret ?_
    refine ⟨trivial, _, rfl, ?_⟩
    exact ⟨congrArg (AV.int .i64) (cmpI_lt h1), H⟩
  · have h1 := ltI_ge hb1
    refine wpOps_nil ?_
    refine wpC_condF rfl ?_
    refine wpC_skip ?_
    refine wpC_seq ?_
    refine wpC_seq (wpC_reg ?_)
    refine wpOps_ins rfl ?_
    refine wpOps_ins rfl ?_
    refine wp_bool rfl (fun hb2 => ?_) (fun hb2 => ?_)
    · have h2 := ltI_lt hb2
      refine wpOps_nil ?_
      refine wpC_condT rfl ?_
      refine wpC_seq (wpC_reg ?_)
      refine wpOps_ins rfl ?_
      refine wpOps_nil ?_
      refine wpC_ret ?_
      refine ⟨trivial, _, rfl, ?_⟩
      exact ⟨congrArg (AV.int .i64) (cmpI_gt h2), H⟩
    · have h2 := ltI_ge hb2
      refine wpOps_nil ?_
      refine wpC_condF rfl ?_
      refine wpC_skip ?_
      refine wpC_seq (wpC_reg ?_)
      refine wpOps_ins rfl ?_
      refine wpOps_nil ?_
      refine wpC_ret ?_
      refine ⟨trivial, _, rfl, ?_⟩
      exact ⟨congrArg (AV.int .i64) (cmpI_0 h1 h2), H⟩
theorem rcmp_ok (C : Code E) {a b : Int} {h : Heap} {L : List (Pos × AObj)} (H : Has h L) : CallT E (.func n_rcmp [] []) [.int .i64 a, .int .i64 b] h (Z L (.int .i64 (cmpI a b))) := by
  refine CallT.body C.rcmp ?_
  unfold BodyT c_rcmp
  refine wpC_seq (wpC_reg ?_)
  refine wpOps_ins rfl ?_
  refine wpOps_nil ?_
  refine wpC_seq ?_
  refine wpC_seq (wpC_reg ?_)
  refine wpOps_ins rfl ?_
  refine wpOps_ins rfl ?_
  refine wp_bool rfl (fun hb1 => ?_) (fun hb1 => ?_)
  · have h1 := ltI_lt hb1
    refine wpOps_nil ?_
    refine wpC_condT rfl ?_
    refine wpC_seq (wpC_reg ?_)
    refine wpOps_ins rfl ?_
    refine wpOps_nil ?_
    refine wpC_ret ?_
    refine ⟨trivial, _, rfl, ?_⟩
    exact ⟨congrArg (AV.int .i64) (cmpI_lt h1), H⟩
  · have h1 := ltI_ge hb1
    refine wpOps_nil ?_
    refine wpC_condF rfl ?_
    refine wpC_skip ?_
    refine wpC_seq ?_
    refine wpC_seq (wpC_reg ?_)
    refine wpOps_ins rfl ?_
    refine wpOps_ins rfl ?_
    refine wp_bool rfl (fun hb2 => ?_) (fun hb2 => ?_)
    · have h2 := ltI_lt hb2
      refine wpOps_nil ?_
      refine wpC_condT rfl ?_
      refine wpC_seq (wpC_reg ?_)
      refine wpOps_ins rfl ?_
      refine wpOps_nil ?_
      refine wpC_ret ?_
      refine ⟨trivial, _, rfl, ?_⟩
      exact ⟨congrArg (AV.int .i64) (cmpI_gt h2), H⟩
    · have h2 := ltI_ge hb2
      refine wpOps_nil ?_
      refine wpC_condF rfl ?_
      refine wpC_skip ?_
      refine wpC_seq (wpC_reg ?_)
      refine wpOps_ins rfl ?_
      refine wpOps_nil ?_
      refine wpC_ret ?_
      refine ⟨trivial, _, rfl, ?_⟩
      exact ⟨congrArg (AV.int .i64) (cmpI_0 h1 h2), H⟩
theorem bstr_ok (C : Code E) {a b : List Nat} {h : Heap} {L : List (Pos × AObj)} (H : Has h L) : CallT E (.func n_bstr [] []) [.str a, .str b] h (Z L (.int .i64 (cmpS a b))) := by
  refine CallT.body C.bstr ?_
  unfold BodyT c_bstr
  refine wpC_seq (wpC_reg ?_)
  refine wpOps_ins rfl ?_
  refine wpOps_nil ?_
  refine wpC_seq (wpC_reg ?_)
  refine wpOps_ins rfl ?_
  refine wpOps_ins rfl ?_
  refine wpOps_ins (sem_int rfl (show _ = cmpS a b by unfold cmpS; cases ltN a b <;> cases beqN a b <;> rfl)) ?_
  refine wpOps_ins rfl ?_
  refine wpOps_nil ?_
  refine wpC_ret ?_
  refine ⟨trivial, _, rfl, ?_⟩
  exact ⟨congrArg (AV.int .i64) (rfl), H⟩
theorem strCmp_ok (C : Code E) {a b : List Nat} {h : Heap} {L : List (Pos × AObj)} (H : Has h L) : CallT E (.func n_strCmp [] []) [.str a, .str b] h (Z L (.int .i64 (cmpS a b))) := by
  refine CallT.body C.strCmp ?_
  unfold BodyT c_strCmp
  refine wpC_seq (wpC_reg ?_)
  refine wpOps_ins rfl ?_
  refine wpOps_nil ?_
  refine wpC_seq (wpC_reg ?_)
  refine wpOps_ins rfl ?_
  refine wpOps_ins rfl ?_
  refine wp_call rfl (bstr_ok C H) ?_
  rintro _ h ⟨rfl, H⟩
  refine wpOps_ins rfl ?_
  refine wpOps_nil ?_
  refine wpC_ret ?_
  refine ⟨trivial, _, rfl, ?_⟩
  exact ⟨congrArg (AV.int .i64) (rfl), H⟩
theorem orF_loop (C : Code E) {l : List Int} (hlen : l.length ≤ maxN) {q : Pos} {ty : TypeId} {sp : Bool} {cap : Cap} {L : List (Pos × AObj)} (hm : (q, AObj.row ty (l.map (AV.int .i64)) sp) ∈ L) {Q : XExit → Tm → Heap → Prop} (hend : ∀ tm h, orL l = 0 → tm.get (.lo .d0 .d3) = some (.int .i64 0) → Has h L → Q (.exit 0) tm h) (hret : ∀ tm h, tm.get (.lo .d0 .d2) = some (.int .i64 (orL l)) → Has h L → Q .ret tm h) :
    ∀ (k j : Nat), l.length - j = k → ∀ (tm : Tm) (h : Heap), Has h L → (orL l = orL (l.drop j)) → tm.get (.lo .d0 .d3) = some (.int .i64 0) → tm.get (.lo .d0 .d6) = some (.slice q 0 l.length cap) → tm.get (.lo .d0 .d8) = some (.int .i64 (.ofNat j)) → tm.get (.lo .d0 .d7) = some (.int .i64 (.ofNat l.length)) → LoopT E c_orF_b0 Q tm h := by
  intro k
  induction k using Nat.strongRecOn with
  | ind k ih =>
    intro j hk tm h H hj0 e3 e6 e8 e7
    obtain ⟨tm, rfl⟩ := sets4 e3 e6 e8 e7
    refine LoopT.wp ?_
    unfold c_orF_b0
    refine wpC_seq (wpC_reg ?_)
    refine wp_bool rfl (fun hb1 => ?_) (fun hb1 => ?_)
    · have hj := of_ltN hb1
      refine wpOps_nil ?_
      refine wpC_seq ?_
      refine wpC_condT rfl ?_
      refine wpC_skip ?_
      refine wpC_seq ?_
      refine wpC_block ?_
      refine wpC_seq (wpC_reg ?_)
      refine wpOps_ins (sem_iaddrH rfl rfl hj) ?_
      refine wpOps_ins (sem_load rfl (H.mem (x := (q, _)) hm) (fun _ => part_int hj)) ?_
      refine wpOps_ins rfl ?_
      refine wpOps_nil ?_
      refine wpC_seq (wpC_reg ?_)
      refine wpOps_ins rfl ?_
      refine wpOps_ins rfl ?_
      refine wp_bool rfl (fun hb2 => ?_) (fun hb2 => ?_)
      · have hn := neI_ne hb2
        refine wpOps_nil ?_
        refine wpC_condT rfl ?_
        refine wpC_seq (wpC_reg ?_)
        refine wpOps_ins rfl ?_
        refine wpOps_ins rfl ?_
        refine wpOps_nil ?_
        refine wpC_ret ?_
        have hz : orL l = l[j] := by rw [hj0, List.drop_eq_getElem_cons hj]; exact orI_ne hn _
        exact hret _ _ (by rw [hz]; rfl) H
      · have hn := neI_is hb2
        refine wpOps_nil ?_
        refine wpC_condF rfl ?_
        refine wpC_skip ?_
        refine wpC_reg ?_
        refine wpOps_ins (sem_int rfl (w64_succ (by unfold maxN at hlen; omega))) ?_
        refine wpOps_ins rfl ?_
        refine wpOps_nil ?_
        have hz : orL l = orL (l.drop (j + 1)) := by rw [hj0, List.drop_eq_getElem_cons hj]; show orI _ _ = _; rw [hn]; rfl
        exact ih (l.length - (j + 1)) (by omega) (j + 1) rfl _ _ H hz rfl rfl rfl rfl 
    · have hj := of_geN hb1
      refine wpOps_nil ?_
      refine wpC_seq ?_
      refine wpC_condF rfl ?_
      refine wpC_exit ?_
      have hz : orL l = 0 := by rw [hj0, List.drop_of_length_le hj]; rfl
      exact hend _ _ hz rfl H
theorem or_ok (C : Code E) {l : List Int} (hlen : l.length ≤ maxN) {q : Pos} {ty : TypeId} {sp : Bool} {cap : Cap} {h : Heap} {L : List (Pos × AObj)} (H : Has h L) (hm : (q, AObj.row ty (l.map (AV.int .i64)) sp) ∈ L) : CallT E (.func n_orF [] []) [.slice q 0 l.length cap] h (Z L (.int .i64 (orL l))) := by
  refine CallT.body C.orF ?_
  unfold BodyT c_orF
  refine wpC_seq (wpC_reg ?_)
  refine wpOps_ins rfl ?_
  refine wpOps_nil ?_
  refine wpC_seq (wpC_reg ?_)
  refine wpOps_ins rfl ?_
  refine wpOps_nil ?_
  refine wpC_seq ?_
  refine wpC_seq (wpC_reg ?_)
  refine wpOps_ins rfl ?_
  refine wpOps_ins rfl ?_
  refine wpOps_ins rfl ?_
  refine wpOps_nil ?_
  refine wpC_block ?_
  refine wpC_loop (orF_loop C hlen hm (fun tm h hz e3 H => ?_) (fun tm h e2 H => ?_) (l.length - 0) 0 rfl _ _ H rfl rfl rfl rfl rfl)
  · obtain ⟨tm, rfl⟩ := sets1 e3
    refine wpC_seq (wpC_reg ?_)
    refine wpOps_ins rfl ?_
    refine wpOps_ins rfl ?_
    refine wpOps_nil ?_
    refine wpC_ret ?_
    refine ⟨trivial, _, rfl, ?_⟩
    exact ⟨congrArg (AV.int .i64) (hz.symm), H⟩
  · obtain ⟨tm, rfl⟩ := sets1 e2
    exact ⟨trivial, _, rfl, rfl, H⟩
theorem sizes_loop (C : Code E) {d d' : List Int} {nl fu nl' fu' : Bool} (hlen : d.length ≤ maxN) (hlen' : d'.length ≤ maxN) (he : d.length = d'.length) {L : List (Pos × AObj)} {Q : XExit → Tm → Heap → Prop} (hend : ∀ tm h, sizesV d d' = 0 → Has h L → Q (.exit 0) tm h) (hret : ∀ tm h, tm.get (.lo .d0 .d4) = some (.int .i64 (sizesV d d')) → Has h L → Q .ret tm h) :
    ∀ (j : Nat), j ≤ d.length → sizesV d d' = lexI (d.take j).reverse (d'.take j).reverse → ∀ (tm : Tm) (h : Heap), Has h L → tm.get (.lo .d0 .d0) = some (slAV nl fu d.length (d.flatMap intC)) → tm.get (.lo .d0 .d1) = some (slAV nl' fu' d'.length (d'.flatMap intC)) → tm.get (.lo .d0 .d5) = some (.int .i64 (dn j)) → LoopT E c_sizes_b0 Q tm h := by
  intro j
  induction j with
  | zero =>
    intro hj hz tm h H e0 e1 e5
    obtain ⟨tm, rfl⟩ := sets3 e0 e1 e5
    refine LoopT.wp ?_
    unfold c_sizes_b0
    refine wpC_seq ?_
    refine wpC_seq (wpC_reg ?_)
    refine wpOps_ins rfl ?_
    refine wpOps_ins (sem_is (b := false) rfl rfl) ?_
    refine wpOps_nil ?_
    refine wpC_condF rfl ?_
    refine wpC_exit ?_
    exact hend _ _ hz H
  | succ m ih =>
    intro hj hz tm h H e0 e1 e5
    obtain ⟨tm, rfl⟩ := sets3 e0 e1 e5
    have hs := lexI_step (a := d) (b := d') (m := m) (by omega) (by omega)
    refine LoopT.wp ?_
    unfold c_sizes_b0
    refine wpC_seq ?_
    refine wpC_seq (wpC_reg ?_)
    refine wpOps_ins rfl ?_
    refine wpOps_ins (sem_is (b := true) rfl rfl) ?_
    refine wpOps_nil ?_
    refine wpC_condT rfl ?_
    refine wpC_skip ?_
    refine wpC_seq ?_
    refine wpC_block ?_
    refine wpC_seq ?_
    refine wpC_last rfl ?_
    refine wpOps_ins rfl ?_
    refine wpOps_ins rfl ?_
    refine wpOps_ins (sem_iaddrF len_intC (by omega) rfl rfl rfl (show m < d.length by omega)) ?_
    refine wpOps_ins rfl ?_
    refine wpOps_ins rfl ?_
    refine wpOps_ins rfl ?_
    refine wpOps_ins (sem_iaddrF len_intC (by omega) rfl rfl rfl (show m < d'.length by omega)) ?_
    refine wpOps_ins rfl ?_
    refine wp_bool rfl (fun hb1 => ?_) (fun hb1 => ?_)
    · have hn := neI_ne hb1
      refine wpOps_nil ⟨?_, ?_⟩
      · refine wpK_ins (rfl) rfl rfl ?_
        refine wpK_ins (rfl) rfl rfl ?_
        refine wpK_ins (sem_iaddrF len_intC (by omega) rfl rfl rfl (show m < d.length by omega)) rfl rfl ?_
        refine wpK_ins (rfl) rfl rfl ?_
        refine wpK_ins (rfl) rfl rfl ?_
        refine wpK_ins (rfl) rfl rfl ?_
        refine wpK_ins (sem_iaddrF len_intC (by omega) rfl rfl rfl (show m < d'.length by omega)) rfl rfl ?_
        refine wpK_ins (rfl) rfl rfl ?_
        refine wpK_ins (sem_is rfl (by first | assumption | exact neI_refl _ | exact eqI_refl _)) rfl rfl ?_
        exact wpK_nil
      · refine wpC_condT rfl ?_
        refine wpC_seq ?_
        refine wpC_phase rfl ?_
        refine wpOps_ins rfl ?_
        refine wpOps_ins rfl ?_
        refine wpOps_ins (sem_iaddrF len_intC (by omega) rfl rfl rfl (show m < d.length by omega)) ?_
        refine wpOps_ins rfl ?_
        refine wpOps_ins rfl ?_
        refine wpOps_ins rfl ?_
        refine wpOps_ins (sem_iaddrF len_intC (by omega) rfl rfl rfl (show m < d'.length by omega)) ?_
        refine wpOps_ins rfl ?_
        refine wpOps_nil ⟨?_, ?_⟩
        · refine wpK_ins (rfl) rfl rfl ?_
          refine wpK_ins (rfl) rfl rfl ?_
          refine wpK_ins (sem_iaddrF len_intC (by omega) rfl rfl rfl (show m < d.length by omega)) rfl rfl ?_
          refine wpK_ins (rfl) rfl rfl ?_
          refine wpK_ins (rfl) rfl rfl ?_
          refine wpK_ins (rfl) rfl rfl ?_
          refine wpK_ins (sem_iaddrF len_intC (by omega) rfl rfl rfl (show m < d'.length by omega)) rfl rfl ?_
          refine wpK_ins (rfl) rfl rfl ?_
          exact wpK_nil
        · refine wp_call rfl (rcmp_ok C H) ?_
          rintro _ h ⟨rfl, H⟩
          refine wpOps_nil ?_
          refine wpC_last rfl ?_
          refine wpOps_ins rfl ?_
          refine wpOps_nil ⟨?_, ?_⟩
          · refine wpK_ins (rfl) rfl rfl ?_
            exact wpK_nil
          · refine wpC_ret ?_
            exact hret _ _ (by rw [hz, hs, orI_ne (cmpI_ne hn)]; rfl) H
    · have hn := neI_is hb1
      refine wpOps_nil ⟨?_, ?_⟩
      · refine wpK_ins (rfl) rfl rfl ?_
        refine wpK_ins (rfl) rfl rfl ?_
        refine wpK_ins (sem_iaddrF len_intC (by omega) rfl rfl rfl (show m < d.length by omega)) rfl rfl ?_
        refine wpK_ins (rfl) rfl rfl ?_
        refine wpK_ins (rfl) rfl rfl ?_
        refine wpK_ins (rfl) rfl rfl ?_
        refine wpK_ins (sem_iaddrF len_intC (by omega) rfl rfl rfl (show m < d'.length by omega)) rfl rfl ?_
        refine wpK_ins (rfl) rfl rfl ?_
        refine wpK_ins (sem_is rfl (by first | assumption | exact neI_refl _ | exact eqI_refl _)) rfl rfl ?_
        exact wpK_nil
      · refine wpC_condF rfl ?_
        refine wpC_skip ?_
        refine wpC_reg ?_
        refine wpOps_ins rfl ?_
        refine wpOps_ins (sem_int rfl (w64_pred (by unfold maxN at hlen ⊢; omega))) ?_
        refine wpOps_ins rfl ?_
        refine wpOps_nil ?_
        exact ih (by omega) (by rw [hz, hs, cmpI_eq.2 hn, orI_left]) _ _ H rfl rfl rfl
theorem sizes_ok (C : Code E) {d d' : List Int} {nl fu nl' fu' : Bool} (hlen : d.length ≤ maxN) (hlen' : d'.length ≤ maxN) {h : Heap} {L : List (Pos × AObj)} (H : Has h L) : CallT E (.func n_sizes [] []) [slAV nl fu d.length (d.flatMap intC), slAV nl' fu' d'.length (d'.flatMap intC)] h (Z L (.int .i64 (sizesV d d'))) := by
  refine CallT.body C.sizes ?_
  unfold BodyT c_sizes
  refine wpC_seq (wpC_reg ?_)
  refine wpOps_ins rfl ?_
  refine wpOps_nil ?_
  refine wpC_seq ?_
  refine wpC_seq (wpC_reg ?_)
  refine wpOps_ins rfl ?_
  refine wpOps_ins (sem_len rfl) ?_
  refine wpOps_ins rfl ?_
  refine wpOps_ins (sem_len rfl) ?_
  refine wp_bool rfl (fun hb1 => ?_) (fun hb1 => ?_)
  · have he := neI_nat hb1
    refine wpOps_nil ?_
    refine wpC_condT rfl ?_
    refine wpC_seq (wpC_reg ?_)
    refine wpOps_ins rfl ?_
    refine wpOps_ins (sem_len rfl) ?_
    refine wpOps_ins rfl ?_
    refine wpOps_ins (sem_len rfl) ?_
    refine wp_call rfl (rcmp_ok C H) ?_
    rintro _ h ⟨rfl, H⟩
    refine wpOps_ins rfl ?_
    refine wpOps_nil ?_
    refine wpC_ret ?_
    refine ⟨trivial, _, rfl, ?_⟩
    exact ⟨congrArg (AV.int .i64) ((sizesV_ne he).symm), H⟩
  · have he := neI_natE hb1
    refine wpOps_nil ?_
    refine wpC_condF rfl ?_
    refine wpC_skip ?_
    refine wpC_seq ?_
    refine wpC_seq (wpC_reg ?_)
    refine wpOps_ins rfl ?_
    refine wpOps_ins (sem_len rfl) ?_
    refine wpOps_ins (sem_int rfl (w64_pred hlen)) ?_
    refine wpOps_ins rfl ?_
    refine wpOps_nil ?_
    refine wpC_block ?_
    refine wpC_loop (sizes_loop C hlen hlen' he (fun tm h hz H => ?_) (fun tm h e4 H => ?_) d.length (Nat.le_refl _) (by rw [List.take_length, he, List.take_length]; unfold sizesV; rw [he, cmpN_self, orI_left]) _ _ H rfl rfl rfl)
    · refine wpC_seq (wpC_reg ?_)
      refine wpOps_ins rfl ?_
      refine wpOps_nil ?_
      refine wpC_ret ?_
      refine ⟨trivial, _, rfl, ?_⟩
      exact ⟨congrArg (AV.int .i64) (hz.symm), H⟩
    · obtain ⟨tm, rfl⟩ := sets1 e4
      exact ⟨trivial, _, rfl, rfl, H⟩
theorem rInt_TT (C : Code E) {d d' : List Int} {nl fu nl' fu' : Bool} (hlen : d.length ≤ maxN) (hlen' : d'.length ≤ maxN) {h : Heap} {L : List (Pos × AObj)} (H : Has h L) : CallT E (.func n_rInt [] []) [.agg [.bool true, slAV nl fu d.length (d.flatMap intC)], .agg [.bool true, slAV nl' fu' d'.length (d'.flatMap intC)]] h (Z L (.int .i64 (cmpZ true d true d'))) := by
  refine CallT.body C.rInt ?_
  unfold BodyT c_rInt
  refine wpC_seq (wpC_reg ?_)
  refine wp_box rfl rfl H fun q1 h H => ?_
  refine wp_box rfl rfl H fun q2 h H => ?_
  refine wpOps_ins rfl ?_
  refine wpOps_nil ?_
  refine wpC_seq ?_
  refine wpC_seq (wpC_reg ?_)
  refine wpOps_ins rfl ?_
  refine wpOps_ins (sem_load rfl (H.at 1 rfl) (fun _ => by first | exact partOf_sl rfl | rfl | exact partOf_all (DV.len _))) ?_
  refine wpOps_ins rfl ?_
  refine wpOps_ins (sem_load rfl (H.at 0 rfl) (fun _ => by first | exact partOf_sl rfl | rfl | exact partOf_all (DV.len _))) ?_
  refine wpOps_ins (sem_is (b := false) rfl rfl) ?_
  refine wpOps_nil ?_
  refine wpC_condF rfl ?_
  refine wpC_skip ?_
  refine wpC_seq ?_
  refine wpC_seq (wpC_reg ?_)
  refine wpOps_ins rfl ?_
  refine wpOps_ins (sem_load rfl (H.at 1 rfl) (fun _ => rfl)) ?_
  refine wpOps_nil ?_
  refine wpC_condT rfl ?_
  refine wpC_seq (wpC_reg ?_)
  refine wpOps_ins rfl ?_
  refine wpOps_ins (sem_load rfl (H.at 0 rfl) (fun _ => by first | exact partOf_sl rfl | rfl | exact partOf_all (DV.len _))) ?_
  refine wpOps_ins rfl ?_
  refine wpOps_ins (sem_load rfl (H.at 1 rfl) (fun _ => by first | exact partOf_sl rfl | rfl | exact partOf_all (DV.len _))) ?_
  refine wp_call rfl (sizes_ok C hlen' hlen H) ?_
  rintro _ h ⟨rfl, H⟩
  refine wpOps_ins rfl ?_
  refine wpOps_nil ?_
  refine wpC_ret ?_
  refine ⟨trivial, _, rfl, ?_⟩
  exact ⟨congrArg (AV.int .i64) (sizesV_neg d d'), H.tail.tail⟩
theorem rInt_TF (C : Code E) {d d' : List Int} {nl fu nl' fu' : Bool} (hlen : d.length ≤ maxN) (hlen' : d'.length ≤ maxN) {h : Heap} {L : List (Pos × AObj)} (H : Has h L) : CallT E (.func n_rInt [] []) [.agg [.bool true, slAV nl fu d.length (d.flatMap intC)], .agg [.bool false, slAV nl' fu' d'.length (d'.flatMap intC)]] h (Z L (.int .i64 (cmpZ true d false d'))) := by
  refine CallT.body C.rInt ?_
  unfold BodyT c_rInt
  refine wpC_seq (wpC_reg ?_)
  refine wp_box rfl rfl H fun q1 h H => ?_
  refine wp_box rfl rfl H fun q2 h H => ?_
  refine wpOps_ins rfl ?_
  refine wpOps_nil ?_
  refine wpC_seq ?_
  refine wpC_seq (wpC_reg ?_)
  refine wpOps_ins rfl ?_
  refine wpOps_ins (sem_load rfl (H.at 1 rfl) (fun _ => by first | exact partOf_sl rfl | rfl | exact partOf_all (DV.len _))) ?_
  refine wpOps_ins rfl ?_
  refine wpOps_ins (sem_load rfl (H.at 0 rfl) (fun _ => by first | exact partOf_sl rfl | rfl | exact partOf_all (DV.len _))) ?_
  refine wpOps_ins (sem_is (b := true) rfl rfl) ?_
  refine wpOps_nil ?_
  refine wpC_condT rfl ?_
  refine wpC_seq ?_
  refine wpC_seq (wpC_reg ?_)
  refine wpOps_ins rfl ?_
  refine wpOps_ins (sem_load rfl (H.at 1 rfl) (fun _ => rfl)) ?_
  refine wpOps_nil ?_
  refine wpC_condT rfl ?_
  refine wpC_seq (wpC_reg ?_)
  refine wpOps_ins rfl ?_
  refine wpOps_nil ?_
  refine wpC_ret ?_
  refine ⟨trivial, _, rfl, ?_⟩
  exact ⟨congrArg (AV.int .i64) (rfl), H.tail.tail⟩
theorem rInt_FT (C : Code E) {d d' : List Int} {nl fu nl' fu' : Bool} (hlen : d.length ≤ maxN) (hlen' : d'.length ≤ maxN) {h : Heap} {L : List (Pos × AObj)} (H : Has h L) : CallT E (.func n_rInt [] []) [.agg [.bool false, slAV nl fu d.length (d.flatMap intC)], .agg [.bool true, slAV nl' fu' d'.length (d'.flatMap intC)]] h (Z L (.int .i64 (cmpZ false d true d'))) := by
  refine CallT.body C.rInt ?_
  unfold BodyT c_rInt
  refine wpC_seq (wpC_reg ?_)
  refine wp_box rfl rfl H fun q1 h H => ?_
  refine wp_box rfl rfl H fun q2 h H => ?_
  refine wpOps_ins rfl ?_
  refine wpOps_nil ?_
  refine wpC_seq ?_
  refine wpC_seq (wpC_reg ?_)
  refine wpOps_ins rfl ?_
  refine wpOps_ins (sem_load rfl (H.at 1 rfl) (fun _ => by first | exact partOf_sl rfl | rfl | exact partOf_all (DV.len _))) ?_
  refine wpOps_ins rfl ?_
  refine wpOps_ins (sem_load rfl (H.at 0 rfl) (fun _ => by first | exact partOf_sl rfl | rfl | exact partOf_all (DV.len _))) ?_
  refine wpOps_ins (sem_is (b := true) rfl rfl) ?_
  refine wpOps_nil ?_
  refine wpC_condT rfl ?_
  refine wpC_seq ?_
  refine wpC_seq (wpC_reg ?_)
  refine wpOps_ins rfl ?_
  refine wpOps_ins (sem_load rfl (H.at 1 rfl) (fun _ => rfl)) ?_
  refine wpOps_nil ?_
  refine wpC_condF rfl ?_
  refine wpC_skip ?_
  refine wpC_seq (wpC_reg ?_)
  refine wpOps_ins rfl ?_
  refine wpOps_nil ?_
  refine wpC_ret ?_
  refine ⟨trivial, _, rfl, ?_⟩
  exact ⟨congrArg (AV.int .i64) (rfl), H.tail.tail⟩
theorem rInt_FF (C : Code E) {d d' : List Int} {nl fu nl' fu' : Bool} (hlen : d.length ≤ maxN) (hlen' : d'.length ≤ maxN) {h : Heap} {L : List (Pos × AObj)} (H : Has h L) : CallT E (.func n_rInt [] []) [.agg [.bool false, slAV nl fu d.length (d.flatMap intC)], .agg [.bool false, slAV nl' fu' d'.length (d'.flatMap intC)]] h (Z L (.int .i64 (cmpZ false d false d'))) := by
  refine CallT.body C.rInt ?_
  unfold BodyT c_rInt
  refine wpC_seq (wpC_reg ?_)
  refine wp_box rfl rfl H fun q1 h H => ?_
  refine wp_box rfl rfl H fun q2 h H => ?_
  refine wpOps_ins rfl ?_
  refine wpOps_nil ?_
  refine wpC_seq ?_
  refine wpC_seq (wpC_reg ?_)
  refine wpOps_ins rfl ?_
  refine wpOps_ins (sem_load rfl (H.at 1 rfl) (fun _ => by first | exact partOf_sl rfl | rfl | exact partOf_all (DV.len _))) ?_
  refine wpOps_ins rfl ?_
  refine wpOps_ins (sem_load rfl (H.at 0 rfl) (fun _ => by first | exact partOf_sl rfl | rfl | exact partOf_all (DV.len _))) ?_
  refine wpOps_ins (sem_is (b := false) rfl rfl) ?_
  refine wpOps_nil ?_
  refine wpC_condF rfl ?_
  refine wpC_skip ?_
  refine wpC_seq ?_
  refine wpC_seq (wpC_reg ?_)
  refine wpOps_ins rfl ?_
  refine wpOps_ins (sem_load rfl (H.at 1 rfl) (fun _ => rfl)) ?_
  refine wpOps_nil ?_
  refine wpC_condF rfl ?_
  refine wpC_skip ?_
  refine wpC_seq (wpC_reg ?_)
  refine wpOps_ins rfl ?_
  refine wpOps_ins (sem_load rfl (H.at 1 rfl) (fun _ => by first | exact partOf_sl rfl | rfl | exact partOf_all (DV.len _))) ?_
  refine wpOps_ins rfl ?_
  refine wpOps_ins (sem_load rfl (H.at 0 rfl) (fun _ => by first | exact partOf_sl rfl | rfl | exact partOf_all (DV.len _))) ?_
  refine wp_call rfl (sizes_ok C hlen hlen' H) ?_
  rintro _ h ⟨rfl, H⟩
  refine wpOps_ins rfl ?_
  refine wpOps_nil ?_
  refine wpC_ret ?_
  refine ⟨trivial, _, rfl, ?_⟩
  exact ⟨congrArg (AV.int .i64) (rfl), H.tail.tail⟩
theorem rInt_ok (C : Code E) {n n' : Bool} {d d' : List Int} {nl fu nl' fu' : Bool} (hlen : d.length ≤ maxN) (hlen' : d'.length ≤ maxN) {h : Heap} {L : List (Pos × AObj)} (H : Has h L) : CallT E (.func n_rInt [] []) [.agg [.bool n, slAV nl fu d.length (d.flatMap intC)], .agg [.bool n', slAV nl' fu' d'.length (d'.flatMap intC)]] h (Z L (.int .i64 (cmpZ n d n' d'))) := by
  cases n <;> cases n'
  · exact rInt_FF C hlen hlen' H
  · exact rInt_FT C hlen hlen' H
  · exact rInt_TF C hlen hlen' H
  · exact rInt_TT C hlen hlen' H
theorem integers_loop (C : Code E) {n n' : Bool} {d d' : List Int} {nl fu nl' fu' : Bool} (hlen : d.length ≤ maxN) (hlen' : d'.length ≤ maxN) {q1 q2 : Pos} {ty : TypeId} {L : List (Pos × AObj)} {Q : XExit → Tm → Heap → Prop} (hend : ∀ tm h, tm.get (.lo .d0 .d2) = some (.ptr q1 0) → tm.get (.lo .d0 .d5) = some (.int .i64 (sizesV d d')) → Has h ((q2, AObj.row ty [.bool n', slAV nl' fu' d'.length (d'.flatMap intC)] false) :: (q1, AObj.row ty [.bool n, slAV nl fu d.length (d.flatMap intC)] false) :: L) → Q (.exit 0) tm h) :
    ∀ (j : Nat) (c : Int), j ≤ d.length → (c = 0 → d.length = d'.length) → sizesV d d' = orI c (lexI (d.take j).reverse (d'.take j).reverse) → ∀ (tm : Tm) (h : Heap), Has h ((q2, AObj.row ty [.bool n', slAV nl' fu' d'.length (d'.flatMap intC)] false) :: (q1, AObj.row ty [.bool n, slAV nl fu d.length (d.flatMap intC)] false) :: L) → tm.get (.lo .d0 .d2) = some (.ptr q1 0) → tm.get (.lo .d0 .d3) = some (.ptr q2 0) → tm.get (.lo .d0 .d5) = some (.int .i64 c) → tm.get (.lo .d0 .d6) = some (.int .i64 (dn j)) → LoopT E c_integers_b0 Q tm h := by
  intro j
  induction j with
  | zero =>
    intro c hj hc hz tm h H e2 e3 e5 e6
    obtain ⟨tm, rfl⟩ := sets4 e2 e3 e5 e6
    have hz : sizesV d d' = c := hz.trans (orI_right c)
    refine LoopT.wp ?_
    unfold c_integers_b0
    refine wpC_seq ?_
    refine wpC_seq (wpC_reg ?_)
    refine wpOps_ins rfl ?_
    refine wp_bool rfl (fun hb1 => ?_) (fun hb1 => ?_)
    · have h0 := eqI_is hb1
      refine wpOps_ins rfl ?_
      refine wpOps_on rfl ?_
      refine wpOps_ins rfl ?_
      refine wpOps_on rfl ?_
      refine wpOps_ins (sem_is (b := false) rfl rfl) ?_
      refine wpOps_ins rfl ?_
      refine wpOps_nil ?_
      refine wpC_condF rfl ?_
      refine wpC_exit ?_
      exact hend _ _ rfl (by rw [hz]; rfl) H
    · have h0 := eqI_ne hb1
      refine wpOps_ins rfl ?_
      refine wpOps_off rfl ?_
      refine wpOps_off rfl ?_
      refine wpOps_ins rfl ?_
      refine wpOps_nil ?_
      refine wpC_condF rfl ?_
      refine wpC_exit ?_
      exact hend _ _ rfl (by rw [hz]; rfl) H
  | succ m ih =>
    intro c hj hc hz tm h H e2 e3 e5 e6
    obtain ⟨tm, rfl⟩ := sets4 e2 e3 e5 e6
    refine LoopT.wp ?_
    unfold c_integers_b0
    refine wpC_seq ?_
    refine wpC_seq (wpC_reg ?_)
    refine wpOps_ins rfl ?_
    refine wp_bool rfl (fun hb1 => ?_) (fun hb1 => ?_)
    · have h0 := eqI_is hb1
      have he := hc h0
      have hs := lexI_step (a := d) (b := d') (m := m) (by omega) (by omega)
      refine wpOps_ins rfl ?_
      refine wpOps_on rfl ?_
      refine wpOps_ins rfl ?_
      refine wpOps_on rfl ?_
      refine wpOps_ins (sem_is (b := true) rfl rfl) ?_
      refine wpOps_ins rfl ?_
      refine wpOps_nil ?_
      refine wpC_condT rfl ?_
      refine wpC_skip ?_
      refine wpC_seq ?_
      refine wpC_block ?_
      refine wpC_phase rfl ?_
      refine wpOps_ins rfl ?_
      refine wpOps_ins (sem_load rfl (H.at 1 rfl) (fun _ => by first | exact partOf_sl rfl | rfl | exact partOf_all (DV.len _))) ?_
      refine wpOps_ins rfl ?_
      refine wpOps_ins (sem_iaddrF len_intC (by omega) rfl rfl rfl (show m < d.length by omega)) ?_
      refine wpOps_ins rfl ?_
      refine wpOps_ins rfl ?_
      refine wpOps_ins (sem_load rfl (H.at 0 rfl) (fun _ => by first | exact partOf_sl rfl | rfl | exact partOf_all (DV.len _))) ?_
      refine wpOps_ins rfl ?_
      refine wpOps_ins (sem_iaddrF len_intC (by omega) rfl rfl rfl (show m < d'.length by omega)) ?_
      refine wpOps_ins rfl ?_
      refine wpOps_nil ⟨?_, ?_⟩
      · refine wpK_ins (rfl) rfl rfl ?_
        refine wpK_ins (sem_load rfl (H.at 1 rfl) (fun _ => by first | exact partOf_sl rfl | rfl | exact partOf_all (DV.len _))) rfl rfl ?_
        refine wpK_ins (rfl) rfl rfl ?_
        refine wpK_ins (sem_iaddrF len_intC (by omega) rfl rfl rfl (show m < d.length by omega)) rfl rfl ?_
        refine wpK_ins (rfl) rfl rfl ?_
        refine wpK_ins (rfl) rfl rfl ?_
        refine wpK_ins (sem_load rfl (H.at 0 rfl) (fun _ => by first | exact partOf_sl rfl | rfl | exact partOf_all (DV.len _))) rfl rfl ?_
        refine wpK_ins (rfl) rfl rfl ?_
        refine wpK_ins (sem_iaddrF len_intC (by omega) rfl rfl rfl (show m < d'.length by omega)) rfl rfl ?_
        refine wpK_ins (rfl) rfl rfl ?_
        exact wpK_nil
      · refine wp_call rfl (cmpI_ok C H) ?_
        rintro _ h ⟨rfl, H⟩
        refine wpOps_nil ?_
        refine wpC_last rfl ?_
        refine wpOps_ins rfl ?_
        refine wpOps_nil ⟨?_, ?_⟩
        · refine wpK_ins (rfl) rfl rfl ?_
          exact wpK_nil
        · refine wpC_reg ?_
          refine wpOps_ins rfl ?_
          refine wpOps_ins (sem_int rfl (w64_pred (by unfold maxN at hlen ⊢; omega))) ?_
          refine wpOps_ins rfl ?_
          refine wpOps_nil ?_
          exact ih _ (by omega) (fun _ => he) (by rw [hz, h0, orI_left, hs]) _ _ H rfl rfl rfl rfl
    · have h0 := eqI_ne hb1
      refine wpOps_ins rfl ?_
      refine wpOps_off rfl ?_
      refine wpOps_off rfl ?_
      refine wpOps_ins rfl ?_
      refine wpOps_nil ?_
      refine wpC_condF rfl ?_
      refine wpC_exit ?_
      exact hend _ _ rfl (by rw [hz, orI_ne h0]; rfl) H
theorem sizes_start (d d' : List Int) : sizesV d d' = orI (cmpI (.ofNat d.length) (.ofNat d'.length)) (lexI (d.take d.length).reverse (d'.take d.length).reverse) := by
  by_cases he : d.length = d'.length
  · rw [he, List.take_length, ← he, List.take_length]; unfold sizesV; rw [he]; rfl
  · rw [sizesV_ne he]; exact (orI_ne (cmpN_ne he) _).symm
theorem integers_TT (C : Code E) {d d' : List Int} {nl fu nl' fu' : Bool} (hlen : d.length ≤ maxN) (hlen' : d'.length ≤ maxN) {h : Heap} {L : List (Pos × AObj)} (H : Has h L) : CallT E (.func n_integers [] []) [.agg [.bool true, slAV nl fu d.length (d.flatMap intC)], .agg [.bool true, slAV nl' fu' d'.length (d'.flatMap intC)]] h (Z L (.int .i64 (cmpZ true d true d'))) := by
  refine CallT.body C.integers ?_
  unfold BodyT c_integers
  refine wpC_seq (wpC_reg ?_)
  refine wp_box rfl rfl H fun q1 h H => ?_
  refine wp_box rfl rfl H fun q2 h H => ?_
  refine wpOps_ins rfl ?_
  refine wpOps_nil ?_
  refine wpC_seq ?_
  refine wpC_seq (wpC_reg ?_)
  refine wpOps_ins rfl ?_
  refine wpOps_ins (sem_load rfl (H.at 1 rfl) (fun _ => by first | exact partOf_sl rfl | rfl | exact partOf_all (DV.len _))) ?_
  refine wpOps_ins rfl ?_
  refine wpOps_ins (sem_load rfl (H.at 0 rfl) (fun _ => by first | exact partOf_sl rfl | rfl | exact partOf_all (DV.len _))) ?_
  refine wpOps_ins (sem_is (b := false) rfl rfl) ?_
  refine wpOps_nil ?_
  refine wpC_condF rfl ?_
  refine wpC_skip ?_
  refine wpC_seq (wpC_reg ?_)
  refine wpOps_ins rfl ?_
  refine wpOps_ins (sem_load rfl (H.at 1 rfl) (fun _ => by first | exact partOf_sl rfl | rfl | exact partOf_all (DV.len _))) ?_
  refine wpOps_ins (sem_len rfl) ?_
  refine wpOps_ins rfl ?_
  refine wpOps_ins (sem_load rfl (H.at 0 rfl) (fun _ => by first | exact partOf_sl rfl | rfl | exact partOf_all (DV.len _))) ?_
  refine wpOps_ins (sem_len rfl) ?_
  refine wp_call rfl (cmpI_ok C H) ?_
  rintro _ h ⟨rfl, H⟩
  refine wpOps_ins rfl ?_
  refine wpOps_nil ?_
  refine wpC_seq ?_
  refine wpC_seq (wpC_reg ?_)
  refine wpOps_ins rfl ?_
  refine wpOps_ins (sem_load rfl (H.at 1 rfl) (fun _ => by first | exact partOf_sl rfl | rfl | exact partOf_all (DV.len _))) ?_
  refine wpOps_ins (sem_len rfl) ?_
  refine wpOps_ins (sem_int rfl (w64_pred hlen)) ?_
  refine wpOps_ins rfl ?_
  refine wpOps_nil ?_
  refine wpC_block ?_
  refine wpC_loop (integers_loop C hlen hlen' (fun tm h e2 e5 H => ?_) d.length _ (Nat.le_refl _) (fun e => cmpN_eq.1 e) (sizes_start d d') _ _ H rfl rfl rfl rfl)
  obtain ⟨tm, rfl⟩ := sets2 e2 e5
  refine wpC_seq ?_
  refine wpC_seq (wpC_reg ?_)
  refine wpOps_ins rfl ?_
  refine wpOps_ins (sem_load rfl (H.at 1 rfl) (fun _ => rfl)) ?_
  refine wpOps_nil ?_
  refine wpC_condT rfl ?_
  refine wpC_seq (wpC_reg ?_)
  refine wpOps_ins rfl ?_
  refine wpOps_ins (sem_int rfl (show _ = - sizesV d d' by have := sizesV_in d d'; rw [w64 (by omega) (by omega)]; omega)) ?_
  refine wpOps_ins rfl ?_
  refine wpOps_nil ?_
  refine wpC_ret ?_
  refine ⟨trivial, _, rfl, ?_⟩
  exact ⟨congrArg (AV.int .i64) (rfl), H.tail.tail⟩
theorem integers_TF (C : Code E) {d d' : List Int} {nl fu nl' fu' : Bool} (hlen : d.length ≤ maxN) (hlen' : d'.length ≤ maxN) {h : Heap} {L : List (Pos × AObj)} (H : Has h L) : CallT E (.func n_integers [] []) [.agg [.bool true, slAV nl fu d.length (d.flatMap intC)], .agg [.bool false, slAV nl' fu' d'.length (d'.flatMap intC)]] h (Z L (.int .i64 (cmpZ true d false d'))) := by
  refine CallT.body C.integers ?_
  unfold BodyT c_integers
  refine wpC_seq (wpC_reg ?_)
  refine wp_box rfl rfl H fun q1 h H => ?_
  refine wp_box rfl rfl H fun q2 h H => ?_
  refine wpOps_ins rfl ?_
  refine wpOps_nil ?_
  refine wpC_seq ?_
  refine wpC_seq (wpC_reg ?_)
  refine wpOps_ins rfl ?_
  refine wpOps_ins (sem_load rfl (H.at 1 rfl) (fun _ => by first | exact partOf_sl rfl | rfl | exact partOf_all (DV.len _))) ?_
  refine wpOps_ins rfl ?_
  refine wpOps_ins (sem_load rfl (H.at 0 rfl) (fun _ => by first | exact partOf_sl rfl | rfl | exact partOf_all (DV.len _))) ?_
  refine wpOps_ins (sem_is (b := true) rfl rfl) ?_
  refine wpOps_nil ?_
  refine wpC_condT rfl ?_
  refine wpC_seq ?_
  refine wpC_seq (wpC_reg ?_)
  refine wpOps_ins rfl ?_
  refine wpOps_ins (sem_load rfl (H.at 1 rfl) (fun _ => rfl)) ?_
  refine wpOps_nil ?_
  refine wpC_condT rfl ?_
  refine wpC_seq (wpC_reg ?_)
  refine wpOps_ins rfl ?_
  refine wpOps_nil ?_
  refine wpC_ret ?_
  refine ⟨trivial, _, rfl, ?_⟩
  exact ⟨congrArg (AV.int .i64) (rfl), H.tail.tail⟩
theorem integers_FT (C : Code E) {d d' : List Int} {nl fu nl' fu' : Bool} (hlen : d.length ≤ maxN) (hlen' : d'.length ≤ maxN) {h : Heap} {L : List (Pos × AObj)} (H : Has h L) : CallT E (.func n_integers [] []) [.agg [.bool false, slAV nl fu d.length (d.flatMap intC)], .agg [.bool true, slAV nl' fu' d'.length (d'.flatMap intC)]] h (Z L (.int .i64 (cmpZ false d true d'))) := by
  refine CallT.body C.integers ?_
  unfold BodyT c_integers
  refine wpC_seq (wpC_reg ?_)
  refine wp_box rfl rfl H fun q1 h H => ?_
  refine wp_box rfl rfl H fun q2 h H => ?_
  refine wpOps_ins rfl ?_
  refine wpOps_nil ?_
  refine wpC_seq ?_
  refine wpC_seq (wpC_reg ?_)
  refine wpOps_ins rfl ?_
  refine wpOps_ins (sem_load rfl (H.at 1 rfl) (fun _ => by first | exact partOf_sl rfl | rfl | exact partOf_all (DV.len _))) ?_
  refine wpOps_ins rfl ?_
  refine wpOps_ins (sem_load rfl (H.at 0 rfl) (fun _ => by first | exact partOf_sl rfl | rfl | exact partOf_all (DV.len _))) ?_
  refine wpOps_ins (sem_is (b := true) rfl rfl) ?_
  refine wpOps_nil ?_
  refine wpC_condT rfl ?_
  refine wpC_seq ?_
  refine wpC_seq (wpC_reg ?_)
  refine wpOps_ins rfl ?_
  refine wpOps_ins (sem_load rfl (H.at 1 rfl) (fun _ => rfl)) ?_
  refine wpOps_nil ?_
  refine wpC_condF rfl ?_
  refine wpC_skip ?_
  refine wpC_seq (wpC_reg ?_)
  refine wpOps_ins rfl ?_
  refine wpOps_nil ?_
  refine wpC_ret ?_
  refine ⟨trivial, _, rfl, ?_⟩
  exact ⟨congrArg (AV.int .i64) (rfl), H.tail.tail⟩
theorem integers_FF (C : Code E) {d d' : List Int} {nl fu nl' fu' : Bool} (hlen : d.length ≤ maxN) (hlen' : d'.length ≤ maxN) {h : Heap} {L : List (Pos × AObj)} (H : Has h L) : CallT E (.func n_integers [] []) [.agg [.bool false, slAV nl fu d.length (d.flatMap intC)], .agg [.bool false, slAV nl' fu' d'.length (d'.flatMap intC)]] h (Z L (.int .i64 (cmpZ false d false d'))) := by
  refine CallT.body C.integers ?_
  unfold BodyT c_integers
  refine wpC_seq (wpC_reg ?_)
  refine wp_box rfl rfl H fun q1 h H => ?_
  refine wp_box rfl rfl H fun q2 h H => ?_
  refine wpOps_ins rfl ?_
  refine wpOps_nil ?_
  refine wpC_seq ?_
  refine wpC_seq (wpC_reg ?_)
  refine wpOps_ins rfl ?_
  refine wpOps_ins (sem_load rfl (H.at 1 rfl) (fun _ => by first | exact partOf_sl rfl | rfl | exact partOf_all (DV.len _))) ?_
  refine wpOps_ins rfl ?_
  refine wpOps_ins (sem_load rfl (H.at 0 rfl) (fun _ => by first | exact partOf_sl rfl | rfl | exact partOf_all (DV.len _))) ?_
  refine wpOps_ins (sem_is (b := false) rfl rfl) ?_
  refine wpOps_nil ?_
  refine wpC_condF rfl ?_
  refine wpC_skip ?_
  refine wpC_seq (wpC_reg ?_)
  refine wpOps_ins rfl ?_
  refine wpOps_ins (sem_load rfl (H.at 1 rfl) (fun _ => by first | exact partOf_sl rfl | rfl | exact partOf_all (DV.len _))) ?_
  refine wpOps_ins (sem_len rfl) ?_
  refine wpOps_ins rfl ?_
  refine wpOps_ins (sem_load rfl (H.at 0 rfl) (fun _ => by first | exact partOf_sl rfl | rfl | exact partOf_all (DV.len _))) ?_
  refine wpOps_ins (sem_len rfl) ?_
  refine wp_call rfl (cmpI_ok C H) ?_
  rintro _ h ⟨rfl, H⟩
  refine wpOps_ins rfl ?_
  refine wpOps_nil ?_
  refine wpC_seq ?_
  refine wpC_seq (wpC_reg ?_)
  refine wpOps_ins rfl ?_
  refine wpOps_ins (sem_load rfl (H.at 1 rfl) (fun _ => by first | exact partOf_sl rfl | rfl | exact partOf_all (DV.len _))) ?_
  refine wpOps_ins (sem_len rfl) ?_
  refine wpOps_ins (sem_int rfl (w64_pred hlen)) ?_
  refine wpOps_ins rfl ?_
  refine wpOps_nil ?_
  refine wpC_block ?_
  refine wpC_loop (integers_loop C hlen hlen' (fun tm h e2 e5 H => ?_) d.length _ (Nat.le_refl _) (fun e => cmpN_eq.1 e) (sizes_start d d') _ _ H rfl rfl rfl rfl)
  obtain ⟨tm, rfl⟩ := sets2 e2 e5
  refine wpC_seq ?_
  refine wpC_seq (wpC_reg ?_)
  refine wpOps_ins rfl ?_
  refine wpOps_ins (sem_load rfl (H.at 1 rfl) (fun _ => rfl)) ?_
  refine wpOps_nil ?_
  refine wpC_condF rfl ?_
  refine wpC_skip ?_
  refine wpC_seq (wpC_reg ?_)
  refine wpOps_ins rfl ?_
  refine wpOps_ins rfl ?_
  refine wpOps_nil ?_
  refine wpC_ret ?_
  refine ⟨trivial, _, rfl, ?_⟩
  exact ⟨congrArg (AV.int .i64) (rfl), H.tail.tail⟩
theorem integers_ok (C : Code E) {n n' : Bool} {d d' : List Int} {nl fu nl' fu' : Bool} (hlen : d.length ≤ maxN) (hlen' : d'.length ≤ maxN) {h : Heap} {L : List (Pos × AObj)} (H : Has h L) : CallT E (.func n_integers [] []) [.agg [.bool n, slAV nl fu d.length (d.flatMap intC)], .agg [.bool n', slAV nl' fu' d'.length (d'.flatMap intC)]] h (Z L (.int .i64 (cmpZ n d n' d'))) := by
  cases n <;> cases n'
  · exact integers_FF C hlen hlen' H
  · exact integers_FT C hlen hlen' H
  · exact integers_TF C hlen hlen' H
  · exact integers_TT C hlen hlen' H
end
end Go.X
