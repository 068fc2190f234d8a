/- The meter, slices.Concat, light; the law. -/
import Derived.Test.YtphclenlannanaaGreatDoorCc3
namespace Go.X
open Go
section
variable {E : XEnv}
abbrev n_sane : Nat := 4
def MQ (p : Pos) (L : List (Pos × AObj)) (left : Int) : AV → Heap → Prop := fun r h => ∃ b l, r = .bool b ∧ Has h ((p, rowI tyMeter l) :: L) ∧ (b = true → (0 ≤ l ∨ l = left) ∧ l ≤ left)
def ValOK (E : XEnv) (t : DV) : Prop := t.ok → ∀ {deep left : Int} {p : Pos} {h : Heap} {L : List (Pos × AObj)}, -20000000000000 ≤ left → left ≤ 1500 → 0 ≤ deep → deep ≤ 200 → Has h ((p, rowI tyMeter left) :: L) → CallT E (.func n_val [] []) [.ptr p 0, .agg t.cells, .int .i64 deep] h (MQ p L left)
def ValsOK (E : XEnv) (t : List DV) : Prop := (DV.okL t ∧ t.length ≤ maxN) → ∀ {nl fu : Bool} {deep left : Int} {p : Pos} {h : Heap} {L : List (Pos × AObj)}, -20000000000000 ≤ left → left ≤ 1500 → 0 ≤ deep → deep ≤ 200 → Has h ((p, rowI tyMeter left) :: L) → CallT E (.func n_vals [] []) [.ptr p 0, slAV nl fu t.length (DV.cellsL t), .int .i64 deep] h (MQ p L left)
theorem val_of (C : Code E) {k n : Int} {neg dn df : Bool} {d : List Int} {s : List Nat} {ln lf : Bool} {l : List DV} {mn mf : Bool} {m : List DV} (hl : ValsOK E l) (hm : ValsOK E m) : ValOK E (.mk k n neg dn df d s ln lf l mn mf m) := by
  intro hok deep left p h L h0 h1 h2 h3 H
  refine CallT.body C.val ?_
  unfold BodyT c_val
  refine wpC_seq (wpC_reg ?_)
  refine wp_box rfl rfl H fun q1 h H => ?_
  refine wpOps_ins rfl ?_
  refine wpOps_nil ?_
  refine wpC_seq ?_
  refine wpC_seq (wpC_reg ?_)
  refine wpOps_ins rfl ?_
  refine wpOps_ins rfl ?_
  refine wpOps_ins rfl ?_
  refine wpOps_ins (sem_load rfl (H.at 1 rfl) (fun _ => by first | exact partOf_sl rfl | rfl | exact partOf_all (DV.len _))) ?_
  refine wpOps_ins (sem_int rfl (w64 (by omega) (by omega))) ?_
  refine wpOps_ins rfl ?_
  refine wpOps_ins rfl ?_
  refine wp_store (k := 1) rfl rfl rfl (by first | rfl | exact len_of (DT.len _) | exact len_of (DE.len _) | exact len_of (DV.len _)) H rfl (fun k => by first | exact spliceK_len (by first | exact DT.len _ | exact DE.len _ | exact DV.len _) k | rfl) fun h H => ?_
  refine wpOps_nil ?_
  refine wpC_seq (wpC_reg ?_)
  refine wpOps_ins rfl ?_
  refine wpOps_ins rfl ?_
  refine wpOps_ins rfl ?_
  refine wpOps_ins (sem_load rfl (H.at 1 rfl) (fun _ => by first | exact partOf_sl rfl | rfl | exact partOf_all (DV.len _))) ?_
  refine wp_bool rfl (fun hb2 => ?_) (fun hb2 => ?_)
  · replace hb2 := ltI_lt hb2
    refine wpOps_ins rfl ?_
    refine wpOps_off rfl ?_
    refine wpOps_off rfl ?_
    refine wpOps_ins rfl ?_
    refine wpOps_ins rfl ?_
    refine wpOps_off rfl ?_
    refine wpOps_off rfl ?_
    refine wpOps_off rfl ?_
    refine wpOps_off rfl ?_
    refine wpOps_ins rfl ?_
    refine wpOps_ins rfl ?_
    refine wpOps_off rfl ?_
    refine wpOps_off rfl ?_
    refine wpOps_off rfl ?_
    refine wpOps_off rfl ?_
    refine wpOps_off rfl ?_
    refine wpOps_ins rfl ?_
    refine wpOps_nil ?_
    refine wpC_condT rfl ?_
    refine wpC_seq (wpC_reg ?_)
    refine wpOps_ins rfl ?_
    refine wpOps_nil ?_
    refine wpC_ret ?_
    refine ⟨trivial, _, rfl, ?_⟩
    exact ⟨false, _, rfl, (H.front 1 rfl).tail2, fun e => by simp at e⟩
  · replace hb2 := ltI_ge hb2
    refine wpOps_ins rfl ?_
    refine wpOps_on rfl ?_
    refine wpOps_ins rfl ?_
    refine wpOps_on rfl ?_
    refine wp_bool rfl (fun hb3 => ?_) (fun hb3 => ?_)
    · replace hb3 := ltI_lt hb3
      refine wpOps_ins rfl ?_
      refine wpOps_ins rfl ?_
      refine wpOps_off rfl ?_
      refine wpOps_off rfl ?_
      refine wpOps_off rfl ?_
      refine wpOps_off rfl ?_
      refine wpOps_ins rfl ?_
      refine wpOps_ins rfl ?_
      refine wpOps_off rfl ?_
      refine wpOps_off rfl ?_
      refine wpOps_off rfl ?_
      refine wpOps_off rfl ?_
      refine wpOps_off rfl ?_
      refine wpOps_ins rfl ?_
      refine wpOps_nil ?_
      refine wpC_condT rfl ?_
      refine wpC_seq (wpC_reg ?_)
      refine wpOps_ins rfl ?_
      refine wpOps_nil ?_
      refine wpC_ret ?_
      refine ⟨trivial, _, rfl, ?_⟩
      exact ⟨false, _, rfl, (H.front 1 rfl).tail2, fun e => by simp at e⟩
    · replace hb3 := ltI_ge hb3
      refine wpOps_ins rfl ?_
      refine wpOps_ins rfl ?_
      refine wpOps_on rfl ?_
      refine wpOps_ins rfl ?_
      refine wpOps_on rfl ?_
      refine wpOps_ins (sem_load rfl (H.at 0 rfl) (fun _ => by first | exact partOf_sl rfl | rfl | exact partOf_all (DV.len _))) ?_
      refine wpOps_on rfl ?_
      refine wpOps_ins rfl ?_
      refine wpOps_on rfl ?_
      refine wp_bool rfl (fun hb4 => ?_) (fun hb4 => ?_)
      · replace hb4 := ltI_lt hb4
        refine wpOps_ins rfl ?_
        refine wpOps_ins rfl ?_
        refine wpOps_off rfl ?_
        refine wpOps_off rfl ?_
        refine wpOps_off rfl ?_
        refine wpOps_off rfl ?_
        refine wpOps_off rfl ?_
        refine wpOps_ins rfl ?_
        refine wpOps_nil ?_
        refine wpC_condT rfl ?_
        refine wpC_seq (wpC_reg ?_)
        refine wpOps_ins rfl ?_
        refine wpOps_nil ?_
        refine wpC_ret ?_
        refine ⟨trivial, _, rfl, ?_⟩
        exact ⟨false, _, rfl, (H.front 1 rfl).tail2, fun e => by simp at e⟩
      · replace hb4 := ltI_ge hb4
        refine wpOps_ins rfl ?_
        refine wpOps_ins rfl ?_
        refine wpOps_on rfl ?_
        refine wpOps_ins rfl ?_
        refine wpOps_on rfl ?_
        refine wpOps_ins rfl ?_
        refine wpOps_on rfl ?_
        refine wpOps_ins (sem_load rfl (H.at 0 rfl) (fun _ => by first | exact partOf_sl rfl | rfl | exact partOf_all (DV.len _))) ?_
        refine wpOps_on rfl ?_
        refine wpOps_ins (sem_len rfl) ?_
        refine wpOps_on rfl ?_
        refine wp_bool rfl (fun hb5 => ?_) (fun hb5 => ?_)
        · replace hb5 := ltI_lt hb5
          refine wpOps_ins rfl ?_
          refine wpOps_nil ?_
          refine wpC_condT rfl ?_
          refine wpC_seq (wpC_reg ?_)
          refine wpOps_ins rfl ?_
          refine wpOps_nil ?_
          refine wpC_ret ?_
          refine ⟨trivial, _, rfl, ?_⟩
          exact ⟨false, _, rfl, (H.front 1 rfl).tail2, fun e => by simp at e⟩
        · replace hb5 := ltI_ge hb5
          refine wpOps_ins rfl ?_
          refine wpOps_nil ?_
          refine wpC_condF rfl ?_
          refine wpC_skip ?_
          refine wpC_seq (wpC_reg ?_)
          refine wpOps_ins rfl ?_
          refine wpOps_ins rfl ?_
          refine wpOps_ins (sem_load rfl (H.at 0 rfl) (fun _ => by first | exact partOf_sl rfl | rfl | exact partOf_all (DV.len _))) ?_
          refine wpOps_ins rfl ?_
          refine wpOps_ins (sem_int rfl (w64 (by omega) (by omega))) ?_
          refine wp_call rfl (hl ⟨hok.2.2.2.1, hok.2.1⟩ (by omega) (by omega) (by omega) (by omega) (H.front 1 rfl)) ?_
          rintro _ h ⟨b, left6, rfl, H, hl6⟩
          cases b
          · refine wpOps_ins rfl ?_
            refine wpOps_off rfl ?_
            refine wpOps_off rfl ?_
            refine wpOps_off rfl ?_
            refine wpOps_off rfl ?_
            refine wpOps_off rfl ?_
            refine wpOps_off rfl ?_
            refine wpOps_ins rfl ?_
            refine wpOps_ins rfl ?_
            refine wpOps_nil ?_
            refine wpC_ret ?_
            refine ⟨trivial, _, rfl, ?_⟩
            exact ⟨false, _, rfl, (H.front 0 rfl).tail2, fun e => by simp at e⟩
          · have hl6 := hl6 rfl
            refine wpOps_ins rfl ?_
            refine wpOps_on rfl ?_
            refine wpOps_ins rfl ?_
            refine wpOps_on rfl ?_
            refine wpOps_ins rfl ?_
            refine wpOps_on rfl ?_
            refine wpOps_ins (sem_load rfl (H.at 1 rfl) (fun _ => by first | exact partOf_sl rfl | rfl | exact partOf_all (DV.len _))) ?_
            refine wpOps_on rfl ?_
            refine wpOps_ins rfl ?_
            refine wpOps_on rfl ?_
            refine wpOps_ins (sem_int rfl (w64 (by omega) (by omega))) ?_
            refine wpOps_on rfl ?_
            refine wp_call rfl (hm ⟨hok.2.2.2.2, hok.2.2.1⟩ (by omega) (by omega) (by omega) (by omega) (H.front 0 rfl)) ?_
            rintro _ h ⟨b, left7, rfl, H, hl7⟩
            cases b
            · refine wpOps_ins rfl ?_
              refine wpOps_ins rfl ?_
              refine wpOps_nil ?_
              refine wpC_ret ?_
              refine ⟨trivial, _, rfl, ?_⟩
              exact ⟨false, _, rfl, (H.front 0 rfl).tail2, fun e => by simp at e⟩
            · have hl7 := hl7 rfl
              refine wpOps_ins rfl ?_
              refine wpOps_ins rfl ?_
              refine wpOps_nil ?_
              refine wpC_ret ?_
              refine ⟨trivial, _, rfl, ?_⟩
              exact ⟨true, _, rfl, (H.front 0 rfl).tail2, fun e => ⟨by omega, by omega⟩⟩
theorem vals_loop {l : List DV} (hall : ∀ t ∈ l, ValOK E t) (hok : ∀ t ∈ l, t.ok) (hlen : l.length ≤ maxN) {nl fu : Bool} {deep left0 : Int} {p : Pos} {L : List (Pos × AObj)} {Q : XExit → Tm → Heap → Prop} (h0 : -20000000000000 ≤ left0) (h1 : left0 ≤ 1500) (h2 : 0 ≤ deep) (h3 : deep ≤ 200)
    (hend : ∀ tm h left, Has h ((p, rowI tyMeter left) :: L) → (0 ≤ left ∨ left = left0) → left ≤ left0 → Q (.exit 0) tm h) (hret : ∀ tm h left, tm.get (.lo .d0 .d6) = some (.bool false) → Has h ((p, rowI tyMeter left) :: L) → Q .ret tm h) :
    ∀ (k j : Nat), l.length - j = k → ∀ (left : Int) (tm : Tm) (h : Heap), Has h ((p, rowI tyMeter left) :: L) → (0 ≤ left ∨ left = left0) → left ≤ left0 → tm.get (.lo .d0 .d0) = some (.ptr p 0) → tm.get (.lo .d0 .d2) = some (.int .i64 deep) → tm.get (.lo .d0 .d9) = some (slAV nl fu l.length (DV.cellsL l)) → tm.get (.lo .d0 .d10) = some (.int .i64 (.ofNat l.length)) → tm.get (.lo .d0 .d11) = some (.int .i64 (.ofNat j)) → LoopT E c_vals_b0 Q tm h := by
  intro k
  induction k using Nat.strongRecOn with
  | ind k ih =>
    intro j hk left tm h H hp hle e0 e2 e9 e10 e11
    obtain ⟨tm, rfl⟩ := sets5 e0 e2 e9 e10 e11
    refine LoopT.wp ?_
    unfold c_vals_b0
    refine wpC_seq (wpC_reg ?_)
    refine wp_bool rfl (fun hb1 => ?_) (fun hb1 => ?_)
    · have hj := of_ltN hb1
      refine wpOps_nil ?_
      refine wpC_seq ?_
      refine wpC_condT rfl ?_
      refine wpC_skip ?_
      refine wpC_seq ?_
      refine wpC_block ?_
      refine wpC_seq (wpC_reg ?_)
      refine wpOps_ins (sem_iaddrV rfl rfl hj) ?_
      refine wpOps_ins (sem_loadI rfl (DV.len _)) ?_
      refine wp_alloc H fun q2 h H => ?_
      refine wp_store (k := 0) rfl rfl rfl (by first | rfl | exact len_of (DT.len _) | exact len_of (DE.len _) | exact len_of (DV.len _)) H rfl (fun k => by first | exact spliceK_len (by first | exact DT.len _ | exact DE.len _ | exact DV.len _) k | rfl) fun h H => ?_
      refine wpOps_nil ?_
      refine wpC_seq (wpC_reg ?_)
      refine wpOps_ins rfl ?_
      refine wpOps_ins (sem_load rfl (H.at 0 rfl) (fun _ => by first | exact partOf_sl rfl | rfl | exact partOf_all (DV.len _))) ?_
      refine wpOps_ins rfl ?_
      refine wp_call rfl (hall _ (List.getElem_mem hj) (hok _ (List.getElem_mem hj)) (by omega) (by omega) (by omega) (by omega) (H.front 1 rfl)) ?_
      rintro _ h ⟨b, left3, rfl, H, hl3⟩
      cases b
      · refine wpOps_ins rfl ?_
        refine wpOps_nil ?_
        refine wpC_condT rfl ?_
        refine wpC_seq (wpC_reg ?_)
        refine wpOps_ins rfl ?_
        refine wpOps_nil ?_
        refine wpC_ret ?_
        exact hret _ _ _ rfl (H.front 0 rfl).tail2
      · have hl3 := hl3 rfl
        refine wpOps_ins rfl ?_
        refine wpOps_nil ?_
        refine wpC_condF rfl ?_
        refine wpC_skip ?_
        refine wpC_reg ?_
        refine wpOps_ins (sem_int rfl (w64_succ (by unfold maxN at hlen; omega))) ?_
        refine wpOps_ins rfl ?_
        refine wpOps_nil ?_
        exact ih (l.length - (j + 1)) (by omega) (j + 1) rfl _ _ _ (H.front 0 rfl).tail2 (by omega) (by omega) rfl rfl rfl rfl rfl
    · have hj := of_geN hb1
      refine wpOps_nil ?_
      refine wpC_seq ?_
      refine wpC_condF rfl ?_
      refine wpC_exit ?_
      exact hend _ _ _ (H.front 0 rfl) hp hle
theorem vals_of (C : Code E) {t : List DV} (hall : ∀ x ∈ t, ValOK E x) : ValsOK E t := by
  rintro ⟨hok, hlen⟩ nl fu deep left p h L h0 h1 h2 h3 H
  have hok := DV.ok_mem hok
  refine CallT.body C.vals ?_
  unfold BodyT c_vals
  refine wpC_seq (wpC_reg ?_)
  refine wpOps_ins rfl ?_
  refine wpOps_nil ?_
  refine wpC_seq ?_
  refine wpC_seq (wpC_reg ?_)
  refine wpOps_ins rfl ?_
  refine wpOps_ins (sem_len rfl) ?_
  refine wpOps_ins rfl ?_
  refine wpOps_nil ?_
  refine wpC_block ?_
  refine wpC_loop (vals_loop hall hok hlen h0 h1 h2 h3 (fun tm h left1 H hp hl1 => ?_) (fun tm h left1 e6 H => ?_) (t.length - 0) 0 rfl left _ _ H (.inr rfl) (Int.le_refl _) rfl rfl rfl rfl rfl)
  · refine wpC_seq (wpC_reg ?_)
    refine wpOps_ins rfl ?_
    refine wpOps_nil ?_
    refine wpC_ret ?_
    refine ⟨trivial, _, rfl, ?_⟩
    exact ⟨true, _, rfl, (H.front 0 rfl), fun e => ⟨hp, hl1⟩⟩
  · obtain ⟨tm, rfl⟩ := sets1 e6
    refine ⟨trivial, _, rfl, ?_⟩
    exact ⟨false, _, rfl, (H.front 0 rfl), fun e => by simp at e⟩
mutual
theorem val_ok (C : Code E) : ∀ t : DV, ValOK E t
  | .mk _ _ _ _ _ _ _ _ _ l _ _ m => val_of C (vals_of C (val_all C l)) (vals_of C (val_all C m))
theorem val_all (C : Code E) : ∀ l : List DV, ∀ t ∈ l, ValOK E t
  | [], t, h => by simp at h
  | x :: l, t, h => (List.mem_cons.1 h).elim (fun e => e ▸ val_ok C x) (fun h => val_all C l t h)
end
theorem vals_ok (C : Code E) (l : List DV) : ValsOK E l := vals_of C (val_all C l)
/-! ### slices of states that are made -/
abbrev tyStates : TypeId := 35
theorem sl_cellsO {nl fu : Bool} {n : Nat} {cs : List AV} : (slAV nl fu n cs).cellsO = some [slAV nl fu n cs] := by rcases slAV_cases nl fu n cs with ⟨_, e⟩ | e <;> rw [e] <;> rfl
def nils (n : Nat) : List AV := List.replicate n .nilslice
theorem repeat_nils : ∀ n : Nat, repeatL n [AV.nilslice] = nils n
  | 0 => rfl
  | n + 1 => by simp only [repeatL, repeat_nils n, nils, List.replicate_succ, List.singleton_append]
theorem small24 {n : Nat} (h : n ≤ 11728124029268) : smallN n 24 = true := by
  unfold smallN; exact Nat.ble_eq_true_of_le (by omega)
theorem ble40 {n : Nat} (h : n ≤ 11728124029268) : Nat.ble n 281474976702464 = true := Nat.ble_eq_true_of_le (by omega)
theorem spliceK_mid {β : Type} {no : β} : ∀ (a x b c : List AV), x.length = b.length → ∀ kk : List AV → β, spliceK no a.length x (a ++ (b ++ c)) kk = kk (a ++ (x ++ c))
  | [], x, b, c, h, kk => by
    have : ∀ (x b : List AV), x.length = b.length → ∀ kk : List AV → β, overK no x (b ++ c) kk = kk (x ++ c) := by
      intro x
      induction x with
      | nil => intro b h kk; cases b with | nil => rfl | cons _ _ => simp at h
      | cons y x ih => intro b h kk; cases b with | nil => simp at h | cons z b => exact ih b (by simpa using h) fun r => kk (y :: r)
    exact this x b h kk
  | y :: a, x, b, c, h, kk => spliceK_mid a x b c h fun r => kk (y :: r)
def CatV (v : AV) (n : Nat) (acc : List AV) (B : List (Pos × AObj)) : Prop := (n = 0 ∧ B = [] ∧ v = .nilslice ∧ acc = []) ∨ ∃ q, 0 < n ∧ acc.length ≤ n ∧ B = [(q, .row tyStates (acc ++ nils (n - acc.length)) true)] ∧ v = .slice q 0 acc.length (.up 1)
variable {d : Option Slot} {ops : List XOp} {Q : Tm → Heap → Prop} {tm : Tm} {h : Heap} {L : List (Pos × AObj)}
theorem dropE_someC {α : Type} : ∀ {l : List α} {n : Nat}, n ≤ l.length → ∃ r, dropE n l = some r
  | l, 0, _ => ⟨l, by cases l <;> rfl⟩
  | [], n + 1, h => by simp at h
  | x :: l, n + 1, h => by obtain ⟨r, hr⟩ := dropE_someC (l := l) (n := n) (by simpa using h); exact ⟨r, hr⟩
theorem cellsR_len : ∀ l : List DS, (l.flatMap DS.cell).length = l.length
  | [] => rfl
  | s :: l => by rw [List.flatMap_cons, List.length_append, DS.len, cellsR_len l, List.length_cons]; omega
theorem wp_catApp {x y : XO} {v : AV} {n : Nat} {acc : List AV} {B X : List (Pos × AObj)} {l : List DS} {nl fu : Bool} (hv : x.val tm = some v) (hy : y.val tm = some (slAV nl fu l.length (l.flatMap DS.cell))) (ho : CatV v n acc B) (hn : acc.length + l.length ≤ n) (H : Has h (X ++ (B ++ L)))
    (hq : ∀ v' h' B', CatV v' n (acc ++ l.flatMap DS.cell) B' → Has h' (X ++ (B' ++ L)) → wpOps E ops Q (putT d v' tm) h') : wpOps E (⟨d, none, .ins (.append tyStates 1 24 x y)⟩ :: ops) Q tm h := by
  have hlen := cellsR_len l
  have hs : srcOf 1 (slAV nl fu l.length (l.flatMap DS.cell)) h = some (l.length, l.flatMap DS.cell) := by
    rcases slAV_cases nl fu l.length (l.flatMap DS.cell) with ⟨h0, e⟩ | e
    · rw [e, h0, List.eq_nil_of_length_eq_zero h0]; rfl
    · rw [e]
      have := takeE_append (l.flatMap DS.cell) []
      rw [List.append_nil, hlen] at this
      simp only [srcOf, Nat.mul_one, this]
  have hsem : (XI.append tyStates 1 24 x y).sem tm h = appendTo tyStates 1 24 v l.length (l.flatMap DS.cell) h := by
    simp only [XI.sem, appendS, withO_run hv, withO_run hy, hs]
  rcases ho with ⟨rfl, rfl, rfl, rfl⟩ | ⟨q, h0, hle, rfl, rfl⟩
  · obtain rfl : l = [] := List.eq_nil_of_length_eq_zero (by simp at hn; exact List.length_eq_zero_iff.2 hn)
    exact wpOps_ins (h' := h) hsem (hq _ _ [] (.inl ⟨rfl, rfl, rfl, rfl⟩) H)
  · cases hl : l.length with
    | zero =>
      obtain rfl : l = [] := List.eq_nil_of_length_eq_zero hl
      refine wpOps_ins (v := .slice q 0 acc.length (.up 1)) (h' := h) hsem (hq _ _ _ (.inr ⟨q, h0, by simpa using hle, rfl, ?_⟩) (by simpa using H))
      simp
    | succ m =>
      have hL : (acc ++ nils (n - acc.length)).length = n := by simp only [nils, List.length_append, List.length_replicate]; omega
      have hg : h.get q = .row tyStates (acc ++ nils (n - acc.length)) true := H.mem (x := (q, _)) (by simp)
      obtain ⟨r, hr⟩ := dropE_someC (l := acc ++ nils (n - acc.length)) (n := 0 + (acc.length + (m + 1)) * 1) (by rw [hL]; omega)
      have hsp : nils (n - acc.length) = nils l.length ++ nils (n - acc.length - l.length) := by simp only [nils, List.replicate_append_replicate]; congr 1; omega
      have hk : (X ++ ([(q, AObj.row tyStates (acc ++ nils (n - acc.length)) true)] ++ L))[X.length]? = some (q, .row tyStates (acc ++ nils (n - acc.length)) true) := by simp
      have H2 := H.set hk (.row tyStates (acc ++ (l.flatMap DS.cell ++ nils (n - acc.length - l.length))) true)
      refine wpOps_ins (v := .slice q 0 (acc.length + (m + 1)) (.up 1)) (h' := h.set q (.row tyStates (acc ++ (l.flatMap DS.cell ++ nils (n - acc.length - l.length))) true)) ?_ (hq _ _ [(q, .row tyStates ((acc ++ l.flatMap DS.cell) ++ nils (n - (acc ++ l.flatMap DS.cell).length)) true)] (.inr ⟨q, h0, by simp [hlen]; omega, rfl, ?_⟩) ?_)
      · rw [hsem, hl]
        simp only [appendTo]
        rw [hg]
        simp only [hr]
        show writeAt q (0 + acc.length * 1) (l.flatMap DS.cell) _ h = _
        unfold writeAt
        rw [hg]
        simp only []
        rw [Nat.zero_add, Nat.mul_one, hsp, spliceK_mid acc _ _ _ (by rw [hlen]; simp [nils])]
        rw [hl]
        rfl
      · rw [List.length_append, hlen, hl]
      · have e : (X ++ ([(q, AObj.row tyStates (acc ++ nils (n - acc.length)) true)] ++ L)).set X.length (q, .row tyStates (acc ++ (l.flatMap DS.cell ++ nils (n - acc.length - l.length))) true) = X ++ ([(q, .row tyStates ((acc ++ l.flatMap DS.cell) ++ nils (n - (acc ++ l.flatMap DS.cell).length)) true)] ++ L) := by
          rw [List.set_append_right _ _ (Nat.le_refl _), Nat.sub_self]
          simp only [List.singleton_append, List.set_cons_zero, List.append_assoc, List.length_append, hlen]
          rw [show n - acc.length - l.length = n - (acc.length + l.length) by omega]
        rw [e] at H2
        exact H2
theorem fill2 {x y : XO} {a b z1 z2 : AV} (hx : x.val tm = some a) (ha : a.cellsO = some [a]) (hy : y.val tm = some b) (hb : b.cellsO = some [b]) (k : List AV → Out AV) : fillK .bad [(0, 1, x), (1, 1, y)] tm [z1, z2] k = k [a, b] := by
  simp only [fillK, withO_run hx, ha, withO_run hy, hb]
  rfl
theorem wp_appendZ {x y : XO} {k : IntKind} {m : Nat} (hv : x.val tm = some .nilslice) (hy : y.val tm = some (.int k (.ofNat (m + 1)))) (hm : m + 1 ≤ 11728124029268) (H : Has h L)
    (hq : ∀ q h', Has h' ((q, .row tyStates (nils (m + 1)) true) :: L) → wpOps E ops Q (putT d (.slice q 0 (m + 1) (.up 1)) tm) h') : wpOps E (⟨d, none, .ins (.appendZ tyStates 24 [.nilslice] x y)⟩ :: ops) Q tm h := by
  refine wpOps_ins (v := .slice h.next 0 (m + 1) (.up 1)) (h' := h.push (.row tyStates (nils (m + 1)) true)) ?_ (hq _ _ (H.push _))
  have h1 := ble40 hm
  have h2 := small24 hm
  simp only [XI.sem, appendZS, withO_run hv, XO.withN, XO.withI, withO_run hy, h1, h2, repeat_nils]
  show appendTo tyStates 1 24 .nilslice (m + 1) (nils (m + 1)) h = _
  simp only [appendTo, h2]
  rfl
def CatR (L : List (Pos × AObj)) (n : Nat) (acc : List AV) : AV → Heap → Prop := fun r h => ∃ B, CatV r n acc B ∧ Has h (B ++ L)
theorem growS_ok (C : Code E) {n : Nat} (hn : n ≤ 11728124029268) {h : Heap} {L : List (Pos × AObj)} (H : Has h L) : CallT E (.func n_grow [] []) [.nilslice, .int .i64 (.ofNat n)] h (CatR L n []) := by
  refine CallT.body C.grow ?_
  unfold BodyT c_grow
  refine wpC_seq (wpC_reg ?_)
  refine wpOps_ins rfl ?_
  refine wpOps_nil ?_
  refine wpC_seq ?_
  refine wpC_seq (wpC_reg ?_)
  refine wpOps_ins rfl ?_
  refine wpOps_ins (sem_is (b := false) rfl rfl) ?_
  refine wpOps_nil ?_
  refine wpC_condF rfl ?_
  refine wpC_skip ?_
  refine wpC_seq ?_
  refine wpC_seq (wpC_reg ?_)
  refine wpOps_ins rfl ?_
  refine wpOps_ins rfl ?_
  refine wpOps_ins rfl ?_
  refine wpOps_ins rfl ?_
  refine wpOps_ins rfl ?_
  refine wpOps_ins (sem_int (m := 0) rfl rfl) ?_
  refine wpOps_ins (sem_int (m := .ofNat n) rfl (by rw [Int.sub_zero]; exact w64 (by rw [ofNat_cast]; omega) (by rw [ofNat_cast]; omega))) ?_
  refine wpOps_ins rfl ?_
  refine wpOps_nil ?_
  refine wpC_seq (wpC_reg ?_)
  refine wpOps_ins rfl ?_
  refine wp_bool rfl (fun hb1 => ?_) (fun hb1 => ?_)
  · obtain ⟨m, rfl⟩ : ∃ m, n = m + 1 := ⟨n - 1, by have := of_ltN (a := 0) (b := n) hb1; omega⟩
    refine wpOps_nil ?_
    refine wpC_condT rfl ?_
    refine wpC_reg ?_
    refine wpOps_ins rfl ?_
    refine wpOps_ins rfl ?_
    refine wpOps_ins rfl ?_
    refine wpOps_ins rfl ?_
    refine wpOps_ins rfl ?_
    refine wp_appendZ rfl rfl hn H fun q h H => ?_
    refine wpOps_ins rfl ?_
    refine wpOps_ins rfl ?_
    refine wpOps_ins rfl ?_
    refine wpOps_ins rfl ?_
    refine wpOps_nil ?_
    refine wpC_seq (wpC_reg ?_)
    refine wpOps_ins rfl ?_
    refine wpOps_ins rfl ?_
    refine wpOps_nil ?_
    refine wpC_ret ?_
    refine ⟨trivial, _, rfl, ?_⟩
    exact ⟨_, .inr ⟨q, Nat.succ_pos _, Nat.zero_le _, rfl, rfl⟩, H⟩
  · obtain rfl : n = 0 := by have := of_geN (a := 0) (b := n) hb1; omega
    refine wpOps_nil ?_
    refine wpC_condF rfl ?_
    refine wpC_skip ?_
    refine wpC_seq (wpC_reg ?_)
    refine wpOps_ins rfl ?_
    refine wpOps_ins rfl ?_
    refine wpOps_nil ?_
    refine wpC_ret ?_
    refine ⟨trivial, _, rfl, ?_⟩
    exact ⟨[], .inl ⟨rfl, rfl, rfl, rfl⟩, H⟩
theorem cat_add (x y : Nat) (h : x + y ≤ 11728124029268) : wrapF .i64 (Int.ofNat x + Int.ofNat y) = Int.ofNat (x + y) := w64 (by simp only [ofNat_cast]; omega) (by simp only [ofNat_cast]; omega)
theorem concat_ok (C : Code E) {a b : List DS} {nl fu nl' fu' : Bool} (hn : a.length + b.length ≤ 11728124029268) {q : Pos} {ty : TypeId} {h : Heap} {L : List (Pos × AObj)} (H : Has h L) (hm : (q, AObj.row ty [slAV nl fu a.length (a.flatMap DS.cell), slAV nl' fu' b.length (b.flatMap DS.cell)] false) ∈ L) : CallT E (.func n_concat [] []) [.slice q 0 2 (.ex 2)] h (CatR L (a.length + b.length) ([] ++ a.flatMap DS.cell ++ b.flatMap DS.cell)) := by
  refine CallT.body C.concat ?_
  unfold BodyT c_concat
  refine wpC_seq (wpC_reg ?_)
  refine wpOps_ins rfl ?_
  refine wpOps_nil ?_
  refine wpC_seq (wpC_reg ?_)
  refine wpOps_ins rfl ?_
  refine wpOps_nil ?_
  refine wpC_seq ?_
  refine wpC_seq (wpC_reg ?_)
  refine wpOps_ins rfl ?_
  refine wpOps_ins rfl ?_
  refine wpOps_ins rfl ?_
  refine wpOps_nil ?_
  refine wpC_block ?_
  refine wpC_loop ?_
  refine LoopT.wp ?_
  unfold c_concat_b0
  refine wpC_seq (wpC_reg ?_)
  refine wpOps_ins (sem_is (b := true) rfl rfl) ?_
  refine wpOps_nil ?_
  refine wpC_seq ?_
  refine wpC_condT rfl ?_
  refine wpC_skip ?_
  refine wpC_seq ?_
  refine wpC_block ?_
  refine wpC_seq (wpC_reg ?_)
  refine wpOps_ins (sem_iaddrH rfl rfl (by decide)) ?_
  refine wpOps_ins (sem_load rfl (H.mem (x := (q, _)) (hm)) (fun _ => by exact partOf_sl rfl)) ?_
  refine wpOps_ins rfl ?_
  refine wpOps_nil ?_
  refine wpC_seq (wpC_reg ?_)
  refine wpOps_ins rfl ?_
  refine wpOps_ins rfl ?_
  refine wpOps_ins (sem_len rfl) ?_
  refine wpOps_ins (sem_int (m := .ofNat a.length) rfl ((cat_add 0 a.length (by omega)).trans (congrArg Int.ofNat (Nat.zero_add _)))) ?_
  refine wpOps_ins rfl ?_
  refine wpOps_nil ?_
  refine wpC_seq (wpC_reg ?_)
  refine wpOps_ins rfl ?_
  refine wpOps_ins (sem_is (b := false) rfl rfl) ?_
  refine wpOps_nil ?_
  refine wpC_condF rfl ?_
  refine wpC_skip ?_
  refine wpC_reg ?_
  refine wpOps_ins (sem_int (m := .ofNat 1) rfl rfl) ?_
  refine wpOps_ins rfl ?_
  refine wpOps_nil ?_
  refine LoopT.wp ?_
  refine wpC_seq (wpC_reg ?_)
  refine wpOps_ins (sem_is (b := true) rfl rfl) ?_
  refine wpOps_nil ?_
  refine wpC_seq ?_
  refine wpC_condT rfl ?_
  refine wpC_skip ?_
  refine wpC_seq ?_
  refine wpC_block ?_
  refine wpC_seq (wpC_reg ?_)
  refine wpOps_ins (sem_iaddrH rfl rfl (by decide)) ?_
  refine wpOps_ins (sem_load rfl (H.mem (x := (q, _)) (hm)) (fun _ => by exact partOf_sl rfl)) ?_
  refine wpOps_ins rfl ?_
  refine wpOps_nil ?_
  refine wpC_seq (wpC_reg ?_)
  refine wpOps_ins rfl ?_
  refine wpOps_ins rfl ?_
  refine wpOps_ins (sem_len rfl) ?_
  refine wpOps_ins (sem_int (m := .ofNat (a.length + b.length)) rfl (cat_add a.length b.length (by omega))) ?_
  refine wpOps_ins rfl ?_
  refine wpOps_nil ?_
  refine wpC_seq (wpC_reg ?_)
  refine wpOps_ins rfl ?_
  refine wpOps_ins (sem_is (b := false) rfl rfl) ?_
  refine wpOps_nil ?_
  refine wpC_condF rfl ?_
  refine wpC_skip ?_
  refine wpC_reg ?_
  refine wpOps_ins (sem_int (m := .ofNat 2) rfl rfl) ?_
  refine wpOps_ins rfl ?_
  refine wpOps_nil ?_
  refine LoopT.wp ?_
  refine wpC_seq (wpC_reg ?_)
  refine wpOps_ins (sem_is (b := false) rfl rfl) ?_
  refine wpOps_nil ?_
  refine wpC_seq ?_
  refine wpC_condF rfl ?_
  refine wpC_exit ?_
  refine wpC_seq (wpC_reg ?_)
  refine wpOps_ins rfl ?_
  refine wp_call rfl (growS_ok C hn H) ?_
  rintro r h ⟨B, ho, H⟩
  refine wpOps_ins rfl ?_
  refine wpOps_nil ?_
  refine wpC_seq ?_
  refine wpC_seq (wpC_reg ?_)
  refine wpOps_ins rfl ?_
  refine wpOps_ins rfl ?_
  refine wpOps_ins rfl ?_
  refine wpOps_nil ?_
  refine wpC_block ?_
  refine wpC_loop ?_
  refine LoopT.wp ?_
  unfold c_concat_b1
  refine wpC_seq (wpC_reg ?_)
  refine wpOps_ins (sem_is (b := true) rfl rfl) ?_
  refine wpOps_nil ?_
  refine wpC_seq ?_
  refine wpC_condT rfl ?_
  refine wpC_skip ?_
  refine wpC_seq ?_
  refine wpC_block ?_
  refine wpC_seq (wpC_reg ?_)
  refine wpOps_ins (sem_iaddrH rfl rfl (by decide)) ?_
  refine wpOps_ins (sem_load rfl (H.mem (x := (q, _)) (List.mem_append_right _ hm)) (fun _ => by exact partOf_sl rfl)) ?_
  refine wpOps_ins rfl ?_
  refine wpOps_nil ?_
  refine wpC_reg ?_
  refine wpOps_ins rfl ?_
  refine wpOps_ins rfl ?_
  refine wp_catApp (X := []) rfl rfl ho (by simp only [List.length_append, List.length_nil, cellsR_len]; omega) H fun v h B ho H => ?_
  have H : Has h (B ++ L) := H
  refine wpOps_ins rfl ?_
  refine wpOps_nil ?_
  refine wpC_reg ?_
  refine wpOps_ins (sem_int (m := .ofNat 1) rfl rfl) ?_
  refine wpOps_ins rfl ?_
  refine wpOps_nil ?_
  refine LoopT.wp ?_
  refine wpC_seq (wpC_reg ?_)
  refine wpOps_ins (sem_is (b := true) rfl rfl) ?_
  refine wpOps_nil ?_
  refine wpC_seq ?_
  refine wpC_condT rfl ?_
  refine wpC_skip ?_
  refine wpC_seq ?_
  refine wpC_block ?_
  refine wpC_seq (wpC_reg ?_)
  refine wpOps_ins (sem_iaddrH rfl rfl (by decide)) ?_
  refine wpOps_ins (sem_load rfl (H.mem (x := (q, _)) (List.mem_append_right _ hm)) (fun _ => by exact partOf_sl rfl)) ?_
  refine wpOps_ins rfl ?_
  refine wpOps_nil ?_
  refine wpC_reg ?_
  refine wpOps_ins rfl ?_
  refine wpOps_ins rfl ?_
  refine wp_catApp (X := []) rfl rfl ho (by simp only [List.length_append, List.length_nil, cellsR_len]; omega) H fun v h B ho H => ?_
  have H : Has h (B ++ L) := H
  refine wpOps_ins rfl ?_
  refine wpOps_nil ?_
  refine wpC_reg ?_
  refine wpOps_ins (sem_int (m := .ofNat 2) rfl rfl) ?_
  refine wpOps_ins rfl ?_
  refine wpOps_nil ?_
  refine LoopT.wp ?_
  refine wpC_seq (wpC_reg ?_)
  refine wpOps_ins (sem_is (b := false) rfl rfl) ?_
  refine wpOps_nil ?_
  refine wpC_seq ?_
  refine wpC_condF rfl ?_
  refine wpC_exit ?_
  refine wpC_seq (wpC_reg ?_)
  refine wpOps_ins rfl ?_
  refine wpOps_ins rfl ?_
  refine wpOps_nil ?_
  refine wpC_ret ?_
  exact ⟨trivial, _, rfl, B, ho, H⟩
def SlD (L : List (Pos × AObj)) (v : AV) (l : List DS) : Prop := (l = [] ∧ v = .nilslice) ∨ ∃ q ty r sp cap, v = .slice q 0 l.length cap ∧ (q, AObj.row ty (l.flatMap DS.cell ++ r) sp) ∈ L
theorem SlD.mono {L' : List (Pos × AObj)} {v : AV} {l : List DS} (hs : SlD L v l) (hm : ∀ x ∈ L, x ∈ L') : SlD L' v l := by
  rcases hs with hs | ⟨q, ty, r, sp, cap, h1, h2⟩
  · exact .inl hs
  · exact .inr ⟨q, ty, r, sp, cap, h1, hm _ h2⟩
theorem CatV.sld {v : AV} {n : Nat} {l : List DS} {B : List (Pos × AObj)} (ho : CatV v n (l.flatMap DS.cell) B) {L : List (Pos × AObj)} (hB : ∀ x ∈ B, x ∈ L) : SlD L v l := by
  rcases ho with ⟨_, _, rfl, h4⟩ | ⟨q, _, _, rfl, rfl⟩
  · have := cellsR_len l
    rw [h4] at this
    exact .inl ⟨List.eq_nil_of_length_eq_zero this.symm, rfl⟩
  · exact .inr ⟨q, _, _, _, _, by rw [cellsR_len], hB _ (List.mem_singleton.2 rfl)⟩
theorem SlD.len {v : AV} {l : List DS} (hs : SlD L v l) {x : XO} (hv : x.val tm = some v) : (XI.len false x).sem tm h = .ok (.int .i64 (.ofNat l.length)) h := by
  rcases hs with ⟨rfl, rfl⟩ | ⟨q, ty, r, sp, cap, rfl, _⟩ <;> simp only [XI.sem, lenS, withO_run hv] <;> rfl
theorem wp_iaddrD {v : AV} {l : List DS} (hs : SlD L v l) {x i : XO} {k : IntKind} {j : Nat} (hv : x.val tm = some v) (hi : i.val tm = some (.int k (.ofNat j))) (hj : j < l.length)
    (hq : ∀ q ty cs sp r, (q, AObj.row ty cs sp) ∈ L → dropE (0 + j * 1) cs = some (l[j].cell ++ r) → wpOps E ops Q (putT d (.ptr q (0 + j * 1)) tm) h) : wpOps E (⟨d, none, .ins (.iaddrS 1 x i)⟩ :: ops) Q tm h := by
  rcases hs with ⟨rfl, rfl⟩ | ⟨q, ty, r, sp, cap, rfl, hm⟩
  · simp at hj
  · refine wpOps_ins (sem_iaddrH hv hi hj) (hq q ty _ sp ((l.drop (j + 1)).flatMap DS.cell ++ r) hm ?_)
    have := dropE_flat DS.len l j hj
    have key : ∀ (a b : List AV) (n : Nat) (c : List AV), dropE n a = some c → dropE n (a ++ b) = some (c ++ b) := by
      intro a b n
      induction n generalizing a with
      | zero => intro c hc; have : dropE 0 a = some a := by cases a <;> rfl
                rw [this] at hc; cases hc; cases a <;> cases b <;> rfl
      | succ n ih => intro c hc; cases a with | nil => simp [dropE] at hc | cons x a => exact ih a c hc
    rw [Nat.zero_add, key _ r _ _ this, List.append_assoc]
theorem part_st {s : DS} {cs r : List AV} {o : Nat} (hd : dropE o cs = some (s.cell ++ r)) : partOf cs o none h = .ok (slAV s.nl s.fu s.l.length (DV.cellsL s.l)) h := by
  apply partOf_sl
  have : ∀ (cs : List AV) (o : Nat) (x : AV) (r : List AV), dropE o cs = some (x :: r) → nth cs o = some x := by
    intro cs o
    induction o generalizing cs with
    | zero => intro x r hx; cases cs with | nil => simp [dropE] at hx | cons c cs => simp only [dropE, Option.some.injEq, List.cons.injEq] at hx; rw [← hx.1]; rfl
    | succ o ih => intro x r hx; cases cs with | nil => simp [dropE] at hx | cons c cs => exact ih cs x r hx
  exact this cs o _ r hd
theorem light_loop (C : Code E) {l : List DS} (hok : ∀ s ∈ l, s.ok) (hlen : l.length ≤ 11728124029268) {r : AV} {p : Pos} {L : List (Pos × AObj)} (hS : SlD L r l) {Q : XExit → Tm → Heap → Prop}
    (hend : ∀ tm h left, Has h ((p, rowI tyMeter left) :: L) → Q (.exit 0) tm h) (hret : ∀ tm h left, tm.get (.lo .d0 .d2) = some (.bool false) → Has h ((p, rowI tyMeter left) :: L) → Q .ret tm h) :
    ∀ (k j : Nat), l.length - j = k → ∀ (left : Int) (tm : Tm) (h : Heap), Has h ((p, rowI tyMeter left) :: L) → -(j : Int) ≤ left → left ≤ 1500 → tm.get (.lo .d0 .d3) = some (.ptr p 0) → tm.get (.lo .d0 .d14) = some r → tm.get (.lo .d0 .d15) = some (.int .i64 (.ofNat l.length)) → tm.get (.lo .d1 .d0) = some (.int .i64 (.ofNat j)) → LoopT E c_light_b0 Q tm h := by
  intro k
  induction k using Nat.strongRecOn with
  | ind k ih =>
    intro j hk left tm h H h0 h1 e3 e14 e15 e16
    obtain ⟨tm, rfl⟩ := sets4 e3 e14 e15 e16
    refine LoopT.wp ?_
    unfold c_light_b0
    refine wpC_seq (wpC_reg ?_)
    refine wp_bool rfl (fun hb1 => ?_) (fun hb1 => ?_)
    · have hj := of_ltN hb1
      refine wpOps_nil ?_
      refine wpC_seq ?_
      refine wpC_condT rfl ?_
      refine wpC_skip ?_
      refine wpC_seq ?_
      refine wpC_block ?_
      refine wpC_seq (wpC_reg ?_)
      refine wp_iaddrD hS rfl rfl hj fun q ty cs sp r hm hd => ?_
      refine wpOps_ins (sem_load rfl (H.mem (x := (q, _)) (List.mem_cons_of_mem _ hm)) (fun _ => part_st hd)) ?_
      refine wpOps_ins rfl ?_
      refine wpOps_nil ?_
      refine wpC_seq (wpC_reg ?_)
      refine wpOps_ins rfl ?_
      refine wpOps_ins rfl ?_
      refine wpOps_ins rfl ?_
      refine wpOps_ins (sem_load rfl (H.at 0 rfl) (fun _ => by first | exact partOf_sl rfl | rfl | exact partOf_all (DV.len _))) ?_
      refine wpOps_ins (sem_int rfl (w64 (by omega) (by omega))) ?_
      refine wpOps_ins rfl ?_
      refine wpOps_ins rfl ?_
      refine wp_store (k := 0) rfl rfl rfl (by first | rfl | exact len_of (DT.len _) | exact len_of (DE.len _) | exact len_of (DV.len _)) H rfl (fun k => by first | exact spliceK_len (by first | exact DT.len _ | exact DE.len _ | exact DV.len _) k | rfl) fun h H => ?_
      refine wpOps_nil ?_
      refine wpC_seq (wpC_reg ?_)
      refine wpOps_ins rfl ?_
      refine wpOps_ins rfl ?_
      refine wp_call rfl (vals_ok C _ ⟨(hok _ (List.getElem_mem hj)).1, (hok _ (List.getElem_mem hj)).2⟩ (by omega) (by omega) (by omega) (by omega) (H.front 0 rfl)) ?_
      rintro _ h ⟨b, left2, rfl, H, hl2⟩
      cases b
      · refine wpOps_ins rfl ?_
        refine wpOps_nil ?_
        refine wpC_condT rfl ?_
        refine wpC_seq (wpC_reg ?_)
        refine wpOps_ins rfl ?_
        refine wpOps_nil ?_
        refine wpC_ret ?_
        exact hret _ _ _ rfl (H.front 0 rfl)
      · have hl2 := hl2 rfl
        refine wpOps_ins rfl ?_
        refine wpOps_nil ?_
        refine wpC_condF rfl ?_
        refine wpC_skip ?_
        refine wpC_reg ?_
        refine wpOps_ins (sem_int rfl (w64_succ (by omega))) ?_
        refine wpOps_ins rfl ?_
        refine wpOps_nil ?_
        exact ih (l.length - (j + 1)) (by omega) (j + 1) rfl _ _ _ (H.front 0 rfl) (by omega) (by omega) rfl rfl rfl rfl
    · have hj := of_geN hb1
      refine wpOps_nil ?_
      refine wpC_seq ?_
      refine wpC_condF rfl ?_
      refine wpC_exit ?_
      exact hend _ _ _ (H.front 0 rfl)
theorem light_perm {α : Type} (B L : List α) (x y z : α) : (B ++ x :: y :: z :: L).Perm (y :: (B ++ x :: z :: L)) := by
  have h1 : (B ++ x :: y :: z :: L).Perm (B ++ y :: x :: z :: L) := List.Perm.append_left B (List.Perm.swap _ _ _)
  exact h1.trans List.perm_middle
theorem light_ok (C : Code E) {v : DVd} (hok : v.ok) {h : Heap} {L : List (Pos × AObj)} (H : Has h L) : CallT E (.func n_light [] []) [.agg v.cells] h (fun r h => ∃ b, r = .bool b ∧ Has h L) := by
  refine CallT.body C.light ?_
  unfold BodyT c_light
  refine wpC_seq (wpC_reg ?_)
  refine wp_box rfl rfl H fun q1 h H => ?_
  refine wpOps_ins rfl ?_
  refine wpOps_nil ?_
  refine wpC_seq (wpC_reg ?_)
  refine wpOps_ins rfl ?_
  refine wp_box rfl rfl H fun p h H => ?_
  refine wpOps_ins rfl ?_
  refine wpOps_nil ?_
  refine wpC_seq ?_
  refine wpC_seq (wpC_reg ?_)
  refine wpOps_ins rfl ?_
  refine wpOps_ins (sem_load rfl (H.at 1 rfl) (fun _ => by first | exact partOf_sl rfl | rfl | exact partOf_all (DV.len _))) ?_
  refine wpOps_ins rfl ?_
  refine wpOps_ins rfl ?_
  refine wpOps_ins (sem_load rfl (H.at 1 rfl) (fun _ => by first | exact partOf_sl rfl | rfl | exact partOf_all (DV.len _))) ?_
  refine wp_bslice (fill2 rfl sl_cellsO rfl sl_cellsO) H fun qb h H => ?_
  refine wp_call rfl (concat_ok (a := v.run) (b := v.las) C (by have := hok.2.2.1; have := hok.2.2.2; omega) H List.mem_cons_self) ?_
  rintro r h ⟨B, ho, H⟩
  have ho : CatV r (v.run.length + v.las.length) ((v.run ++ v.las).flatMap DS.cell) B := by rw [List.flatMap_append]; exact ho
  have hS := fun K => ho.sld (L := B ++ K) (fun x m => List.mem_append_left _ m)
  refine wpOps_ins ((hS []).len rfl) ?_
  refine wpOps_ins rfl ?_
  refine wpOps_nil ?_
  refine wpC_block ?_
  have hS := hS [(qb, AObj.row 22 [slAV v.rn v.rf v.run.length (v.run.flatMap DS.cell), slAV v.ln v.lf v.las.length (v.las.flatMap DS.cell)] false), (q1, AObj.row 26 v.cells false)]
  have H : Has h ((p, rowI tyMeter 1500) :: ((B ++ [(qb, AObj.row 22 [slAV v.rn v.rf v.run.length (v.run.flatMap DS.cell), slAV v.ln v.lf v.las.length (v.las.flatMap DS.cell)] false), (q1, AObj.row 26 v.cells false)]) ++ L)) := H.perm (by rw [List.append_assoc]; exact light_perm _ _ _ _ _)
  have hS2 : SlD ((B ++ [(qb, AObj.row 22 [slAV v.rn v.rf v.run.length (v.run.flatMap DS.cell), slAV v.ln v.lf v.las.length (v.las.flatMap DS.cell)] false), (q1, AObj.row 26 v.cells false)]) ++ L) r (v.run ++ v.las) := hS.mono fun x m => List.mem_append_left _ m
  refine wpC_loop (light_loop C (fun s m => (List.mem_append.1 m).elim (hok.1 s) (hok.2.1 s)) (by have := hok.2.2.1; have := hok.2.2.2; rw [List.length_append]; omega) hS2 (fun tm h left H => ?_) (fun tm h left e2 H => ?_) ((v.run ++ v.las).length - 0) 0 rfl 1500 _ _ H (by omega) (by omega) rfl rfl rfl rfl)
  · refine wpC_seq (wpC_reg ?_)
    refine wpOps_ins rfl ?_
    refine wpOps_nil ?_
    refine wpC_ret ?_
    exact ⟨trivial, _, rfl, true, rfl, H.tail.sub (List.sublist_append_right _ _)⟩
  · obtain ⟨tm, rfl⟩ := sets1 e2
    exact ⟨trivial, _, rfl, false, rfl, H.tail.sub (List.sublist_append_right _ _)⟩
theorem sem_sameB {x y : XO} {b : Bool} (hx : x.val tm = some (.bool b)) (hy : y.val tm = some (.bool b)) : (XI.same false .bool x y).sem tm h = .ok (.bool true) h := by
  simp only [XI.sem, sameS, withO_run hx, withO_run hy]
  cases b <;> rfl
theorem part10 {v : DVd} : partOf v.cells 0 (some 10) h = .ok (.agg v.cells) h := partOf_all v.len
theorem law_ok (C : Code E) (hsane : ∀ h, CallT E (.func n_sane [] []) [] h fun r h' => r = .bool true ∧ h' = h) {a b : DVd} (hok : a.ok) (hok' : b.ok) {h : Heap} : CallT E (.func n_law [] []) [.agg a.cells, .agg b.cells] h (fun r _ => r = .bool true) := by
  have H : Has h [] := Has.nil
  refine CallT.body C.law ?_
  unfold BodyT c_law
  refine wpC_seq (wpC_reg ?_)
  refine wp_box rfl rfl H fun q1 h H => ?_
  refine wp_box rfl rfl H fun q2 h H => ?_
  refine wpOps_ins rfl ?_
  refine wpOps_nil ?_
  refine wpC_seq ?_
  refine wpC_seq (wpC_reg ?_)
  refine wp_call rfl (hsane _) ?_
  rintro _ _ ⟨rfl, rfl⟩
  refine wpOps_ins rfl ?_
  refine wpOps_nil ?_
  refine wpC_condF rfl ?_
  refine wpC_skip ?_
  refine wpC_seq ?_
  refine wpC_seq (wpC_reg ?_)
  refine wpOps_ins (sem_load rfl (H.at 1 rfl) (fun _ => part10)) ?_
  refine wp_call rfl (light_ok C hok H) ?_
  rintro _ h ⟨b0, rfl, H⟩
  cases b0
  · refine wpOps_ins rfl ?_
    refine wpOps_ins rfl ?_
    refine wpOps_off rfl ?_
    refine wpOps_off rfl ?_
    refine wpOps_off rfl ?_
    refine wpOps_ins rfl ?_
    refine wpOps_nil ?_
    refine wpC_condT rfl ?_
    refine wpC_seq (wpC_reg ?_)
    refine wpOps_ins rfl ?_
    refine wpOps_nil ?_
    refine wpC_ret ?_
    exact ⟨trivial, _, rfl, rfl⟩
  · refine wpOps_ins rfl ?_
    refine wpOps_ins rfl ?_
    refine wpOps_on rfl ?_
    refine wpOps_ins (sem_load rfl (H.at 0 rfl) (fun _ => part10)) ?_
    refine wpOps_on rfl ?_
    refine wp_call rfl (light_ok C hok' H) ?_
    rintro _ h ⟨b0, rfl, H⟩
    cases b0
    · refine wpOps_on rfl ?_
      refine wpOps_ins rfl ?_
      refine wpOps_ins rfl ?_
      refine wpOps_nil ?_
      refine wpC_condT rfl ?_
      refine wpC_seq (wpC_reg ?_)
      refine wpOps_ins rfl ?_
      refine wpOps_nil ?_
      refine wpC_ret ?_
      exact ⟨trivial, _, rfl, rfl⟩
    · refine wpOps_on rfl ?_
      refine wpOps_ins rfl ?_
      refine wpOps_ins rfl ?_
      refine wpOps_nil ?_
      refine wpC_condF rfl ?_
      refine wpC_skip ?_
      refine wpC_seq ?_
      refine wpC_phase rfl ?_
      refine wpOps_ins (sem_load rfl (H.at 1 rfl) (fun _ => part10)) ?_
      refine wpOps_ins (sem_load rfl (H.at 0 rfl) (fun _ => part10)) ?_
      refine wpOps_ins (sem_load rfl (H.at 1 rfl) (fun _ => part10)) ?_
      refine wpOps_ins (sem_load rfl (H.at 0 rfl) (fun _ => part10)) ?_
      refine wpOps_nil ⟨?_, ?_⟩
      · refine wpK_ins (sem_load rfl (H.at 1 rfl) (fun _ => part10)) rfl rfl ?_
        refine wpK_ins (sem_load rfl (H.at 0 rfl) (fun _ => part10)) rfl rfl ?_
        refine wpK_ins (sem_load rfl (H.at 1 rfl) (fun _ => part10)) rfl rfl ?_
        refine wpK_ins (sem_load rfl (H.at 0 rfl) (fun _ => part10)) rfl rfl ?_
        exact wpK_nil
      · refine wp_call rfl (cCompare_ok C hok hok' H) ?_
        rintro _ h ⟨rfl, H⟩
        refine wpOps_nil ?_
        refine wpC_phase rfl ?_
        refine wpOps_nil ⟨?_, ?_⟩
        · refine wpK_ins (sem_load rfl (H.at 1 rfl) (fun _ => part10)) rfl rfl ?_
          refine wpK_ins (sem_load rfl (H.at 0 rfl) (fun _ => part10)) rfl rfl ?_
          exact wpK_nil
        · refine wp_call rfl (rCompare_ok C hok hok' H) ?_
          rintro _ h ⟨rfl, H⟩
          refine wpOps_nil ?_
          refine wpC_phase rfl ?_
          refine wpOps_ins (sem_is rfl (eqI_refl _)) ?_
          refine wpOps_ins rfl ?_
          refine wpOps_on rfl ?_
          refine wpOps_ins (sem_load rfl (H.at 1 rfl) (fun _ => part10)) ?_
          refine wpOps_on rfl ?_
          refine wpOps_ins (sem_load rfl (H.at 0 rfl) (fun _ => part10)) ?_
          refine wpOps_on rfl ?_
          refine wpOps_ins (sem_load rfl (H.at 1 rfl) (fun _ => part10)) ?_
          refine wpOps_on rfl ?_
          refine wpOps_ins (sem_load rfl (H.at 0 rfl) (fun _ => part10)) ?_
          refine wpOps_nil ⟨?_, ?_⟩
          · refine wpK_ins (sem_is rfl (eqI_refl _)) rfl rfl ?_
            refine wpK_ins (rfl) rfl rfl ?_
            refine wpK_on rfl ?_
            refine wpK_ins (sem_load rfl (H.at 1 rfl) (fun _ => part10)) rfl rfl ?_
            refine wpK_on rfl ?_
            refine wpK_ins (sem_load rfl (H.at 0 rfl) (fun _ => part10)) rfl rfl ?_
            refine wpK_on rfl ?_
            refine wpK_ins (sem_load rfl (H.at 1 rfl) (fun _ => part10)) rfl rfl ?_
            refine wpK_on rfl ?_
            refine wpK_ins (sem_load rfl (H.at 0 rfl) (fun _ => part10)) rfl rfl ?_
            exact wpK_nil
          · refine wpOps_on rfl ?_
            refine wp_call rfl (cSame_ok C hok hok' H) ?_
            rintro _ h ⟨rfl, H⟩
            refine wpOps_nil ?_
            refine wpC_phase rfl ?_
            refine wpOps_nil ⟨?_, ?_⟩
            · refine wpK_on rfl ?_
              refine wpK_ins (sem_load rfl (H.at 1 rfl) (fun _ => part10)) rfl rfl ?_
              refine wpK_on rfl ?_
              refine wpK_ins (sem_load rfl (H.at 0 rfl) (fun _ => part10)) rfl rfl ?_
              exact wpK_nil
            · refine wpOps_on rfl ?_
              refine wp_call rfl (rSame_ok C hok hok' H) ?_
              rintro _ h ⟨rfl, H⟩
              refine wpOps_nil ?_
              refine wpC_phase rfl ?_
              refine wpOps_on rfl ?_
              refine wpOps_ins (sem_sameB rfl rfl) ?_
              refine wpOps_ins rfl ?_
              refine wpOps_ins rfl ?_
              refine wpOps_on rfl ?_
              refine wpOps_ins (sem_load rfl (H.at 1 rfl) (fun _ => part10)) ?_
              refine wpOps_on rfl ?_
              refine wpOps_ins (sem_load rfl (H.at 1 rfl) (fun _ => part10)) ?_
              refine wpOps_nil ⟨?_, ?_⟩
              · refine wpK_on rfl ?_
                refine wpK_ins (sem_sameB rfl rfl) rfl rfl ?_
                refine wpK_ins (rfl) rfl rfl ?_
                refine wpK_ins (rfl) rfl rfl ?_
                refine wpK_on rfl ?_
                refine wpK_ins (sem_load rfl (H.at 1 rfl) (fun _ => part10)) rfl rfl ?_
                refine wpK_on rfl ?_
                refine wpK_ins (sem_load rfl (H.at 1 rfl) (fun _ => part10)) rfl rfl ?_
                exact wpK_nil
              · refine wpOps_on rfl ?_
                refine wp_call rfl (cSame_ok C hok hok H) ?_
                rintro _ h ⟨rfl, H⟩
                rw [DVd.same_self]
                refine wpOps_nil ?_
                refine wpC_last rfl ?_
                refine wpOps_ins rfl ?_
                refine wpOps_ins rfl ?_
                refine wpOps_nil ⟨?_, ?_⟩
                · refine wpK_ins (rfl) rfl rfl ?_
                  refine wpK_ins (rfl) rfl rfl ?_
                  exact wpK_nil
                · refine wpC_ret ?_
                  exact ⟨trivial, _, rfl, rfl⟩
end
end Go.X
