/- Slices of formulas, in memory that nobody writes or in blocks; appending. No program in sight. -/
import Derived.Test.YtjbkanbdnoepmaaGreatDoorCpCode
import Derived.Test.YtjbkanbdnoepmaaGreatDoorCpSame
namespace Go.X
open Go
/-- A slice of formulas: frozen, or in a block of L. -/
inductive SlR (L : List (Pos × AObj)) : AV → List DT → Prop
  | imm (nl fu : Bool) (l : List DT) : SlR L (slAV nl fu l.length (DT.cellsL l)) l
  | heap (q : Pos) (ty : TypeId) (sp : Bool) (cap : Cap) (l : List DT) (m : (q, AObj.row ty (DT.cellsL l) sp) ∈ L) : SlR L (.slice q 0 l.length cap) l
/-- The address of a formula. -/
def PtTo (L : List (Pos × AObj)) (p : AV) (t : DT) : Prop := (∃ r, p = .iptr (t.cells ++ r)) ∨ ∃ q o ty cs sp r, p = .ptr q o ∧ (q, AObj.row ty cs sp) ∈ L ∧ dropE o cs = some (t.cells ++ r)
section
variable {E : XEnv} {d : Option Slot} {ops : List XOp} {Q : Tm → Heap → Prop} {tm : Tm} {h h' : Heap} {L : List (Pos × AObj)} {a : AV} {l : List DT} {p : AV} {t : DT}
theorem SlR.mono {L' : List (Pos × AObj)} (hs : SlR L a l) (hl : ∀ x ∈ L, x ∈ L') : SlR L' a l := by
  cases hs with
  | imm nl fu => exact .imm nl fu l
  | heap q ty sp cap _ m => exact .heap q ty sp cap l (hl _ m)
theorem SlR.len (hs : SlR L a l) {x : XO} (hv : x.val tm = some a) : (XI.len false x).sem tm h = .ok (.int .i64 (.ofNat l.length)) h := by
  cases hs with
  | imm nl fu => exact sem_len hv
  | heap q ty sp cap _ m => simp only [XI.sem, lenS, withO_run hv]; rfl
theorem SlR.iaddr (hs : SlR L a l) {x i : XO} {k : IntKind} {j : Nat} (hv : x.val tm = some a) (hi : i.val tm = some (.int k (.ofNat j))) (hj : j < l.length) : ∃ p, PtTo L p l[j] ∧ (XI.iaddrS 24 x i).sem tm h = .ok p h := by
  cases hs with
  | imm nl fu => exact ⟨_, .inl ⟨_, rfl⟩, sem_iaddrT hv hi hj⟩
  | heap q ty sp cap _ m =>
    refine ⟨.ptr q (0 + j * 24), .inr ⟨q, _, ty, _, sp, (l.drop (j + 1)).flatMap DT.cells, rfl, m, ?_⟩, ?_⟩
    · rw [Nat.zero_add, DT.cellsL_eq]; exact dropE_flat DT.len l j hj
    · have hb : Nat.blt j l.length = true := blt_of hj
      simp only [XI.sem, iaddrSS, withO_run hv, XO.withN, XO.withI, withO_run hi, hb]
theorem wp_iaddrT (hs : SlR L a l) {x i : XO} {k : IntKind} {j : Nat} (hv : x.val tm = some a) (hi : i.val tm = some (.int k (.ofNat j))) (hj : j < l.length) (hq : ∀ p, PtTo L p l[j] → wpOps E ops Q (putT d p tm) h) : wpOps E (⟨d, none, .ins (.iaddrS 24 x i)⟩ :: ops) Q tm h := by
  obtain ⟨p, hp, e⟩ := hs.iaddr (h := h) hv hi hj
  exact wpOps_ins e (hq p hp)
theorem dropE_sub {α : Type} {cs a r : List α} {o n : Nat} (h : dropE o cs = some (a ++ r)) (hn : a.length = n) : sub cs o n = some a := by
  subst hn
  simp only [sub, h, takeE_append]
theorem dropE_nth {α : Type} : ∀ {cs : List α} {o : Nat} {x : α} {r : List α}, dropE o cs = some (x :: r) → nth cs o = some x
  | [], 0, x, r, h => by simp [dropE] at h
  | [], o + 1, x, r, h => by simp [dropE] at h
  | c :: cs, 0, x, r, h => by simp only [dropE, Option.some.injEq, List.cons.injEq] at h; rw [← h.1]; rfl
  | c :: cs, o + 1, x, r, h => by simp only [dropE] at h; exact dropE_nth (cs := cs) h
theorem PtTo.load (hp : PtTo L p t) (H : Has h L) {x : XO} (hv : x.val tm = some p) : (XI.load (some 24) x).sem tm h = .ok (.agg t.cells) h := by
  rcases hp with ⟨r, rfl⟩ | ⟨q, o, ty, cs, sp, r, rfl, m, hd⟩
  · exact sem_loadI hv t.len
  · exact sem_load hv (H.mem m) fun h => by simp only [partOf, dropE_sub hd t.len]
theorem dropE_zero {α : Type} (l : List α) : dropE 0 l = some l := by cases l <;> rfl
def DT.kind : DT → Int
  | .mk k _ _ _ _ _ => k
theorem DT.head (t : DT) : ∃ r, t.cells = .int .i64 t.kind :: r := by cases t; exact ⟨_, rfl⟩
theorem wp_faddrT (hp : PtTo L p t) {x : XO} (hv : x.val tm = some p) (hq : ∀ p, PtTo L p t → wpOps E ops Q (putT d p tm) h) : wpOps E (⟨d, none, .ins (.faddr 0 x)⟩ :: ops) Q tm h := by
  rcases hp with ⟨r, rfl⟩ | ⟨q, o, ty, cs, sp, r, rfl, m, hd⟩
  · refine wpOps_ins (v := .iptr (t.cells ++ r)) ?_ (hq _ (.inl ⟨r, rfl⟩))
    simp only [XI.sem, faddrS, withO_run hv, ptrAdd, dropE_zero]
  · refine wpOps_ins (v := .ptr q (o + 0)) ?_ (hq _ (.inr ⟨q, o, ty, cs, sp, r, rfl, m, hd⟩))
    simp only [XI.sem, faddrS, withO_run hv, ptrAdd]
theorem PtTo.loadK (hp : PtTo L p t) (H : Has h L) {x : XO} (hv : x.val tm = some p) : (XI.load none x).sem tm h = .ok (.int .i64 t.kind) h := by
  obtain ⟨r', hr⟩ := t.head
  rcases hp with ⟨r, rfl⟩ | ⟨q, o, ty, cs, sp, r, rfl, m, hd⟩
  · rw [hr] at hv
    simp only [XI.sem, loadS, withO_run hv, partOf, List.cons_append, nth]
  · rw [hr] at hd
    exact sem_load hv (H.mem m) fun h => by simp only [partOf, dropE_nth hd]
/-! ### appending -/
/-- What is appended to: nil, or a block that nobody else has. -/
def OutV (v : AV) (acc : List DT) (B : List (Pos × AObj)) : Prop := (B = [] ∧ v = .nilslice ∧ acc = []) ∨ ∃ q, B = [(q, .row tyTemp (DT.cellsL acc) true)] ∧ v = .slice q 0 acc.length (.up 24) ∧ acc ≠ []
/-- A list of formulas that a function has returned. -/
def ResV (v : AV) (l : List DT) (B : List (Pos × AObj)) : Prop := (B = [] ∧ v = .nilslice ∧ l = []) ∨ ∃ q sp cap, B = [(q, .row tyTemp (DT.cellsL l) sp)] ∧ v = .slice q 0 l.length cap ∧ l ≠ []
theorem OutV.res {v : AV} {B : List (Pos × AObj)} (ho : OutV v l B) : ResV v l B := by
  rcases ho with ho | ⟨q, h1, h2, h3⟩
  · exact .inl ho
  · exact .inr ⟨q, true, .up 24, h1, h2, h3⟩
theorem ResV.slr {v : AV} {B : List (Pos × AObj)} (hr : ResV v l B) {L : List (Pos × AObj)} (hB : ∀ x ∈ B, x ∈ L) : SlR L v l := by
  rcases hr with ⟨_, rfl, rfl⟩ | ⟨q, sp, cap, rfl, rfl, _⟩
  · exact .imm true true []
  · exact .heap q tyTemp sp cap l (hB _ (List.mem_singleton.2 rfl))
theorem DT.cellsL_len (l : List DT) : (DT.cellsL l).length = l.length * 24 := by
  induction l with
  | nil => rfl
  | cons t l ih => simp only [DT.cellsL, List.length_append, t.len, ih, List.length_cons]; omega
theorem DT.cellsL_append (a b : List DT) : DT.cellsL (a ++ b) = DT.cellsL a ++ DT.cellsL b := by simp [DT.cellsL_eq]
theorem sub_all {α : Type} {l : List α} {n : Nat} (hn : l.length = n) : sub l 0 n = some l := by
  subst hn
  have := takeE_append l []
  rw [List.append_nil] at this
  simp only [sub, dropE_zero, this]
theorem dropE_past {α : Type} : ∀ {l : List α} {n : Nat}, l.length < n → dropE n l = none
  | [], n + 1, _ => rfl
  | x :: l, n + 1, h => by simp only [dropE]; exact dropE_past (by simpa using h)
theorem small_ok {n : Nat} (h : n ≤ 1000) : small n 384 = true := by
  have : Nat.ble (n * 384) 1099511627776 = true := Nat.ble_eq_true_of_le (by omega)
  exact this
theorem wp_append {x y : XO} {v r : AV} {acc new : List DT} {B B' X : List (Pos × AObj)} (hv : x.val tm = some v) (hy : y.val tm = some r) (ho : OutV v acc B) (hr : ResV r new B') (H : Has h (B' ++ (X ++ (B ++ L)))) (hn : (acc ++ new).length ≤ 1000)
    (hq : ∀ v' h' B'', OutV v' (acc ++ new) B'' → Has h' (X ++ (B'' ++ L)) → wpOps E ops Q (putT d v' tm) h') : wpOps E (⟨d, none, .ins (.append tyTemp 24 384 x y)⟩ :: ops) Q tm h := by
  have key : ∀ v' h' B'', (XI.append tyTemp 24 384 x y).sem tm h = .ok v' h' → OutV v' (acc ++ new) B'' → Has h' (B'' ++ (X ++ L)) → wpOps E (⟨d, none, .ins (.append tyTemp 24 384 x y)⟩ :: ops) Q tm h := by
    intro v' h' B'' e hov hh
    refine wpOps_ins e (hq v' h' B'' hov (hh.perm ?_))
    rw [← List.append_assoc, ← List.append_assoc]
    exact List.Perm.append_right L List.perm_append_comm
  have hsem : ∀ n xs, srcOf 24 r h = some (n, xs) → (XI.append tyTemp 24 384 x y).sem tm h = appendTo tyTemp 24 384 v n xs h := by
    intro n xs e
    simp only [XI.sem, appendS, withO_run hv, withO_run hy, e]
  rcases hr with ⟨rfl, rfl, rfl⟩ | ⟨q, sp, cap, rfl, rfl, hne⟩
  · -- nothing is appended
    have e := hsem 0 [] rfl
    rw [List.append_nil] at key
    rcases ho with ⟨rfl, rfl, rfl⟩ | ⟨p, rfl, rfl, hne⟩
    · exact key _ _ [] e (.inl ⟨rfl, rfl, rfl⟩) (by simpa using H)
    · refine key _ _ [(p, _)] e (.inr ⟨p, rfl, rfl, hne⟩) ?_
      refine Has.perm (L := X ++ ([(p, .row tyTemp (DT.cellsL acc) true)] ++ L)) (by simpa using H) ?_
      rw [← List.append_assoc, ← List.append_assoc]
      exact List.Perm.append_right L List.perm_append_comm
  · have hg : h.get q = .row tyTemp (DT.cellsL new) sp := H.mem (x := (q, _)) (by simp)
    obtain ⟨m, hm⟩ : ∃ m, new.length = m + 1 := ⟨new.length - 1, by cases new with | nil => exact absurd rfl hne | cons _ _ => simp⟩
    have hs : srcOf 24 (.slice q 0 new.length cap) h = some (new.length, DT.cellsL new) := by
      have hsub := sub_all (DT.cellsL_len new)
      rw [hm] at hsub ⊢
      simp only [srcOf, hg, hsub]
    have e := hsem _ _ hs
    have H1 : Has h (X ++ (B ++ L)) := H.tail
    have hlen : acc.length + new.length ≤ 1000 := by simpa using hn
    rcases ho with ⟨rfl, rfl, rfl⟩ | ⟨p, rfl, rfl, hne2⟩
    · refine key (.slice h.next 0 new.length (.up 24)) (h.push (.row tyTemp (DT.cellsL new) true)) [(h.next, .row tyTemp (DT.cellsL new) true)] ?_ (.inr ⟨h.next, rfl, rfl, hne⟩) (Has.push (by simpa using H1) _)
      rw [e, hm]
      have h1 := small_ok (n := m + 1) (by simp at hlen; omega)
      show (match small (m + 1) 384, Nat.beq 384 0 with | true, false => _ | _, _ => _) = _
      rw [h1]; rfl
    · have hgp : h.get p = .row tyTemp (DT.cellsL acc) true := H1.mem (x := (p, _)) (by simp)
      have hne3 : acc ++ new ≠ [] := by simp [hne]
      have H2 : Has h ((p, .row tyTemp (DT.cellsL acc) true) :: (X ++ L)) := H1.perm (by
        have := List.perm_middle (a := (p, AObj.row tyTemp (DT.cellsL acc) true)) (l₁ := X) (l₂ := L)
        exact this)
      have H3 : Has (h.set p .dead) (X ++ L) := (H2.set (k := 0) rfl .dead).tail
      refine key (.slice (h.set p .dead).next 0 (acc ++ new).length (.up 24)) ((h.set p .dead).push (.row tyTemp (DT.cellsL (acc ++ new)) true)) [((h.set p .dead).next, .row tyTemp (DT.cellsL (acc ++ new)) true)] ?_ (.inr ⟨_, rfl, rfl, hne3⟩) (Has.push H3 _)
      rw [e]
      have h1 := small_ok (n := acc.length + new.length) hlen
      have h2 : dropE (0 + (acc.length + new.length) * 24) (DT.cellsL acc) = none := dropE_past (by rw [DT.cellsL_len]; omega)
      have h3 := sub_all (DT.cellsL_len acc)
      rw [List.length_append, DT.cellsL_append]
      rw [hm] at h1 h2 ⊢
      simp only [appendTo]
      rw [hgp]
      simp only [h2, h1, h3]
      rfl
end
end Go.X

/- The parts of formulas; sameTemps; Safe. -/
namespace Go.X
open Go
section
variable {E : XEnv}
def PR (L : List (Pos × AObj)) (l : List DT) : AV → Heap → Prop := fun r h => ∃ B, ResV r l B ∧ Has h (B ++ L)
def PartsOK (E : XEnv) (f : FuncId) (t : DT) : Prop := t.ok → t.size ≤ 500 → ∀ {h : Heap} {L : List (Pos × AObj)}, Has h L → CallT E (.func f [] []) [.agg t.cells] h (PR L t.parts)
theorem partsL_take : ∀ (l : List DT) (j : Nat) (hj : j < l.length), DT.partsL (l.take (j + 1)) = DT.partsL (l.take j) ++ l[j].parts
  | [], j, hj => by simp at hj
  | t :: l, 0, hj => by simp [DT.partsL]
  | t :: l, j + 1, hj => by
    have := partsL_take l j (by simpa using hj)
    simp only [List.take_succ_cons, DT.partsL, List.getElem_cons_succ, this, List.append_assoc]
theorem sizeL_mem : ∀ {l : List DT} {t : DT}, t ∈ l → t.size ≤ DT.sizeL l
  | x :: l, t, m => by
    simp only [DT.sizeL]
    rcases List.mem_cons.1 m with rfl | m
    · omega
    · have := sizeL_mem m; omega
theorem sizeL_take_le : ∀ (l : List DT) (j : Nat), DT.sizeL (l.take j) ≤ DT.sizeL l
  | [], j => by simp [DT.sizeL]
  | t :: l, 0 => by simp [DT.sizeL]
  | t :: l, j + 1 => by have := sizeL_take_le l j; simp only [List.take_succ_cons, DT.sizeL]; omega
theorem parts_bound {l : List DT} {j : Nat} (hj : j < l.length) (hs : DT.sizeL l ≤ 500) : (DT.partsL (l.take j) ++ l[j].parts).length ≤ 1000 := by
  rw [← partsL_take l j hj]
  have := DT.partsL_len (l.take (j + 1))
  have := sizeL_take_le l (j + 1)
  omega
theorem neI_ne {a b : Int} (h : (match eqI a b with | true => false | false => true) = true) : a ≠ b := by
  intro e; subst e; rw [eqI_refl] at h; simp at h
theorem eqI_is {a b : Int} (h : eqI a b = true) : a = b := by
  cases a <;> cases b <;> simp only [eqI] at h
  · exact congrArg Int.ofNat (Nat.eq_of_beq_eq_true h)
  · simp at h
  · simp at h
  · exact congrArg Int.negSucc (Nat.eq_of_beq_eq_true h)
theorem eqI_ne {a b : Int} (h : eqI a b = false) : a ≠ b := by intro e; subst e; rw [eqI_refl] at h; simp at h
theorem neI_eq {a b : Int} (h : (match eqI a b with | true => false | false => true) = false) : a = b := by
  cases he : eqI a b with
  | true => exact eqI_is he
  | false => rw [he] at h; simp at h
theorem parts_loop (C : Code E) {k0 : Int} {e0 s0 : DE} {nl fu : Bool} {l : List DT} (hall : ∀ t ∈ l, PartsOK E n_parts t) (hok : ∀ t ∈ l, t.ok) (hlen : l.length ≤ maxN) (hs : DT.sizeL l ≤ 500) {q1 : Pos} {L : List (Pos × AObj)} {Q : XExit → Tm → Heap → Prop}
    (hend : ∀ tm h v B, tm.get (.lo .d0 .d3) = some v → OutV v (DT.partsL l) B → Has h ((q1, .row tyTemp (DT.mk k0 e0 s0 nl fu l).cells false) :: (B ++ L)) → Q (.exit 0) tm h) :
    ∀ (k j : Nat), l.length - j = k → ∀ (tm : Tm) (h : Heap) (v : AV) (B : List (Pos × AObj)), OutV v (DT.partsL (l.take j)) B → Has h ((q1, .row tyTemp (DT.mk k0 e0 s0 nl fu l).cells false) :: (B ++ L)) → tm.get (.lo .d0 .d3) = some (v) → tm.get (.lo .d0 .d12) = some (slAV nl fu l.length (DT.cellsL l)) → tm.get (.lo .d0 .d13) = some (.int .i64 (.ofNat l.length)) → tm.get (.lo .d0 .d14) = some (.int .i64 (.ofNat j)) → LoopT E c_parts_b0 Q tm h := by
  intro k
  induction k using Nat.strongRecOn with
  | ind k ih =>
    intro j hk tm h v B ho H e3 e12 e13 e14
    obtain ⟨tm, rfl⟩ := sets4 e3 e12 e13 e14
    refine LoopT.wp ?_
    unfold c_parts_b0
    refine wpC_seq ?_
    refine wpC_reg ?_
    refine wp_bool rfl (fun hb1 => ?_) (fun hb1 => ?_)
    · have hj := of_ltN hb1
      refine wpOps_nil ?_
      refine wpC_seq ?_
      refine wpC_condT rfl ?_
      refine wpC_skip ?_
      refine wpC_seq ?_
      refine wpC_block ?_
      refine wpC_seq ?_
      refine wpC_reg ?_
      refine wpOps_ins (sem_iaddrT rfl rfl hj) ?_
      refine wpOps_ins (sem_loadI rfl (DT.len _)) ?_
      refine wp_alloc H fun q2 h H => ?_
      refine wp_store (k := 0) rfl rfl rfl (by first | rfl | exact len_of (DT.len _) | exact len_of (DE.len _) | exact len_of (DV.len _)) H rfl (fun k => by first | exact spliceK_len (by first | exact DT.len _ | exact DE.len _ | exact DV.len _) k | rfl) fun h H => ?_
      refine wpOps_nil ?_
      refine wpC_reg ?_
      refine wpOps_ins (rfl) ?_
      refine wpOps_ins (sem_load rfl (H.at 0 rfl) (fun _ => by first | exact partOf_sl rfl | rfl | exact DT.part_E | exact DT.part_S | exact DT.part_L | exact DE.part_V | exact DE.part_L | exact partOf_all (DT.len _) | exact partOf_all (DE.len _) | exact partOf_all (DV.len _))) ?_
      refine wp_call rfl (hall _ (List.getElem_mem hj) (hok _ (List.getElem_mem hj)) (Nat.le_trans (sizeL_mem (List.getElem_mem hj)) hs) H) ?_
      rintro r h ⟨B2, hr, H⟩
      refine wp_append (X := [_, _]) rfl rfl ho hr H (parts_bound hj hs) fun v h B ho H => ?_
      refine wpOps_ins (rfl) ?_
      refine wpOps_nil ?_
      refine wpC_reg ?_
      refine wpOps_ins (sem_int rfl (w64_succ (by unfold maxN at hlen; omega))) ?_
      refine wpOps_ins (rfl) ?_
      refine wpOps_nil ?_
      rw [← partsL_take l j hj] at ho
      exact ih (l.length - (j + 1)) (by omega) (j + 1) rfl _ _ _ _ ho H.tail rfl rfl rfl rfl
    · have hj := of_geN hb1
      refine wpOps_nil ?_
      refine wpC_seq ?_
      refine wpC_condF rfl ?_
      refine wpC_exit ?_
      have hz : l.take j = l := List.take_of_length_le hj
      rw [hz] at ho
      exact hend _ _ _ _ rfl ho H
theorem parts_of (C : Code E) {k0 : Int} {e0 s0 : DE} {nl fu : Bool} {l : List DT} (hall : ∀ t ∈ l, PartsOK E n_parts t) : PartsOK E n_parts (.mk k0 e0 s0 nl fu l) := by
  intro hok hsz h L H
  refine CallT.body C.parts ?_
  unfold BodyT c_parts
  refine wpC_seq ?_
  refine wpC_reg ?_
  refine wp_box rfl rfl H fun q1 h H => ?_
  refine wpOps_ins (rfl) ?_
  refine wpOps_nil ?_
  refine wpC_seq ?_
  refine wpC_seq ?_
  refine wpC_reg ?_
  refine wpOps_ins (rfl) ?_
  refine wpOps_ins (sem_load rfl (H.at 0 rfl) (fun _ => by first | exact partOf_sl rfl | rfl | exact DT.part_E | exact DT.part_S | exact DT.part_L | exact DE.part_V | exact DE.part_L | exact partOf_all (DT.len _) | exact partOf_all (DE.len _) | exact partOf_all (DV.len _))) ?_
  refine wp_bool rfl (fun hb2 => ?_) (fun hb2 => ?_)
  · have hk := neI_ne hb2
    refine wpOps_nil ?_
    refine wpC_condT rfl ?_
    refine wpC_seq ?_
    refine wpC_reg ?_
    refine wpOps_ins (sem_load rfl (H.at 0 rfl) (fun _ => by first | exact partOf_sl rfl | rfl | exact DT.part_E | exact DT.part_S | exact DT.part_L | exact DE.part_V | exact DE.part_L | exact partOf_all (DT.len _) | exact partOf_all (DE.len _) | exact partOf_all (DV.len _))) ?_
    refine wp_bslice1 rfl rfl (by first | exact DT.len _ | rfl) rfl H fun q3 h H => ?_
    refine wpOps_ins (rfl) ?_
    refine wpOps_nil ?_
    refine wpC_ret ?_
    refine ⟨trivial, _, rfl, ?_⟩
    have hp : (DT.mk k0 e0 s0 nl fu l).parts = [.mk k0 e0 s0 nl fu l] := by simp only [DT.parts, if_neg hk]
    rw [hp]
    refine ⟨[(q3, .row tyTemp (DT.cellsL [DT.mk k0 e0 s0 nl fu l]) false)], .inr ⟨q3, false, .ex 1, rfl, rfl, by simp⟩, ?_⟩
    simp only [DT.cellsL, List.append_nil]
    exact H.tail2
  · have hk := neI_eq hb2
    refine wpOps_nil ?_
    refine wpC_condF rfl ?_
    refine wpC_skip ?_
    refine wpC_seq ?_
    refine wpC_reg ?_
    refine wpOps_ins (rfl) ?_
    refine wpOps_nil ?_
    refine wpC_seq ?_
    refine wpC_seq ?_
    refine wpC_reg ?_
    refine wpOps_ins (rfl) ?_
    refine wpOps_ins (sem_load rfl (H.at 0 rfl) (fun _ => by first | exact partOf_sl rfl | rfl | exact DT.part_E | exact DT.part_S | exact DT.part_L | exact DE.part_V | exact DE.part_L | exact partOf_all (DT.len _) | exact partOf_all (DE.len _) | exact partOf_all (DV.len _))) ?_
    refine wpOps_ins (sem_len rfl) ?_
    refine wpOps_ins (rfl) ?_
    refine wpOps_nil ?_
    refine wpC_block ?_
    refine wpC_loop (parts_loop C hall (DT.ok_mem hok.2.2.2) hok.2.2.1 (by simp only [DT.size] at hsz; omega) (fun tm h v B e3 ho H => ?_) (l.length - 0) 0 rfl _ _ .nilslice [] (.inl ⟨rfl, rfl, rfl⟩) H rfl rfl rfl rfl)
    obtain ⟨tm, rfl⟩ := sets1 e3
    refine wpC_seq ?_
    refine wpC_reg ?_
    refine wpOps_ins (rfl) ?_
    refine wpOps_ins (rfl) ?_
    refine wpOps_nil ?_
    refine wpC_ret ?_
    refine ⟨trivial, _, rfl, ?_⟩
    have hp : (DT.mk k0 e0 s0 nl fu l).parts = DT.partsL l := by simp only [DT.parts, if_pos hk]
    rw [hp]
    exact ⟨B, ho.res, H.tail⟩
mutual
theorem parts_ok (C : Code E) : ∀ t : DT, PartsOK E n_parts t
  | .mk _ _ _ _ _ l => parts_of C (parts_all C l)
theorem parts_all (C : Code E) : ∀ l : List DT, ∀ t ∈ l, PartsOK E n_parts t
  | [], t, h => by simp at h
  | x :: l, t, h => (List.mem_cons.1 h).elim (fun e => e ▸ parts_ok C x) (fun h => parts_all C l t h)
end
theorem rparts_loop (C : Code E) {k0 : Int} {e0 s0 : DE} {nl fu : Bool} {l : List DT} (hall : ∀ t ∈ l, PartsOK E n_rparts t) (hok : ∀ t ∈ l, t.ok) (hlen : l.length ≤ maxN) (hs : DT.sizeL l ≤ 500) {q1 : Pos} {L : List (Pos × AObj)} {Q : XExit → Tm → Heap → Prop}
    (hend : ∀ tm h v B, tm.get (.lo .d0 .d3) = some v → OutV v (DT.partsL l) B → Has h ((q1, .row tyTemp (DT.mk k0 e0 s0 nl fu l).cells false) :: (B ++ L)) → Q (.exit 0) tm h) :
    ∀ (k j : Nat), l.length - j = k → ∀ (tm : Tm) (h : Heap) (v : AV) (B : List (Pos × AObj)), OutV v (DT.partsL (l.take j)) B → Has h ((q1, .row tyTemp (DT.mk k0 e0 s0 nl fu l).cells false) :: (B ++ L)) → tm.get (.lo .d0 .d3) = some (v) → tm.get (.lo .d0 .d1) = some (.ptr q1 0) → tm.get (.lo .d0 .d4) = some (.int .i64 (.ofNat j)) → LoopT E c_rparts_b0 Q tm h := by
  intro k
  induction k using Nat.strongRecOn with
  | ind k ih =>
    intro j hk tm h v B ho H e3 e1 e4
    obtain ⟨tm, rfl⟩ := sets3 e3 e1 e4
    refine LoopT.wp ?_
    unfold c_rparts_b0
    refine wpC_seq ?_
    refine wpC_seq ?_
    refine wpC_reg ?_
    refine wpOps_ins (rfl) ?_
    refine wpOps_ins (rfl) ?_
    refine wpOps_ins (sem_load rfl (H.at 0 rfl) (fun _ => by first | exact partOf_sl rfl | rfl | exact DT.part_E | exact DT.part_S | exact DT.part_L | exact DE.part_V | exact DE.part_L | exact partOf_all (DT.len _) | exact partOf_all (DE.len _) | exact partOf_all (DV.len _))) ?_
    refine wpOps_ins (sem_len rfl) ?_
    refine wp_bool rfl (fun hb1 => ?_) (fun hb1 => ?_)
    · have hj := of_ltN hb1
      refine wpOps_nil ?_
      refine wpC_condT rfl ?_
      refine wpC_skip ?_
      refine wpC_seq ?_
      refine wpC_block ?_
      refine wpC_reg ?_
      refine wpOps_ins (rfl) ?_
      refine wpOps_ins (rfl) ?_
      refine wpOps_ins (sem_load rfl (H.at 0 rfl) (fun _ => by first | exact partOf_sl rfl | rfl | exact DT.part_E | exact DT.part_S | exact DT.part_L | exact DE.part_V | exact DE.part_L | exact partOf_all (DT.len _) | exact partOf_all (DE.len _) | exact partOf_all (DV.len _))) ?_
      refine wpOps_ins (rfl) ?_
      refine wpOps_ins (sem_iaddrT rfl rfl hj) ?_
      refine wpOps_ins (sem_loadI rfl (DT.len _)) ?_
      refine wp_call rfl (hall _ (List.getElem_mem hj) (hok _ (List.getElem_mem hj)) (Nat.le_trans (sizeL_mem (List.getElem_mem hj)) hs) H) ?_
      rintro r h ⟨B2, hr, H⟩
      refine wp_append (X := [_]) rfl rfl ho hr H (parts_bound hj hs) fun v h B ho H => ?_
      refine wpOps_ins (rfl) ?_
      refine wpOps_nil ?_
      refine wpC_reg ?_
      refine wpOps_ins (rfl) ?_
      refine wpOps_ins (sem_int rfl (w64_succ (by unfold maxN at hlen; omega))) ?_
      refine wpOps_ins (rfl) ?_
      refine wpOps_nil ?_
      rw [← partsL_take l j hj] at ho
      exact ih (l.length - (j + 1)) (by omega) (j + 1) rfl _ _ _ _ ho H rfl rfl rfl
    · have hj := of_geN hb1
      refine wpOps_nil ?_
      refine wpC_condF rfl ?_
      refine wpC_exit ?_
      have hz : l.take j = l := List.take_of_length_le hj
      rw [hz] at ho
      exact hend _ _ _ _ rfl ho H
theorem rparts_of (C : Code E) {k0 : Int} {e0 s0 : DE} {nl fu : Bool} {l : List DT} (hall : ∀ t ∈ l, PartsOK E n_rparts t) : PartsOK E n_rparts (.mk k0 e0 s0 nl fu l) := by
  intro hok hsz h L H
  refine CallT.body C.rparts ?_
  unfold BodyT c_rparts
  refine wpC_seq ?_
  refine wpC_reg ?_
  refine wp_box rfl rfl H fun q1 h H => ?_
  refine wpOps_ins (rfl) ?_
  refine wpOps_nil ?_
  refine wpC_seq ?_
  refine wpC_seq ?_
  refine wpC_reg ?_
  refine wpOps_ins (rfl) ?_
  refine wpOps_ins (sem_load rfl (H.at 0 rfl) (fun _ => by first | exact partOf_sl rfl | rfl | exact DT.part_E | exact DT.part_S | exact DT.part_L | exact DE.part_V | exact DE.part_L | exact partOf_all (DT.len _) | exact partOf_all (DE.len _) | exact partOf_all (DV.len _))) ?_
  refine wp_bool rfl (fun hb2 => ?_) (fun hb2 => ?_)
  · have hk := neI_ne hb2
    refine wpOps_nil ?_
    refine wpC_condT rfl ?_
    refine wpC_seq ?_
    refine wpC_reg ?_
    refine wpOps_ins (sem_load rfl (H.at 0 rfl) (fun _ => by first | exact partOf_sl rfl | rfl | exact DT.part_E | exact DT.part_S | exact DT.part_L | exact DE.part_V | exact DE.part_L | exact partOf_all (DT.len _) | exact partOf_all (DE.len _) | exact partOf_all (DV.len _))) ?_
    refine wp_bslice1 rfl rfl (by first | exact DT.len _ | rfl) rfl H fun q3 h H => ?_
    refine wpOps_ins (rfl) ?_
    refine wpOps_nil ?_
    refine wpC_ret ?_
    refine ⟨trivial, _, rfl, ?_⟩
    have hp : (DT.mk k0 e0 s0 nl fu l).parts = [.mk k0 e0 s0 nl fu l] := by simp only [DT.parts, if_neg hk]
    rw [hp]
    refine ⟨[(q3, .row tyTemp (DT.cellsL [DT.mk k0 e0 s0 nl fu l]) false)], .inr ⟨q3, false, .ex 1, rfl, rfl, by simp⟩, ?_⟩
    simp only [DT.cellsL, List.append_nil]
    exact H.tail2
  · have hk := neI_eq hb2
    refine wpOps_nil ?_
    refine wpC_condF rfl ?_
    refine wpC_skip ?_
    refine wpC_seq ?_
    refine wpC_reg ?_
    refine wpOps_ins (rfl) ?_
    refine wpOps_nil ?_
    refine wpC_seq ?_
    refine wpC_seq ?_
    refine wpC_reg ?_
    refine wpOps_ins (rfl) ?_
    refine wpOps_nil ?_
    refine wpC_block ?_
    refine wpC_loop (rparts_loop C hall (DT.ok_mem hok.2.2.2) hok.2.2.1 (by simp only [DT.size] at hsz; omega) (fun tm h v B e3 ho H => ?_) (l.length - 0) 0 rfl _ _ .nilslice [] (.inl ⟨rfl, rfl, rfl⟩) H rfl rfl rfl)
    obtain ⟨tm, rfl⟩ := sets1 e3
    refine wpC_seq ?_
    refine wpC_reg ?_
    refine wpOps_ins (rfl) ?_
    refine wpOps_ins (rfl) ?_
    refine wpOps_nil ?_
    refine wpC_ret ?_
    refine ⟨trivial, _, rfl, ?_⟩
    have hp : (DT.mk k0 e0 s0 nl fu l).parts = DT.partsL l := by simp only [DT.parts, if_pos hk]
    rw [hp]
    exact ⟨B, ho.res, H.tail⟩
mutual
theorem rparts_ok (C : Code E) : ∀ t : DT, PartsOK E n_rparts t
  | .mk _ _ _ _ _ l => rparts_of C (rparts_all C l)
theorem rparts_all (C : Code E) : ∀ l : List DT, ∀ t ∈ l, PartsOK E n_rparts t
  | [], t, h => by simp at h
  | x :: l, t, h => (List.mem_cons.1 h).elim (fun e => e ▸ rparts_ok C x) (fun h => rparts_all C l t h)
end
def SameT1OK (E : XEnv) (t : DT) : Prop := t.ok → ∀ {h : Heap} {L : List (Pos × AObj)}, Has h L → CallT E (.func n_sameT1 [] []) [.agg t.cells, .agg t.cells] h (Z L (.bool true))
def SameTOK (E : XEnv) (l : List DT) : Prop := (∀ t ∈ l, t.ok) → l.length ≤ maxN → ∀ {a b : AV} {h : Heap} {L : List (Pos × AObj)}, SlR L a l → SlR L b l → Has h L → CallT E (.func n_sameTemps [] []) [a, b] h (Z L (.bool true))
theorem equalF_loop (C : Code E) {l : List DT} (hall : ∀ t ∈ l, SameT1OK E t) (hok : ∀ t ∈ l, t.ok) (hlen : l.length ≤ maxN) {a b : AV} {L : List (Pos × AObj)} (ha : SlR L a l) (hb : SlR L b l) {Q : XExit → Tm → Heap → Prop} (hend : ∀ tm h, Has h L → Q (.exit 0) tm h) :
    ∀ (k j : Nat), l.length - j = k → ∀ (tm : Tm) (h : Heap), Has h L → tm.get (.lo .d0 .d1) = some (b) → tm.get (.lo .d0 .d2) = some (.func n_sameT1 [] []) → tm.get (.lo .d0 .d15) = some (a) → tm.get (.lo .d1 .d0) = some (.int .i64 (.ofNat l.length)) → tm.get (.lo .d1 .d1) = some (.int .i64 (.ofNat j)) → LoopT E c_equalF_b0 Q tm h := by
  intro k
  induction k using Nat.strongRecOn with
  | ind k ih =>
    intro j hk tm h H e1 e2 e15 e16 e17
    obtain ⟨tm, rfl⟩ := sets5 e1 e2 e15 e16 e17
    refine LoopT.wp ?_
    unfold c_equalF_b0
    refine wpC_seq ?_
    refine wpC_reg ?_
    refine wp_bool rfl (fun hb1 => ?_) (fun hb1 => ?_)
    · have hj := of_ltN hb1
      refine wpOps_nil ?_
      refine wpC_seq ?_
      refine wpC_condT rfl ?_
      refine wpC_skip ?_
      refine wpC_seq ?_
      refine wpC_block ?_
      refine wpC_seq ?_
      refine wpC_reg ?_
      refine wpOps_ins (rfl) ?_
      refine wp_iaddrT ha rfl rfl hj fun p hp => ?_
      refine wpOps_ins (hp.load (H) rfl) ?_
      refine wp_alloc H fun q2 h H => ?_
      refine wpOps_ins (rfl) ?_
      refine wp_store (k := 0) rfl rfl rfl (by first | rfl | exact len_of (DT.len _) | exact len_of (DE.len _) | exact len_of (DV.len _)) H rfl (fun k => by first | exact spliceK_len (by first | exact DT.len _ | exact DE.len _ | exact DV.len _) k | rfl) fun h H => ?_
      refine wpOps_nil ?_
      refine wpC_seq ?_
      refine wpC_reg ?_
      refine wpOps_ins (rfl) ?_
      refine wpOps_ins (rfl) ?_
      refine wp_iaddrT hb rfl rfl hj fun p hp => ?_
      refine wpOps_ins (hp.load (H.tail) rfl) ?_
      refine wp_alloc H fun q3 h H => ?_
      refine wp_store (k := 0) rfl rfl rfl (by first | rfl | exact len_of (DT.len _) | exact len_of (DE.len _) | exact len_of (DV.len _)) H rfl (fun k => by first | exact spliceK_len (by first | exact DT.len _ | exact DE.len _ | exact DV.len _) k | rfl) fun h H => ?_
      refine wpOps_nil ?_
      refine wpC_seq ?_
      refine wpC_reg ?_
      refine wpOps_ins (rfl) ?_
      refine wpOps_ins (sem_load rfl (H.at 1 rfl) (fun _ => by first | exact partOf_sl rfl | rfl | exact DT.part_E | exact DT.part_S | exact DT.part_L | exact DE.part_V | exact DE.part_L | exact partOf_all (DT.len _) | exact partOf_all (DE.len _) | exact partOf_all (DV.len _))) ?_
      refine wpOps_ins (sem_load rfl (H.at 0 rfl) (fun _ => by first | exact partOf_sl rfl | rfl | exact DT.part_E | exact DT.part_S | exact DT.part_L | exact DE.part_V | exact DE.part_L | exact partOf_all (DT.len _) | exact partOf_all (DE.len _) | exact partOf_all (DV.len _))) ?_
      refine wp_callv rfl rfl (hall _ (List.getElem_mem hj) (hok _ (List.getElem_mem hj)) H) ?_
      rintro _ h ⟨rfl, H⟩
      refine wpOps_ins (rfl) ?_
      refine wpOps_nil ?_
      refine wpC_condF rfl ?_
      refine wpC_skip ?_
      refine wpC_reg ?_
      refine wpOps_ins (sem_int rfl (w64_succ (by unfold maxN at hlen; omega))) ?_
      refine wpOps_ins (rfl) ?_
      refine wpOps_nil ?_
      exact ih (l.length - (j + 1)) (by omega) (j + 1) rfl _ _ (H.tail.tail) rfl rfl rfl rfl rfl
    · have hj := of_geN hb1
      refine wpOps_nil ?_
      refine wpC_seq ?_
      refine wpC_condF rfl ?_
      refine wpC_exit ?_
      exact hend _ _ (H)
theorem equalF_ok (C : Code E) {l : List DT} (hall : ∀ t ∈ l, SameT1OK E t) (hok : ∀ t ∈ l, t.ok) (hlen : l.length ≤ maxN) {a b : AV} {h : Heap} {L : List (Pos × AObj)} (ha : SlR L a l) (hb : SlR L b l) (H : Has h L) : CallT E (.func n_equalF [] []) [a, b, .func n_sameT1 [] []] h (Z L (.bool true)) := by
  refine CallT.body C.equalF ?_
  unfold BodyT c_equalF
  refine wpC_seq ?_
  refine wpC_reg ?_
  refine wpOps_ins (rfl) ?_
  refine wpOps_nil ?_
  refine wpC_seq ?_
  refine wpC_seq ?_
  refine wpC_reg ?_
  refine wpOps_ins (rfl) ?_
  refine wpOps_ins (ha.len rfl) ?_
  refine wpOps_ins (rfl) ?_
  refine wpOps_ins (hb.len rfl) ?_
  refine wpOps_ins (sem_is rfl (neI_refl _)) ?_
  refine wpOps_nil ?_
  refine wpC_condF rfl ?_
  refine wpC_skip ?_
  refine wpC_seq ?_
  refine wpC_seq ?_
  refine wpC_reg ?_
  refine wpOps_ins (rfl) ?_
  refine wpOps_ins (ha.len rfl) ?_
  refine wpOps_ins (rfl) ?_
  refine wpOps_nil ?_
  refine wpC_block ?_
  refine wpC_loop (equalF_loop C hall hok hlen ha hb (fun tm h H => ?_) (l.length - 0) 0 rfl _ _ H rfl rfl rfl rfl rfl)
  refine wpC_seq ?_
  refine wpC_reg ?_
  refine wpOps_ins (rfl) ?_
  refine wpOps_nil ?_
  refine wpC_ret ?_
  refine ⟨trivial, _, rfl, ?_⟩
  exact ⟨rfl, H⟩
theorem sameTemps_of (C : Code E) {l : List DT} (hall : ∀ t ∈ l, SameT1OK E t) : SameTOK E l := by
  intro hok hlen a b h L ha hb H
  refine CallT.body C.sameTemps ?_
  unfold BodyT c_sameTemps
  refine wpC_seq ?_
  refine wpC_reg ?_
  refine wpOps_ins (rfl) ?_
  refine wpOps_nil ?_
  refine wpC_seq ?_
  refine wpC_reg ?_
  refine wpOps_ins (rfl) ?_
  refine wpOps_ins (rfl) ?_
  refine wp_call rfl (equalF_ok C hall hok hlen ha hb H) ?_
  rintro _ h ⟨rfl, H⟩
  refine wpOps_ins (rfl) ?_
  refine wpOps_nil ?_
  refine wpC_ret ?_
  refine ⟨trivial, _, rfl, ?_⟩
  exact ⟨rfl, H⟩
theorem sameT1_of (C : Code E) {k0 : Int} {e0 s0 : DE} {nl fu : Bool} {l : List DT} (hl : SameTOK E l) : SameT1OK E (.mk k0 e0 s0 nl fu l) := by
  intro hok h L H
  refine CallT.body C.sameT1 ?_
  unfold BodyT c_sameT1
  refine wpC_seq ?_
  refine wpC_reg ?_
  refine wp_box rfl rfl H fun q1 h H => ?_
  refine wp_box rfl rfl H fun q2 h H => ?_
  refine wpOps_ins (rfl) ?_
  refine wpOps_nil ?_
  refine wpC_seq ?_
  refine wpC_reg ?_
  refine wpOps_ins (rfl) ?_
  refine wpOps_ins (sem_load rfl (H.at 1 rfl) (fun _ => by first | exact partOf_sl rfl | rfl | exact DT.part_E | exact DT.part_S | exact DT.part_L | exact DE.part_V | exact DE.part_L | exact partOf_all (DT.len _) | exact partOf_all (DE.len _) | exact partOf_all (DV.len _))) ?_
  refine wpOps_ins (rfl) ?_
  refine wpOps_ins (sem_load rfl (H.at 0 rfl) (fun _ => by first | exact partOf_sl rfl | rfl | exact DT.part_E | exact DT.part_S | exact DT.part_L | exact DE.part_V | exact DE.part_L | exact partOf_all (DT.len _) | exact partOf_all (DE.len _) | exact partOf_all (DV.len _))) ?_
  refine wpOps_ins (sem_is rfl (eqI_refl _)) ?_
  refine wpOps_ins (rfl) ?_
  refine wpOps_on rfl ?_
  refine wpOps_ins (rfl) ?_
  refine wpOps_on rfl ?_
  refine wpOps_ins (sem_load rfl (H.at 1 rfl) (fun _ => by first | exact partOf_sl rfl | rfl | exact DT.part_E | exact DT.part_S | exact DT.part_L | exact DE.part_V | exact DE.part_L | exact partOf_all (DT.len _) | exact partOf_all (DE.len _) | exact partOf_all (DV.len _))) ?_
  refine wpOps_on rfl ?_
  refine wpOps_ins (rfl) ?_
  refine wpOps_on rfl ?_
  refine wpOps_ins (sem_load rfl (H.at 0 rfl) (fun _ => by first | exact partOf_sl rfl | rfl | exact DT.part_E | exact DT.part_S | exact DT.part_L | exact DE.part_V | exact DE.part_L | exact partOf_all (DT.len _) | exact partOf_all (DE.len _) | exact partOf_all (DV.len _))) ?_
  refine wpOps_on rfl ?_
  refine wp_call rfl (sameE_ok C e0 hok.1 H) ?_
  rintro _ h ⟨rfl, H⟩
  refine wpOps_ins (rfl) ?_
  refine wpOps_ins (rfl) ?_
  refine wpOps_on rfl ?_
  refine wpOps_ins (rfl) ?_
  refine wpOps_on rfl ?_
  refine wpOps_ins (sem_load rfl (H.at 1 rfl) (fun _ => by first | exact partOf_sl rfl | rfl | exact DT.part_E | exact DT.part_S | exact DT.part_L | exact DE.part_V | exact DE.part_L | exact partOf_all (DT.len _) | exact partOf_all (DE.len _) | exact partOf_all (DV.len _))) ?_
  refine wpOps_on rfl ?_
  refine wpOps_ins (rfl) ?_
  refine wpOps_on rfl ?_
  refine wpOps_ins (sem_load rfl (H.at 0 rfl) (fun _ => by first | exact partOf_sl rfl | rfl | exact DT.part_E | exact DT.part_S | exact DT.part_L | exact DE.part_V | exact DE.part_L | exact partOf_all (DT.len _) | exact partOf_all (DE.len _) | exact partOf_all (DV.len _))) ?_
  refine wpOps_on rfl ?_
  refine wp_call rfl (sameE_ok C s0 hok.2.1 H) ?_
  rintro _ h ⟨rfl, H⟩
  refine wpOps_ins (rfl) ?_
  refine wpOps_ins (rfl) ?_
  refine wpOps_on rfl ?_
  refine wpOps_ins (rfl) ?_
  refine wpOps_on rfl ?_
  refine wpOps_ins (sem_load rfl (H.at 1 rfl) (fun _ => by first | exact partOf_sl rfl | rfl | exact DT.part_E | exact DT.part_S | exact DT.part_L | exact DE.part_V | exact DE.part_L | exact partOf_all (DT.len _) | exact partOf_all (DE.len _) | exact partOf_all (DV.len _))) ?_
  refine wpOps_on rfl ?_
  refine wpOps_ins (rfl) ?_
  refine wpOps_on rfl ?_
  refine wpOps_ins (sem_load rfl (H.at 0 rfl) (fun _ => by first | exact partOf_sl rfl | rfl | exact DT.part_E | exact DT.part_S | exact DT.part_L | exact DE.part_V | exact DE.part_L | exact partOf_all (DT.len _) | exact partOf_all (DE.len _) | exact partOf_all (DV.len _))) ?_
  refine wpOps_on rfl ?_
  refine wp_call rfl (hl (DT.ok_mem hok.2.2.2) hok.2.2.1 (.imm nl fu l) (.imm nl fu l) H) ?_
  rintro _ h ⟨rfl, H⟩
  refine wpOps_ins (rfl) ?_
  refine wpOps_ins (rfl) ?_
  refine wpOps_nil ?_
  refine wpC_ret ?_
  refine ⟨trivial, _, rfl, ?_⟩
  exact ⟨rfl, H.tail.tail⟩
mutual
theorem sameT1_ok (C : Code E) : ∀ t : DT, SameT1OK E t
  | .mk _ _ _ _ _ l => sameT1_of C (sameTemps_of C (sameT1_all C l))
theorem sameT1_all (C : Code E) : ∀ l : List DT, ∀ t ∈ l, SameT1OK E t
  | [], t, h => by simp at h
  | x :: l, t, h => (List.mem_cons.1 h).elim (fun e => e ▸ sameT1_ok C x) (fun h => sameT1_all C l t h)
end
theorem sameTemps_ok (C : Code E) (l : List DT) : SameTOK E l := sameTemps_of C (sameT1_all C l)
/-- Is a part TmAlways of a predicate? -/
def DT.alw : DT → Bool
  | .mk k _ _ _ _ [x] => k == 8 && x.kind == 1
  | _ => false
/-- Is a part not safe? -/
def DT.bad (t : DT) : Bool := t.kind != 1 && t.kind != 2 && !t.alw
theorem alw_not {k : Int} {e s : DE} {nl fu : Bool} {l : List DT} (h : k ≠ 8) : (DT.mk k e s nl fu l).alw = false := by
  unfold DT.alw; split
  · rename_i heq; cases heq; simp [h]
  · rfl
theorem alw_len {k : Int} {e s : DE} {nl fu : Bool} {l : List DT} (h : l.length ≠ 1) : (DT.mk k e s nl fu l).alw = false := by
  unfold DT.alw; split
  · rename_i heq; cases heq; simp at h
  · rfl
theorem always_ok (C : Code E) : ∀ (t : DT) {h : Heap} {L : List (Pos × AObj)}, Has h L → CallT E (.func n_always [] []) [.agg t.cells] h (Z L (.bool t.alw)) := by
  rintro ⟨k, e, s, nl, fu, l⟩ h L H
  refine CallT.body C.always ?_
  unfold BodyT c_always
  refine wpC_seq ?_
  refine wpC_reg ?_
  refine wp_box rfl rfl H fun q1 h H => ?_
  refine wpOps_ins (rfl) ?_
  refine wpOps_nil ?_
  refine wpC_seq ?_
  refine wpC_reg ?_
  refine wpOps_ins (rfl) ?_
  refine wpOps_ins (sem_load rfl (H.at 0 rfl) (fun _ => by first | exact partOf_sl rfl | rfl | exact DT.part_E | exact DT.part_S | exact DT.part_L | exact DE.part_V | exact DE.part_L | exact partOf_all (DT.len _) | exact partOf_all (DE.len _) | exact partOf_all (DV.len _))) ?_
  refine wp_bool rfl (fun hb2 => ?_) (fun hb2 => ?_)
  · have h8 := eqI_is hb2
    refine wpOps_ins (rfl) ?_
    refine wpOps_on rfl ?_
    refine wpOps_ins (rfl) ?_
    refine wpOps_on rfl ?_
    refine wpOps_ins (sem_load rfl (H.at 0 rfl) (fun _ => by first | exact partOf_sl rfl | rfl | exact DT.part_E | exact DT.part_S | exact DT.part_L | exact DE.part_V | exact DE.part_L | exact partOf_all (DT.len _) | exact partOf_all (DE.len _) | exact partOf_all (DV.len _))) ?_
    refine wpOps_on rfl ?_
    refine wpOps_ins (sem_len rfl) ?_
    refine wpOps_on rfl ?_
    refine wp_bool rfl (fun hb3 => ?_) (fun hb3 => ?_)
    · have hl := eqI_is hb3
      obtain ⟨⟨k1, e1, s1, nl1, fu1, l1⟩, rfl⟩ : ∃ x, l = [x] := List.length_eq_one_iff.1 (Int.ofNat.inj hl)
      refine wpOps_ins (rfl) ?_
      refine wpOps_ins (rfl) ?_
      refine wpOps_on rfl ?_
      refine wpOps_ins (rfl) ?_
      refine wpOps_on rfl ?_
      refine wpOps_ins (sem_load rfl (H.at 0 rfl) (fun _ => by first | exact partOf_sl rfl | rfl | exact DT.part_E | exact DT.part_S | exact DT.part_L | exact DE.part_V | exact DE.part_L | exact partOf_all (DT.len _) | exact partOf_all (DE.len _) | exact partOf_all (DV.len _))) ?_
      refine wpOps_on rfl ?_
      refine wpOps_ins (sem_iaddrT (j := 0) rfl rfl (by simp)) ?_
      refine wpOps_on rfl ?_
      refine wpOps_ins (rfl) ?_
      refine wpOps_on rfl ?_
      refine wpOps_ins (rfl) ?_
      refine wpOps_on rfl ?_
      refine wp_bool rfl (fun hb4 => ?_) (fun hb4 => ?_)
      · have h1 := eqI_is hb4
        refine wpOps_ins (rfl) ?_
        refine wpOps_ins (rfl) ?_
        refine wpOps_nil ?_
        refine wpC_ret ?_
        refine ⟨trivial, _, rfl, ?_⟩
        exact ⟨congrArg AV.bool (by simp [DT.alw, DT.kind, h8, h1]), H.tail⟩
      · have h1 := eqI_ne hb4
        refine wpOps_ins (rfl) ?_
        refine wpOps_ins (rfl) ?_
        refine wpOps_nil ?_
        refine wpC_ret ?_
        refine ⟨trivial, _, rfl, ?_⟩
        exact ⟨congrArg AV.bool (by simp [DT.alw, DT.kind, h8, h1]), H.tail⟩
    · have hl := eqI_ne hb3
      refine wpOps_ins (rfl) ?_
      refine wpOps_ins (rfl) ?_
      refine wpOps_off rfl ?_
      refine wpOps_off rfl ?_
      refine wpOps_off rfl ?_
      refine wpOps_off rfl ?_
      refine wpOps_off rfl ?_
      refine wpOps_off rfl ?_
      refine wpOps_ins (rfl) ?_
      refine wpOps_ins (rfl) ?_
      refine wpOps_nil ?_
      refine wpC_ret ?_
      refine ⟨trivial, _, rfl, ?_⟩
      exact ⟨congrArg AV.bool (by rw [alw_len (fun e => hl (by rw [e]; rfl))]), H.tail⟩
  · have h8 := eqI_ne hb2
    refine wpOps_ins (rfl) ?_
    refine wpOps_off rfl ?_
    refine wpOps_off rfl ?_
    refine wpOps_off rfl ?_
    refine wpOps_off rfl ?_
    refine wpOps_ins (rfl) ?_
    refine wpOps_ins (rfl) ?_
    refine wpOps_off rfl ?_
    refine wpOps_off rfl ?_
    refine wpOps_off rfl ?_
    refine wpOps_off rfl ?_
    refine wpOps_off rfl ?_
    refine wpOps_off rfl ?_
    refine wpOps_ins (rfl) ?_
    refine wpOps_ins (rfl) ?_
    refine wpOps_nil ?_
    refine wpC_ret ?_
    refine ⟨trivial, _, rfl, ?_⟩
    exact ⟨congrArg AV.bool (by rw [alw_not h8]), H.tail⟩
theorem ralways_ok (C : Code E) : ∀ (t : DT) {h : Heap} {L : List (Pos × AObj)}, Has h L → CallT E (.func n_ralways [] []) [.agg t.cells] h (Z L (.bool t.alw)) := by
  rintro ⟨k, e, s, nl, fu, l⟩ h L H
  refine CallT.body C.ralways ?_
  unfold BodyT c_ralways
  refine wpC_seq ?_
  refine wpC_reg ?_
  refine wp_box rfl rfl H fun q1 h H => ?_
  refine wpOps_ins (rfl) ?_
  refine wpOps_nil ?_
  refine wpC_seq ?_
  refine wpC_reg ?_
  refine wpOps_ins (rfl) ?_
  refine wpOps_ins (sem_load rfl (H.at 0 rfl) (fun _ => by first | exact partOf_sl rfl | rfl | exact DT.part_E | exact DT.part_S | exact DT.part_L | exact DE.part_V | exact DE.part_L | exact partOf_all (DT.len _) | exact partOf_all (DE.len _) | exact partOf_all (DV.len _))) ?_
  refine wp_bool rfl (fun hb2 => ?_) (fun hb2 => ?_)
  · have h8 := eqI_is hb2
    refine wpOps_ins (rfl) ?_
    refine wpOps_on rfl ?_
    refine wpOps_ins (rfl) ?_
    refine wpOps_on rfl ?_
    refine wpOps_ins (sem_load rfl (H.at 0 rfl) (fun _ => by first | exact partOf_sl rfl | rfl | exact DT.part_E | exact DT.part_S | exact DT.part_L | exact DE.part_V | exact DE.part_L | exact partOf_all (DT.len _) | exact partOf_all (DE.len _) | exact partOf_all (DV.len _))) ?_
    refine wpOps_on rfl ?_
    refine wpOps_ins (sem_len rfl) ?_
    refine wpOps_on rfl ?_
    refine wp_bool rfl (fun hb3 => ?_) (fun hb3 => ?_)
    · have hl := eqI_is hb3
      obtain ⟨⟨k1, e1, s1, nl1, fu1, l1⟩, rfl⟩ : ∃ x, l = [x] := List.length_eq_one_iff.1 (Int.ofNat.inj hl)
      refine wpOps_ins (rfl) ?_
      refine wpOps_ins (rfl) ?_
      refine wpOps_on rfl ?_
      refine wpOps_ins (rfl) ?_
      refine wpOps_on rfl ?_
      refine wpOps_ins (sem_load rfl (H.at 0 rfl) (fun _ => by first | exact partOf_sl rfl | rfl | exact DT.part_E | exact DT.part_S | exact DT.part_L | exact DE.part_V | exact DE.part_L | exact partOf_all (DT.len _) | exact partOf_all (DE.len _) | exact partOf_all (DV.len _))) ?_
      refine wpOps_on rfl ?_
      refine wpOps_ins (sem_iaddrT (j := 0) rfl rfl (by simp)) ?_
      refine wpOps_on rfl ?_
      refine wpOps_ins (rfl) ?_
      refine wpOps_on rfl ?_
      refine wpOps_ins (rfl) ?_
      refine wpOps_on rfl ?_
      refine wp_bool rfl (fun hb4 => ?_) (fun hb4 => ?_)
      · have h1 := eqI_is hb4
        refine wpOps_ins (rfl) ?_
        refine wpOps_ins (rfl) ?_
        refine wpOps_nil ?_
        refine wpC_ret ?_
        refine ⟨trivial, _, rfl, ?_⟩
        exact ⟨congrArg AV.bool (by simp [DT.alw, DT.kind, h8, h1]), H.tail⟩
      · have h1 := eqI_ne hb4
        refine wpOps_ins (rfl) ?_
        refine wpOps_ins (rfl) ?_
        refine wpOps_nil ?_
        refine wpC_ret ?_
        refine ⟨trivial, _, rfl, ?_⟩
        exact ⟨congrArg AV.bool (by simp [DT.alw, DT.kind, h8, h1]), H.tail⟩
    · have hl := eqI_ne hb3
      refine wpOps_ins (rfl) ?_
      refine wpOps_ins (rfl) ?_
      refine wpOps_off rfl ?_
      refine wpOps_off rfl ?_
      refine wpOps_off rfl ?_
      refine wpOps_off rfl ?_
      refine wpOps_off rfl ?_
      refine wpOps_off rfl ?_
      refine wpOps_ins (rfl) ?_
      refine wpOps_ins (rfl) ?_
      refine wpOps_nil ?_
      refine wpC_ret ?_
      refine ⟨trivial, _, rfl, ?_⟩
      exact ⟨congrArg AV.bool (by rw [alw_len (fun e => hl (by rw [e]; rfl))]), H.tail⟩
  · have h8 := eqI_ne hb2
    refine wpOps_ins (rfl) ?_
    refine wpOps_off rfl ?_
    refine wpOps_off rfl ?_
    refine wpOps_off rfl ?_
    refine wpOps_off rfl ?_
    refine wpOps_ins (rfl) ?_
    refine wpOps_ins (rfl) ?_
    refine wpOps_off rfl ?_
    refine wpOps_off rfl ?_
    refine wpOps_off rfl ?_
    refine wpOps_off rfl ?_
    refine wpOps_off rfl ?_
    refine wpOps_off rfl ?_
    refine wpOps_ins (rfl) ?_
    refine wpOps_ins (rfl) ?_
    refine wpOps_nil ?_
    refine wpC_ret ?_
    refine ⟨trivial, _, rfl, ?_⟩
    exact ⟨congrArg AV.bool (by rw [alw_not h8]), H.tail⟩
theorem ofStates_ok (C : Code E) : ∀ (t : DT) {h : Heap} {L : List (Pos × AObj)}, Has h L → CallT E (.func n_ofStates [] []) [.agg t.cells] h (Z L (.bool (t.kind == 1 || t.alw))) := by
  rintro ⟨k, e, s, nl, fu, l⟩ h L H
  refine CallT.body C.ofStates ?_
  unfold BodyT c_ofStates
  refine wpC_seq ?_
  refine wpC_reg ?_
  refine wp_box rfl rfl H fun q1 h H => ?_
  refine wpOps_ins (rfl) ?_
  refine wpOps_nil ?_
  refine wpC_seq ?_
  refine wpC_reg ?_
  refine wpOps_ins (rfl) ?_
  refine wpOps_ins (sem_load rfl (H.at 0 rfl) (fun _ => by first | exact partOf_sl rfl | rfl | exact DT.part_E | exact DT.part_S | exact DT.part_L | exact DE.part_V | exact DE.part_L | exact partOf_all (DT.len _) | exact partOf_all (DE.len _) | exact partOf_all (DV.len _))) ?_
  refine wp_bool rfl (fun hb2 => ?_) (fun hb2 => ?_)
  · have h1 := eqI_is hb2
    refine wpOps_ins (rfl) ?_
    refine wpOps_off rfl ?_
    refine wpOps_off rfl ?_
    refine wpOps_ins (rfl) ?_
    refine wpOps_ins (rfl) ?_
    refine wpOps_nil ?_
    refine wpC_ret ?_
    refine ⟨trivial, _, rfl, ?_⟩
    exact ⟨congrArg AV.bool (by simp [DT.kind, h1]), H.tail⟩
  · have h1 := eqI_ne hb2
    refine wpOps_ins (rfl) ?_
    refine wpOps_on rfl ?_
    refine wpOps_ins (sem_load rfl (H.at 0 rfl) (fun _ => by first | exact partOf_sl rfl | rfl | exact DT.part_E | exact DT.part_S | exact DT.part_L | exact DE.part_V | exact DE.part_L | exact partOf_all (DT.len _) | exact partOf_all (DE.len _) | exact partOf_all (DV.len _))) ?_
    refine wpOps_on rfl ?_
    refine wp_call rfl (ralways_ok C _ H) ?_
    rintro _ h ⟨rfl, H⟩
    refine wpOps_ins (rfl) ?_
    refine wpOps_ins (rfl) ?_
    refine wpOps_nil ?_
    refine wpC_ret ?_
    refine ⟨trivial, _, rfl, ?_⟩
    exact ⟨congrArg AV.bool (by simp [DT.kind, h1]), H.tail⟩
theorem safe1_ok (C : Code E) : ∀ (t : DT) {h : Heap} {L : List (Pos × AObj)}, Has h L → CallT E (.func n_safe1 [] []) [.agg t.cells] h (Z L (.bool t.bad)) := by
  rintro ⟨k, e, s, nl, fu, l⟩ h L H
  refine CallT.body C.safe1 ?_
  unfold BodyT c_safe1
  refine wpC_seq ?_
  refine wpC_reg ?_
  refine wp_box rfl rfl H fun q1 h H => ?_
  refine wpOps_ins (rfl) ?_
  refine wpOps_nil ?_
  refine wpC_seq ?_
  refine wpC_reg ?_
  refine wpOps_ins (rfl) ?_
  refine wpOps_ins (sem_load rfl (H.at 0 rfl) (fun _ => by first | exact partOf_sl rfl | rfl | exact DT.part_E | exact DT.part_S | exact DT.part_L | exact DE.part_V | exact DE.part_L | exact partOf_all (DT.len _) | exact partOf_all (DE.len _) | exact partOf_all (DV.len _))) ?_
  refine wp_bool rfl (fun hb2 => ?_) (fun hb2 => ?_)
  · have h1 := neI_ne hb2
    refine wpOps_ins (rfl) ?_
    refine wpOps_on rfl ?_
    refine wpOps_ins (rfl) ?_
    refine wpOps_on rfl ?_
    refine wpOps_ins (sem_load rfl (H.at 0 rfl) (fun _ => by first | exact partOf_sl rfl | rfl | exact DT.part_E | exact DT.part_S | exact DT.part_L | exact DE.part_V | exact DE.part_L | exact partOf_all (DT.len _) | exact partOf_all (DE.len _) | exact partOf_all (DV.len _))) ?_
    refine wpOps_on rfl ?_
    refine wp_bool rfl (fun hb3 => ?_) (fun hb3 => ?_)
    · have h2 := neI_ne hb3
      refine wpOps_ins (rfl) ?_
      refine wpOps_ins (rfl) ?_
      refine wpOps_on rfl ?_
      refine wpOps_ins (sem_load rfl (H.at 0 rfl) (fun _ => by first | exact partOf_sl rfl | rfl | exact DT.part_E | exact DT.part_S | exact DT.part_L | exact DE.part_V | exact DE.part_L | exact partOf_all (DT.len _) | exact partOf_all (DE.len _) | exact partOf_all (DV.len _))) ?_
      refine wpOps_on rfl ?_
      refine wp_call rfl (always_ok C _ H) ?_
      rintro _ h ⟨rfl, H⟩
      refine wpOps_on rfl ?_
      refine wpOps_ins (rfl) ?_
      refine wpOps_ins (rfl) ?_
      refine wpOps_ins (rfl) ?_
      refine wpOps_nil ?_
      refine wpC_ret ?_
      refine ⟨trivial, _, rfl, ?_⟩
      exact ⟨congrArg AV.bool (by cases ha : DT.alw _ <;> simp [DT.bad, DT.kind, h1, h2, ha]), H.tail⟩
    · have h2 := neI_eq hb3
      refine wpOps_ins (rfl) ?_
      refine wpOps_ins (rfl) ?_
      refine wpOps_off rfl ?_
      refine wpOps_off rfl ?_
      refine wpOps_off rfl ?_
      refine wpOps_ins (rfl) ?_
      refine wpOps_ins (rfl) ?_
      refine wpOps_nil ?_
      refine wpC_ret ?_
      refine ⟨trivial, _, rfl, ?_⟩
      exact ⟨congrArg AV.bool (by simp [DT.bad, DT.kind, h2]), H.tail⟩
  · have h1 := neI_eq hb2
    refine wpOps_ins (rfl) ?_
    refine wpOps_off rfl ?_
    refine wpOps_off rfl ?_
    refine wpOps_off rfl ?_
    refine wpOps_ins (rfl) ?_
    refine wpOps_ins (rfl) ?_
    refine wpOps_off rfl ?_
    refine wpOps_off rfl ?_
    refine wpOps_off rfl ?_
    refine wpOps_ins (rfl) ?_
    refine wpOps_ins (rfl) ?_
    refine wpOps_nil ?_
    refine wpC_ret ?_
    refine ⟨trivial, _, rfl, ?_⟩
    exact ⟨congrArg AV.bool (by simp [DT.bad, DT.kind, h1]), H.tail⟩
def IdxR (L : List (Pos × AObj)) (l : List DT) : AV → Heap → Prop := fun r h => Has h L ∧ ((l.any DT.bad = true ∧ ∃ j : Nat, r = .int .i64 (.ofNat j)) ∨ (l.any DT.bad = false ∧ r = .int .i64 (-1)))
theorem any_take {l : List DT} {j : Nat} (hj : j < l.length) (h1 : (l.take j).any DT.bad = false) (h2 : l[j].bad = false) : (l.take (j + 1)).any DT.bad = false := by
  rw [List.take_succ_eq_append_getElem hj, List.any_append, h1]; simp [h2]
theorem any_of {l : List DT} {j : Nat} (hj : j < l.length) (h2 : l[j].bad = true) : l.any DT.bad = true := List.any_eq_true.2 ⟨_, List.getElem_mem hj, h2⟩
theorem indexF_loop (C : Code E) {l : List DT} (hlen : l.length ≤ maxN) {a : AV} {L : List (Pos × AObj)} (ha : SlR L a l) {Q : XExit → Tm → Heap → Prop} (hend : ∀ tm h, l.any DT.bad = false → Has h L → Q (.exit 0) tm h) (hret : ∀ tm h (j : Nat), l.any DT.bad = true → Has h L → tm.get (.lo .d0 .d4) = some (.int .i64 (.ofNat j)) → Q .ret tm h) :
    ∀ (k j : Nat), l.length - j = k → ∀ (tm : Tm) (h : Heap), (l.take j).any DT.bad = false → Has h L → tm.get (.lo .d0 .d0) = some (a) → tm.get (.lo .d0 .d1) = some (.func n_safe1 [] []) → tm.get (.lo .d0 .d7) = some (.int .i64 (.ofNat l.length)) → tm.get (.lo .d0 .d8) = some (.int .i64 (.ofNat j)) → LoopT E c_indexF_b0 Q tm h := by
  intro k
  induction k using Nat.strongRecOn with
  | ind k ih =>
    intro j hk tm h hany H e0 e1 e7 e8
    obtain ⟨tm, rfl⟩ := sets4 e0 e1 e7 e8
    refine LoopT.wp ?_
    unfold c_indexF_b0
    refine wpC_seq ?_
    refine wpC_reg ?_
    refine wp_bool rfl (fun hb1 => ?_) (fun hb1 => ?_)
    · have hj := of_ltN hb1
      refine wpOps_nil ?_
      refine wpC_seq ?_
      refine wpC_condT rfl ?_
      refine wpC_skip ?_
      refine wpC_seq ?_
      refine wpC_block ?_
      refine wpC_seq ?_
      refine wpC_reg ?_
      refine wpOps_ins (rfl) ?_
      refine wpOps_ins (rfl) ?_
      refine wpOps_nil ?_
      refine wpC_seq ?_
      refine wpC_reg ?_
      refine wpOps_ins (rfl) ?_
      refine wpOps_ins (rfl) ?_
      refine wpOps_ins (rfl) ?_
      refine wp_iaddrT ha rfl rfl hj fun p hp => ?_
      refine wpOps_ins (hp.load (H) rfl) ?_
      refine wp_callv rfl rfl (safe1_ok C _ H) ?_
      rintro _ h ⟨rfl, H⟩
      cases hbd : l[j].bad
      · refine wpOps_nil ?_
        refine wpC_condF rfl ?_
        refine wpC_skip ?_
        refine wpC_reg ?_
        refine wpOps_ins (sem_int rfl (w64_succ (by unfold maxN at hlen; omega))) ?_
        refine wpOps_ins (rfl) ?_
        refine wpOps_nil ?_
        exact ih (l.length - (j + 1)) (by omega) (j + 1) rfl _ _ (any_take hj hany hbd) H rfl rfl rfl rfl
      · refine wpOps_nil ?_
        refine wpC_condT rfl ?_
        refine wpC_seq ?_
        refine wpC_reg ?_
        refine wpOps_ins (rfl) ?_
        refine wpOps_ins (rfl) ?_
        refine wpOps_nil ?_
        refine wpC_ret ?_
        exact hret _ _ j (any_of hj hbd) H rfl
    · have hj := of_geN hb1
      refine wpOps_nil ?_
      refine wpC_seq ?_
      refine wpC_condF rfl ?_
      refine wpC_exit ?_
      rw [List.take_of_length_le hj] at hany
      exact hend _ _ hany H
theorem indexF_ok (C : Code E) {l : List DT} (hlen : l.length ≤ maxN) {a : AV} {h : Heap} {L : List (Pos × AObj)} (ha : SlR L a l) (H : Has h L) : CallT E (.func n_indexF [] []) [a, .func n_safe1 [] []] h (IdxR L l) := by
  refine CallT.body C.indexF ?_
  unfold BodyT c_indexF
  refine wpC_seq ?_
  refine wpC_reg ?_
  refine wpOps_ins (rfl) ?_
  refine wpOps_nil ?_
  refine wpC_seq ?_
  refine wpC_seq ?_
  refine wpC_reg ?_
  refine wpOps_ins (rfl) ?_
  refine wpOps_ins (ha.len rfl) ?_
  refine wpOps_ins (rfl) ?_
  refine wpOps_nil ?_
  refine wpC_block ?_
  refine wpC_loop (indexF_loop C hlen ha (fun tm h hany H => ?_) (fun tm h j hany H e4 => ?_) (l.length - 0) 0 rfl _ _ (by simp) H rfl rfl rfl rfl)
  · refine wpC_seq ?_
    refine wpC_reg ?_
    refine wpOps_ins (rfl) ?_
    refine wpOps_nil ?_
    refine wpC_ret ?_
    exact ⟨trivial, _, rfl, H, .inr ⟨hany, rfl⟩⟩
  · obtain ⟨tm, rfl⟩ := sets1 e4
    exact ⟨trivial, _, rfl, H, .inl ⟨hany, j, rfl⟩⟩
theorem contF_ok (C : Code E) {l : List DT} (hlen : l.length ≤ maxN) {a : AV} {h : Heap} {L : List (Pos × AObj)} (ha : SlR L a l) (H : Has h L) : CallT E (.func n_contF [] []) [a, .func n_safe1 [] []] h (Z L (.bool (l.any DT.bad))) := by
  refine CallT.body C.contF ?_
  unfold BodyT c_contF
  refine wpC_seq ?_
  refine wpC_reg ?_
  refine wpOps_ins (rfl) ?_
  refine wpOps_nil ?_
  refine wpC_seq ?_
  refine wpC_reg ?_
  refine wpOps_ins (rfl) ?_
  refine wpOps_ins (rfl) ?_
  refine wp_call rfl (indexF_ok C hlen ha H) ?_
  rintro r h ⟨H, hr⟩
  obtain ⟨n, rfl, hn⟩ : ∃ n : Int, r = .int .i64 n ∧ leI 0 n = l.any DT.bad := by
    rcases hr with ⟨h1, j, rfl⟩ | ⟨h1, rfl⟩
    · exact ⟨_, rfl, by rw [h1]; rfl⟩
    · exact ⟨_, rfl, by rw [h1]; rfl⟩
  refine wpOps_ins (sem_is rfl hn) ?_
  refine wpOps_ins (rfl) ?_
  refine wpOps_nil ?_
  refine wpC_ret ?_
  refine ⟨trivial, _, rfl, ?_⟩
  exact ⟨rfl, H⟩
theorem parts_maxN {t : DT} (h : t.size ≤ 500) : t.parts.length ≤ maxN := by
  have := DT.parts_len t
  unfold maxN; omega
theorem safe_ok (C : Code E) {t : DT} (hok : t.ok) (hsz : t.size ≤ 500) {h : Heap} {L : List (Pos × AObj)} (H : Has h L) : CallT E (.func n_safe [] []) [.agg t.cells] h (Z L (.bool (!t.parts.any DT.bad))) := by
  refine CallT.body C.safe ?_
  unfold BodyT c_safe
  refine wpC_seq ?_
  refine wpC_reg ?_
  refine wp_box rfl rfl H fun q1 h H => ?_
  refine wpOps_ins (rfl) ?_
  refine wpOps_nil ?_
  refine wpC_seq ?_
  refine wpC_reg ?_
  refine wpOps_ins (sem_load rfl (H.at 0 rfl) (fun _ => by first | exact partOf_sl rfl | rfl | exact DT.part_E | exact DT.part_S | exact DT.part_L | exact DE.part_V | exact DE.part_L | exact partOf_all (DT.len _) | exact partOf_all (DE.len _) | exact partOf_all (DV.len _))) ?_
  refine wp_call rfl (parts_ok C t hok hsz H) ?_
  rintro r h ⟨B, hr, H⟩
  have hS := fun K => hr.slr (L := B ++ K) (fun x m => List.mem_append_left _ m)
  refine wp_call rfl (contF_ok C (parts_maxN hsz) (hS _) H) ?_
  rintro _ h ⟨rfl, H⟩
  refine wpOps_ins (rfl) ?_
  refine wpOps_ins (rfl) ?_
  refine wpOps_nil ?_
  refine wpC_ret ?_
  refine ⟨trivial, _, rfl, ?_⟩
  refine ⟨?_, (H.sub (List.sublist_append_right _ _)).tail⟩
  cases t.parts.any DT.bad <;> rfl
theorem rsafe_loop (C : Code E) {l : List DT} (hlen : l.length ≤ maxN) {a : AV} {L : List (Pos × AObj)} (ha : SlR L a l) {Q : XExit → Tm → Heap → Prop} (hend : ∀ tm h, l.any DT.bad = false → Has h L → Q (.exit 0) tm h) (hret : ∀ tm h, l.any DT.bad = true → Has h L → tm.get (.lo .d0 .d2) = some (.bool false) → Q .ret tm h) :
    ∀ (k j : Nat), l.length - j = k → ∀ (tm : Tm) (h : Heap), (l.take j).any DT.bad = false → Has h L → tm.get (.lo .d0 .d3) = some (a) → tm.get (.lo .d0 .d4) = some (.int .i64 (.ofNat j)) → LoopT E c_rsafe_b0 Q tm h := by
  intro k
  induction k using Nat.strongRecOn with
  | ind k ih =>
    intro j hk tm h hany H e3 e4
    obtain ⟨tm, rfl⟩ := sets2 e3 e4
    refine LoopT.wp ?_
    unfold c_rsafe_b0
    refine wpC_seq ?_
    refine wpC_seq ?_
    refine wpC_reg ?_
    refine wpOps_ins (rfl) ?_
    refine wpOps_ins (rfl) ?_
    refine wpOps_ins (ha.len rfl) ?_
    refine wp_bool rfl (fun hb1 => ?_) (fun hb1 => ?_)
    · have hj := of_ltN hb1
      refine wpOps_nil ?_
      refine wpC_condT rfl ?_
      refine wpC_skip ?_
      refine wpC_seq ?_
      refine wpC_block ?_
      refine wpC_seq ?_
      refine wpC_reg ?_
      refine wpOps_ins (rfl) ?_
      refine wpOps_ins (rfl) ?_
      refine wp_iaddrT ha rfl rfl hj fun p hp => ?_
      refine wpOps_ins (hp.load (H) rfl) ?_
      refine wp_call rfl (ofStates_ok C _ H) ?_
      rintro _ h ⟨rfl, H⟩
      cases hos : (l[j].kind == 1 || l[j].alw)
      · refine wpOps_ins (rfl) ?_
        refine wpOps_ins (rfl) ?_
        refine wpOps_on rfl ?_
        refine wpOps_ins (rfl) ?_
        refine wpOps_on rfl ?_
        refine wpOps_ins (rfl) ?_
        refine wpOps_on rfl ?_
        refine wp_iaddrT ha rfl rfl hj fun p hp => ?_
        refine wpOps_on rfl ?_
        refine wp_faddrT hp rfl fun p hp => ?_
        refine wpOps_on rfl ?_
        refine wpOps_ins (hp.loadK (H) rfl) ?_
        refine wpOps_on rfl ?_
        refine wp_bool rfl (fun hb2 => ?_) (fun hb2 => ?_)
        · have h2 := neI_ne hb2
          refine wpOps_ins (rfl) ?_
          refine wpOps_nil ?_
          refine wpC_condT rfl ?_
          refine wpC_seq ?_
          refine wpC_reg ?_
          refine wpOps_ins (rfl) ?_
          refine wpOps_nil ?_
          refine wpC_ret ?_
          have hbd : l[j].bad = true := by revert hos; cases ha2 : l[j].alw <;> simp_all [DT.bad]
          exact hret _ _ (any_of hj hbd) H rfl
        · have h2 := neI_eq hb2
          refine wpOps_ins (rfl) ?_
          refine wpOps_nil ?_
          refine wpC_condF rfl ?_
          refine wpC_skip ?_
          refine wpC_reg ?_
          refine wpOps_ins (rfl) ?_
          refine wpOps_ins (sem_int rfl (w64_succ (by unfold maxN at hlen; omega))) ?_
          refine wpOps_ins (rfl) ?_
          refine wpOps_nil ?_
          have hbd : l[j].bad = false := by revert hos; cases ha2 : l[j].alw <;> simp_all [DT.bad]
          exact ih (l.length - (j + 1)) (by omega) (j + 1) rfl _ _ (any_take hj hany hbd) H rfl rfl
      · refine wpOps_ins (rfl) ?_
        refine wpOps_ins (rfl) ?_
        refine wpOps_off rfl ?_
        refine wpOps_off rfl ?_
        refine wpOps_off rfl ?_
        refine wpOps_off rfl ?_
        refine wpOps_off rfl ?_
        refine wpOps_off rfl ?_
        refine wpOps_ins (rfl) ?_
        refine wpOps_nil ?_
        refine wpC_condF rfl ?_
        refine wpC_skip ?_
        refine wpC_reg ?_
        refine wpOps_ins (rfl) ?_
        refine wpOps_ins (sem_int rfl (w64_succ (by unfold maxN at hlen; omega))) ?_
        refine wpOps_ins (rfl) ?_
        refine wpOps_nil ?_
        have hbd : l[j].bad = false := by revert hos; cases ha2 : l[j].alw <;> simp_all [DT.bad]
        exact ih (l.length - (j + 1)) (by omega) (j + 1) rfl _ _ (any_take hj hany hbd) H rfl rfl
    · have hj := of_geN hb1
      refine wpOps_nil ?_
      refine wpC_condF rfl ?_
      refine wpC_exit ?_
      rw [List.take_of_length_le hj] at hany
      exact hend _ _ hany H
theorem rsafe_ok (C : Code E) {t : DT} (hok : t.ok) (hsz : t.size ≤ 500) {h : Heap} {L : List (Pos × AObj)} (H : Has h L) : CallT E (.func n_rsafe [] []) [.agg t.cells] h (Z L (.bool (!t.parts.any DT.bad))) := by
  refine CallT.body C.rsafe ?_
  unfold BodyT c_rsafe
  refine wpC_seq ?_
  refine wpC_reg ?_
  refine wp_box rfl rfl H fun q1 h H => ?_
  refine wpOps_ins (rfl) ?_
  refine wpOps_nil ?_
  refine wpC_seq ?_
  refine wpC_reg ?_
  refine wpOps_ins (sem_load rfl (H.at 0 rfl) (fun _ => by first | exact partOf_sl rfl | rfl | exact DT.part_E | exact DT.part_S | exact DT.part_L | exact DE.part_V | exact DE.part_L | exact partOf_all (DT.len _) | exact partOf_all (DE.len _) | exact partOf_all (DV.len _))) ?_
  refine wp_call rfl (rparts_ok C t hok hsz H) ?_
  rintro r h ⟨B, hr, H⟩
  have hS := fun K => hr.slr (L := B ++ K) (fun x m => List.mem_append_left _ m)
  refine wpOps_ins (rfl) ?_
  refine wpOps_nil ?_
  refine wpC_seq ?_
  refine wpC_seq ?_
  refine wpC_reg ?_
  refine wpOps_ins (rfl) ?_
  refine wpOps_nil ?_
  refine wpC_block ?_
  refine wpC_loop (rsafe_loop C (parts_maxN hsz) (hS _) (fun tm h hany H => ?_) (fun tm h hany H e2 => ?_) (t.parts.length - 0) 0 rfl _ _ (by simp) H rfl rfl)
  · refine wpC_seq ?_
    refine wpC_reg ?_
    refine wpOps_ins (rfl) ?_
    refine wpOps_nil ?_
    refine wpC_ret ?_
    exact ⟨trivial, _, rfl, by rw [hany]; rfl, (H.sub (List.sublist_append_right _ _)).tail⟩
  · obtain ⟨tm, rfl⟩ := sets1 e2
    exact ⟨trivial, _, rfl, by rw [hany]; rfl, (H.sub (List.sublist_append_right _ _)).tail⟩
end
end Go.X
