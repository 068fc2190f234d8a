/- What is refused; slices of bytes one behind the other. -/
import Derived.Test.YtmnbopcehmcaeaaGreatDoorTCt2
namespace Go.X
open Go
section
variable {E : XEnv} {h : Heap} {L : List (Pos × AObj)} {v w : AV} {l m : List Nat}
section
variable {P X : Nat} {tbl : List Nat} (F : Fin E P X tbl)
include F
omit F in
theorem w64_sub {a b : Nat} (h1 : b ≤ a) (h2 : a ≤ 1000000) : wrapF .i64 (Int.ofNat a - (b : Int)) = Int.ofNat (a - b) := (w64 (by rw [ofNat_cast]; omega) (by rw [ofNat_cast]; omega)).trans (by simp only [ofNat_cast]; omega)
def UnR (L : List (Pos × AObj)) : AV → Heap → Prop := fun r h' => r = .tuple [.int .i64 0, .nilslice, .int .i64 372] ∧ Has h' L
theorem unframe_no (C : Code E) (H : Has h L) (hs : SV L v l) (hb : ∀ b ∈ l, b < 256) (hl : l.length ≤ 300000) (hno : NoFrame (fpOf tbl) l) : CallT E (.func n_unframe [] []) [v] h (UnR L) := by
  refine CallT.body C.unframe ?_
  unfold BodyT c_unframe
  refine cS (cR ?_)
  refine oI rfl (oI rfl (oI rfl (oZ ?_)))
  refine cS (cR ?_)
  refine oI rfl ?_
  refine wp_bslice (fun k => rfl) H fun q1 h H => ?_
  refine wp_mark (k := 0) H rfl rfl fun h H => ?_
  have hf : SV ((q1, AObj.row tyB [.int .u8 70, .int .u8 71, .int .u8 67] false) :: L) (.slice q1 0 3 (.ex 3)) [70, 71, 67] := ⟨_, _, _, _, _, _, rfl, List.mem_cons_self, by decide, rfl, Nat.le_refl 3⟩
  refine wp_call rfl (cutPrefix_ok C H hs.cons hf hb (by decide)) ?_
  rintro _ h ⟨⟨_, rfl⟩ | ⟨hle3, _, rfl⟩, rfl⟩
  · have := hb
    refine oI rfl (oI rfl (oI rfl (oI rfl (oI rfl (oZ (cS ?_))))))
    refine cS (cR ?_)
    refine oI rfl (oI rfl (oI rfl (oF rfl (oF rfl (oF rfl (oI rfl (oZ (cC rfl ?_))))))))
    refine cS (cR ?_)
    refine oI rfl (oI rfl (oI rfl (oZ (cT ?_))))
    refine ⟨trivial, _, rfl, ?_⟩
    exact ⟨rfl, by first | exact H.tail | exact H.tail.tail.tail⟩
  · have hr := (hs.cons (x := (q1, AObj.row tyB [.int .u8 70, .int .u8 71, .int .u8 67] false))).cut (b := 3) (e := l.length) hle3 (Nat.le_refl _)
    generalize hrest : (l.take l.length).drop 3 = rest at hr
    have hrb : ∀ b ∈ rest, b < 256 := by rw [← hrest]; exact fun b hm => hb b (List.mem_of_mem_take (List.mem_of_mem_drop hm))
    have hrl : rest.length ≤ 300000 := by rw [← hrest]; simp; omega
    refine oI rfl (oI rfl (oI rfl (oI rfl (oI rfl (oZ (cS ?_))))))
    refine cS (cR ?_)
    refine oI rfl (oI rfl (oI rfl (oN rfl (oI rfl (oN rfl (oI (len_BV hr.bv rfl) (oN rfl ?_)))))))
    refine wp_bool rfl (fun hb2 => ?_) (fun hb2 => ?_)
    · have h24 := ltI_lt hb2
      simp only [ofNat_cast] at h24
      refine oI rfl (oZ (cC rfl ?_))
      refine cS (cR ?_)
      refine oI rfl (oI rfl (oI rfl (oZ (cT ?_))))
      refine ⟨trivial, _, rfl, ?_⟩
      exact ⟨rfl, by first | exact H.tail | exact H.tail.tail.tail⟩
    · have h24 := ltI_ge hb2
      simp only [ofNat_cast] at h24
      refine oI rfl (oZ (cF rfl (cK (cS (wpC_phase rfl (oI rfl ?_))))))
      refine oI (cut_sem (b := 0) (e := 8) hr rfl (fun _ => rfl) (fun _ => rfl) (by omega) (by omega)) ?_
      refine oI rfl ?_
      refine oI (cut_sem (b := 8) (e := 16) hr rfl (fun _ => rfl) (fun _ => rfl) (by omega) (by omega)) ?_
      refine oZ ⟨?_, ?_⟩
      · refine kI (rfl) rfl rfl ?_
        refine kI (cut_sem (b := 0) (e := 8) hr rfl (fun _ => rfl) (fun _ => rfl) (by omega) (by omega)) rfl rfl ?_
        refine kI (rfl) rfl rfl ?_
        refine kI (cut_sem (b := 8) (e := 16) hr rfl (fun _ => rfl) (fun _ => rfl) (by omega) (by omega)) rfl rfl ?_
        exact kZ
      · refine wp_call rfl (taken_ok C H (hr.cut (b := 0) (e := 8) (by omega) (by omega)).bv (fun b hm => hrb b (List.mem_of_mem_take (List.mem_of_mem_drop hm))) (by simp; omega)) ?_
        rintro _ _ ⟨⟨n1, hn1, rfl⟩, rfl⟩
        refine oZ (wpC_phase rfl ?_)
        refine oZ ⟨?_, ?_⟩
        · refine kI (rfl) rfl rfl ?_
          refine kI (cut_sem (b := 8) (e := 16) hr rfl (fun _ => rfl) (fun _ => rfl) (by omega) (by omega)) rfl rfl ?_
          exact kZ
        · refine wp_call rfl (taken_ok C H (hr.cut (b := 8) (e := 16) (by omega) (by omega)).bv (fun b hm => hrb b (List.mem_of_mem_take (List.mem_of_mem_drop hm))) (by simp; omega)) ?_
          rintro _ _ ⟨⟨n2, hn2, rfl⟩, rfl⟩
          refine oZ (cL rfl (oI rfl (oI rfl ?_)))
          refine oZ ⟨?_, ?_⟩
          · refine kI (rfl) rfl rfl (kI (rfl) rfl rfl ?_)
            exact kZ
          · refine cS ?_
            refine cS (cR ?_)
            refine oI rfl ?_
            refine wp_bool rfl (fun hb3 => ?_) (fun hb3 => ?_)
            · have ha := ltI_lt hb3
              refine oI rfl (oF rfl (oF rfl (oI rfl (oI rfl (oF rfl (oF rfl (oI rfl (oI rfl (oF rfl (oF rfl (oF rfl ?_)))))))))))
              refine oF rfl (oF rfl (oF rfl (oI rfl (oZ (cC rfl ?_)))))
              refine cS (cR ?_)
              refine oI rfl (oI rfl (oI rfl (oZ (cT ?_))))
              refine ⟨trivial, _, rfl, ?_⟩
              exact ⟨rfl, by first | exact H.tail | exact H.tail.tail.tail⟩
            · have ha := ltI_ge hb3
              refine oI rfl (oN rfl (oI rfl (oN rfl ?_)))
              refine wp_bool rfl (fun hb4 => ?_) (fun hb4 => ?_)
              · have hc := ltI_lt hb4
                refine oI rfl (oI rfl (oF rfl (oF rfl (oI rfl (oI rfl (oF rfl (oF rfl (oF rfl (oF rfl (oF rfl (oF rfl ?_)))))))))))
                refine oI rfl (oZ (cC rfl ?_))
                refine cS (cR ?_)
                refine oI rfl (oI rfl (oI rfl (oZ (cT ?_))))
                refine ⟨trivial, _, rfl, ?_⟩
                exact ⟨rfl, by first | exact H.tail | exact H.tail.tail.tail⟩
              · have hc := ltI_ge hb4
                refine oI rfl (oI rfl (oN rfl (oI rfl (oN rfl ?_))))
                refine wp_bool rfl (fun hb5 => ?_) (fun hb5 => ?_)
                · have hd := ltI_lt hb5
                  refine oI rfl (oI rfl (oF rfl (oF rfl (oF rfl (oF rfl (oF rfl (oF rfl (oI rfl (oZ (cC rfl ?_))))))))))
                  refine cS (cR ?_)
                  refine oI rfl (oI rfl (oI rfl (oZ (cT ?_))))
                  refine ⟨trivial, _, rfl, ?_⟩
                  exact ⟨rfl, by first | exact H.tail | exact H.tail.tail.tail⟩
                · have hd := ltI_ge hb5
                  refine oI rfl (oI rfl (oN rfl (oI rfl (oN rfl (oI rfl (oN rfl (oI (len_BV hr.bv rfl) (oN rfl ?_))))))))
                  refine oI (sem_int (m := .ofNat (rest.length - 24)) rfl (w64_sub (b := 24) (by omega) (by omega))) ?_
                  refine oN rfl ?_
                  refine oI (conv64_sem (a := rest.length - 24) (by omega) rfl) ?_
                  refine oN rfl ?_
                  refine wp_bool rfl (fun hb6 => ?_) (fun hb6 => ?_)
                  · have he := neI_ne hb6
                    refine oI rfl (oZ (cC rfl ?_))
                    refine cS (cR ?_)
                    refine oI rfl (oI rfl (oI rfl (oZ (cT ?_))))
                    refine ⟨trivial, _, rfl, ?_⟩
                    exact ⟨rfl, by first | exact H.tail | exact H.tail.tail.tail⟩
                  · have he := neI_is hb6
                    refine oI rfl (oZ (cF rfl (cK ?_)))
                    refine cS (cR ?_)
                    refine oI rfl (oI rfl (oI (len_BV hr.bv rfl) ?_))
                    refine oI (sem_int (m := .ofNat (rest.length - 8)) rfl (w64_sub (b := 8) (by omega) (by omega))) ?_
                    refine oI (cut_sem (b := 16) (e := rest.length - 8) hr rfl (fun _ => rfl) (fun _ => rfl) (by omega) (by omega)) ?_
                    have hp := hr.cut (b := 16) (e := rest.length - 8) (by omega) (by omega)
                    have hpb : ∀ b ∈ (rest.take (rest.length - 8)).drop 16, b < 256 := fun b hm => hrb b (List.mem_of_mem_take (List.mem_of_mem_drop hm))
                    have hpl : ((rest.take (rest.length - 8)).drop 16).length = rest.length - 24 := by simp; omega
                    generalize (rest.take (rest.length - 8)).drop 16 = pay at hp hpb hpl
                    refine wp_call rfl (bclone_ok C H hp (by omega)) ?_
                    rintro v1 h ⟨⟨x1, H, hv1⟩, _⟩
                    refine oI rfl (oZ (cS ?_))
                    refine cS (cR ?_)
                    refine oI rfl ?_
                    refine oI (convI_sem (a := n1) (by simp only [ofNat_cast] at *; omega) rfl) ?_
                    refine oI rfl ?_
                    refine wp_call rfl (frame_call F C (z := .ofNat n1) (by omega) hpb H hv1.bv) ?_
                    rintro _ h (⟨hbad, _⟩ | ⟨g, v2, hz, hg1, hg2, hl2, rfl, hg⟩)
                    · exact (hbad ⟨by simp only [ofNat_cast] at *; omega, by simp only [ofNat_cast] at *; omega, by simp only [ofNat_cast] at *; omega⟩).elim
                    obtain ⟨x2, H, hv2⟩ := hg.sv
                    refine oI rfl (oI rfl (oI rfl (oI rfl (oI rfl (oZ ?_)))))
                    refine cS (cR ?_)
                    refine oI rfl (oI rfl (wp_call rfl (equal_ok C H hs.cons.cons.cons.bv hv2.bv hb (frame_byte hpb)) ?_))
                    rintro _ _ ⟨rfl, rfl⟩
                    rw [decide_eq_false (hno g pay (by omega) (by omega))]
                    refine oI rfl (oZ (cC rfl ?_))
                    refine cS (cR ?_)
                    refine oI rfl (oI rfl (oI rfl (oZ (cT ?_))))
                    refine ⟨trivial, _, rfl, ?_⟩
                    exact ⟨rfl, by first | exact H.tail | exact H.tail.tail.tail⟩
theorem torn_no (C : Code E) (H : Has h L) (hs : SV L v l) (hb : ∀ b ∈ l, b < 256) (hl : l.length ≤ 300000) (hno : NoFrame (fpOf tbl) l) : CallT E (.func n_torn [] []) [v] h fun r h' => r = .bool true ∧ Has h' L := by
  refine CallT.body C.torn ?_
  unfold BodyT c_torn
  refine cS (cR ?_)
  refine oI rfl (oZ ?_)
  refine cS (cR ?_)
  refine oI rfl (wp_call rfl (unframe_no F C H hs hb hl hno) ?_)
  rintro _ h ⟨rfl, H⟩
  refine oI rfl (oI rfl (oI rfl (oI rfl (oI rfl (oI rfl (oI rfl (oZ ?_)))))))
  refine cS (cR ?_)
  refine oI rfl (oI (sem_is (b := true) rfl rfl) (oI rfl (oN rfl (oI rfl (oN rfl (oI rfl (oN rfl (oI (sem_is (b := true) rfl rfl) (oI rfl (oI rfl (oN rfl ?_)))))))))))
  refine oI rfl (oN rfl (oI (sem_is (b := true) rfl rfl) (oI rfl (oI rfl (oZ (cT ?_))))))
  refine ⟨trivial, _, rfl, ?_⟩
  exact ⟨rfl, H⟩
end
/-! ### one behind the other -/
theorem repeat_zeros : ∀ n : Nat, repeatL n [AV.int .u8 0] = avBytes (List.replicate n 0)
  | 0 => rfl
  | n + 1 => by simp only [repeatL, repeat_zeros n, List.replicate_succ]; rfl
variable {d : Option Slot} {ops : List XOp} {Q : Tm → Heap → Prop} {tm : Tm} {x y : XO}
theorem wp_appendZ1 {k : IntKind} {n : Nat} (hn : n + 1 ≤ 1000000) (hv : x.val tm = some .nilslice) (hy : y.val tm = some (.int k (.ofNat (n + 1)))) (H : Has h L)
    (hq : ∀ q h', Has h' ((q, .row tyB (avBytes (List.replicate (n + 1) 0)) true) :: L) → wpOps E ops Q (putT d (.slice q 0 (n + 1) (.up 1)) tm) h') : wpOps E (⟨d, none, .ins (.appendZ tyB 1 [.int .u8 0] x y)⟩ :: ops) Q tm h := by
  refine oI (v := .slice h.next 0 (n + 1) (.up 1)) (h' := h.push (.row tyB (avBytes (List.replicate (n + 1) 0)) true)) ?_ (hq _ _ (H.push _))
  have h1 : Nat.ble (n + 1) 281474976702464 = true := Nat.ble_eq_true_of_le (by omega)
  have h2 := smallN1 hn
  simp only [XI.sem, appendZS, withO_run hv, XO.withN, XO.withI, withO_run hy, h1, h2, repeat_zeros]
  show appendTo tyB 1 1 .nilslice (n + 1) (avBytes (List.replicate (n + 1) 0)) h = _
  simp only [appendTo, h2]
  rfl
def CatB (h : Heap) (L : List (Pos × AObj)) (v : AV) (n : Nat) (acc : List Nat) : Prop := ∃ q, acc.length ≤ n ∧ v = .slice q 0 acc.length (.up 1) ∧ Has h ((q, .row tyB (avBytes (acc ++ List.replicate (n - acc.length) 0)) true) :: L)
theorem spliceK_midB {β : Type} {no : β} : ∀ (a x b c : List AV), x.length = b.length → ∀ kk : List AV → β, spliceK no a.length x (a ++ (b ++ c)) kk = kk (a ++ (x ++ c))
  | [], x, b, c, h, kk => by
    have : ∀ (x b : List AV), x.length = b.length → ∀ kk : List AV → β, overK no x (b ++ c) kk = kk (x ++ c) := by
      intro x
      induction x with
      | nil => intro b h kk; cases b with | nil => rfl | cons _ _ => simp at h
      | cons y x ih => intro b h kk; cases b with | nil => simp at h | cons z b => exact ih b (by simpa using h) fun r => kk (y :: r)
    exact this x b h kk
  | y :: a, x, b, c, h, kk => spliceK_midB a x b c h fun r => kk (y :: r)
theorem wp_catB {n : Nat} (ho : CatB h L v n l) (hw : srcOf 1 w h = some (m.length, avBytes m)) (hn : l.length + m.length ≤ n) (hv : x.val tm = some v) (hy : y.val tm = some w)
    (hq : ∀ v' h', CatB h' L v' n (l ++ m) → wpOps E ops Q (putT d v' tm) h') : wpOps E (⟨d, none, .ins (.append tyB 1 1 x y)⟩ :: ops) Q tm h := by
  have hsem : (XI.append tyB 1 1 x y).sem tm h = appendTo tyB 1 1 v m.length (avBytes m) h := by simp only [XI.sem, appendS, withO_run hv, withO_run hy, hw]
  obtain ⟨q, hle, rfl, H⟩ := ho
  cases m with
  | nil =>
    refine oI (v := .slice q 0 l.length (.up 1)) (h' := h) (by rw [hsem]; rfl) (hq _ _ ⟨q, by simpa using hle, by simp, by simpa using H⟩)
  | cons b m =>
    have hg : h.get q = .row tyB (avBytes (l ++ List.replicate (n - l.length) 0)) true := H.mem (x := (q, _)) (by simp)
    have hd : ∃ r, dropE (0 + (l.length + (b :: m).length) * 1) (avBytes (l ++ List.replicate (n - l.length) 0)) = some r := ⟨_, dropE_of (by rw [avB_len]; simp only [List.length_append, List.length_replicate]; omega)⟩
    obtain ⟨r, hr⟩ := hd
    have hsp : List.replicate (n - l.length) 0 = List.replicate (b :: m).length 0 ++ List.replicate (n - (l ++ b :: m).length) 0 := by rw [List.replicate_append_replicate]; congr 1; simp only [List.length_append, List.length_cons] at *; omega
    have hsl : ∀ kk : List AV → Out AV, spliceK .bad (0 + l.length * 1) (avBytes (b :: m)) (avBytes (l ++ List.replicate (n - l.length) 0)) kk = kk (avBytes ((l ++ b :: m) ++ List.replicate (n - (l ++ b :: m).length) 0)) := fun kk => by
      rw [hsp, avB_app l, avB_app (List.replicate _ _), List.append_assoc, avB_app l, avB_app (b :: m)]
      have := spliceK_midB (no := Out.bad) (avBytes l) (avBytes (b :: m)) (avBytes (List.replicate (b :: m).length 0)) (avBytes (List.replicate (n - (l ++ b :: m).length) 0)) (by rw [avB_len, avB_len, List.length_replicate]) kk
      rw [avB_len] at this
      rw [show 0 + l.length * 1 = l.length by omega]
      exact this
    have H2 := H.set (k := 0) rfl (.row tyB (avBytes ((l ++ b :: m) ++ List.replicate (n - (l ++ b :: m).length) 0)) true)
    refine oI (v := .slice q 0 (l.length + (b :: m).length) (.up 1)) (h' := h.set q (.row tyB (avBytes ((l ++ b :: m) ++ List.replicate (n - (l ++ b :: m).length) 0)) true)) ?_ (hq _ _ ⟨q, by rw [List.length_append]; exact hn, by rw [List.length_append], H2⟩)
    rw [hsem]
    have hz : Nat.beq 1 1 = true := rfl
    simp only [List.length_cons] at hr ⊢
    simp only [appendTo, hz, hg, hr]
    unfold writeAt
    rw [hg]
    simp only [hsl]
    rfl
theorem CatB.has {n : Nat} (ho : CatB h L v n l) : Has h L := by obtain ⟨q, _, _, H⟩ := ho; exact H.tail
theorem CatB.sv {n : Nat} (ho : CatB h L v n l) : ∃ x, Has h (x :: L) ∧ SV (x :: L) v l := by
  obtain ⟨q, hle, rfl, H⟩ := ho
  exact ⟨_, H, q, 0, .up 1, tyB, _, true, rfl, List.mem_cons_self, by rw [avB_len]; simp, by rw [List.drop_zero, avB_take, List.take_left], rfl⟩
theorem growB_ok (C : Code E) {n : Nat} (hn : n + 1 ≤ 1000000) (H : Has h L) : CallT E (.func n_grow [] []) [.nilslice, .int .i64 (.ofNat (n + 1))] h fun r h' => CatB h' L r (n + 1) [] := by
  refine CallT.body C.grow ?_
  unfold BodyT c_grow
  refine cS (cR ?_)
  refine oI rfl (oZ (cS ?_))
  refine cS (cR ?_)
  refine oI rfl (oI (sem_is (b := false) rfl rfl) (oZ (cF rfl (cK (cS ?_)))))
  refine cS (cR ?_)
  refine oI rfl (oI rfl (oI rfl (oI rfl (oI rfl (oI (sem_int (m := 0) rfl rfl) ?_)))))
  refine oI (sem_int (m := .ofNat (n + 1)) rfl (by rw [Int.sub_zero]; exact w64 (by rw [ofNat_cast]; omega) (by rw [ofNat_cast]; omega))) ?_
  refine oI rfl (oZ ?_)
  refine cS (cR ?_)
  refine oI rfl ?_
  refine oI (sem_is (b := true) rfl (ltI_T (by rw [ofNat_cast]; omega))) ?_
  refine oZ (cC rfl (cR (oI rfl (oI rfl (oI rfl (oI rfl (oI rfl ?_)))))))
  refine wp_appendZ1 hn rfl rfl H fun q h H => ?_
  refine oI rfl (oI rfl (oI rfl (oI rfl (oZ ?_))))
  refine cS (cR ?_)
  refine oI rfl (oI rfl (oZ (cT ?_)))
  refine ⟨trivial, _, rfl, ?_⟩
  exact ⟨q, Nat.zero_le _, rfl, H⟩
theorem iaddrS_sem {k : IntKind} {p : Pos} {o n esz j : Nat} {c : Cap} (hx : x.val tm = some (.slice p o n c)) (hy : y.val tm = some (.int k (.ofNat j))) (hj : j < n) : (XI.iaddrS esz x y).sem tm h = .ok (.ptr p (o + j * esz)) h := by
  have h1 : Nat.blt j n = true := blt_of hj
  simp only [XI.sem, iaddrSS, withO_run hx, XO.withN, XO.withI, withO_run hy, h1]
theorem w64_add (x y : Nat) (h : x + y ≤ 1000000) : wrapF .i64 (Int.ofNat x + Int.ofNat y) = Int.ofNat (x + y) := w64 (by simp only [ofNat_cast]; omega) (by simp only [ofNat_cast]; omega)
theorem concat_ok (C : Code E) (h1 : l ≠ []) (hn : l.length + m.length ≤ 1000000) {q : Pos} {ty : TypeId} {sp : Bool} (H : Has h L) (hm : (q, AObj.row ty [v, w] sp) ∈ L) (ha : BV L v l) (hb : BV L w m) (hpa : ∀ h, partOf [v, w] (0 + 0 * 1) none h = .ok v h) (hpb : ∀ h, partOf [v, w] (0 + 1 * 1) none h = .ok w h) :
    CallT E (.func n_concat [] []) [.slice q 0 2 (.ex 2)] h fun r h' => ∃ x, Has h' (x :: L) ∧ SV (x :: L) r (l ++ m) := by
  have h0 : 0 < l.length := List.length_pos_iff.2 h1
  refine CallT.body C.concat ?_
  unfold BodyT c_concat
  refine cS (cR ?_)
  refine oI rfl (oZ ?_)
  refine cS (cR ?_)
  refine oI rfl (oZ (cS ?_))
  refine cS (cR ?_)
  refine oI rfl (oI rfl (oI rfl (oZ (cB (wpC_loop (LoopT.wp ?_))))))
  unfold c_concat_b0
  refine cS (cR ?_)
  refine oI (sem_is (b := true) rfl rfl) (oZ (cS (cC rfl (cK (cS (cB ?_))))))
  refine cS (cR ?_)
  refine oI (iaddrS_sem rfl rfl (by decide)) ?_
  refine oI (sem_load rfl (H.mem (x := (q, _)) (hm)) (fun _ => hpa _)) ?_
  refine oI rfl (oZ ?_)
  refine cS (cR ?_)
  refine oI rfl (oI rfl (oI (len_BV ha rfl) ?_))
  refine oI (sem_int (m := .ofNat l.length) rfl ((w64_add 0 l.length (by omega)).trans (congrArg Int.ofNat (Nat.zero_add _)))) ?_
  refine oI rfl (oZ ?_)
  refine cS (cR ?_)
  refine oI rfl ?_
  refine oI (sem_is (b := false) rfl (ltI_F (by simp only [ofNat_cast]; omega))) ?_
  refine oZ (cF rfl (cK (cR (oI (sem_int (m := .ofNat 1) rfl rfl) (oI rfl (oZ (LoopT.wp ?_)))))))
  refine cS (cR ?_)
  refine oI (sem_is (b := true) rfl rfl) (oZ (cS (cC rfl (cK (cS (cB ?_))))))
  refine cS (cR ?_)
  refine oI (iaddrS_sem rfl rfl (by decide)) ?_
  refine oI (sem_load rfl (H.mem (x := (q, _)) (hm)) (fun _ => hpb _)) ?_
  refine oI rfl (oZ ?_)
  refine cS (cR ?_)
  refine oI rfl (oI rfl (oI (len_BV hb rfl) ?_))
  refine oI (sem_int (m := .ofNat (l.length + m.length)) rfl (w64_add l.length m.length (by omega))) ?_
  refine oI rfl (oZ ?_)
  refine cS (cR ?_)
  refine oI rfl ?_
  refine oI (sem_is (b := false) rfl (ltI_F (by simp only [ofNat_cast]; omega))) ?_
  refine oZ (cF rfl (cK (cR (oI (sem_int (m := .ofNat 2) rfl rfl) (oI rfl (oZ (LoopT.wp ?_)))))))
  refine cS (cR ?_)
  refine oI (sem_is (b := false) rfl rfl) (oZ (cS (cF rfl (cX ?_))))
  refine cS (cR ?_)
  refine oI rfl ?_
  obtain ⟨n, hn1⟩ : ∃ n, l.length + m.length = n + 1 := ⟨l.length + m.length - 1, by omega⟩
  rw [hn1]
  refine wp_call rfl (growB_ok C (by omega) H) ?_
  rintro v9 h ho
  have H := ho.has
  refine oI rfl (oZ (cS ?_))
  refine cS (cR ?_)
  refine oI rfl (oI rfl (oI rfl (oZ (cB (wpC_loop (LoopT.wp ?_))))))
  unfold c_concat_b1
  refine cS (cR ?_)
  refine oI (sem_is (b := true) rfl rfl) (oZ (cS (cC rfl (cK (cS (cB ?_))))))
  refine cS (cR ?_)
  refine oI (iaddrS_sem rfl rfl (by decide)) ?_
  refine oI (sem_load rfl (H.mem (x := (q, _)) (hm)) (fun _ => hpa _)) ?_
  refine oI rfl (oZ (cR (oI rfl (oI rfl ?_))))
  refine wp_catB ho (srcOf_BV H ha) (by simp only [List.length_nil]; omega) rfl rfl fun v0 h ho => ?_
  have H := ho.has
  refine oI rfl (oZ (cR (oI (sem_int (m := .ofNat 1) rfl rfl) (oI rfl (oZ (LoopT.wp ?_))))))
  refine cS (cR ?_)
  refine oI (sem_is (b := true) rfl rfl) (oZ (cS (cC rfl (cK (cS (cB ?_))))))
  refine cS (cR ?_)
  refine oI (iaddrS_sem rfl rfl (by decide)) ?_
  refine oI (sem_load rfl (H.mem (x := (q, _)) (hm)) (fun _ => hpb _)) ?_
  refine oI rfl (oZ (cR (oI rfl (oI rfl ?_))))
  refine wp_catB ho (srcOf_BV H hb) (by simp only [List.length_append, List.length_nil]; omega) rfl rfl fun v1 h ho => ?_
  have H := ho.has
  refine oI rfl (oZ (cR (oI (sem_int (m := .ofNat 2) rfl rfl) (oI rfl (oZ (LoopT.wp ?_))))))
  refine cS (cR ?_)
  refine oI (sem_is (b := false) rfl rfl) (oZ (cS (cF rfl (cX ?_))))
  refine cS (cR ?_)
  refine oI rfl (oI rfl (oZ (cT ?_)))
  refine ⟨trivial, _, rfl, ?_⟩
  have ho : CatB _ L v1 (n + 1) (l ++ m) := ho
  exact ho.sv
end
end Go.X
