/- Checkpoints read and saved, by the program and by the specification. -/
import Derived.Test.YtmnbopcehmcaeaaGreatDoorFCf3
namespace Go.X
open Go
abbrev tyO : TypeId := 95
section
variable {E : XEnv} {d : Option Slot} {ops : List XOp} {Q : Tm → Heap → Prop} {tm : Tm} {x y : XO} {h : Heap} {L : List (Pos × AObj)} {v w : AV} {l m : List Nat}
theorem neStr_sem {a b : List Nat} (hx : x.val tm = some (.str a)) (hy : y.val tm = some (.str b)) : (XI.bin .ne x y).sem tm h = .ok (.bool (decide (a ≠ b))) h := by
  simp only [XI.sem, binS, withO_run hx, withO_run hy]
  show okB h (match beqN a b with | true => false | false => true) = _
  rw [beqN_eq]
  by_cases e : a = b <;> simp [e] <;> rfl
theorem remI_sem {a b : Nat} (hb : b ≠ 0) (hx : x.val tm = some (.int .i64 (.ofNat a))) (hy : y.val tm = some (.int .i64 (.ofNat b))) : (XI.bin .rem x y).sem tm h = .ok (.int .i64 (.ofNat (a % b))) h := by
  simp only [XI.sem, binS, withO_run hx, withO_run hy]
  show remI .i64 (.ofNat a) (.ofNat b) h = _
  have h1 : eqI (.ofNat b) 0 = false := by rw [eqI_eq]; simp; exact hb
  simp only [remI, h1]
  rfl
theorem BV.cellsO (hs : BV L v l) : v.cellsO = some [v] := by
  rcases hs with ⟨rfl, _⟩ | ⟨cs, fu, rfl, _⟩ | ⟨p, o, cap, ty, cs, sp, rfl, _⟩ <;> rfl
theorem BV.part {cs : List AV} {o : Nat} (hs : BV L v l) (hn : nth cs o = some v) : partOf cs o none h = .ok v h := by
  simp only [partOf, hn]
  rcases hs with ⟨rfl, _⟩ | ⟨cs, fu, rfl, _⟩ | ⟨p, o, cap, ty, cs, sp, rfl, _⟩ <;> rfl
/-! ### Unframe -/
theorem drop3 (l : List Nat) : (l.take l.length).drop 3 = l.drop 3 := by rw [List.take_length]
theorem cutG (l : List Nat) : ((l.drop 3).take 8).drop 0 = (l.drop 3).take 8 := List.drop_zero
theorem cutN (l : List Nat) : ((l.drop 3).take 16).drop 8 = (l.drop 11).take 8 := by rw [List.drop_take, List.drop_drop]
theorem cutL' (l : List Nat) : ((l.drop 3).take ((l.drop 3).length - 8)).drop 16 = unL l := by
  unfold unL
  rw [List.drop_take, List.drop_take, List.drop_drop, List.length_drop]
  congr 1
theorem cutG2 (l : List Nat) : (l.take 11).drop 3 = (l.drop 3).take 8 := List.drop_take ..
theorem cutN2 (l : List Nat) : (l.take 19).drop 11 = (l.drop 11).take 8 := List.drop_take ..
def UnO (fp : List Nat → Nat) (L : List (Pos × AObj)) (l : List Nat) : AV → Heap → Prop := fun r h' => ∃ v, r = .tuple [.int .i64 (unZ fp l), v, .int .i64 (unE fp l)] ∧ Own h' L fun M => BV M v (unQ fp l)
theorem unO_no {fp : List Nat → Nat} {L' : List (Pos × AObj)} (hno : ¬ isF fp l) (hL : ∀ x ∈ L, x ∈ L') (H : Has h L') : UnO fp L l (.tuple [.int .i64 0, .nilslice, .int .i64 372]) h :=
  ⟨.nilslice, by rw [unZ, unE, if_neg hno, if_neg hno], L', hL, H, by rw [unQ, if_neg hno]; exact .nil⟩
theorem unO_yes {fp : List Nat → Nat} {L' : List (Pos × AObj)} (hy : isF fp l) (hL : ∀ x ∈ L, x ∈ L') (H : Has h L') (hv : BV L' v (unL l)) : UnO fp L l (.tuple [.int .i64 (.ofNat (unG l)), v, .int .i64 0]) h :=
  ⟨v, by rw [unZ, unE, if_pos hy, if_pos hy], L', hL, H, by rw [unQ, if_pos hy]; exact hv⟩
theorem unL_byte (hb : ∀ b ∈ l, b < 256) : ∀ b ∈ unL l, b < 256 := fun b hm => hb b (List.mem_of_mem_take (List.mem_of_mem_drop hm))
theorem drop_byte {n : Nat} (hb : ∀ b ∈ l, b < 256) : ∀ b ∈ l.drop n, b < 256 := fun b hm => hb b (List.mem_of_mem_drop hm)
section
variable {P X : Nat} {tbl : List Nat} (F : Fin E P X tbl)
include F
theorem unframe_ok (C : Code E) (H : Has h L) (hs : BV L v l) (hb : ∀ b ∈ l, b < 256) (hl : l.length ≤ 500000) : CallT E (.func n_unframe [] []) [v] h (UnO (fpOf tbl) L l) := by
  have hrb := drop_byte (n := 3) hb
  have hrl : (l.drop 3).length = l.length - 3 := List.length_drop
  have hll := unL_len (l := l)
  have hlb := unL_byte hb
  refine CallT.body C.unframe ?_
  unfold BodyT c_unframe
  refine cS (cR ?_)
  refine oI rfl (oI rfl (oI rfl (oZ ?_)))
  refine cS (cR ?_)
  refine oI rfl ?_
  refine wp_bslice (fun k => rfl) H fun q1 h H => ?_
  refine wp_mark (k := 0) H rfl rfl fun h H => ?_
  have hf : BV ((q1, AObj.row tyB [.int .u8 70, .int .u8 71, .int .u8 67] false) :: L) (.slice q1 0 3 (.ex 3)) [70, 71, 67] := .inr (.inr ⟨_, _, _, _, _, _, rfl, List.mem_cons_self, by decide, rfl, Nat.le_refl 3⟩)
  refine wp_call rfl (cutPrefix_ok C H hs.cons hf hb (by decide)) ?_
  rintro _ h ⟨⟨hnp, rfl⟩ | ⟨hle3, _, rfl⟩, rfl⟩
  · have hno : ¬ isF (fpOf tbl) l := fun hF => hnp ⟨Nat.le_trans (by decide) hF.1, (isF_parts hF).1⟩
    refine oI rfl (oI rfl (oI rfl (oI rfl (oI rfl (oZ (cS ?_))))))
    refine cS (cR ?_)
    refine oI rfl (oI rfl (oI rfl (oF rfl (oF rfl (oF rfl (oI rfl (oZ (cC rfl ?_))))))))
    refine cS (cR ?_)
    refine oI rfl (oI rfl (oI rfl (oZ (cT ?_))))
    refine ⟨trivial, _, rfl, ?_⟩
    exact unO_no hno (by first | exact hsub | exact fun x m => List.mem_cons_of_mem _ m) H
  · have hle3 : 3 ≤ l.length := hle3
    have hr := (hs.cons (x := (q1, AObj.row tyB [.int .u8 70, .int .u8 71, .int .u8 67] false))).cut (b := 3) (e := l.length) hle3 (Nat.le_refl _)
    rw [drop3] at hr
    refine oI rfl (oI rfl (oI rfl (oI rfl (oI rfl (oZ (cS ?_))))))
    refine cS (cR ?_)
    refine oI rfl (oI rfl (oI rfl (oN rfl (oI rfl (oN rfl (oI (len_BV hr rfl) (oN rfl ?_)))))))
    refine wp_bool rfl (fun hb2 => ?_) (fun hb2 => ?_)
    · have h24 := ltI_lt hb2
      try simp only [ofNat_cast] at h24
      have hno : ¬ isF (fpOf tbl) l := fun hF => by have := hF.1; omega
      refine oI rfl (oZ (cC rfl ?_))
      refine cS (cR ?_)
      refine oI rfl (oI rfl (oI rfl (oZ (cT ?_))))
      refine ⟨trivial, _, rfl, ?_⟩
      exact unO_no hno (by first | exact hsub | exact fun x m => List.mem_cons_of_mem _ m) H
    · have h24 := ltI_ge hb2
      try simp only [ofNat_cast] at h24
      refine oI rfl (oZ (cF rfl (cK (cS (wpC_phase rfl (oI rfl ?_))))))
      refine oI (cutB_sem (b := 0) (e := 8) hr rfl (fun _ => rfl) (fun _ => rfl) (by omega) (by omega)) ?_
      refine oI rfl ?_
      refine oI (cutB_sem (b := 8) (e := 16) hr rfl (fun _ => rfl) (fun _ => rfl) (by omega) (by omega)) ?_
      refine oZ ⟨?_, ?_⟩
      · refine kI (rfl) rfl rfl ?_
        refine kI (cutB_sem (b := 0) (e := 8) hr rfl (fun _ => rfl) (fun _ => rfl) (by omega) (by omega)) rfl rfl ?_
        refine kI (rfl) rfl rfl ?_
        refine kI (cutB_sem (b := 8) (e := 16) hr rfl (fun _ => rfl) (fun _ => rfl) (by omega) (by omega)) rfl rfl ?_
        exact kZ
      · have hc1 := hr.cut (b := 0) (e := 8) (by omega) (by omega)
        rw [cutG] at hc1
        refine wp_call rfl (taken_ok C H hc1 (fun b hm => hb b (List.mem_of_mem_drop (List.mem_of_mem_take hm))) (by simp; omega)) ?_
        rintro _ _ ⟨rfl, rfl⟩
        have hn1 : beN ((l.drop 3).take 8) = unG l := rfl
        rw [hn1]
        refine oZ (wpC_phase rfl ?_)
        refine oZ ⟨?_, ?_⟩
        · refine kI (rfl) rfl rfl ?_
          refine kI (cutB_sem (b := 8) (e := 16) hr rfl (fun _ => rfl) (fun _ => rfl) (by omega) (by omega)) rfl rfl ?_
          exact kZ
        · have hc2 := hr.cut (b := 8) (e := 16) (by omega) (by omega)
          rw [cutN] at hc2
          refine wp_call rfl (taken_ok C H hc2 (fun b hm => hb b (List.mem_of_mem_drop (List.mem_of_mem_take hm))) (by simp; omega)) ?_
          rintro _ _ ⟨rfl, rfl⟩
          generalize hn2 : beN ((l.drop 11).take 8) = n2
          refine oZ (cL rfl (oI rfl (oI rfl ?_)))
          refine oZ ⟨?_, ?_⟩
          · refine kI (rfl) rfl rfl (kI (rfl) rfl rfl ?_)
            exact kZ
          · refine cS ?_
            refine cS (cR ?_)
            refine oI rfl ?_
            refine wp_bool rfl (fun hb3 => ?_) (fun hb3 => ?_)
            · have ha := ltI_lt hb3
              try simp only [ofNat_cast] at ha
              have hno : ¬ isF (fpOf tbl) l := fun hF => by have := hF.2.1.1; omega
              refine oI rfl (oF rfl (oF rfl (oI rfl (oI rfl (oF rfl (oF rfl (oI rfl (oI rfl (oF rfl (oF rfl (oF rfl ?_)))))))))))
              refine oF rfl (oF rfl (oF rfl (oI rfl (oZ (cC rfl ?_)))))
              refine cS (cR ?_)
              refine oI rfl (oI rfl (oI rfl (oZ (cT ?_))))
              refine ⟨trivial, _, rfl, ?_⟩
              exact unO_no hno (by first | exact hsub | exact fun x m => List.mem_cons_of_mem _ m) H
            · have ha := ltI_ge hb3
              try simp only [ofNat_cast] at ha
              refine oI rfl (oN rfl (oI rfl (oN rfl ?_)))
              refine wp_bool rfl (fun hb4 => ?_) (fun hb4 => ?_)
              · have hc := ltI_lt hb4
                try simp only [ofNat_cast] at hc
                have hno : ¬ isF (fpOf tbl) l := fun hF => by have := hF.2.1.2.1; omega
                refine oI rfl (oI rfl (oF rfl (oF rfl (oI rfl (oI rfl (oF rfl (oF rfl (oF rfl (oF rfl (oF rfl (oF rfl ?_)))))))))))
                refine oI rfl (oZ (cC rfl ?_))
                refine cS (cR ?_)
                refine oI rfl (oI rfl (oI rfl (oZ (cT ?_))))
                refine ⟨trivial, _, rfl, ?_⟩
                exact unO_no hno (by first | exact hsub | exact fun x m => List.mem_cons_of_mem _ m) H
              · have hc := ltI_ge hb4
                try simp only [ofNat_cast] at hc
                refine oI rfl (oI rfl (oN rfl (oI rfl (oN rfl ?_))))
                refine wp_bool rfl (fun hb5 => ?_) (fun hb5 => ?_)
                · have hd := ltI_lt hb5
                  try simp only [ofNat_cast] at hd
                  have hno : ¬ isF (fpOf tbl) l := fun hF => by have := (isF_parts hF).2.1; have := (isF_parts hF).2.2; omega
                  refine oI rfl (oI rfl (oF rfl (oF rfl (oF rfl (oF rfl (oF rfl (oF rfl (oI rfl (oZ (cC rfl ?_))))))))))
                  refine cS (cR ?_)
                  refine oI rfl (oI rfl (oI rfl (oZ (cT ?_))))
                  refine ⟨trivial, _, rfl, ?_⟩
                  exact unO_no hno (by first | exact hsub | exact fun x m => List.mem_cons_of_mem _ m) H
                · have hd := ltI_ge hb5
                  try simp only [ofNat_cast] at hd
                  refine oI rfl (oI rfl (oN rfl (oI rfl (oN rfl (oI rfl (oN rfl (oI (len_BV hr rfl) (oN rfl ?_))))))))
                  refine oI (sem_int (m := .ofNat ((l.drop 3).length - 24)) rfl (w64_sub (b := 24) (by omega) (by omega))) ?_
                  refine oN rfl ?_
                  refine oI (conv64_sem (a := (l.drop 3).length - 24) (by omega) rfl) ?_
                  refine oN rfl ?_
                  refine wp_bool rfl (fun hb6 => ?_) (fun hb6 => ?_)
                  · have he := neI_ne hb6
                    try simp only [ofNat_cast] at he
                    have hno : ¬ isF (fpOf tbl) l := fun hF => by have := (isF_parts hF).2.1; have := hF.1; omega
                    refine oI rfl (oZ (cC rfl ?_))
                    refine cS (cR ?_)
                    refine oI rfl (oI rfl (oI rfl (oZ (cT ?_))))
                    refine ⟨trivial, _, rfl, ?_⟩
                    exact unO_no hno (by first | exact hsub | exact fun x m => List.mem_cons_of_mem _ m) H
                  · have he := neI_is hb6
                    try simp only [ofNat_cast] at he
                    refine oI rfl (oZ (cF rfl (cK ?_)))
                    refine cS (cR ?_)
                    refine oI rfl (oI rfl (oI (len_BV hr rfl) ?_))
                    refine oI (sem_int (m := .ofNat ((l.drop 3).length - 8)) rfl (w64_sub (b := 8) (by omega) (by omega))) ?_
                    refine oI (cutB_sem (b := 16) (e := (l.drop 3).length - 8) hr rfl (fun _ => rfl) (fun _ => rfl) (by omega) (by omega)) ?_
                    have hp := hr.cut (b := 16) (e := (l.drop 3).length - 8) (by omega) (by omega)
                    rw [cutL'] at hp
                    refine wp_call rfl (bclone_ok C H hp (by omega)) ?_
                    rintro v1 h ⟨L1, hL1, H, hv1⟩
                    refine oI rfl (oZ (cS ?_))
                    refine cS (cR ?_)
                    refine oI rfl ?_
                    refine oI (convI_sem (a := unG l) (by omega) rfl) ?_
                    refine oI rfl ?_
                    have hok : okG (unG l) (unL l) := ⟨by omega, by omega, by omega⟩
                    refine wp_call rfl (frame_ok F C (z := .ofNat (unG l)) (by omega) hlb H hv1) ?_
                    rintro _ h ⟨v2, rfl, L2, hL2, H, hv2⟩
                    have hfl : frL (fpOf tbl) (.ofNat (unG l)) (unL l) = frame (fpOf tbl) (unG l) (unL l) := if_pos (okF_nat.2 hok)
                    rw [hfl] at hv2
                    refine oI rfl (oI rfl (oI rfl (oI rfl (oI rfl (oZ ?_)))))
                    refine cS (cR ?_)
                    refine oI rfl (oI rfl ?_)
                    have hsub : ∀ x ∈ L, x ∈ L2 := fun x m => hL2 x (hL1 x (List.mem_cons_of_mem _ m))
                    refine wp_call rfl (equal_ok C H (hs.mono hsub) hv2 hb (frame_byte hlb)) ?_
                    rintro _ _ ⟨rfl, rfl⟩
                    by_cases he : l = frame (fpOf tbl) (unG l) (unL l)
                    · rw [decide_eq_true he]
                      refine oI rfl (oZ (cF rfl (cK ?_)))
                      refine cS (cR ?_)
                      refine oI rfl ?_
                      refine oI (convI_sem (a := unG l) (by omega) rfl) ?_
                      refine oI rfl (oI rfl (oI rfl (oI rfl (oZ (cT ?_)))))
                      refine ⟨trivial, _, rfl, ?_⟩
                      exact unO_yes ⟨by omega, hok, he⟩ hsub H (hv1.mono hL2)
                    · rw [decide_eq_false he]
                      have hno : ¬ isF (fpOf tbl) l := fun hF => he hF.2.2
                      refine oI rfl (oZ (cC rfl ?_))
                      refine cS (cR ?_)
                      refine oI rfl (oI rfl (oI rfl (oZ (cT ?_))))
                      refine ⟨trivial, _, rfl, ?_⟩
                      exact unO_no hno (by first | exact hsub | exact fun x m => List.mem_cons_of_mem _ m) H
end
theorem numI_of {n : Nat} (h : n ≤ 2000000000) : numI n = .ofNat n := if_pos h
theorem okF_num {n : Nat} {p : List Nat} (h : okF (numI n) p) : okG n p ∧ numI n = .ofNat n := by
  unfold numI at *
  split at h
  · rename_i hn; rw [if_pos hn]; exact ⟨okF_nat.1 h, rfl⟩
  · have := h.1; omega
theorem frL_byte {fp : List Nat → Nat} {z : Int} (hb : ∀ b ∈ l, b < 256) : ∀ b ∈ frL fp z l, b < 256 := by
  unfold frL
  split
  · exact frame_byte hb
  · intro b m; exact absurd m List.not_mem_nil
theorem runframe_ok (C : Code E) (G : RPoly E) (H : Has h L) (hs : BV L v l) (hb : ∀ b ∈ l, b < 256) (hl : l.length ≤ 500000) : CallT E (.func n_runframe [] []) [v] h (UnO (fpOf tbl63) L l) := by
  have hll := unL_len (l := l)
  have hlb := unL_byte hb
  refine CallT.body C.runframe ?_
  unfold BodyT c_runframe
  refine cS (cR ?_)
  refine oI rfl (oI rfl (oI rfl (oZ (cS ?_))))
  refine cS (cR ?_)
  refine oI rfl (oI (len_BV hs rfl) ?_)
  refine wp_bool rfl (fun hb1 => ?_) (fun hb1 => ?_)
  · have h27 := ltI_lt hb1
    try simp only [ofNat_cast] at h27
    have hno : ¬ isF (fpOf tbl63) l := fun hF => by have := hF.1; omega
    refine oZ (cC rfl ?_)
    refine cS (cR ?_)
    refine oI rfl (oI rfl (oI rfl (oZ (cT ?_))))
    refine ⟨trivial, _, rfl, ?_⟩
    exact unO_no hno (by first | exact hL2 | exact fun x m => m) H
  · have h27 := ltI_ge hb1
    try simp only [ofNat_cast] at h27
    refine oZ (cF rfl (cK ?_))
    refine cS (cR ?_)
    refine oI rfl ?_
    refine oI (cutB_sem (b := 3) (e := 11) hs rfl (fun _ => rfl) (fun _ => rfl) (by omega) (by omega)) ?_
    have hc1 := hs.cut (b := 3) (e := 11) (by omega) (by omega)
    rw [cutG2] at hc1
    refine wp_call rfl (number_ok C H hc1 (fun b hm => hb b (List.mem_of_mem_drop (List.mem_of_mem_take hm))) (by simp; omega)) ?_
    rintro _ _ ⟨rfl, rfl⟩
    have hn1 : beN ((l.drop 3).take 8) = unG l := rfl
    rw [hn1]
    refine oI rfl (oZ (cS ?_))
    refine cS (cR ?_)
    refine oI rfl ?_
    refine oI (cutB_sem (b := 11) (e := 19) hs rfl (fun _ => rfl) (fun _ => rfl) (by omega) (by omega)) ?_
    have hc2 := hs.cut (b := 11) (e := 19) (by omega) (by omega)
    rw [cutN2] at hc2
    refine wp_call rfl (number_ok C H hc2 (fun b hm => hb b (List.mem_of_mem_drop (List.mem_of_mem_take hm))) (by simp; omega)) ?_
    rintro _ _ ⟨rfl, rfl⟩
    generalize hn2 : beN ((l.drop 11).take 8) = n2
    refine oI rfl (oI (len_BV hs rfl) ?_)
    refine oI (sem_int (m := .ofNat (l.length - 27)) rfl (w64_sub (b := 27) (by omega) (by omega))) ?_
    refine wp_bool rfl (fun hb2 => ?_) (fun hb2 => ?_)
    · have hd := neI_ne hb2
      try simp only [ofNat_cast] at hd
      have hno : ¬ isF (fpOf tbl63) l := fun hF => by have h1 := (isF_parts hF).2.1; have h2 := (isF_parts hF).2.2; rw [hn2] at h1; exact hd (by rw [numI_of (by omega), h1]; simp only [ofNat_cast])
      refine oZ (cC rfl ?_)
      refine cS (cR ?_)
      refine oI rfl (oI rfl (oI rfl (oZ (cT ?_))))
      refine ⟨trivial, _, rfl, ?_⟩
      exact unO_no hno (by first | exact hL2 | exact fun x m => m) H
    · have hd := neI_is hb2
      try simp only [ofNat_cast] at hd
      refine oZ (cF rfl (cK ?_))
      refine cS (cR ?_)
      refine oI rfl (oI rfl (oI (len_BV hs rfl) ?_))
      refine oI (sem_int (m := .ofNat (l.length - 8)) rfl (w64_sub (b := 8) (by omega) (by omega))) ?_
      refine oI (cutB_sem (b := 19) (e := l.length - 8) hs rfl (fun _ => rfl) (fun _ => rfl) (by omega) (by omega)) ?_
      refine oI rfl (oZ ?_)
      refine cS (cR ?_)
      refine oI rfl (oI rfl ?_)
      have hp : BV L (cutB v 19 (l.length - 8)) (unL l) := hs.cut (b := 19) (e := l.length - 8) (by omega) (by omega)
      refine wp_call rfl (rframe_ok C G (by omega) hlb H hp) ?_
      rintro _ h ⟨v2, rfl, L2, hL2, H, hv2⟩
      refine oI rfl (oI rfl (oI rfl (oI rfl (oI rfl (oZ (cS ?_))))))
      refine cS (cR ?_)
      refine oI rfl ?_
      refine wp_bool rfl (fun hb3 => ?_) (fun hb3 => ?_)
      · have he := neI_ne hb3
        try simp only [ofNat_cast] at he
        have hno : ¬ isF (fpOf tbl63) l := fun hF => he (if_pos (by rw [numI_of (Nat.le_trans hF.2.1.2.1 (by decide))]; exact okF_nat.2 hF.2.1))
        refine oI rfl (oF rfl (oF rfl (oF rfl (oF rfl (oF rfl (oI rfl (oZ (cC rfl ?_))))))))
        refine cS (cR ?_)
        refine oI rfl (oI rfl (oI rfl (oZ (cT ?_))))
        refine ⟨trivial, _, rfl, ?_⟩
        exact unO_no hno (by first | exact hL2 | exact fun x m => m) H
      · have he := neI_is hb3
        try simp only [ofNat_cast] at he
        refine oI rfl (oN rfl (oI rfl (oN rfl (oI (toStr_BV H hv2 (frL_byte hlb) rfl) (oN rfl (oI rfl (oN rfl (oI (toStr_BV H (hs.mono hL2) hb rfl) (oN rfl (oI (neStr_sem rfl rfl) ?_))))))))))
        have hok : okF (numI (unG l)) (unL l) := by rw [frE] at he; by_cases hk : okF (numI (unG l)) (unL l); exact hk; rw [if_neg hk] at he; omega
        obtain ⟨hok1, hz⟩ := okF_num hok
        have hfl : frL (fpOf tbl63) (numI (unG l)) (unL l) = frame (fpOf tbl63) (unG l) (unL l) := by rw [hz]; exact if_pos (okF_nat.2 hok1)
        rw [hfl] at hv2 ⊢
        by_cases hq : frame (fpOf tbl63) (unG l) (unL l) ≠ l
        · rw [decide_eq_true hq]
          have hno : ¬ isF (fpOf tbl63) l := fun hF => hq hF.2.2.symm
          refine oI rfl (oZ (cC rfl ?_))
          refine cS (cR ?_)
          refine oI rfl (oI rfl (oI rfl (oZ (cT ?_))))
          refine ⟨trivial, _, rfl, ?_⟩
          exact unO_no hno (by first | exact hL2 | exact fun x m => m) H
        · rw [decide_eq_false hq]
          have hq := (Decidable.not_not.1 hq).symm
          refine oI rfl (oZ (cF rfl (cK ?_)))
          refine cS (cR ?_)
          refine oI rfl (oI rfl (oI rfl (oI rfl (oI rfl (oZ (cT ?_))))))
          refine ⟨trivial, _, rfl, ?_⟩
          rw [hz]
          exact unO_yes ⟨by omega, hok1, hq⟩ hL2 H (hp.mono hL2)
theorem places_ok (C : Code E) (H : Has h L) : CallT E (.func n_places [] []) [] h fun r h' => r = .agg [.str c0, .str c1] ∧ Has h' L := by
  refine CallT.body C.places ?_
  unfold BodyT c_places
  refine cS (cR ?_)
  refine wp_alloc H fun q1 h H => ?_
  refine oZ ?_
  refine cS (cR ?_)
  refine oI rfl ?_
  refine wp_store (k := 0) rfl rfl rfl (by first | rfl | exact len_of (DT.len _) | exact len_of (DE.len _) | exact len_of (DV.len _)) H rfl (fun k => by first | exact spliceK_len (by first | exact DT.len _ | exact DE.len _ | exact DV.len _) k | rfl) fun h H => ?_
  refine oZ (cT ?_)
  refine ⟨trivial, [.agg [.str c0, .str c1]], ?_, rfl, H.tail⟩
  have hg : h.get q1 = .row _ [.str c0, .str c1] false := H.at 0 rfl
  have hl : loadAV (some 2) (.ptr q1 0) h = .ok (.agg [.str c0, .str c1]) h := by simp only [loadAV, hg]; rfl
  show (match loadAV (some 2) (.ptr q1 0) h, resV [] _ h with | .ok v _, some vs => some (v :: vs) | _, _ => none) = _
  rw [hl]
  rfl
theorem file_ok (C : Code E) {g : Nat} : CallT E (.func n_file [] []) [.int .i64 (.ofNat g)] h fun r h' => r = .str (nameOf g) ∧ h' = h := by
  refine CallT.body C.file ?_
  unfold BodyT c_file
  refine cS (cR ?_)
  refine oI rfl (oZ (cS ?_))
  refine cS (cR ?_)
  refine oI rfl ?_
  refine oI (remI_sem (a := g) (b := 2) (by decide) rfl rfl) ?_
  refine wp_bool rfl (fun hb1 => ?_) (fun hb1 => ?_)
  · have hz : g % 2 = 0 := Int.ofNat.inj (eqI_is hb1)
    refine oZ (cC rfl ?_)
    refine cS (cR ?_)
    refine oI rfl (oZ (cT ?_))
    refine ⟨trivial, _, rfl, ?_⟩
    exact ⟨by rw [nameOf, if_pos hz]; rfl, rfl⟩
  · have hz : ¬ g % 2 = 0 := fun e => eqI_ne hb1 (congrArg Int.ofNat e)
    refine oZ (cF rfl (cK ?_))
    refine cS (cR ?_)
    refine oI rfl (oZ (cT ?_))
    refine ⟨trivial, _, rfl, ?_⟩
    exact ⟨by rw [nameOf, if_neg hz]; rfl, rfl⟩
/-! ### Save -/
def OpsV (M : List (Pos × AObj)) (v : AV) (fp : List Nat → Nat) (z : Int) (l : List Nat) : Prop :=
  (¬ okF z l ∧ v = .nilslice) ∨ ∃ g p w, okG g l ∧ z = .ofNat g ∧ v = .slice p 0 2 (.ex 2) ∧ (p, AObj.row tyO [.int .i64 1, .str (nameOf g), .str [], w, .int .i64 5, .str [], .str [], .nilslice] false) ∈ M ∧ BV M w (frame fp g l)
theorem OpsV.mono {M M' : List (Pos × AObj)} {fp : List Nat → Nat} {z : Int} (ho : OpsV M v fp z l) (hm : ∀ x ∈ M, x ∈ M') : OpsV M' v fp z l := by
  rcases ho with ho | ⟨g, p, w, h1, h2, h3, h4, h5⟩
  · exact .inl ho
  · exact .inr ⟨g, p, w, h1, h2, h3, hm _ h4, h5.mono hm⟩
def SvO (fp : List Nat → Nat) (L : List (Pos × AObj)) (z : Int) (l : List Nat) : AV → Heap → Prop := fun r h' => ∃ v, r = .tuple [v, .int .i64 (frE z l)] ∧ Own h' L fun M => OpsV M v fp z l
theorem frE_ok {z : Int} : (frE z l = 0 ↔ okF z l) := by unfold frE; split <;> simp_all
theorem okF_pos {z : Int} (h : okF z l) : ∃ g : Nat, z = .ofNat g ∧ okG g l := ⟨z.toNat, by rw [ofNat_cast]; have := h.1; omega, okF_nat.1 (by rw [ofNat_cast, Int.toNat_of_nonneg (by have := h.1; omega)]; exact h)⟩
theorem fill4 {b c : AV} {s1 s2 : List Nat} {n : Int} {z4 : AV} (hb : b = .str s1) (hx : x.val tm = some b) (hy : y.val tm = some c) (hc : c.cellsO = some [c]) (k : List AV → Out AV) : fillK .bad [(0, 1, .c (.int .i64 n)), (1, 1, x), (3, 1, y)] tm [.int .i64 0, .str [], .str s2, z4] k = k [.int .i64 n, b, .str s2, c] := by
  subst hb
  simp only [fillK, withO_run hx, withO_run hy, hc]
  rfl
theorem wp_build4 {b c : AV} {s1 : List Nat} (hb : b = .str s1) (hx : x.val tm = some b) (hy : y.val tm = some c) (hc : c.cellsO = some [c]) (hq : wpOps E ops Q (putT d (.agg [.int .i64 1, b, .str [], c]) tm) h) :
    wpOps E (⟨d, none, .ins (.build [.int .i64 0, .str [], .str [], .nilslice] [(0, 1, .c (.int .i64 1)), (1, 1, x), (3, 1, y)])⟩ :: ops) Q tm h :=
  oI (v := .agg [.int .i64 1, b, .str [], c]) (h' := h) (by simp only [XI.sem, buildS]; exact fill4 hb hx hy hc _) hq
theorem idx2_sem {g : Nat} (hx : x.val tm = some (.agg [.str c0, .str c1])) (hy : y.val tm = some (.int .i64 (.ofNat (g % 2)))) : (XI.idxA 2 1 none x y).sem tm h = .ok (.str (nameOf g)) h := by
  simp only [XI.sem, idxAS, withO_run hx, XO.withN, XO.withI, withO_run hy]
  rcases nameOf_in g with ⟨e, e2⟩ | ⟨e, e2⟩ <;> rw [e, e2] <;> rfl
theorem save_ok {P X : Nat} {tbl : List Nat} (F : Fin E P X tbl) (C : Code E) {z : Int} (hl : l.length ≤ 9223372036854775807) (hb : ∀ b ∈ l, b < 256) (H : Has h L) (hs : BV L v l) : CallT E (.func n_save [] []) [.int .i64 z, v] h (SvO (fpOf tbl) L z l) := by
  refine CallT.body C.save ?_
  unfold BodyT c_save
  refine cS (cR ?_)
  refine oI rfl (oI rfl (oZ ?_))
  refine cS (cR ?_)
  refine oI rfl (oI rfl (wp_call rfl (frame_ok F C hl hb H hs) ?_))
  rintro _ h ⟨w, rfl, M, hM, H, hw⟩
  refine oI rfl (oI rfl (oI rfl (oI rfl (oI rfl (oZ (cS ?_))))))
  refine cS (cR ?_)
  refine oI rfl ?_
  refine wp_bool rfl (fun hb1 => ?_) (fun hb1 => ?_)
  · have hno : ¬ okF z l := fun hk => neI_ne hb1 (frE_ok.2 hk)
    refine oZ (cC rfl ?_)
    refine cS (cR ?_)
    refine oI rfl (oI rfl (oI rfl (oZ (cT ?_))))
    refine ⟨trivial, _, rfl, ?_⟩
    exact ⟨.nilslice, rfl, M, hM, H, .inl ⟨hno, rfl⟩⟩
  · have hk : okF z l := frE_ok.1 (neI_is hb1)
    rw [frL, if_pos hk] at hw
    obtain ⟨g, rfl, hg⟩ := okF_pos hk
    refine oZ (cF rfl (cK ?_))
    refine cS (cR ?_)
    refine wp_call rfl (places_ok C H) ?_
    rintro _ h ⟨rfl, H⟩
    refine oI rfl ?_
    refine oI (remI_sem (a := g) (b := 2) (by decide) rfl rfl) ?_
    refine oI (idx2_sem rfl rfl) (oI rfl (wp_build4 rfl rfl rfl hw.cellsO (oI rfl ?_)))
    refine wp_bslice (cs := [.int .i64 1, .str (nameOf g), .str [], w, .int .i64 5, .str [], .str [], .nilslice]) (fun k => rfl) H fun q2 h H => ?_
    refine oI rfl (oI rfl (oZ (cT ?_)))
    have he : frE (.ofNat g) l = 0 := frE_ok.2 hk
    refine ⟨trivial, _, rfl, ?_⟩
    refine ⟨_, by rw [he]; rfl, _, fun x m => List.mem_cons_of_mem _ (hM x m), H, .inr ⟨g, _, w, hg, rfl, rfl, List.mem_cons_self, ?_⟩⟩
    exact hw.cons
theorem rsave_ok (C : Code E) (G : RPoly E) {z : Int} (hl : l.length ≤ 9223372036854775807) (hb : ∀ b ∈ l, b < 256) (H : Has h L) (hs : BV L v l) : CallT E (.func n_rsave [] []) [.int .i64 z, v] h (SvO (fpOf tbl63) L z l) := by
  refine CallT.body C.rsave ?_
  unfold BodyT c_rsave
  refine cS (cR ?_)
  refine oI rfl (oI rfl (oZ ?_))
  refine cS (cR ?_)
  refine oI rfl (oI rfl (wp_call rfl (rframe_ok C G hl hb H hs) ?_))
  rintro _ h ⟨w, rfl, M, hM, H, hw⟩
  refine oI rfl (oI rfl (oI rfl (oI rfl (oI rfl (oZ (cS ?_))))))
  refine cS (cR ?_)
  refine oI rfl ?_
  refine wp_bool rfl (fun hb1 => ?_) (fun hb1 => ?_)
  · have hno : ¬ okF z l := fun hk => neI_ne hb1 (frE_ok.2 hk)
    refine oZ (cC rfl ?_)
    refine cS (cR ?_)
    refine oI rfl (oI rfl (oI rfl (oZ (cT ?_))))
    refine ⟨trivial, _, rfl, ?_⟩
    exact ⟨.nilslice, rfl, M, hM, H, .inl ⟨hno, rfl⟩⟩
  · have hk : okF z l := frE_ok.1 (neI_is hb1)
    rw [frL, if_pos hk] at hw
    obtain ⟨g, rfl, hg⟩ := okF_pos hk
    refine oZ (cF rfl (cK ?_))
    refine cS (cR ?_)
    refine oI rfl (wp_call rfl (file_ok C) ?_)
    rintro _ _ ⟨rfl, rfl⟩
    refine oI rfl (wp_build4 rfl rfl rfl hw.cellsO (oI rfl ?_))
    refine wp_bslice (cs := [.int .i64 1, .str (nameOf g), .str [], w, .int .i64 5, .str [], .str [], .nilslice]) (fun k => rfl) H fun q2 h H => ?_
    refine oI rfl (oI rfl (oZ (cT ?_)))
    have he : frE (.ofNat g) l = 0 := frE_ok.2 hk
    refine ⟨trivial, _, rfl, ?_⟩
    refine ⟨_, by rw [he]; rfl, _, fun x m => List.mem_cons_of_mem _ (hM x m), H, .inr ⟨g, _, w, hg, rfl, rfl, List.mem_cons_self, ?_⟩⟩
    exact hw.cons
theorem neStr_F {a : List Nat} (hx : x.val tm = some (.str a)) (hy : y.val tm = some (.str a)) : (XI.bin .ne x y).sem tm h = .ok (.bool false) h := by
  have := neStr_sem (h := h) hx hy
  rwa [decide_eq_false (by simp)] at this
theorem sameOps_ok (C : Code E) {fp : List Nat → Nat} {z : Int} (hb : ∀ b ∈ l, b < 256) (H : Has h L) (h1 : OpsV L v fp z l) (h2 : OpsV L w fp z l) : CallT E (.func n_sameOps [] []) [v, w] h fun r h' => r = .bool true ∧ h' = h := by
  refine CallT.body C.sameOps ?_
  unfold BodyT c_sameOps
  rcases h1 with ⟨hno, rfl⟩ | ⟨g, p1, w1, hok, rfl, rfl, hm1, hw1⟩
  · obtain ⟨_, rfl⟩ : ¬ okF z l ∧ w = .nilslice := by
      rcases h2 with h2 | ⟨g, _, _, hok, rfl, _⟩
      · exact h2
      · exact (hno (okF_nat.2 hok)).elim
    refine cS (cR ?_)
    refine oI rfl (oZ (cS ?_))
    refine cS (cR ?_)
    refine oI rfl (oI rfl (oI rfl (oI rfl (oI (sem_is (b := false) rfl rfl) (oZ (cF rfl (cK (cS ?_))))))))
    refine cS (cR ?_)
    refine oI rfl (oZ (cB (wpC_loop (LoopT.wp ?_))))
    unfold c_sameOps_b0
    refine cS ?_
    refine cS (cR ?_)
    refine oI rfl (oI rfl (oI rfl (oI (sem_is (b := false) rfl rfl) (oZ (cF rfl (cX ?_))))))
    refine cS (cR ?_)
    refine oI rfl (oZ (cT ?_))
    refine ⟨trivial, _, rfl, ?_⟩
    exact ⟨rfl, rfl⟩
  · obtain ⟨p2, w2, rfl, hm2, hw2⟩ : ∃ p2 w2, w = .slice p2 0 2 (.ex 2) ∧ (p2, AObj.row tyO [.int .i64 1, .str (nameOf g), .str [], w2, .int .i64 5, .str [], .str [], .nilslice] false) ∈ L ∧ BV L w2 (frame fp g l) := by
      rcases h2 with ⟨hno, _⟩ | ⟨g2, p2, w2, _, e, rfl, hm2, hw2⟩
      · exact (hno (okF_nat.2 hok)).elim
      · obtain rfl : g = g2 := Int.ofNat.inj e
        exact ⟨p2, w2, rfl, hm2, hw2⟩
    refine cS (cR ?_)
    refine oI rfl (oZ (cS ?_))
    refine cS (cR ?_)
    refine oI rfl (oI rfl (oI rfl (oI rfl (oI (sem_is (b := false) rfl rfl) (oZ (cF rfl (cK (cS ?_))))))))
    refine cS (cR ?_)
    refine oI rfl (oZ (cB (wpC_loop (LoopT.wp ?_))))
    unfold c_sameOps_b0
    refine cS ?_
    refine cS (cR ?_)
    refine oI rfl (oI rfl (oI rfl (oI (sem_is (b := true) rfl rfl) (oZ (cC rfl (cK (cS (cB (cS (cL rfl (oI rfl ?_)))))))))))
    refine oI rfl (oI rfl (oI rfl ?_))
    refine oI (sem_load rfl (H.mem (x := (p1, _)) hm1) (fun _ => rfl)) ?_
    refine oI rfl (oI rfl (oI rfl (oI rfl ?_)))
    refine oI (sem_load rfl (H.mem (x := (p2, _)) hm2) (fun _ => rfl)) ?_
    refine oI (sem_is (b := false) rfl rfl) (oI rfl (oN rfl (oI rfl (oN rfl (oI rfl (oN rfl (oI rfl (oN rfl (oI rfl (oN rfl ?_))))))))))
    refine oI (sem_load rfl (H.mem (x := (p1, _)) hm1) (fun _ => rfl)) ?_
    refine oN rfl (oI rfl (oN rfl (oI rfl (oN rfl (oI rfl (oN rfl (oI rfl (oN rfl ?_))))))))
    refine oI (sem_load rfl (H.mem (x := (p2, _)) hm2) (fun _ => rfl)) ?_
    refine oN rfl (oI (neStr_F rfl rfl) (oI rfl (oI rfl (oN rfl (oI rfl (oN rfl (oI rfl (oN rfl (oI rfl (oN rfl (oI rfl ?_)))))))))))
    refine oN rfl ?_
    refine oI (sem_load rfl (H.mem (x := (p1, _)) hm1) (fun _ => rfl)) ?_
    refine oN rfl (oI rfl (oN rfl (oI rfl (oN rfl (oI rfl (oN rfl (oI rfl (oN rfl ?_))))))))
    refine oI (sem_load rfl (H.mem (x := (p2, _)) hm2) (fun _ => rfl)) ?_
    refine oN rfl (oI (neStr_F rfl rfl) (oI rfl (oI rfl (oN rfl (oI rfl (oN rfl (oI rfl (oN rfl (oI rfl (oN rfl (oI rfl ?_)))))))))))
    refine oN rfl ?_
    refine oI (sem_load rfl (H.mem (x := (p1, _)) hm1) (fun _ => (by first | (exact hw1.part rfl) | rfl))) ?_
    refine oN rfl ?_
    refine oI (by first | exact toStr_BV H hw1 (frame_byte hb) rfl | exact toStr_BV (L := L) (l := []) H .nil (by simp) rfl) ?_
    refine oN rfl (oI rfl (oN rfl (oI rfl (oN rfl (oI rfl (oN rfl (oI rfl (oN rfl ?_))))))))
    refine oI (sem_load rfl (H.mem (x := (p2, _)) hm2) (fun _ => (by first | (exact hw2.part rfl) | rfl))) ?_
    refine oN rfl ?_
    refine oI (by first | exact toStr_BV H hw2 (frame_byte hb) rfl | exact toStr_BV (L := L) (l := []) H .nil (by simp) rfl) ?_
    refine oN rfl (oI (neStr_F rfl rfl) (oI rfl ?_))
    refine oZ ⟨?_, ?_⟩
    · refine kI (rfl) rfl rfl (kI (rfl) rfl rfl (kI (rfl) rfl rfl (kI (rfl) rfl rfl ?_)))
      refine kI (sem_load rfl (H.mem (x := (p1, _)) hm1) (fun _ => rfl)) rfl rfl ?_
      refine kI (rfl) rfl rfl (kI (rfl) rfl rfl (kI (rfl) rfl rfl (kI (rfl) rfl rfl ?_)))
      refine kI (sem_load rfl (H.mem (x := (p2, _)) hm2) (fun _ => rfl)) rfl rfl ?_
      refine kI (sem_is (b := false) rfl rfl) rfl rfl (kI (rfl) rfl rfl (kN rfl (kI (rfl) rfl rfl (kN rfl (kI (rfl) rfl rfl (kN rfl (kI (rfl) rfl rfl (kN rfl (kI (rfl) rfl rfl (kN rfl ?_))))))))))
      refine kI (sem_load rfl (H.mem (x := (p1, _)) hm1) (fun _ => rfl)) rfl rfl ?_
      refine kN rfl (kI (rfl) rfl rfl (kN rfl (kI (rfl) rfl rfl (kN rfl (kI (rfl) rfl rfl (kN rfl (kI (rfl) rfl rfl (kN rfl ?_))))))))
      refine kI (sem_load rfl (H.mem (x := (p2, _)) hm2) (fun _ => rfl)) rfl rfl ?_
      refine kN rfl (kI (neStr_F rfl rfl) rfl rfl (kI (rfl) rfl rfl (kI (rfl) rfl rfl (kN rfl (kI (rfl) rfl rfl (kN rfl (kI (rfl) rfl rfl (kN rfl (kI (rfl) rfl rfl (kN rfl (kI (rfl) rfl rfl ?_)))))))))))
      refine kN rfl ?_
      refine kI (sem_load rfl (H.mem (x := (p1, _)) hm1) (fun _ => rfl)) rfl rfl ?_
      refine kN rfl (kI (rfl) rfl rfl (kN rfl (kI (rfl) rfl rfl (kN rfl (kI (rfl) rfl rfl (kN rfl (kI (rfl) rfl rfl (kN rfl ?_))))))))
      refine kI (sem_load rfl (H.mem (x := (p2, _)) hm2) (fun _ => rfl)) rfl rfl ?_
      refine kN rfl (kI (neStr_F rfl rfl) rfl rfl (kI (rfl) rfl rfl (kI (rfl) rfl rfl (kN rfl (kI (rfl) rfl rfl (kN rfl (kI (rfl) rfl rfl (kN rfl (kI (rfl) rfl rfl (kN rfl (kI (rfl) rfl rfl ?_)))))))))))
      refine kN rfl ?_
      refine kI (sem_load rfl (H.mem (x := (p1, _)) hm1) (fun _ => (by first | (exact hw1.part rfl) | rfl))) rfl rfl ?_
      refine kN rfl ?_
      refine kI (by first | exact toStr_BV H hw1 (frame_byte hb) rfl | exact toStr_BV (L := L) (l := []) H .nil (by simp) rfl) rfl rfl ?_
      refine kN rfl (kI (rfl) rfl rfl (kN rfl (kI (rfl) rfl rfl (kN rfl (kI (rfl) rfl rfl (kN rfl (kI (rfl) rfl rfl (kN rfl ?_))))))))
      refine kI (sem_load rfl (H.mem (x := (p2, _)) hm2) (fun _ => (by first | (exact hw2.part rfl) | rfl))) rfl rfl ?_
      refine kN rfl ?_
      refine kI (by first | exact toStr_BV H hw2 (frame_byte hb) rfl | exact toStr_BV (L := L) (l := []) H .nil (by simp) rfl) rfl rfl ?_
      refine kN rfl (kI (neStr_F rfl rfl) rfl rfl (kI (rfl) rfl rfl ?_))
      exact kZ
    · refine cF rfl (cK (cR (oI rfl (oI rfl (oI rfl (oZ (LoopT.wp (cS ?_))))))))
      refine cS (cR ?_)
      refine oI rfl (oI rfl (oI rfl (oI (sem_is (b := true) rfl rfl) (oZ (cC rfl (cK (cS (cB (cS (cL rfl (oI rfl ?_)))))))))))
      refine oI rfl (oI rfl (oI rfl ?_))
      refine oI (sem_load rfl (H.mem (x := (p1, _)) hm1) (fun _ => rfl)) ?_
      refine oI rfl (oI rfl (oI rfl (oI rfl ?_)))
      refine oI (sem_load rfl (H.mem (x := (p2, _)) hm2) (fun _ => rfl)) ?_
      refine oI (sem_is (b := false) rfl rfl) (oI rfl (oN rfl (oI rfl (oN rfl (oI rfl (oN rfl (oI rfl (oN rfl (oI rfl (oN rfl ?_))))))))))
      refine oI (sem_load rfl (H.mem (x := (p1, _)) hm1) (fun _ => rfl)) ?_
      refine oN rfl (oI rfl (oN rfl (oI rfl (oN rfl (oI rfl (oN rfl (oI rfl (oN rfl ?_))))))))
      refine oI (sem_load rfl (H.mem (x := (p2, _)) hm2) (fun _ => rfl)) ?_
      refine oN rfl (oI (neStr_F rfl rfl) (oI rfl (oI rfl (oN rfl (oI rfl (oN rfl (oI rfl (oN rfl (oI rfl (oN rfl (oI rfl ?_)))))))))))
      refine oN rfl ?_
      refine oI (sem_load rfl (H.mem (x := (p1, _)) hm1) (fun _ => rfl)) ?_
      refine oN rfl (oI rfl (oN rfl (oI rfl (oN rfl (oI rfl (oN rfl (oI rfl (oN rfl ?_))))))))
      refine oI (sem_load rfl (H.mem (x := (p2, _)) hm2) (fun _ => rfl)) ?_
      refine oN rfl (oI (neStr_F rfl rfl) (oI rfl (oI rfl (oN rfl (oI rfl (oN rfl (oI rfl (oN rfl (oI rfl (oN rfl (oI rfl ?_)))))))))))
      refine oN rfl ?_
      refine oI (sem_load rfl (H.mem (x := (p1, _)) hm1) (fun _ => (by first | (exact hw1.part rfl) | rfl))) ?_
      refine oN rfl ?_
      refine oI (by first | exact toStr_BV H hw1 (frame_byte hb) rfl | exact toStr_BV (L := L) (l := []) H .nil (by simp) rfl) ?_
      refine oN rfl (oI rfl (oN rfl (oI rfl (oN rfl (oI rfl (oN rfl (oI rfl (oN rfl ?_))))))))
      refine oI (sem_load rfl (H.mem (x := (p2, _)) hm2) (fun _ => (by first | (exact hw2.part rfl) | rfl))) ?_
      refine oN rfl ?_
      refine oI (by first | exact toStr_BV H hw2 (frame_byte hb) rfl | exact toStr_BV (L := L) (l := []) H .nil (by simp) rfl) ?_
      refine oN rfl (oI (neStr_F rfl rfl) (oI rfl ?_))
      refine oZ ⟨?_, ?_⟩
      · refine kI (rfl) rfl rfl (kI (rfl) rfl rfl (kI (rfl) rfl rfl (kI (rfl) rfl rfl ?_)))
        refine kI (sem_load rfl (H.mem (x := (p1, _)) hm1) (fun _ => rfl)) rfl rfl ?_
        refine kI (rfl) rfl rfl (kI (rfl) rfl rfl (kI (rfl) rfl rfl (kI (rfl) rfl rfl ?_)))
        refine kI (sem_load rfl (H.mem (x := (p2, _)) hm2) (fun _ => rfl)) rfl rfl ?_
        refine kI (sem_is (b := false) rfl rfl) rfl rfl (kI (rfl) rfl rfl (kN rfl (kI (rfl) rfl rfl (kN rfl (kI (rfl) rfl rfl (kN rfl (kI (rfl) rfl rfl (kN rfl (kI (rfl) rfl rfl (kN rfl ?_))))))))))
        refine kI (sem_load rfl (H.mem (x := (p1, _)) hm1) (fun _ => rfl)) rfl rfl ?_
        refine kN rfl (kI (rfl) rfl rfl (kN rfl (kI (rfl) rfl rfl (kN rfl (kI (rfl) rfl rfl (kN rfl (kI (rfl) rfl rfl (kN rfl ?_))))))))
        refine kI (sem_load rfl (H.mem (x := (p2, _)) hm2) (fun _ => rfl)) rfl rfl ?_
        refine kN rfl (kI (neStr_F rfl rfl) rfl rfl (kI (rfl) rfl rfl (kI (rfl) rfl rfl (kN rfl (kI (rfl) rfl rfl (kN rfl (kI (rfl) rfl rfl (kN rfl (kI (rfl) rfl rfl (kN rfl (kI (rfl) rfl rfl ?_)))))))))))
        refine kN rfl ?_
        refine kI (sem_load rfl (H.mem (x := (p1, _)) hm1) (fun _ => rfl)) rfl rfl ?_
        refine kN rfl (kI (rfl) rfl rfl (kN rfl (kI (rfl) rfl rfl (kN rfl (kI (rfl) rfl rfl (kN rfl (kI (rfl) rfl rfl (kN rfl ?_))))))))
        refine kI (sem_load rfl (H.mem (x := (p2, _)) hm2) (fun _ => rfl)) rfl rfl ?_
        refine kN rfl (kI (neStr_F rfl rfl) rfl rfl (kI (rfl) rfl rfl (kI (rfl) rfl rfl (kN rfl (kI (rfl) rfl rfl (kN rfl (kI (rfl) rfl rfl (kN rfl (kI (rfl) rfl rfl (kN rfl (kI (rfl) rfl rfl ?_)))))))))))
        refine kN rfl ?_
        refine kI (sem_load rfl (H.mem (x := (p1, _)) hm1) (fun _ => (by first | (exact hw1.part rfl) | rfl))) rfl rfl ?_
        refine kN rfl ?_
        refine kI (by first | exact toStr_BV H hw1 (frame_byte hb) rfl | exact toStr_BV (L := L) (l := []) H .nil (by simp) rfl) rfl rfl ?_
        refine kN rfl (kI (rfl) rfl rfl (kN rfl (kI (rfl) rfl rfl (kN rfl (kI (rfl) rfl rfl (kN rfl (kI (rfl) rfl rfl (kN rfl ?_))))))))
        refine kI (sem_load rfl (H.mem (x := (p2, _)) hm2) (fun _ => (by first | (exact hw2.part rfl) | rfl))) rfl rfl ?_
        refine kN rfl ?_
        refine kI (by first | exact toStr_BV H hw2 (frame_byte hb) rfl | exact toStr_BV (L := L) (l := []) H .nil (by simp) rfl) rfl rfl ?_
        refine kN rfl (kI (neStr_F rfl rfl) rfl rfl (kI (rfl) rfl rfl ?_))
        exact kZ
      · refine cF rfl (cK (cR (oI rfl (oI rfl (oI rfl (oZ (LoopT.wp (cS ?_))))))))
        refine cS (cR ?_)
        refine oI rfl (oI rfl (oI rfl (oI (sem_is (b := false) rfl rfl) (oZ (cF rfl (cX ?_))))))
        refine cS (cR ?_)
        refine oI rfl (oZ (cT ?_))
        refine ⟨trivial, _, rfl, ?_⟩
        exact ⟨rfl, rfl⟩
end
end Go.X
