/- Names of files; disks; disks as maps. -/
import Derived.Test.YtmnbopcehmcaeaaGreatDoorFCf4
namespace Go.X
open Go
abbrev tyD : TypeId := 25
abbrev tyF : TypeId := 93
section
variable {E : XEnv} {d : Option Slot} {ops : List XOp} {Q : Tm → Heap → Prop} {tm : Tm} {x y : XO} {h : Heap} {L : List (Pos × AObj)} {v w : AV} {l m : List Nat} {fs : List FV} {nl fu : Bool}
theorem okC_lo {b : Nat} (h : b < 33) : okC b = false := by
  have : Nat.ble 33 b = false := by cases hb : Nat.ble 33 b with | false => rfl | true => have := Nat.le_of_ble_eq_true hb; omega
  simp [okC, this]
theorem okC_hi {b : Nat} (h : 126 < b) : okC b = false := by
  have : Nat.ble b 126 = false := by cases hb : Nat.ble b 126 with | false => rfl | true => have := Nat.le_of_ble_eq_true hb; omega
  simp [okC, this]
theorem okC_mid {b : Nat} (h1 : 33 ≤ b) (h2 : b ≤ 126) : okC b = true := by
  have h3 : Nat.ble 33 b = true := Nat.ble_eq_true_of_le h1
  have h4 : Nat.ble b 126 = true := Nat.ble_eq_true_of_le h2
  simp [okC, h3, h4]
theorem all_of (hi : ∀ i (hi : i < l.length), okC l[i] = true) : l.all okC = true := by
  rw [List.all_eq_true]
  intro c m
  obtain ⟨i, h1, rfl⟩ := List.getElem_of_mem m
  exact hi i h1
theorem all_no {j : Nat} (hj : j < l.length) (h : okC l[j] = false) : l.all okC = false := by
  rw [List.all_eq_false]
  exact ⟨l[j], List.getElem_mem hj, by simp [h]⟩
theorem len_str {s : List Nat} (hx : x.val tm = some (.str s)) : (XI.len true x).sem tm h = .ok (.int .i64 (.ofNat s.length)) h := by
  simp only [XI.sem, lenS, withO_run hx, lenN_eq, Nat.add_zero]; rfl
theorem idxS_sem {s : List Nat} {j : Nat} {k : IntKind} (hx : x.val tm = some (.str s)) (hy : y.val tm = some (.int k (.ofNat j))) (hj : j < s.length) : (XI.idxS x y).sem tm h = .ok (.int .u8 (.ofNat s[j])) h := by
  have h1 : nth s j = some s[j] := by rw [nth_eq, List.getElem?_eq_getElem hj]
  simp only [XI.sem, idxSS, withO_run hx, XO.withN, XO.withI, withO_run hy, h1]; rfl
theorem wp_toBytes {ty : TypeId} (hx : x.val tm = some (.str l)) (H : Has h L) (hq : ∀ q h', Has h' ((q, .row ty (avBytes l) true) :: L) → wpOps E ops Q (putT d (.slice q 0 l.length (.up 1)) tm) h') : wpOps E (⟨d, none, .ins (.toBytes ty x)⟩ :: ops) Q tm h := by
  refine oI (v := .slice h.next 0 l.length (.up 1)) (h' := h.push (.row ty (avBytes l) true)) ?_ (hq _ _ (H.push _))
  simp only [XI.sem, toBytesS, withO_run hx, lenN_eq, Nat.add_zero]; rfl
theorem sv_own {p : Pos} {ty : TypeId} {sp : Bool} {n : Nat} (hn : n = l.length) : SV ((p, AObj.row ty (avBytes l) sp) :: L) (.slice p 0 n (.up 1)) l := ⟨p, 0, .up 1, ty, _, sp, by rw [hn], List.mem_cons_self, by rw [avB_len]; omega, by rw [List.drop_zero, List.take_of_length_le (by rw [avB_len]; omega)], rfl⟩
theorem geStr_T {a b : List Nat} (hx : x.val tm = some (.str a)) (hy : y.val tm = some (.str b)) (hl : ltN a b = false) : (XI.bin .ge x y).sem tm h = .ok (.bool true) h := by
  simp only [XI.sem, binS, withO_run hx, withO_run hy]
  show okB h (match ltN a b with | true => false | false => true) = _
  rw [hl]; rfl
theorem geStr_F {a b : List Nat} (hx : x.val tm = some (.str a)) (hy : y.val tm = some (.str b)) (hl : ltN a b = true) : (XI.bin .ge x y).sem tm h = .ok (.bool false) h := by
  simp only [XI.sem, binS, withO_run hx, withO_run hy]
  show okB h (match ltN a b with | true => false | false => true) = _
  rw [hl]; rfl
theorem wp_geStr {a b : List Nat} (hx : x.val tm = some (.str a)) (hy : y.val tm = some (.str b)) (ht : ltN a b = false → wpOps E ops Q (putT d (.bool true) tm) h) (hf : ltN a b = true → wpOps E ops Q (putT d (.bool false) tm) h) : wpOps E (⟨d, none, .ins (.bin .ge x y)⟩ :: ops) Q tm h := by
  cases hl : ltN a b with
  | false => exact oI (geStr_T hx hy hl) (ht hl)
  | true => exact oI (geStr_F hx hy hl) (hf hl)
theorem wp_mkmap (H : Has h L) (hq : ∀ q h', Has h' ((q, .map [] 0) :: L) → wpOps E ops Q (putT d (.map q) tm) h') : wpOps E (⟨d, none, .ins .mkmap⟩ :: ops) Q tm h :=
  oI (v := .map h.next) (h' := h.push (.map [] 0)) rfl (hq _ _ (H.push _))
theorem wp_mapUpd {p : Pos} {k : Nat} {es : List (AV × AV × Nat)} {cl : Nat} {nm : List Nat} {z : XO} (hx : x.val tm = some (.map p)) (hy : y.val tm = some (.str nm)) (hz : z.val tm = some v) (H : Has h L) (hk : L[k]? = some (p, .map es cl)) (hn : findE (.str nm) es 0 = some none)
    (hq : ∀ h', Has h' (L.set k (p, .map (es ++ [(.str nm, v, cl)]) (cl + 1))) → wpOps E ops Q (putT d unit tm) h') : wpOps E (⟨d, none, .ins (.mapUpd true x y z)⟩ :: ops) Q tm h := by
  have hg := H.at k hk
  have hs : (XI.mapUpd true x y z).sem tm h = .ok unit (h.set p (.map (es ++ [(.str nm, v, cl)]) (cl + 1))) := by
    simp only [XI.sem, mapUpdS, withO_run hx, withO_run hy, withO_run hz, isKey, hg, hn, Heap.setK]
  generalize hn' : (AObj.map (es ++ [(.str nm, v, cl)]) (cl + 1)) = o at hs hq
  exact oI hs (hq _ (H.set hk o))
theorem kU {d : Slot} {l : List XOp} {g : Slot} {b : Bool} {c : XC} (hg : tm.get g = some unit) (hd : tm.get d = some unit) (hq : wpK l tm h) : wpK (⟨some d, some (g, b), c⟩ :: l) tm h :=
  ⟨fun k => by
    rw [chk_guard hg]
    have h1 : chkU (some d) tm k = k := by
      have : chkU (some d) tm k = getF tm d fun v => yes? (AV.beq unit v) k .bad := rfl
      rw [this, getF_eq, hd, optR_some]; rfl
    exact h1, hq⟩
theorem isName1_ok (C : Code E) {b : Nat} : CallT E (.func n_isName1 [] []) [.int .u8 (.ofNat b)] h fun r h' => r = .bool (!okC b) ∧ h' = h := by
  refine CallT.body C.isName1 ?_
  unfold BodyT c_isName1
  refine cS (cR ?_)
  refine oI rfl (oZ ?_)
  refine cS (cR ?_)
  refine oI rfl ?_
  refine wp_bool rfl (fun hb1 => ?_) (fun hb1 => ?_)
  · have ha := ltI_lt hb1
    try simp only [ofNat_cast] at ha
    refine oI rfl (oF rfl (oF rfl (oI rfl (oI rfl (oZ (cT ?_))))))
    refine ⟨trivial, _, rfl, ?_⟩
    exact ⟨by rw [okC_lo (by omega)]; rfl, rfl⟩
  · have ha := ltI_ge hb1
    try simp only [ofNat_cast] at ha
    refine oI rfl (oN rfl (oI rfl (oN rfl ?_)))
    refine wp_bool rfl (fun hb2 => ?_) (fun hb2 => ?_)
    · have hc := ltI_lt hb2
      try simp only [ofNat_cast] at hc
      refine oI rfl (oI rfl (oZ (cT ?_)))
      refine ⟨trivial, _, rfl, ?_⟩
      exact ⟨by rw [okC_hi (by omega)]; rfl, rfl⟩
    · have hc := ltI_ge hb2
      try simp only [ofNat_cast] at hc
      refine oI rfl (oI rfl (oZ (cT ?_)))
      refine ⟨trivial, _, rfl, ?_⟩
      exact ⟨by rw [okC_mid (by omega) (by omega)]; rfl, rfl⟩
theorem indexF_loop (C : Code E) (H : Has h L) (hs : BV L v l) (hlen : l.length ≤ maxN) {Q : XExit → Tm → Heap → Prop} (hend : ∀ tm, l.all okC = true → Q (.exit 0) tm h) (hret : ∀ tm j, l.all okC = false → tm.get (.lo .d0 .d4) = some (.int .i64 (.ofNat j)) → Q .ret tm h) :
    ∀ (k j : Nat), l.length - j = k → (∀ i (hi : i < l.length), i < j → okC l[i] = true) → ∀ (tm : Tm), tm.get (.lo .d0 .d0) = some v → tm.get (.lo .d0 .d1) = some (.func n_isName1 [] []) → tm.get (.lo .d0 .d7) = some (.int .i64 (.ofNat l.length)) → tm.get (.lo .d0 .d8) = some (.int .i64 (.ofNat j)) → LoopT E c_indexF_b0 Q tm h := by
  have hlen : l.length ≤ 9223372036854775807 := hlen
  intro k
  induction k using Nat.strongRecOn with
  | ind k ih =>
    intro j hk hall tm e0 e1 e7 e8
    obtain ⟨tm, rfl⟩ := sets4 e0 e1 e7 e8
    refine LoopT.wp ?_
    unfold c_indexF_b0
    refine cS (cR ?_)
    refine wp_bool rfl (fun hb1 => ?_) (fun hb1 => ?_)
    · have hj := of_ltN hb1
      refine oZ (cS (cC rfl (cK (cS (cB ?_)))))
      refine cS (cR ?_)
      refine oI rfl (oI rfl (oZ ?_))
      refine cS (cR ?_)
      refine oI rfl (oI rfl (oI rfl ?_))
      refine wp_byte H hs hj rfl rfl fun pv2 => ?_
      refine wp_callv rfl rfl (isName1_ok C) ?_
      rintro _ _ ⟨rfl, rfl⟩
      cases hc : okC l[j]
      · have := hall
        refine oZ (cC rfl ?_)
        refine cS (cR ?_)
        refine oI rfl (oI rfl (oZ (cT ?_)))
        exact hret _ j (all_no hj hc) rfl
      · have hall2 : ∀ i (hi : i < l.length), i < j + 1 → okC l[i] = true := fun i hi hij => by
          rcases Nat.lt_or_ge i j with h1 | h1
          · exact hall i hi h1
          · obtain rfl : i = j := by omega
            exact hc
        refine oZ (cF rfl (cK (cR ?_)))
        refine oI (sem_int rfl (w64_succ (by omega))) ?_
        refine oI rfl (oZ ?_)
        exact ih (l.length - (j + 1)) (by omega) (j + 1) rfl hall2 _ rfl rfl rfl rfl
    · have hj := of_geN hb1
      refine oZ (cS (cF rfl (cX ?_)))
      exact hend _ (all_of fun i hi => hall i hi (by omega))
theorem indexF_ok (C : Code E) (H : Has h L) (hs : BV L v l) (hlen : l.length ≤ maxN) : CallT E (.func n_indexF [] []) [v, .func n_isName1 [] []] h fun r h' => ((l.all okC = true ∧ r = .int .i64 (-1)) ∨ (l.all okC = false ∧ ∃ j : Nat, r = .int .i64 (.ofNat j))) ∧ h' = h := by
  refine CallT.body C.indexF ?_
  unfold BodyT c_indexF
  refine cS (cR ?_)
  refine oI rfl (oZ (cS ?_))
  refine cS (cR ?_)
  refine oI rfl (oI (len_BV hs rfl) (oI rfl (oZ (cB ?_))))
  refine wpC_loop (indexF_loop C H hs hlen (fun tm ha => ?_) (fun tm j ha e4 => ?_) (l.length - 0) 0 rfl (fun i hi h0 => absurd h0 (Nat.not_lt_zero _)) _ rfl rfl rfl rfl)
  · refine cS (cR ?_)
    refine oI rfl (oZ (cT ?_))
    refine ⟨trivial, _, rfl, ?_⟩
    exact ⟨.inl ⟨ha, rfl⟩, rfl⟩
  · obtain ⟨tm, rfl⟩ := sets1 e4
    refine ⟨trivial, _, rfl, ?_⟩
    exact ⟨.inr ⟨ha, _, rfl⟩, rfl⟩
theorem containsF_ok (C : Code E) (H : Has h L) (hs : BV L v l) (hlen : l.length ≤ maxN) : CallT E (.func n_containsF [] []) [v, .func n_isName1 [] []] h fun r h' => r = .bool (!l.all okC) ∧ h' = h := by
  refine CallT.body C.containsF ?_
  unfold BodyT c_containsF
  refine cS (cR ?_)
  refine oI rfl (oZ ?_)
  refine cS (cR ?_)
  refine oI rfl (oI rfl (wp_call rfl (indexF_ok C H hs hlen) ?_))
  rintro _ _ ⟨⟨ha, rfl⟩ | ⟨ha, j, rfl⟩, rfl⟩
  · have := ha
    refine oI (sem_is (b := false) rfl rfl) (oI rfl (oZ (cT ?_)))
    refine ⟨trivial, _, rfl, ?_⟩
    exact ⟨by rw [ha]; rfl, rfl⟩
  · have := ha
    refine oI (sem_is (b := true) rfl (leI_T (by rw [ofNat_cast]; omega))) ?_
    refine oI rfl (oZ (cT ?_))
    refine ⟨trivial, _, rfl, ?_⟩
    exact ⟨by rw [ha]; rfl, rfl⟩
theorem isNm_bool (b : Bool) {s : List Nat} (h : b = true ↔ isNm s) : AV.bool b = .bool (decide (isNm s)) := by
  congr 1
  by_cases hn : isNm s
  · rw [h.2 hn]; simp [hn]
  · have : b = false := by cases b with | false => rfl | true => exact (hn (h.1 rfl)).elim
    rw [this]; simp [hn]
theorem isName_ok (C : Code E) (H : Has h L) (hlen : l.length ≤ maxN) : CallT E (.func n_isName [] []) [.str l] h fun r h' => r = .bool (decide (isNm l)) ∧ Has h' L := by
  have hlen' : l.length ≤ 9223372036854775807 := hlen
  refine CallT.body C.isName ?_
  unfold BodyT c_isName
  refine cS (cR ?_)
  refine oI rfl (oZ ?_)
  refine cS (cR ?_)
  refine oI rfl (oI (len_str rfl) ?_)
  refine wp_bool rfl (fun hb1 => ?_) (fun hb1 => ?_)
  · have ha0 := ltI_lt hb1
    try simp only [ofNat_cast] at ha0
    refine oI rfl (oN rfl (oI rfl (oN rfl (oI (len_str rfl) (oN rfl ?_)))))
    refine wp_bool rfl (fun hb2 => ?_) (fun hb2 => ?_)
    · have hc0 := leI_le hb2
      try simp only [ofNat_cast] at hc0
      refine oI rfl (oI rfl (oN rfl (oI rfl (oN rfl ?_))))
      refine wp_toBytes rfl H fun q h H => ?_
      refine oN rfl (wp_call rfl (containsF_ok C H (sv_own rfl).bv hlen) ?_)
      rintro _ _ ⟨rfl, rfl⟩
      cases ha : l.all okC
      · have := hlen
        refine oN rfl (oI rfl (oI rfl (oI rfl (oZ (cT ?_)))))
        refine ⟨trivial, _, rfl, ?_⟩
        exact ⟨isNm_bool false (iff_of_false (by simp) fun hn => by rw [hn.2.2] at ha; simp at ha), H.tail⟩
      · have := hlen
        refine oN rfl (oI rfl (oI rfl (oI rfl (oZ (cT ?_)))))
        refine ⟨trivial, _, rfl, ?_⟩
        exact ⟨isNm_bool true (iff_of_true rfl ⟨by omega, by omega, ha⟩), H.tail⟩
    · have hc0 := leI_gt hb2
      try simp only [ofNat_cast] at hc0
      refine oI rfl (oI rfl (oF rfl (oF rfl (oF rfl (oF rfl (oI rfl (oI rfl (oZ (cT ?_)))))))))
      refine ⟨trivial, _, rfl, ?_⟩
      exact ⟨isNm_bool false (iff_of_false (by simp) fun hn => by have h1 := hn.1; have h2 := hn.2.1; omega), H⟩
  · have ha0 := ltI_ge hb1
    try simp only [ofNat_cast] at ha0
    refine oI rfl (oF rfl (oF rfl (oF rfl (oI rfl (oI rfl (oF rfl (oF rfl (oF rfl (oF rfl (oI rfl (oI rfl ?_)))))))))))
    refine oZ (cT ?_)
    refine ⟨trivial, _, rfl, ?_⟩
    exact ⟨isNm_bool false (iff_of_false (by simp) fun hn => by have h1 := hn.1; have h2 := hn.2.1; omega), H⟩
theorem risName_loop (hlen : l.length ≤ maxN) {Q : XExit → Tm → Heap → Prop} (hend : ∀ tm, l.all okC = true → tm.get (.lo .d0 .d0) = some (.str l) → Q (.exit 0) tm h) (hret : ∀ tm, l.all okC = false → tm.get (.lo .d0 .d2) = some (.bool false) → Q .ret tm h) :
    ∀ (k j : Nat), l.length - j = k → (∀ i (hi : i < l.length), i < j → okC l[i] = true) → ∀ (tm : Tm), tm.get (.lo .d0 .d0) = some (.str l) → tm.get (.lo .d0 .d3) = some (.int .i64 (.ofNat j)) → LoopT E c_risName_b0 Q tm h := by
  have hlen : l.length ≤ 9223372036854775807 := hlen
  intro k
  induction k using Nat.strongRecOn with
  | ind k ih =>
    intro j hk hall tm e0 e3
    obtain ⟨tm, rfl⟩ := sets2 e0 e3
    refine LoopT.wp ?_
    unfold c_risName_b0
    refine cS ?_
    refine cS (cR ?_)
    refine oI rfl (oI rfl (oI (len_str rfl) ?_))
    refine wp_bool rfl (fun hb1 => ?_) (fun hb1 => ?_)
    · have hj := of_ltN hb1
      refine oZ (cC rfl (cK (cS (cB ?_))))
      refine cS (cR ?_)
      refine oI rfl (oI rfl (oI (idxS_sem rfl rfl hj) ?_))
      refine wp_bool rfl (fun hb2 => ?_) (fun hb2 => ?_)
      · have ha := ltI_lt hb2
        try simp only [ofNat_cast] at ha
        refine oI rfl (oF rfl (oF rfl (oF rfl (oF rfl (oI rfl (oZ (cC rfl ?_)))))))
        refine cS (cR ?_)
        refine oI rfl (oZ (cT ?_))
        exact hret _ (all_no hj (okC_lo (by omega))) rfl
      · have ha := ltI_ge hb2
        try simp only [ofNat_cast] at ha
        refine oI rfl (oN rfl (oI rfl (oN rfl (oI rfl (oN rfl (oI (idxS_sem rfl rfl hj) (oN rfl ?_)))))))
        refine wp_bool rfl (fun hb3 => ?_) (fun hb3 => ?_)
        · have hc := ltI_lt hb3
          try simp only [ofNat_cast] at hc
          refine oI rfl (oZ (cC rfl ?_))
          refine cS (cR ?_)
          refine oI rfl (oZ (cT ?_))
          exact hret _ (all_no hj (okC_hi (by omega))) rfl
        · have hc := ltI_ge hb3
          try simp only [ofNat_cast] at hc
          refine oI rfl (oZ (cF rfl (cK (cR (oI rfl ?_)))))
          refine oI (sem_int rfl (w64_succ (by omega))) ?_
          refine oI rfl (oZ ?_)
          have hc2 : okC l[j] = true := okC_mid (by omega) (by omega)
          have hall2 : ∀ i (hi : i < l.length), i < j + 1 → okC l[i] = true := fun i hi hij => by
            rcases Nat.lt_or_ge i j with h1 | h1
            · exact hall i hi h1
            · obtain rfl : i = j := by omega
              exact hc2
          exact ih (l.length - (j + 1)) (by omega) (j + 1) rfl hall2 _ rfl rfl
    · have hj := of_geN hb1
      refine oZ (cF rfl (cX ?_))
      exact hend _ (all_of fun i hi => hall i hi (by omega)) rfl
theorem risName_ok (C : Code E) (H : Has h L) (hlen : l.length ≤ maxN) : CallT E (.func n_risName [] []) [.str l] h fun r h' => r = .bool (decide (isNm l)) ∧ Has h' L := by
  refine CallT.body C.risName ?_
  unfold BodyT c_risName
  refine cS (cR ?_)
  refine oI rfl (oZ (cS ?_))
  refine cS (cR ?_)
  refine oI rfl (oZ (cB ?_))
  refine wpC_loop (risName_loop hlen (fun tm ha e0 => ?_) (fun tm ha e2 => ?_) (l.length - 0) 0 rfl (fun i hi h0 => absurd h0 (Nat.not_lt_zero _)) _ rfl rfl)
  · obtain ⟨tm, rfl⟩ := sets1 e0
    refine cS (cR ?_)
    refine oI rfl (oI (len_str rfl) ?_)
    refine wp_bool rfl (fun hb1 => ?_) (fun hb1 => ?_)
    · have ha0 := leI_le hb1
      try simp only [ofNat_cast] at ha0
      refine oI rfl (oN rfl (oI rfl (oN rfl (oI (len_str rfl) (oN rfl ?_)))))
      refine wp_bool rfl (fun hb2 => ?_) (fun hb2 => ?_)
      · have hc0 := leI_le hb2
        try simp only [ofNat_cast] at hc0
        refine oI rfl (oI rfl (oZ (cT ?_)))
        refine ⟨trivial, _, rfl, ?_⟩
        exact ⟨isNm_bool true (iff_of_true rfl ⟨by omega, by omega, ha⟩), H⟩
      · have hc0 := leI_gt hb2
        try simp only [ofNat_cast] at hc0
        refine oI rfl (oI rfl (oZ (cT ?_)))
        refine ⟨trivial, _, rfl, ?_⟩
        exact ⟨isNm_bool false (iff_of_false (by simp) fun hn => by have h1 := hn.1; have h2 := hn.2.1; omega), H⟩
    · have ha0 := leI_gt hb1
      try simp only [ofNat_cast] at ha0
      refine oI rfl (oF rfl (oF rfl (oF rfl (oI rfl (oI rfl (oZ (cT ?_)))))))
      refine ⟨trivial, _, rfl, ?_⟩
      exact ⟨isNm_bool false (iff_of_false (by simp) fun hn => by have h1 := hn.1; have h2 := hn.2.1; omega), H⟩
  · obtain ⟨tm, rfl⟩ := sets1 e2
    refine ⟨trivial, _, rfl, ?_⟩
    exact ⟨isNm_bool false (iff_of_false (by simp) fun hn => by rw [hn.2.2] at ha; simp at ha), H⟩
/-! ### disks -/
def dAV (nl fu : Bool) (fs : List FV) : AV := slAV nl fu fs.length (fs.flatMap FV.cells)
theorem okAt_no {j : Nat} (hj : j < fs.length) (h : ¬ okAt fs j) : ¬ okD fs := fun hd => h (hd.2 j hj)
theorem okAt_0 {j : Nat} (hj : j < fs.length) (h : ¬ isNm fs[j].name) : ¬ okAt fs j := fun ha => h (ha hj).1
theorem okAt_1 {j : Nat} (hj : j < fs.length) (h : 400000 < fs[j].b.length) : ¬ okAt fs j := fun ha => by have := (ha hj).2.1; omega
theorem okAt_2 {j : Nat} (hj : j < fs.length) (h0 : 0 < j) (h : ltN fs[j - 1].name fs[j].name = false) : ¬ okAt fs j := fun ha => by
  rcases (ha hj).2.2 with h1 | h1
  · omega
  · rw [h] at h1; simp at h1
theorem okAt_step {j : Nat} (h : ∀ i, i < j → okAt fs i) (h1 : okAt fs j) : ∀ i, i < j + 1 → okAt fs i := fun i hi => by
  rcases Nat.lt_or_ge i j with h2 | h2
  · exact h i h2
  · obtain rfl : i = j := by omega
    exact h1
def DkR (L : List (Pos × AObj)) (fs : List FV) : AV → Heap → Prop := fun r h' => ∃ b, r = .bool b ∧ (b = true ↔ okD fs) ∧ Has h' L
theorem valid_loop (C : Code E) {q : Pos} (hlen : fs.length ≤ 100) (hok : ∀ f ∈ fs, f.ok) {Q : XExit → Tm → Heap → Prop} (hend : ∀ tm h, (∀ i, i < fs.length → okAt fs i) → Has h L → Q (.exit 0) tm h) (hret : ∀ tm h, ¬ okD fs → Has h L → tm.get (.lo .d0 .d2) = some (.bool false) → Q .ret tm h) :
    ∀ (k j : Nat), fs.length - j = k → (∀ i, i < j → okAt fs i) → ∀ (tm : Tm) (h : Heap), Has h ((q, .row tyD [dAV nl fu fs] false) :: L) → tm.get (.lo .d0 .d1) = some (.ptr q 0) → tm.get (.lo .d0 .d10) = some (dAV nl fu fs) → tm.get (.lo .d0 .d11) = some (.int .i64 (.ofNat fs.length)) → tm.get (.lo .d0 .d12) = some (.int .i64 (.ofNat j)) → LoopT E c_valid_b0 Q tm h := by
  intro k
  induction k using Nat.strongRecOn with
  | ind k ih =>
    intro j hk hall tm h H e1 e10 e11 e12
    obtain ⟨tm, rfl⟩ := sets4 e1 e10 e11 e12
    refine LoopT.wp ?_
    unfold c_valid_b0
    refine cS (cR ?_)
    refine wp_bool rfl (fun hb1 => ?_) (fun hb1 => ?_)
    · have hj := of_ltN hb1
      have hfo := hok _ (List.getElem_mem hj)
      have hnl := hfo.2.2.1
      have hbl : fs[j].b.length ≤ 9223372036854775807 := hfo.2.2.2
      refine oZ (cS (cC rfl (cK (cS (cB ?_)))))
      refine cS (cR ?_)
      refine oI rfl ?_
      refine oI (sem_iaddrF (f := FV.cells) (fun _ => rfl) (by decide) rfl rfl rfl hj) ?_
      refine oI (sem_loadI rfl rfl) ?_
      refine wp_alloc H fun q2 h H => ?_
      refine oI rfl ?_
      refine wp_store (k := 0) rfl rfl rfl (by first | rfl | exact len_of (DT.len _) | exact len_of (DE.len _) | exact len_of (DV.len _)) H rfl (fun k => by first | exact spliceK_len (by first | exact DT.len _ | exact DE.len _ | exact DV.len _) k | rfl) fun h H => ?_
      refine oZ (cS (wpC_phase rfl (oI rfl ?_)))
      refine oI (sem_load rfl (H.at 0 rfl) (fun _ => by first | rfl | exact partOf_sl rfl)) ?_
      refine oZ ⟨?_, ?_⟩
      · refine kI (rfl) rfl rfl ?_
        refine kI (sem_load rfl (H.at 0 rfl) (fun _ => by first | rfl | exact partOf_sl rfl)) rfl rfl ?_
        exact kZ
      · refine wp_call rfl (isName_ok C H hnl) ?_
        rintro _ h ⟨rfl, H⟩
        by_cases hnm : isNm fs[j].name
        · rw [decide_eq_true hnm]
          refine oZ (cL rfl (oI rfl (oI rfl (oN rfl (oI rfl (oN rfl ?_))))))
          refine oI (sem_load rfl (H.at 0 rfl) (fun _ => by first | rfl | exact partOf_sl rfl)) ?_
          refine oN rfl (oI (sem_len rfl) (oN rfl ?_))
          refine wp_bool rfl (fun hb3 => ?_) (fun hb3 => ?_)
          · have hbig := ltI_lt hb3
            try simp only [ofNat_cast] at hbig
            refine oI rfl (oI rfl (oF rfl (oF rfl (oF rfl (oU rfl (oU rfl (oU rfl (oU rfl (oU rfl (oU rfl (oU rfl ?_)))))))))))
            refine oU rfl (oU rfl (oU rfl (oF rfl (oI rfl ?_))))
            refine oZ ⟨?_, ?_⟩
            · refine kI (rfl) rfl rfl (kI (rfl) rfl rfl (kN rfl (kI (rfl) rfl rfl (kN rfl ?_))))
              refine kI (sem_load rfl (H.at 0 rfl) (fun _ => by first | rfl | exact partOf_sl rfl)) rfl rfl ?_
              refine kN rfl (kI (sem_len rfl) rfl rfl (kN rfl ?_))
              refine kI (sem_is rfl (by first | assumption | exact neI_refl _ | exact eqI_refl _)) rfl rfl ?_
              refine kI (rfl) rfl rfl (kI (rfl) rfl rfl (kF rfl rfl (kF rfl rfl (kF rfl rfl (kU rfl rfl (kU rfl rfl (kU rfl rfl (kU rfl rfl (kU rfl rfl (kU rfl rfl (kU rfl rfl ?_)))))))))))
              refine kU rfl rfl (kU rfl rfl (kU rfl rfl (kF rfl rfl (kI (rfl) rfl rfl ?_))))
              exact kZ
            · refine cC rfl ?_
              refine cS (cR ?_)
              refine oI rfl (oZ (cT ?_))
              exact hret _ _ (okAt_no hj (okAt_1 hj (by omega))) H.tail.tail rfl
          · have hbig := ltI_ge hb3
            try simp only [ofNat_cast] at hbig
            refine oI rfl (oI rfl (oN rfl (oI rfl (oN rfl ?_))))
            refine wp_bool rfl (fun hb4 => ?_) (fun hb4 => ?_)
            · have hj0 := ltI_lt hb4
              try simp only [ofNat_cast] at hj0
              refine oN rfl (oI rfl (oN rfl (oI rfl (oN rfl ?_))))
              refine oI (sem_load rfl (H.at 1 rfl) (fun _ => by first | rfl | exact partOf_sl rfl)) ?_
              refine oN rfl (oI rfl (oN rfl ?_))
              refine oI (sem_int (m := .ofNat (j - 1)) rfl (w64_sub (b := 1) (by omega) (by omega))) ?_
              refine oN rfl ?_
              refine oI (sem_iaddrF (f := FV.cells) (j := j - 1) (fun _ => rfl) (by decide) rfl rfl rfl (by omega)) ?_
              refine oN rfl (oI rfl (oN rfl (oI rfl (oN rfl (oI rfl (oN rfl ?_))))))
              refine oI (sem_load rfl (H.at 0 rfl) (fun _ => by first | rfl | exact partOf_sl rfl)) ?_
              refine oN rfl ?_
              refine wp_geStr rfl rfl (fun hlt => ?_) (fun hlt => ?_)
              · have := hall
                refine oN rfl (oI rfl (oI rfl ?_))
                refine oZ ⟨?_, ?_⟩
                · refine kI (rfl) rfl rfl (kI (rfl) rfl rfl (kN rfl (kI (rfl) rfl rfl (kN rfl ?_))))
                  refine kI (sem_load rfl (H.at 0 rfl) (fun _ => by first | rfl | exact partOf_sl rfl)) rfl rfl ?_
                  refine kN rfl (kI (sem_len rfl) rfl rfl (kN rfl ?_))
                  refine kI (sem_is rfl (by first | assumption | exact neI_refl _ | exact eqI_refl _)) rfl rfl ?_
                  refine kI (rfl) rfl rfl (kI (rfl) rfl rfl (kN rfl (kI (rfl) rfl rfl (kN rfl ?_))))
                  refine kI (sem_is rfl (by first | assumption | exact neI_refl _ | exact eqI_refl _)) rfl rfl ?_
                  refine kN rfl (kI (rfl) rfl rfl (kN rfl (kI (rfl) rfl rfl (kN rfl ?_))))
                  refine kI (sem_load rfl (H.at 1 rfl) (fun _ => by first | rfl | exact partOf_sl rfl)) rfl rfl ?_
                  refine kN rfl (kI (rfl) rfl rfl (kN rfl ?_))
                  refine kI (sem_int (m := .ofNat (j - 1)) rfl (w64_sub (b := 1) (by omega) (by omega))) rfl rfl ?_
                  refine kN rfl ?_
                  refine kI (sem_iaddrF (f := FV.cells) (j := j - 1) (fun _ => rfl) (by decide) rfl rfl rfl (by omega)) rfl rfl ?_
                  refine kN rfl (kI (rfl) rfl rfl (kN rfl (kI (rfl) rfl rfl (kN rfl (kI (rfl) rfl rfl (kN rfl ?_))))))
                  refine kI (sem_load rfl (H.at 0 rfl) (fun _ => by first | rfl | exact partOf_sl rfl)) rfl rfl ?_
                  refine kN rfl (kI (geStr_T rfl rfl hlt) rfl rfl (kN rfl (kI (rfl) rfl rfl (kI (rfl) rfl rfl ?_))))
                  exact kZ
                · refine cC rfl ?_
                  refine cS (cR ?_)
                  refine oI rfl (oZ (cT ?_))
                  exact hret _ _ (okAt_no hj (okAt_2 hj (by omega) hlt)) H.tail.tail rfl
              · have := hall
                refine oN rfl (oI rfl (oI rfl ?_))
                refine oZ ⟨?_, ?_⟩
                · refine kI (rfl) rfl rfl (kI (rfl) rfl rfl (kN rfl (kI (rfl) rfl rfl (kN rfl ?_))))
                  refine kI (sem_load rfl (H.at 0 rfl) (fun _ => by first | rfl | exact partOf_sl rfl)) rfl rfl ?_
                  refine kN rfl (kI (sem_len rfl) rfl rfl (kN rfl ?_))
                  refine kI (sem_is rfl (by first | assumption | exact neI_refl _ | exact eqI_refl _)) rfl rfl ?_
                  refine kI (rfl) rfl rfl (kI (rfl) rfl rfl (kN rfl (kI (rfl) rfl rfl (kN rfl ?_))))
                  refine kI (sem_is rfl (by first | assumption | exact neI_refl _ | exact eqI_refl _)) rfl rfl ?_
                  refine kN rfl (kI (rfl) rfl rfl (kN rfl (kI (rfl) rfl rfl (kN rfl ?_))))
                  refine kI (sem_load rfl (H.at 1 rfl) (fun _ => by first | rfl | exact partOf_sl rfl)) rfl rfl ?_
                  refine kN rfl (kI (rfl) rfl rfl (kN rfl ?_))
                  refine kI (sem_int (m := .ofNat (j - 1)) rfl (w64_sub (b := 1) (by omega) (by omega))) rfl rfl ?_
                  refine kN rfl ?_
                  refine kI (sem_iaddrF (f := FV.cells) (j := j - 1) (fun _ => rfl) (by decide) rfl rfl rfl (by omega)) rfl rfl ?_
                  refine kN rfl (kI (rfl) rfl rfl (kN rfl (kI (rfl) rfl rfl (kN rfl (kI (rfl) rfl rfl (kN rfl ?_))))))
                  refine kI (sem_load rfl (H.at 0 rfl) (fun _ => by first | rfl | exact partOf_sl rfl)) rfl rfl ?_
                  refine kN rfl (kI (geStr_F rfl rfl hlt) rfl rfl (kN rfl (kI (rfl) rfl rfl (kI (rfl) rfl rfl ?_))))
                  exact kZ
                · refine cF rfl (cK (cR ?_))
                  refine oI (sem_int rfl (w64_succ (by omega))) ?_
                  refine oI rfl (oZ ?_)
                  have hat : okAt fs j := fun _ => ⟨hnm, by omega, .inr hlt⟩
                  exact ih (fs.length - (j + 1)) (by omega) (j + 1) rfl (okAt_step hall hat) _ _ H.tail rfl rfl rfl rfl
            · have hj0 := ltI_ge hb4
              try simp only [ofNat_cast] at hj0
              refine oN rfl (oI rfl (oF rfl (oF rfl (oF rfl (oF rfl (oF rfl (oF rfl (oF rfl (oF rfl (oF rfl (oF rfl ?_)))))))))))
              refine oN rfl (oI rfl (oI rfl ?_))
              refine oZ ⟨?_, ?_⟩
              · refine kI (rfl) rfl rfl (kI (rfl) rfl rfl (kN rfl (kI (rfl) rfl rfl (kN rfl ?_))))
                refine kI (sem_load rfl (H.at 0 rfl) (fun _ => by first | rfl | exact partOf_sl rfl)) rfl rfl ?_
                refine kN rfl (kI (sem_len rfl) rfl rfl (kN rfl ?_))
                refine kI (sem_is rfl (by first | assumption | exact neI_refl _ | exact eqI_refl _)) rfl rfl ?_
                refine kI (rfl) rfl rfl (kI (rfl) rfl rfl (kN rfl (kI (rfl) rfl rfl (kN rfl ?_))))
                refine kI (sem_is rfl (by first | assumption | exact neI_refl _ | exact eqI_refl _)) rfl rfl ?_
                refine kN rfl (kI (rfl) rfl rfl (kF rfl rfl (kF rfl rfl (kF rfl rfl (kF rfl rfl (kF rfl rfl (kF rfl rfl (kF rfl rfl (kF rfl rfl (kF rfl rfl (kF rfl rfl ?_)))))))))))
                refine kN rfl (kI (rfl) rfl rfl (kI (rfl) rfl rfl ?_))
                exact kZ
              · refine cF rfl (cK (cR ?_))
                refine oI (sem_int rfl (w64_succ (by omega))) ?_
                refine oI rfl (oZ ?_)
                have hat : okAt fs j := fun _ => ⟨hnm, by omega, .inl (by omega)⟩
                exact ih (fs.length - (j + 1)) (by omega) (j + 1) rfl (okAt_step hall hat) _ _ H.tail rfl rfl rfl rfl
        · rw [decide_eq_false hnm]
          refine oZ (cL rfl (oI rfl (oI rfl (oF rfl (oF rfl (oF rfl (oF rfl (oI rfl (oI rfl (oF rfl (oF rfl ?_)))))))))))
          refine oF rfl (oU rfl (oU rfl (oU rfl (oU rfl (oU rfl (oU rfl (oU rfl (oU rfl (oU rfl (oU rfl (oF rfl ?_)))))))))))
          refine oI rfl ?_
          refine oZ ⟨?_, ?_⟩
          · refine kI (rfl) rfl rfl (kI (rfl) rfl rfl (kF rfl rfl (kF rfl rfl (kF rfl rfl (kF rfl rfl (kI (rfl) rfl rfl (kI (rfl) rfl rfl (kF rfl rfl (kF rfl rfl (kF rfl rfl (kU rfl rfl ?_)))))))))))
            refine kU rfl rfl (kU rfl rfl (kU rfl rfl (kU rfl rfl (kU rfl rfl (kU rfl rfl (kU rfl rfl (kU rfl rfl (kU rfl rfl (kF rfl rfl (kI (rfl) rfl rfl ?_))))))))))
            exact kZ
          · refine cC rfl ?_
            refine cS (cR ?_)
            refine oI rfl (oZ (cT ?_))
            exact hret _ _ (okAt_no hj (okAt_0 hj hnm)) H.tail.tail rfl
    · have hj := of_geN hb1
      refine oZ (cS (cF rfl (cX ?_)))
      exact hend _ _ (fun i hi => hall i (by omega)) H.tail
theorem valid_ok (C : Code E) (H : Has h L) (hok : ∀ f ∈ fs, f.ok) : CallT E (.func n_valid [] []) [.agg [dAV nl fu fs]] h (DkR L fs) := by
  refine CallT.body C.valid ?_
  unfold BodyT c_valid
  refine cS (cR ?_)
  refine wp_box rfl rfl H fun q1 h H => ?_
  refine oI rfl (oZ (cS ?_))
  refine cS (cR ?_)
  refine oI rfl ?_
  refine oI (sem_load rfl (H.at 0 rfl) (fun _ => by first | rfl | exact partOf_sl rfl)) ?_
  refine oI (sem_len rfl) ?_
  refine wp_bool rfl (fun hb2 => ?_) (fun hb2 => ?_)
  · have h100 := ltI_lt hb2
    try simp only [ofNat_cast] at h100
    refine oZ (cC rfl ?_)
    refine cS (cR ?_)
    refine oI rfl (oZ (cT ?_))
    refine ⟨trivial, _, rfl, ?_⟩
    exact ⟨false, rfl, iff_of_false (by simp) fun hd => by have := hd.1; omega, H.tail⟩
  · have h100 := ltI_ge hb2
    try simp only [ofNat_cast] at h100
    have h100 : fs.length ≤ 100 := by omega
    refine oZ (cF rfl (cK (cS ?_)))
    refine cS (cR ?_)
    refine oI rfl ?_
    refine oI (sem_load rfl (H.at 0 rfl) (fun _ => by first | rfl | exact partOf_sl rfl)) ?_
    refine oI (sem_len rfl) (oI rfl (oZ (cB ?_)))
    refine wpC_loop (valid_loop C (q := q1) (L := L) h100 hok (fun tm h hall H => ?_) (fun tm h hno H e2 => ?_) (fs.length - 0) 0 rfl (fun i h0 => absurd h0 (Nat.not_lt_zero _)) _ _ H rfl rfl rfl rfl)
    · refine cS (cR ?_)
      refine oI rfl (oZ (cT ?_))
      refine ⟨trivial, _, rfl, ?_⟩
      exact ⟨true, rfl, iff_of_true rfl ⟨h100, hall⟩, H⟩
    · obtain ⟨tm, rfl⟩ := sets1 e2
      refine ⟨trivial, _, rfl, ?_⟩
      exact ⟨false, rfl, iff_of_false (by simp) hno, H⟩
theorem isDisk_loop (C : Code E) {q : Pos} (hlen : fs.length ≤ 100) (hok : ∀ f ∈ fs, f.ok) {Q : XExit → Tm → Heap → Prop} (hend : ∀ tm h, (∀ i, i < fs.length → okAt fs i) → Has h L → Q (.exit 0) tm h) (hret : ∀ tm h, ¬ okD fs → Has h L → tm.get (.lo .d0 .d2) = some (.bool false) → Q .ret tm h) :
    ∀ (k j : Nat), fs.length - j = k → (∀ i, i < j → okAt fs i) → ∀ (tm : Tm) (h : Heap), Has h ((q, .row tyD [dAV nl fu fs] false) :: L) → tm.get (.lo .d0 .d1) = some (.ptr q 0) → tm.get (.lo .d0 .d3) = some (.int .i64 (.ofNat j)) → LoopT E c_isDisk_b0 Q tm h := by
  intro k
  induction k using Nat.strongRecOn with
  | ind k ih =>
    intro j hk hall tm h H e1 e3
    obtain ⟨tm, rfl⟩ := sets2 e1 e3
    refine LoopT.wp ?_
    unfold c_isDisk_b0
    refine cS ?_
    refine cS (cR ?_)
    refine oI rfl (oI rfl ?_)
    refine oI (sem_load rfl (H.at 0 rfl) (fun _ => by first | rfl | exact partOf_sl rfl)) ?_
    refine oI (sem_len rfl) ?_
    refine wp_bool rfl (fun hb1 => ?_) (fun hb1 => ?_)
    · have hj := of_ltN hb1
      have hfo := hok _ (List.getElem_mem hj)
      have hnl := hfo.2.2.1
      have hbl : fs[j].b.length ≤ 9223372036854775807 := hfo.2.2.2
      refine oZ (cC rfl (cK (cS (cB ?_))))
      refine cS (cR ?_)
      refine oI rfl ?_
      refine oI (sem_load rfl (H.at 0 rfl) (fun _ => by first | rfl | exact partOf_sl rfl)) ?_
      refine oI rfl ?_
      refine oI (sem_iaddrF (f := FV.cells) (fun _ => rfl) (by decide) rfl rfl rfl hj) ?_
      refine oI (sem_loadI rfl rfl) ?_
      refine wp_alloc H fun q2 h H => ?_
      refine wp_store (k := 0) rfl rfl rfl (by first | rfl | exact len_of (DT.len _) | exact len_of (DE.len _) | exact len_of (DV.len _)) H rfl (fun k => by first | exact spliceK_len (by first | exact DT.len _ | exact DE.len _ | exact DV.len _) k | rfl) fun h H => ?_
      refine oZ (cS (wpC_phase rfl (oI rfl ?_)))
      refine oI (sem_load rfl (H.at 0 rfl) (fun _ => by first | rfl | exact partOf_sl rfl)) ?_
      refine oZ ⟨?_, ?_⟩
      · refine kI (rfl) rfl rfl ?_
        refine kI (sem_load rfl (H.at 0 rfl) (fun _ => by first | rfl | exact partOf_sl rfl)) rfl rfl ?_
        exact kZ
      · refine wp_call rfl (risName_ok C H hnl) ?_
        rintro _ h ⟨rfl, H⟩
        by_cases hnm : isNm fs[j].name
        · rw [decide_eq_true hnm]
          refine oZ (cL rfl (oI rfl (oI rfl (oN rfl (oI rfl (oN rfl ?_))))))
          refine oI (sem_load rfl (H.at 0 rfl) (fun _ => by first | rfl | exact partOf_sl rfl)) ?_
          refine oN rfl (oI (sem_len rfl) (oN rfl ?_))
          refine wp_bool rfl (fun hb3 => ?_) (fun hb3 => ?_)
          · have hbig := ltI_lt hb3
            try simp only [ofNat_cast] at hbig
            refine oI rfl (oI rfl (oF rfl (oF rfl (oF rfl (oU rfl (oU rfl (oU rfl (oU rfl (oU rfl (oU rfl (oU rfl ?_)))))))))))
            refine oU rfl (oU rfl (oU rfl (oF rfl (oI rfl ?_))))
            refine oZ ⟨?_, ?_⟩
            · refine kI (rfl) rfl rfl (kI (rfl) rfl rfl (kN rfl (kI (rfl) rfl rfl (kN rfl ?_))))
              refine kI (sem_load rfl (H.at 0 rfl) (fun _ => by first | rfl | exact partOf_sl rfl)) rfl rfl ?_
              refine kN rfl (kI (sem_len rfl) rfl rfl (kN rfl ?_))
              refine kI (sem_is rfl (by first | assumption | exact neI_refl _ | exact eqI_refl _)) rfl rfl ?_
              refine kI (rfl) rfl rfl (kI (rfl) rfl rfl (kF rfl rfl (kF rfl rfl (kF rfl rfl (kU rfl rfl (kU rfl rfl (kU rfl rfl (kU rfl rfl (kU rfl rfl (kU rfl rfl (kU rfl rfl ?_)))))))))))
              refine kU rfl rfl (kU rfl rfl (kU rfl rfl (kF rfl rfl (kI (rfl) rfl rfl ?_))))
              exact kZ
            · refine cC rfl ?_
              refine cS (cR ?_)
              refine oI rfl (oZ (cT ?_))
              exact hret _ _ (okAt_no hj (okAt_1 hj (by omega))) H.tail.tail rfl
          · have hbig := ltI_ge hb3
            try simp only [ofNat_cast] at hbig
            refine oI rfl (oI rfl (oN rfl (oI rfl (oN rfl ?_))))
            refine wp_bool rfl (fun hb4 => ?_) (fun hb4 => ?_)
            · have hj0 := ltI_lt hb4
              try simp only [ofNat_cast] at hj0
              refine oN rfl (oI rfl (oN rfl (oI rfl (oN rfl ?_))))
              refine oI (sem_load rfl (H.at 1 rfl) (fun _ => by first | rfl | exact partOf_sl rfl)) ?_
              refine oN rfl (oI rfl (oN rfl ?_))
              refine oI (sem_int (m := .ofNat (j - 1)) rfl (w64_sub (b := 1) (by omega) (by omega))) ?_
              refine oN rfl ?_
              refine oI (sem_iaddrF (f := FV.cells) (j := j - 1) (fun _ => rfl) (by decide) rfl rfl rfl (by omega)) ?_
              refine oN rfl (oI rfl (oN rfl (oI rfl (oN rfl (oI rfl (oN rfl ?_))))))
              refine oI (sem_load rfl (H.at 0 rfl) (fun _ => by first | rfl | exact partOf_sl rfl)) ?_
              refine oN rfl ?_
              refine wp_geStr rfl rfl (fun hlt => ?_) (fun hlt => ?_)
              · have := hall
                refine oN rfl (oI rfl (oI rfl ?_))
                refine oZ ⟨?_, ?_⟩
                · refine kI (rfl) rfl rfl (kI (rfl) rfl rfl (kN rfl (kI (rfl) rfl rfl (kN rfl ?_))))
                  refine kI (sem_load rfl (H.at 0 rfl) (fun _ => by first | rfl | exact partOf_sl rfl)) rfl rfl ?_
                  refine kN rfl (kI (sem_len rfl) rfl rfl (kN rfl ?_))
                  refine kI (sem_is rfl (by first | assumption | exact neI_refl _ | exact eqI_refl _)) rfl rfl ?_
                  refine kI (rfl) rfl rfl (kI (rfl) rfl rfl (kN rfl (kI (rfl) rfl rfl (kN rfl ?_))))
                  refine kI (sem_is rfl (by first | assumption | exact neI_refl _ | exact eqI_refl _)) rfl rfl ?_
                  refine kN rfl (kI (rfl) rfl rfl (kN rfl (kI (rfl) rfl rfl (kN rfl ?_))))
                  refine kI (sem_load rfl (H.at 1 rfl) (fun _ => by first | rfl | exact partOf_sl rfl)) rfl rfl ?_
                  refine kN rfl (kI (rfl) rfl rfl (kN rfl ?_))
                  refine kI (sem_int (m := .ofNat (j - 1)) rfl (w64_sub (b := 1) (by omega) (by omega))) rfl rfl ?_
                  refine kN rfl ?_
                  refine kI (sem_iaddrF (f := FV.cells) (j := j - 1) (fun _ => rfl) (by decide) rfl rfl rfl (by omega)) rfl rfl ?_
                  refine kN rfl (kI (rfl) rfl rfl (kN rfl (kI (rfl) rfl rfl (kN rfl (kI (rfl) rfl rfl (kN rfl ?_))))))
                  refine kI (sem_load rfl (H.at 0 rfl) (fun _ => by first | rfl | exact partOf_sl rfl)) rfl rfl ?_
                  refine kN rfl (kI (geStr_T rfl rfl hlt) rfl rfl (kN rfl (kI (rfl) rfl rfl (kI (rfl) rfl rfl ?_))))
                  exact kZ
                · refine cC rfl ?_
                  refine cS (cR ?_)
                  refine oI rfl (oZ (cT ?_))
                  exact hret _ _ (okAt_no hj (okAt_2 hj (by omega) hlt)) H.tail.tail rfl
              · have := hall
                refine oN rfl (oI rfl (oI rfl ?_))
                refine oZ ⟨?_, ?_⟩
                · refine kI (rfl) rfl rfl (kI (rfl) rfl rfl (kN rfl (kI (rfl) rfl rfl (kN rfl ?_))))
                  refine kI (sem_load rfl (H.at 0 rfl) (fun _ => by first | rfl | exact partOf_sl rfl)) rfl rfl ?_
                  refine kN rfl (kI (sem_len rfl) rfl rfl (kN rfl ?_))
                  refine kI (sem_is rfl (by first | assumption | exact neI_refl _ | exact eqI_refl _)) rfl rfl ?_
                  refine kI (rfl) rfl rfl (kI (rfl) rfl rfl (kN rfl (kI (rfl) rfl rfl (kN rfl ?_))))
                  refine kI (sem_is rfl (by first | assumption | exact neI_refl _ | exact eqI_refl _)) rfl rfl ?_
                  refine kN rfl (kI (rfl) rfl rfl (kN rfl (kI (rfl) rfl rfl (kN rfl ?_))))
                  refine kI (sem_load rfl (H.at 1 rfl) (fun _ => by first | rfl | exact partOf_sl rfl)) rfl rfl ?_
                  refine kN rfl (kI (rfl) rfl rfl (kN rfl ?_))
                  refine kI (sem_int (m := .ofNat (j - 1)) rfl (w64_sub (b := 1) (by omega) (by omega))) rfl rfl ?_
                  refine kN rfl ?_
                  refine kI (sem_iaddrF (f := FV.cells) (j := j - 1) (fun _ => rfl) (by decide) rfl rfl rfl (by omega)) rfl rfl ?_
                  refine kN rfl (kI (rfl) rfl rfl (kN rfl (kI (rfl) rfl rfl (kN rfl (kI (rfl) rfl rfl (kN rfl ?_))))))
                  refine kI (sem_load rfl (H.at 0 rfl) (fun _ => by first | rfl | exact partOf_sl rfl)) rfl rfl ?_
                  refine kN rfl (kI (geStr_F rfl rfl hlt) rfl rfl (kN rfl (kI (rfl) rfl rfl (kI (rfl) rfl rfl ?_))))
                  exact kZ
                · refine cF rfl (cK (cR (oI rfl ?_)))
                  refine oI (sem_int rfl (w64_succ (by omega))) ?_
                  refine oI rfl (oZ ?_)
                  have hat : okAt fs j := fun _ => ⟨hnm, by omega, .inr hlt⟩
                  exact ih (fs.length - (j + 1)) (by omega) (j + 1) rfl (okAt_step hall hat) _ _ H.tail rfl rfl
            · have hj0 := ltI_ge hb4
              try simp only [ofNat_cast] at hj0
              refine oN rfl (oI rfl (oF rfl (oF rfl (oF rfl (oF rfl (oF rfl (oF rfl (oF rfl (oF rfl (oF rfl (oF rfl ?_)))))))))))
              refine oN rfl (oI rfl (oI rfl ?_))
              refine oZ ⟨?_, ?_⟩
              · refine kI (rfl) rfl rfl (kI (rfl) rfl rfl (kN rfl (kI (rfl) rfl rfl (kN rfl ?_))))
                refine kI (sem_load rfl (H.at 0 rfl) (fun _ => by first | rfl | exact partOf_sl rfl)) rfl rfl ?_
                refine kN rfl (kI (sem_len rfl) rfl rfl (kN rfl ?_))
                refine kI (sem_is rfl (by first | assumption | exact neI_refl _ | exact eqI_refl _)) rfl rfl ?_
                refine kI (rfl) rfl rfl (kI (rfl) rfl rfl (kN rfl (kI (rfl) rfl rfl (kN rfl ?_))))
                refine kI (sem_is rfl (by first | assumption | exact neI_refl _ | exact eqI_refl _)) rfl rfl ?_
                refine kN rfl (kI (rfl) rfl rfl (kF rfl rfl (kF rfl rfl (kF rfl rfl (kF rfl rfl (kF rfl rfl (kF rfl rfl (kF rfl rfl (kF rfl rfl (kF rfl rfl (kF rfl rfl ?_)))))))))))
                refine kN rfl (kI (rfl) rfl rfl (kI (rfl) rfl rfl ?_))
                exact kZ
              · refine cF rfl (cK (cR (oI rfl ?_)))
                refine oI (sem_int rfl (w64_succ (by omega))) ?_
                refine oI rfl (oZ ?_)
                have hat : okAt fs j := fun _ => ⟨hnm, by omega, .inl (by omega)⟩
                exact ih (fs.length - (j + 1)) (by omega) (j + 1) rfl (okAt_step hall hat) _ _ H.tail rfl rfl
        · rw [decide_eq_false hnm]
          refine oZ (cL rfl (oI rfl (oI rfl (oF rfl (oF rfl (oF rfl (oF rfl (oI rfl (oI rfl (oF rfl (oF rfl ?_)))))))))))
          refine oF rfl (oU rfl (oU rfl (oU rfl (oU rfl (oU rfl (oU rfl (oU rfl (oU rfl (oU rfl (oU rfl (oF rfl ?_)))))))))))
          refine oI rfl ?_
          refine oZ ⟨?_, ?_⟩
          · refine kI (rfl) rfl rfl (kI (rfl) rfl rfl (kF rfl rfl (kF rfl rfl (kF rfl rfl (kF rfl rfl (kI (rfl) rfl rfl (kI (rfl) rfl rfl (kF rfl rfl (kF rfl rfl (kF rfl rfl (kU rfl rfl ?_)))))))))))
            refine kU rfl rfl (kU rfl rfl (kU rfl rfl (kU rfl rfl (kU rfl rfl (kU rfl rfl (kU rfl rfl (kU rfl rfl (kU rfl rfl (kF rfl rfl (kI (rfl) rfl rfl ?_))))))))))
            exact kZ
          · refine cC rfl ?_
            refine cS (cR ?_)
            refine oI rfl (oZ (cT ?_))
            exact hret _ _ (okAt_no hj (okAt_0 hj hnm)) H.tail.tail rfl
    · have hj := of_geN hb1
      refine oZ (cF rfl (cX ?_))
      exact hend _ _ (fun i hi => hall i (by omega)) H.tail
theorem isDisk_ok (C : Code E) (H : Has h L) (hok : ∀ f ∈ fs, f.ok) : CallT E (.func n_isDisk [] []) [.agg [dAV nl fu fs]] h (DkR L fs) := by
  refine CallT.body C.isDisk ?_
  unfold BodyT c_isDisk
  refine cS (cR ?_)
  refine wp_box rfl rfl H fun q1 h H => ?_
  refine oI rfl (oZ (cS ?_))
  refine cS (cR ?_)
  refine oI rfl ?_
  refine oI (sem_load rfl (H.at 0 rfl) (fun _ => by first | rfl | exact partOf_sl rfl)) ?_
  refine oI (sem_len rfl) ?_
  refine wp_bool rfl (fun hb2 => ?_) (fun hb2 => ?_)
  · have h100 := ltI_lt hb2
    try simp only [ofNat_cast] at h100
    refine oZ (cC rfl ?_)
    refine cS (cR ?_)
    refine oI rfl (oZ (cT ?_))
    refine ⟨trivial, _, rfl, ?_⟩
    exact ⟨false, rfl, iff_of_false (by simp) fun hd => by have := hd.1; omega, H.tail⟩
  · have h100 := ltI_ge hb2
    try simp only [ofNat_cast] at h100
    have h100 : fs.length ≤ 100 := by omega
    refine oZ (cF rfl (cK (cS ?_)))
    refine cS (cR ?_)
    refine oI rfl (oZ (cB ?_))
    refine wpC_loop (isDisk_loop C (q := q1) (L := L) h100 hok (fun tm h hall H => ?_) (fun tm h hno H e2 => ?_) (fs.length - 0) 0 rfl (fun i h0 => absurd h0 (Nat.not_lt_zero _)) _ _ H rfl rfl)
    · refine cS (cR ?_)
      refine oI rfl (oZ (cT ?_))
      refine ⟨trivial, _, rfl, ?_⟩
      exact ⟨true, rfl, iff_of_true rfl ⟨h100, hall⟩, H⟩
    · obtain ⟨tm, rfl⟩ := sets1 e2
      refine ⟨trivial, _, rfl, ?_⟩
      exact ⟨false, rfl, iff_of_false (by simp) hno, H⟩
theorem opened_loop {qb qm : Pos} (hd : okD fs) {Q : XExit → Tm → Heap → Prop} (hend : ∀ tm h, Has h ((qm, .map (ents fs 0) fs.length) :: L) → tm.get (.lo .d0 .d3) = some (.map qm) → Q (.exit 0) tm h) :
    ∀ (k j : Nat), fs.length - j = k → j ≤ fs.length → ∀ (tm : Tm) (h : Heap), Has h ((qm, .map (ents (fs.take j) 0) j) :: (qb, .row tyD [dAV nl fu fs] false) :: L) → tm.get (.lo .d0 .d3) = some (.map qm) → tm.get (.lo .d0 .d8) = some (dAV nl fu fs) → tm.get (.lo .d0 .d9) = some (.int .i64 (.ofNat fs.length)) → tm.get (.lo .d0 .d10) = some (.int .i64 (.ofNat j)) → LoopT E c_opened_b0 Q tm h := by
  have hlen := hd.1
  intro k
  induction k using Nat.strongRecOn with
  | ind k ih =>
    intro j hk hjl tm h H e3 e8 e9 e10
    obtain ⟨tm, rfl⟩ := sets4 e3 e8 e9 e10
    refine LoopT.wp ?_
    unfold c_opened_b0
    refine cS (cR ?_)
    refine wp_bool rfl (fun hb1 => ?_) (fun hb1 => ?_)
    · have hj := of_ltN hb1
      have hnone : findE (.str fs[j].name) (ents (fs.take j) 0) 0 = some none := findE_none (none_of fun f m => by
        obtain ⟨i, hi, rfl⟩ := List.getElem_of_mem m
        have hij : i < j := by rw [List.length_take] at hi; omega
        rw [List.getElem_take]
        exact (ltN_ne (List.pairwise_iff_getElem.1 (okD_lt hd) i j (by omega) hj hij)).symm) 0 0
      have hstep : ents (fs.take j) 0 ++ [(.str fs[j].name, fs[j].sl, j)] = ents (fs.take (j + 1)) 0 := by
        rw [List.take_add_one, List.getElem?_eq_getElem hj, Option.toList_some, ents_app, List.length_take, Nat.min_eq_left (Nat.le_of_lt hj), Nat.zero_add]; rfl
      refine oZ (cS (cC rfl (cK (cS (cB ?_)))))
      refine cS (cR ?_)
      refine oI (sem_iaddrF (f := FV.cells) (fun _ => rfl) (by decide) rfl rfl rfl hj) ?_
      refine oI (sem_loadI rfl rfl) ?_
      refine wp_alloc H fun q2 h H => ?_
      refine wp_store (k := 0) rfl rfl rfl rfl H rfl (fun k => rfl) fun h H => ?_
      refine oZ (cR (oI rfl (oI rfl ?_)))
      refine oI (sem_load rfl (H.at 0 rfl) (fun _ => by first | rfl | exact partOf_sl rfl)) ?_
      refine oI rfl ?_
      refine oI (sem_load rfl (H.at 0 rfl) (fun _ => by first | rfl | exact partOf_sl rfl)) ?_
      refine wp_mapUpd (k := 1) rfl rfl rfl H rfl hnone fun h H => ?_
      refine oZ (cR ?_)
      refine oI (sem_int rfl (w64_succ (by omega))) ?_
      refine oI rfl (oZ ?_)
      have H : Has h ((qm, .map (ents (fs.take (j + 1)) 0) (j + 1)) :: (qb, .row tyD [dAV nl fu fs] false) :: L) := by rw [← hstep]; exact H.tail
      exact ih (fs.length - (j + 1)) (by omega) (j + 1) rfl hj _ _ H rfl rfl rfl rfl
    · have hj := of_geN hb1
      refine oZ (cS (cF rfl (cX ?_)))
      obtain rfl : j = fs.length := by omega
      rw [List.take_length] at H
      exact hend _ _ H.tail2 rfl
theorem opened_ok (C : Code E) (H : Has h L) (hd : okD fs) : CallT E (.func n_opened [] []) [.agg [dAV nl fu fs]] h fun r h' => ∃ q, r = .map q ∧ Has h' ((q, .map (ents fs 0) fs.length) :: L) := by
  refine CallT.body C.opened ?_
  unfold BodyT c_opened
  refine cS (cR ?_)
  refine wp_box rfl rfl H fun q1 h H => ?_
  refine oI rfl (oZ ?_)
  refine cS (cR ?_)
  refine wp_mkmap H fun q2 h H => ?_
  refine oI rfl (oZ (cS ?_))
  refine cS (cR ?_)
  refine oI rfl ?_
  refine oI (sem_load rfl (H.at 1 rfl) (fun _ => by first | rfl | exact partOf_sl rfl)) ?_
  refine oI (sem_len rfl) (oI rfl (oZ (cB ?_)))
  refine wpC_loop (opened_loop (L := L) hd (fun tm h H e3 => ?_) (fs.length - 0) 0 rfl (Nat.zero_le _) _ _ H rfl rfl rfl rfl)
  obtain ⟨tm, rfl⟩ := sets1 e3
  refine cS (cR ?_)
  refine oI rfl (oI rfl (oZ (cT ?_)))
  refine ⟨trivial, _, rfl, ?_⟩
  exact ⟨_, rfl, H⟩
end
end Go.X
