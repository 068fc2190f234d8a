/- The instructions of X against the model's operations: all of them. -/
import Derived.Test.YtplboahkpmiofaaGreatDoorXxExt
namespace Go.X
open Go

section
variable {P : Program} {κ : Kp} {h h' : Heap} {w : World} {n : Nat} {tm : Tm} {a : Act} {o : Oper} {v : AV}

theorem copBin_ok (hr : HR P κ h w) (ht : TR κ n tm a.tmps) {op : BinOp} {t yt : TypeId} {x y : Operand} {i : XI} (hc : copBin P op t x y = some i) (ho : o.op = .binOp op t x y yt) (hs : i.sem tm h = .ok v h') : OpRes P o a κ h w v h' := by
  simp only [copBin, Option.bind_eq_bind, Option.bind_eq_some_iff] at hc
  obtain ⟨xo, hx, yo, hy, hc⟩ := hc
  have eqq : ∀ {k : SK}, eqOp op k xo yo = some i → k ≠ .int → k ≠ .str → fits P t k → (k = .iface → isNilC x = true ∨ isNilC y = true) → OpRes P o a κ h w v h' := by
    intro k he h1 h2 hf hn
    cases op <;> simp only [eqOp, Option.some.injEq, reduceCtorEq] at he
    · subst he; exact same_ok (neg := false) hr ht h1 h2 hf hx hy hn ho hs
    · subst he; exact same_ok (neg := true) hr ht h1 h2 hf hx hy hn ho hs
  split at hc
  · simp only [Option.bind_eq_some_iff, Option.some.injEq] at hc
    obtain ⟨b, hb, rfl⟩ := hc
    exact bin_ok hr ht hb hx hy ho hs
  · simp only [Option.bind_eq_some_iff, Option.some.injEq] at hc
    obtain ⟨b, hb, rfl⟩ := hc
    exact bin_ok hr ht hb hx hy ho hs
  · rename_i fs hu
    split at hc
    · simp only [Option.bind_eq_some_iff, Option.some.injEq] at hc
      obtain ⟨mask, hm, rfl⟩ := hc
      exact sameCells_ok (neg := false) hr ht hu hm hx hy ho hs
    · simp only [Option.bind_eq_some_iff, Option.some.injEq] at hc
      obtain ⟨mask, hm, rfl⟩ := hc
      exact sameCells_ok (neg := true) hr ht hu hm hx hy ho hs
    · simp at hc
  · rename_i m e hu
    simp only [copArrEq] at hc
    split at hc
    · rename_i hsz
      have hsz : szOf P e = some 1 := by simpa using hsz
      simp only [Option.map_eq_some_iff] at hc
      obtain ⟨mask, hm, rfl⟩ := hc
      exact sameCellsArr_ok (neg := false) hr ht hu hsz hm hx hy ho hs
    · rename_i hsz
      have hsz : szOf P e = some 1 := by simpa using hsz
      simp only [Option.map_eq_some_iff] at hc
      obtain ⟨mask, hm, rfl⟩ := hc
      exact sameCellsArr_ok (neg := true) hr ht hu hsz hm hx hy ho hs
    · simp at hc
  · rename_i ms hu
    split at hc
    · rename_i hnil
      exact eqq hc (by simp) (by simp) ⟨_, hu⟩ (fun _ => by simpa using hnil)
    · simp at hc
  · rename_i e hu
    split at hc
    · rename_i s hsz
      exact eqq hc (by simp) (by simp) ⟨e, s, hu, hsz⟩ (by simp)
    · simp at hc
  · rename_i hu; exact eqq hc (by simp) (by simp) hu (by simp)
  · rename_i e hu; exact eqq hc (by simp) (by simp) ⟨e, hu⟩ (by simp)
  · rename_i k e hu; exact eqq hc (by simp) (by simp) ⟨k, e, hu⟩ (by simp)
  · rename_i k e q hu; exact eqq hc (by simp) (by simp) ⟨_, _, _, hu⟩ (by simp)
  · simp at hc

theorem isU8_ok {t : TypeId} (h : isU8 P t = true) : P.underlying t = some (.int .u8) := by
  simp only [isU8] at h
  split at h
  · assumption
  · simp at h
theorem copConv_ok (hr : HR P κ h w) (ht : TR κ n tm a.tmps) {s d : TypeId} {x : Operand} {i : XI} (hc : copConv P s d x = some i) (ho : o.op = .convert s d x) (hs : i.sem tm h = .ok v h') : OpRes P o a κ h w v h' := by
  simp only [copConv, Option.bind_eq_bind, Option.bind_eq_some_iff] at hc
  obtain ⟨xo, hx, hc⟩ := hc
  split at hc
  · rename_i k1 k2 h1 h2
    simp only [Option.some.injEq] at hc; subst hc
    exact conv_ok hr ht h1 h2 hx ho hs
  · rename_i h1 h2
    simp only [Option.some.injEq] at hc; subst hc
    obtain ⟨y, h3, h4⟩ := withO_ok hs
    have e := opnd_ok ht hx h3
    cases y <;> first | (simp at h4; done) | skip
    have e' := e
    simp only [VR] at e'
    obtain ⟨b, e1, e2⟩ := e'
    simp only [withNo, dropE, Out.ok.injEq] at h4
    obtain ⟨rfl, rfl⟩ := h4
    refine .pure hr e ?_
    simp only [execOp, ho, e1, convert, Sem.run_bind, run_underlyingT h1, run_underlyingT h2, Result.andThen_ok, Sem.run_pure]
  · rename_i e h1 h2
    split at hc
    · rename_i he
      simp only [Option.some.injEq] at hc; subst hc
      exact toBytes_ok hr ht h1 h2 (isU8_ok he) hx ho hs
    · simp at hc
  · rename_i e h1 h2
    split at hc
    · rename_i he
      simp only [Option.some.injEq] at hc; subst hc
      exact toStr_ok hr ht h1 h2 (isU8_ok he) hx ho hs
    · simp at hc
  · rename_i e' e h1 h2
    split at hc
    · rename_i hcond
      simp only [Bool.and_eq_true, beq_iff_eq] at hcond
      simp only [Option.some.injEq] at hc; subst hc
      obtain ⟨rfl, he⟩ := hcond
      have : e' = e := by rw [h1] at h2; simpa using h2
      subst this
      exact mark_ok hr ht h1 (isU8_ok he) hx ho hs
    · simp at hc
  · rename_i t h1 h2
    split at hc
    · rename_i m hsz
      simp only [Option.some.injEq] at hc; subst hc
      exact uptr_ok hr ht h1 h2 hsz hx ho hs
    · simp at hc
  · rename_i t h1 h2
    split at hc
    · rename_i m hsz
      simp only [Option.some.injEq] at hc; subst hc
      exact ptru_ok hr ht h1 h2 hsz hx ho hs
    · simp at hc
  · simp at hc

theorem args_mapM {c : Call} {xs : List XO} (h : c.args.toList.mapM opnd = some xs) : c.args.toList.mapM opnd = some xs := h
theorem elemS_ok {t e : TypeId} (h : elemS P t = some e) : P.underlying t = some (.slice e) := by
  simp only [elemS] at h
  split at h
  · simp only [Option.some.injEq] at h; subst h; assumption
  · simp at h
theorem elemP_ok {t e : TypeId} (h : elemP P t = some e) : P.underlying t = some (.pointer e) := by
  simp only [elemP] at h
  split at h
  · simp only [Option.some.injEq] at h; subst h; assumption
  · simp at h
theorem copBuiltin_ok {rnd : Bool} (hr : HR P κ h w) (ht : TR κ n tm a.tmps) {c : Call} {b : Builtin} (hcal : c.callee = .builtin b) {i : XI} (hc : copBuiltin P rnd b c.argTypes c.args = some (.ins i)) (ho : o.op = .call c) (hs : i.sem tm h = .ok v h') : OpRes P o a κ h w v h' := by
  simp only [copBuiltin, Option.bind_eq_bind, Option.bind_eq_some_iff] at hc
  obtain ⟨xs, hx, hc⟩ := hc
  split at hc
  · -- len
    obtain ⟨x, hl, hxo⟩ := mapM_one hx
    simp only [Option.bind_eq_some_iff] at hc
    obtain ⟨t, hT, hc⟩ := hc
    split at hc
    · rename_i hu
      simp only [Option.some.injEq, XC.ins.injEq] at hc; subst hc
      exact lenStr_ok hr ht hcal hT hu hl hxo ho hs
    · rename_i e hu
      simp only [Option.some.injEq, XC.ins.injEq] at hc; subst hc
      exact lenSl_ok hr ht hcal hT hu hl hxo ho hs
    · rename_i m e hu
      simp only [Option.some.injEq, XC.ins.injEq] at hc; subst hc
      exact lenC_ok hr hcal hT (.inl hu) hl ho hs
    · rename_i k e hu
      simp only [Option.some.injEq, XC.ins.injEq] at hc; subst hc
      exact lenM_ok hr ht hcal hT hu hl hxo ho hs
    · rename_i e hu
      split at hc
      · rename_i m e' hu'
        simp only [Option.some.injEq, XC.ins.injEq] at hc; subst hc
        exact lenC_ok hr hcal hT (.inr ⟨_, hu, hu'⟩) hl ho hs
      · simp at hc
    · simp at hc
  · -- cap
    obtain ⟨x, hl, hxo⟩ := mapM_one hx
    simp only [Option.bind_eq_some_iff] at hc
    obtain ⟨t, hT, hc⟩ := hc
    split at hc
    · rename_i e hu
      simp only [Option.some.injEq, XC.ins.injEq] at hc; subst hc
      exact cap_ok hr ht hcal hT hu hl hxo ho hs
    · simp at hc
  · -- min
    split at hc
    · simp at hc
    · simp only [Option.some.injEq, XC.ins.injEq] at hc; subst hc
      exact minmax_ok (mx := false) hr ht hcal hx ho hs
  · -- max
    split at hc
    · simp at hc
    · simp only [Option.some.injEq, XC.ins.injEq] at hc; subst hc
      exact minmax_ok (mx := true) hr ht hcal hx ho hs
  · -- append
    obtain ⟨x, y, hl, hxo, hyo⟩ := mapM_two hx
    simp only [Option.bind_eq_some_iff] at hc
    obtain ⟨t, hT, e, he, hc⟩ := hc
    have hu := elemS_ok he
    obtain ⟨tx, hT1, hc⟩ := hc
    split at hc
    · rename_i k hk
      simp only [Option.bind_eq_some_iff, Option.some.injEq, XC.ins.injEq] at hc
      obtain ⟨by_, hb, z, hz, rfl⟩ := hc
      exact appendZ_ok hr ht hcal hT hT1 hu hk hz hb hl hxo hyo ho hs
    · rename_i e' hk
      simp only [Option.bind_eq_some_iff, Option.some.injEq, XC.ins.injEq] at hc
      obtain ⟨z, hz, sz, hsz, by_, hb, rfl⟩ := hc
      exact append_ok hr ht hcal hT hT1 hu (.inl ⟨_, hk⟩) hz hsz hb hl hxo hyo ho hs
    · rename_i hk
      simp only [Option.bind_eq_some_iff, Option.some.injEq, XC.ins.injEq] at hc
      obtain ⟨z, hz, sz, hsz, by_, hb, rfl⟩ := hc
      exact append_ok hr ht hcal hT hT1 hu (.inr hk) hz hsz hb hl hxo hyo ho hs
    · simp at hc
  · -- copy
    obtain ⟨x, y, hl, hxo, hyo⟩ := mapM_two hx
    simp only [Option.bind_eq_some_iff, Option.some.injEq, XC.ins.injEq] at hc
    obtain ⟨t, hT, e, he, sz, hsz, rfl⟩ := hc
    exact copy_ok hr ht hcal hT (elemS_ok he) hsz hl hxo hyo ho hs
  · -- delete
    obtain ⟨x, y, hl, hxo, hyo⟩ := mapM_two hx
    simp only [Option.bind_eq_some_iff, Option.some.injEq, XC.ins.injEq] at hc
    obtain ⟨t, hT, s, hk, rfl⟩ := hc
    obtain ⟨kt, e, hu, hk⟩ := keyT_ok hk
    exact delete_ok hr ht hcal hT hu hk hl hxo hyo ho hs
  · -- clear
    obtain ⟨x, hl, hxo⟩ := mapM_one hx
    simp only [Option.bind_eq_some_iff] at hc
    obtain ⟨t, hT, hc⟩ := hc
    split at hc
    · rename_i k e hu
      simp only [Option.some.injEq, XC.ins.injEq] at hc; subst hc
      exact clearM_ok hr ht hcal hT hu hl hxo ho hs
    · rename_i e hu
      simp only [Option.bind_eq_some_iff, Option.some.injEq, XC.ins.injEq] at hc
      obtain ⟨z, hz, rfl⟩ := hc
      exact clearS_ok hr ht hcal hT hu hz hl hxo ho hs
    · simp at hc
  · simp at hc
  · split at hc <;> simp at hc
  · -- unsafe.String
    obtain ⟨x, y, hl, hxo, hyo⟩ := mapM_two hx
    simp only [Option.bind_eq_some_iff] at hc
    obtain ⟨t, hT, e, he, hc⟩ := hc
    split at hc
    · rename_i hcond
      simp only [Option.some.injEq, XC.ins.injEq] at hc; subst hc
      simp only [Bool.and_eq_true, beq_iff_eq] at hcond
      exact ustring_ok hr ht hcal hT (elemP_ok he) hcond.1 hl hxo hyo ho hs
    · simp at hc
  · -- unsafe.SliceData
    obtain ⟨x, hl, hxo⟩ := mapM_one hx
    simp only [Option.some.injEq, XC.ins.injEq] at hc; subst hc
    exact sdata_ok hr ht hcal hl hxo ho hs
  · simp at hc

theorem copOpO_ok {rnd : Bool} (hr : HR P κ h w) (ht : TR κ n tm a.tmps) {i : XI} (hc : copOpO P rnd o = some (.ins i)) (hs : i.sem tm h = .ok v h') : OpRes P o a κ h w v h' := by
  simp only [copOpO] at hc
  split at hc
  · rename_i x ho
    simp only [Option.bind_eq_bind, Option.bind_eq_some_iff, Option.some.injEq, XC.ins.injEq] at hc
    obtain ⟨xo, hx, rfl⟩ := hc
    exact mv_ok hr ht hx (.inl ho) hs
  · rename_i x ho
    simp only [Option.bind_eq_bind, Option.bind_eq_some_iff, Option.some.injEq, XC.ins.injEq] at hc
    obtain ⟨xo, hx, rfl⟩ := hc
    exact mv_ok hr ht hx (.inr ho) hs
  · rename_i ho
    simp only [Option.bind_eq_bind, Option.bind_eq_some_iff, Option.some.injEq, XC.ins.injEq] at hc
    obtain ⟨co, hco, xo, hx, yo, hy, rfl⟩ := hc
    exact pick_ok hr ht hco hx hy ho hs
  · rename_i ho
    simp only [Option.bind_eq_bind, Option.bind_eq_some_iff, Option.some.injEq, XC.ins.injEq] at hc
    obtain ⟨z, hz, rfl⟩ := hc
    exact alloc_ok (tm := tm) hr hz ho hs
  · rename_i ho
    simp only [Option.bind_eq_bind, Option.bind_eq_some_iff, Option.some.injEq, XC.ins.injEq] at hc
    obtain ⟨xo, hx, rfl⟩ := hc
    exact box_ok hr ht hx ho hs
  · rename_i ho
    simp only [Option.bind_eq_bind, Option.bind_eq_some_iff] at hc
    obtain ⟨z, hz, hc⟩ := hc
    split at hc
    · rename_i fs hu
      simp only [Option.bind_eq_some_iff, Option.some.injEq, XC.ins.injEq] at hc
      obtain ⟨ps, hps, xs, hxs, rfl⟩ := hc
      exact build_ok hr ht hz hxs (.inl ⟨fs, ps, hu, hps, rfl⟩) ho hs
    · rename_i m e hu
      simp only [Option.bind_eq_some_iff, Option.some.injEq, XC.ins.injEq] at hc
      obtain ⟨sz, hsz, xs, hxs, rfl⟩ := hc
      exact build_ok hr ht hz hxs (.inr ⟨m, e, sz, hu, hsz, rfl⟩) ho hs
    · simp at hc
  · rename_i ho
    simp only [Option.bind_eq_bind, Option.bind_eq_some_iff] at hc
    obtain ⟨e, he, sz, hsz, hc⟩ := hc
    split at hc
    · simp at hc
    · rename_i hfew
      simp only [Option.bind_eq_some_iff, Option.some.injEq, XC.ins.injEq] at hc
      obtain ⟨z, hz, xs, hxs, rfl⟩ := hc
      exact bslice_ok hr ht (elemS_ok he) hsz hfew hz hxs ho hs
  · rename_i ho
    simp only [Option.bind_eq_bind, Option.bind_eq_some_iff, Option.some.injEq, XC.ins.injEq] at hc
    obtain ⟨m, hm, xo, hx, rfl⟩ := hc
    exact load_ok hr ht hm hx ho hs
  · rename_i ho
    simp only [Option.bind_eq_bind, Option.bind_eq_some_iff, Option.some.injEq, XC.ins.injEq] at hc
    obtain ⟨m, hm, xo, hx, yo, hy, rfl⟩ := hc
    exact store_ok hr ht hm hx hy ho hs
  · rename_i ho
    simp only [Option.bind_eq_bind, Option.bind_eq_some_iff, Option.some.injEq, XC.ins.injEq] at hc
    obtain ⟨xo, hx, rfl⟩ := hc
    exact nilck_ok hr ht hx ho hs
  · rename_i ho
    simp only [Option.bind_eq_bind, Option.bind_eq_some_iff, Option.some.injEq, XC.ins.injEq] at hc
    obtain ⟨j, hj, rfl⟩ := hc
    exact copBin_ok hr ht hj ho hs
  · rename_i ho
    simp only [Option.bind_eq_bind, Option.bind_eq_some_iff, Option.some.injEq, XC.ins.injEq] at hc
    obtain ⟨xo, hx, rfl⟩ := hc
    exact un_ok hr ht (.inl ⟨rfl, rfl⟩) hx ho hs
  · rename_i ho
    simp only [Option.bind_eq_bind, Option.bind_eq_some_iff, Option.some.injEq, XC.ins.injEq] at hc
    obtain ⟨xo, hx, rfl⟩ := hc
    exact un_ok hr ht (.inr (.inl ⟨rfl, rfl⟩)) hx ho hs
  · rename_i ho
    simp only [Option.bind_eq_bind, Option.bind_eq_some_iff, Option.some.injEq, XC.ins.injEq] at hc
    obtain ⟨xo, hx, rfl⟩ := hc
    exact un_ok hr ht (.inr (.inr ⟨rfl, rfl⟩)) hx ho hs
  · rename_i ho
    simp only [Option.bind_eq_bind, Option.bind_eq_some_iff, Option.some.injEq, XC.ins.injEq] at hc
    obtain ⟨j, hj, rfl⟩ := hc
    exact copConv_ok hr ht hj ho hs
  · rename_i t x ho
    split at hc
    · simp at hc
    · simp at hc
    · rename_i d hne hd
      simp only [Option.bind_eq_bind, Option.bind_eq_some_iff, Option.some.injEq, XC.ins.injEq] at hc
      obtain ⟨xo, hx, rfl⟩ := hc
      exact mkif_ok hr ht hd (fun ms q => hne ms q) hx ho hs
  · rename_i ho
    simp only [Option.bind_eq_bind, Option.bind_eq_some_iff, Option.some.injEq, XC.ins.injEq] at hc
    obtain ⟨xo, hx, yo, hy, rfl⟩ := hc
    exact mkfn_ok hr ht hx hy ho hs
  · rename_i ho
    simp only [Option.bind_eq_bind, Option.bind_eq_some_iff, Option.some.injEq, XC.ins.injEq] at hc
    obtain ⟨s, _, rfl⟩ := hc
    exact mkmap_ok (tm := tm) hr ho hs
  · rename_i ho
    simp only [Option.bind_eq_bind, Option.bind_eq_some_iff, Option.some.injEq, XC.ins.injEq] at hc
    obtain ⟨e, he, by_, hb, z, hz, xo, hx, yo, hy, rfl⟩ := hc
    exact mkslice_ok hr ht (elemS_ok he) hb hz hx hy ho hs
  · rename_i t x lo hi mx ho
    simp only [Option.bind_eq_bind, Option.bind_eq_some_iff] at hc
    obtain ⟨xo, hx, l, hlo, hh, hhi, m, hmx, hc⟩ := hc
    split at hc
    · simp at hc
    · rename_i hcond
      have hsm : hi = none → mx = none := by
        rintro rfl
        simp only [opndO, Option.some.injEq] at hhi
        subst hhi
        simp only [Option.isNone_none, Bool.and_true, Bool.not_eq_true, Option.isSome_eq_false_iff, Option.isNone_iff_eq_none] at hcond
        subst hcond
        exact opndO_none hmx
      split at hc
      · rename_i hu
        split at hc
        · simp at hc
        · rename_i hms
          simp only [Option.some.injEq, XC.ins.injEq] at hc; subst hc
          simp only [Bool.not_eq_true, Option.isSome_eq_false_iff, Option.isNone_iff_eq_none] at hms
          subst hms
          have := opndO_none hmx
          subst this
          exact cutStr_ok hr ht hu hx hlo hhi ho hs
      · rename_i e hu
        simp only [Option.bind_eq_some_iff, Option.some.injEq, XC.ins.injEq] at hc
        obtain ⟨sz, hsz, rfl⟩ := hc
        exact cutSl_ok hr ht hu hsz hx hlo hhi hmx hsm ho hs
      · rename_i len e hu
        simp only [Option.bind_eq_some_iff, Option.some.injEq, XC.ins.injEq] at hc
        obtain ⟨sz, hsz, rfl⟩ := hc
        exact cutArr_ok hr ht hu hsz hx hlo hhi hmx hsm ho hs
      · simp at hc
  · rename_i t x f ho
    simp only [Option.bind_eq_bind, Option.bind_eq_some_iff] at hc
    obtain ⟨fd, hf, hc⟩ := hc
    split at hc
    · rename_i s hsz
      simp only [Option.bind_eq_some_iff, Option.some.injEq, XC.ins.injEq] at hc
      obtain ⟨xo, hx, rfl⟩ := hc
      exact faddr_ok hr ht hf hsz (by omega) hx ho hs
    · simp at hc
  · rename_i t x f ho
    simp only [Option.bind_eq_bind, Option.bind_eq_some_iff, Option.some.injEq, XC.ins.injEq] at hc
    obtain ⟨fd, hf, m, hm, xo, hx, rfl⟩ := hc
    exact fld_ok hr ht hf hm hx ho hs
  · rename_i t x j ho
    split at hc
    · rename_i len e hu
      simp only [Option.bind_eq_bind, Option.bind_eq_some_iff, Option.some.injEq, XC.ins.injEq] at hc
      obtain ⟨sz, hsz, xo, hx, yo, hy, rfl⟩ := hc
      exact iaddrA_ok hr ht hu hsz hx hy ho hs
    · rename_i e hu
      simp only [Option.bind_eq_bind, Option.bind_eq_some_iff, Option.some.injEq, XC.ins.injEq] at hc
      obtain ⟨sz, hsz, xo, hx, yo, hy, rfl⟩ := hc
      exact iaddrS_ok hr ht hu hsz hx hy ho hs
    · simp at hc
  · rename_i t x j ho
    split at hc
    · rename_i len e hu
      simp only [Option.bind_eq_bind, Option.bind_eq_some_iff, Option.some.injEq, XC.ins.injEq] at hc
      obtain ⟨sz, hsz, m, hm, xo, hx, yo, hy, rfl⟩ := hc
      exact idxA_ok hr ht hu hsz hm hx hy ho hs
    · rename_i hu
      simp only [Option.bind_eq_bind, Option.bind_eq_some_iff, Option.some.injEq, XC.ins.injEq] at hc
      obtain ⟨xo, hx, yo, hy, rfl⟩ := hc
      exact idxS_ok hr ht hu hx hy ho hs
    · simp at hc
  · rename_i t x j ok ho
    simp only [Option.bind_eq_bind, Option.bind_eq_some_iff, Option.some.injEq, XC.ins.injEq] at hc
    obtain ⟨s, hk, e, he, z, hz, xo, hx, yo, hy, rfl⟩ := hc
    obtain ⟨kt, e', hu, hk⟩ := keyT_ok hk
    simp only [mapElem, hu, Option.some.injEq] at he
    subst he
    exact lookup_ok hr ht hu hk hz hx hy ho hs
  · rename_i t m k x ho
    simp only [Option.bind_eq_bind, Option.bind_eq_some_iff, Option.some.injEq, XC.ins.injEq] at hc
    obtain ⟨s, hk, xo, hx, yo, hy, zo, hz, rfl⟩ := hc
    obtain ⟨kt, e', hu, hk⟩ := keyT_ok hk
    exact mapUpd_ok hr ht hu hk hx hy hz (.inl ho) hs
  · rename_i t m k x ho
    simp only [Option.bind_eq_bind, Option.bind_eq_some_iff, Option.some.injEq, XC.ins.injEq] at hc
    obtain ⟨s, hk, xo, hx, yo, hy, zo, hz, rfl⟩ := hc
    obtain ⟨kt, e', hu, hk⟩ := keyT_ok hk
    exact mapUpd_ok hr ht hu hk hx hy hz (.inr ho) hs
  · rename_i t m k ho
    simp only [Option.bind_eq_bind, Option.bind_eq_some_iff, Option.some.injEq, XC.ins.injEq] at hc
    obtain ⟨s, hk, e, he, z, hz, xo, hx, yo, hy, rfl⟩ := hc
    obtain ⟨kt, e', hu, hk⟩ := keyT_ok hk
    simp only [mapElem, hu, Option.some.injEq] at he
    subst he
    exact mapEntry_ok hr ht hu hk hz hx hy ho hs
  · rename_i t m s x ho
    simp only [Option.bind_eq_bind, Option.bind_eq_some_iff, Option.some.injEq, XC.ins.injEq] at hc
    obtain ⟨xo, hx, yo, hy, zo, hz, rfl⟩ := hc
    exact entryStore_ok hr ht hx hy hz ho hs
  · rename_i t x ho
    split at hc
    · rename_i hu
      simp only [Option.bind_eq_bind, Option.bind_eq_some_iff, Option.some.injEq, XC.ins.injEq] at hc
      obtain ⟨xo, hx, rfl⟩ := hc
      exact rangeStr_ok hr ht hu hx ho hs
    · rename_i k e hu
      simp only [Option.bind_eq_bind, Option.bind_eq_some_iff, Option.some.injEq, XC.ins.injEq] at hc
      obtain ⟨xo, hx, rfl⟩ := hc
      exact rangeMap_ok hr ht hu hx ho hs
    · simp at hc
  · rename_i it s ho
    simp only [Option.bind_eq_bind, Option.bind_eq_some_iff, Option.some.injEq, XC.ins.injEq] at hc
    obtain ⟨xo, hx, rfl⟩ := hc
    cases s with
    | true => exact nextStr_ok hr ht hx ho hs
    | false => exact nextMap_ok hr ht hx ho hs
  · rename_i it ho
    simp only [Option.bind_eq_bind, Option.bind_eq_some_iff, Option.some.injEq, XC.ins.injEq] at hc
    obtain ⟨xo, hx, rfl⟩ := hc
    exact entry_ok hr ht hx ho hs
  · rename_i x xt t ok ho
    split at hc
    · simp at hc
    · simp at hc
    · rename_i d hne hd
      simp only [Option.bind_eq_bind, Option.bind_eq_some_iff, Option.some.injEq, XC.ins.injEq] at hc
      obtain ⟨z, hz, xo, hx, rfl⟩ := hc
      exact tas_ok hr ht hd (fun ms q => hne ms q) hz hx ho hs
  · rename_i x j ho
    simp only [Option.bind_eq_bind, Option.bind_eq_some_iff, Option.some.injEq, XC.ins.injEq] at hc
    obtain ⟨xo, hx, rfl⟩ := hc
    exact extr_ok hr ht hx ho hs
  · rename_i c ho
    split at hc
    · rename_i f hcal
      simp only [Option.bind_eq_bind, Option.bind_eq_some_iff] at hc
      obtain ⟨xs, hxs, fn, hf, hc⟩ := hc
      split at hc
      · simp at hc
      · rename_i hb
        exact copExt_ok hr ht ho hcal hf hb hxs hc hs
    · simp [Option.bind_eq_some_iff] at hc
    · simp [Option.bind_eq_some_iff] at hc
    · rename_i b hcal
      exact copBuiltin_ok hr ht hcal hc ho hs
  · split at hc
    · split at hc <;> simp [Option.bind_eq_some_iff] at hc
    · simp at hc
  · simp [Option.bind_eq_some_iff] at hc
  · simp at hc
theorem copOp_ok {rnd : Bool} (hr : HR P κ h w) (ht : TR κ n tm a.tmps) {i : XI} (hc : copOp P rnd o = .ins i) (hs : i.sem tm h = .ok v h') : OpRes P o a κ h w v h' := by
  unfold copOp at hc
  split at hc
  · rename_i x hx
    subst hc
    exact copOpO_ok hr ht hx hs
  · simp only [XC.ins.injEq] at hc
    subst hc
    simp [XI.sem] at hs
end
end Go.X
