/- The instructions of X against the model's operations: equality of arrays of plain elements; the library's functions without a body. -/
import Derived.Test.YtplboahkpmiofaaGreatDoorXxOp13
import Derived.ChangeKeysEq
namespace Go.X
open Go

section
variable {P : Program} {κ : Kp} {h h' : Heap} {w : World} {n : Nat} {tm : Tm} {a : Act} {o : Oper} {v : AV}

theorem eqItems_ok (d : Nat) {e : TypeId} {k : SK} (hk : plainK P e = some k) {xs ys : Array Value} : ∀ {m i : Nat} {as bs : List AV} {r : Bool}, VRl κ as (xs.toList.drop i) → VRl κ bs (ys.toList.drop i) → sameL (List.replicate m (some k)) as bs = some r →
    (Op.eqItems (d + 1) e 1 xs ys (List.range' i m)).run P w = .ok r w
  | 0, i, as, bs, r, ha, hb, hs => by
    cases as <;> cases bs <;> simp [sameL] at hs
    subst hs; rfl
  | m + 1, i, as, bs, r, ha, hb, hs => by
    simp only [List.replicate_succ] at hs
    cases as <;> cases bs <;> simp only [sameL, reduceCtorEq] at hs
    rename_i c as e' bs
    simp only [VRl] at ha hb
    obtain ⟨x, X, a1, a2, a3⟩ := ha
    obtain ⟨y, Y, b1, b2, b3⟩ := hb
    have hX : X = xs.toList.drop (i + 1) := by rw [← List.drop_drop, a1]; rfl
    have hY : Y = ys.toList.drop (i + 1) := by rw [← List.drop_drop, b1]; rfl
    subst hX; subst hY
    have hx : xs[i]? = some x := by
      have := congrArg (·[0]?) a1
      simpa using this
    have hy : ys[i]? = some y := by
      have := congrArg (·[0]?) b1
      simpa using this
    obtain ⟨f1, f2, f3⟩ := plainK_ok hk
    cases hv : sameV k c e' with
    | none => rw [hv] at hs; simp at hs
    | some q =>
      rw [hv] at hs
      have he := equalIn_ok (P := P) (w := w) f1 hv a2 b2 d
      simp only [List.range'_succ, Op.eqItems, Nat.mul_one, Sem.run_bind, run_partOne f3 hx, run_partOne f3 hy, Result.andThen_ok, he]
      cases q with
      | true => simp only [Bool.not_true, Bool.false_eq_true, if_false]; exact eqItems_ok d hk a3 b3 hs
      | false =>
        simp only [Option.some.injEq] at hs
        subst hs
        simp
theorem sameCellsArr_ok (hr : HR P κ h w) (ht : TR κ n tm a.tmps) {neg : Bool} {t yt e : TypeId} {m : Nat} (hu : P.underlying t = some (.array m e)) (hsz : szOf P e = some 1) {mask : List (Option SK)} (hm : maskOf P t = some mask) {x y : Operand} {xo yo : XO} (hx : opnd x = some xo) (hy : opnd y = some yo)
    (ho : o.op = .binOp (eqlOf neg) t x y yt) (hs : sameCellsS neg mask xo yo tm h = .ok v h') : OpRes P o a κ h w v h' := by
  obtain ⟨u, h1, h2⟩ := withO_ok hs
  obtain ⟨c, h3, h4⟩ := withO_ok h2
  have e1 := opnd_ok ht hx h1
  have e2 := opnd_ok ht hy h3
  cases u <;> cases c <;> first | (simp at h4; done) | skip
  rename_i as bs
  simp only [VR] at e1 e2
  obtain ⟨xs, e1, _, a1⟩ := e1
  obtain ⟨ys, e2, _, b1⟩ := e2
  dsimp only at h4
  cases hv : sameL mask as bs with
  | none => rw [hv] at h4; simp at h4
  | some r =>
    rw [hv] at h4
    simp only [okB, Out.ok.injEq] at h4
    obtain ⟨rfl, rfl⟩ := h4
    simp only [maskOf, hu] at hm
    split at hm
    · simp at hm
    · rename_i hcond
      simp only [Bool.or_eq_true, not_or, Bool.not_eq_true] at hcond
      simp only [Option.map_eq_some_iff] at hm
      obtain ⟨k, hk, rfl⟩ := hm
      simp only [szOf, Option.map_eq_some_iff] at hsz
      obtain ⟨i, hi, hone⟩ := hsz
      have hc : P.cellsOf e = 1 := by simp [Program.cellsOf, hi, hone]
      have he : (Op.equal t (.agg xs) (.agg ys)).run P w = .ok r w := by
        have := run_equalIn_array (P := P) (w := w) 9999 xs ys hu hi
        simp only [Op.equal, Op.maxDepth]
        rw [this, hc, List.range_eq_range']
        exact eqItems_ok 9998 hk (by simpa using a1) (by simpa using b1) hv
      refine .pure (v' := .bool (negIf neg r)) hr (by simp only [VR]) (run_binOper ho ?_ ?_)
      · rw [e1, e2]; exact run_eqGuard_agg w _ t x y xs ys hcond.2
      · rw [e1, e2]
        exact run_eqlOf neg (fun op => ⟨fun q => by subst q; rfl, fun q => by subst q; rfl⟩) he
end
end Go.X
