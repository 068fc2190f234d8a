/- The instructions of X against the model's operations: the library's functions without a body. -/
import Derived.Test.YtplboahkpmiofaaGreatDoorXxArr
import Derived.Lib.MakeNoZero
import Derived.Lib.Bytealg
import Derived.Laws.Externs
namespace Go.X
open Go

section
variable {P : Program} {κ : Kp} {h h' : Heap} {w : World} {n : Nat} {tm : Tm} {a : Act} {o : Oper} {v : AV}

/-- A call of a function without a body. -/
theorem run_extCall {c : Call} {f : FuncId} (ho : o.op = .call c) (hc : c.callee = .value (.func f)) : (execOp a.eval o).run P w = (callFunc f (c.args.map a.eval)).run P w := by
  simp [execOp, ho, resolve, hc, Act.eval, Deferred.ofValue, invoke]
theorem noNext {fn : Func} {s : String} (hn : fn.name = s) (ho : fn.origin = "") (h1 : Extern.allNextRows.lookup s = none) (h2 : Extern.allNextRows.lookup "" = none) : Extern.findNext fn = none := by
  simp only [Extern.findNext, hn, ho, h1, h2]; rfl
theorem noNextE : Extern.allNextRows.lookup "" = none := by kernel_rfl
theorem noNext1 : Extern.allNextRows.lookup "internal/abi.NoEscape" = none := by kernel_rfl
theorem noNext2 : Extern.allNextRows.lookup "internal/bytealg.MakeNoZero" = none := by kernel_rfl
theorem noNext3 : Extern.allNextRows.lookup "internal/bytealg.abigen_runtime_cmpstring" = none := by kernel_rfl
theorem compareBytes_eq : ∀ x y : List UInt8, Lib.compareBytes x y = match ltN (x.map UInt8.toNat) (y.map UInt8.toNat) with | true => -1 | false => match beqN (x.map UInt8.toNat) (y.map UInt8.toNat) with | true => 0 | false => 1
  | [], [] => rfl
  | [], _ :: _ => rfl
  | _ :: _, [] => rfl
  | a :: x, b :: y => by
    have ih := compareBytes_eq x y
    rw [ltN_eq, beqN_map] at ih ⊢
    simp only [Lib.compareBytes, Op.bytesLess]
    by_cases h1 : a < b
    · simp [h1]
    · by_cases h2 : b < a
      · have hne : ¬ a = b := fun e => by subst e; exact h1 h2
        have hb : (a == b) = false := by simpa using hne
        simp [h1, h2, hb]
      · have he : a = b := UInt8.le_antisymm (UInt8.not_lt.1 h2) (UInt8.not_lt.1 h1)
        subst he
        simp only [h1, if_false, ih]
        simp
theorem digits_ints : ∀ (m t : Nat) (acc : Array Value), (∀ x ∈ acc, ∃ k q, x = .int k q) → ∀ x ∈ Extern.BytealgMakeNoZero.digits m t acc, ∃ k q, x = .int k q
  | 0, _, acc, h => h
  | m + 1, t, acc, h => by
    rw [Extern.BytealgMakeNoZero.digits]
    refine digits_ints m _ _ fun x hx => ?_
    rcases Array.mem_push.1 hx with hx | rfl
    · exact h x hx
    · exact ⟨_, _, rfl⟩
theorem noEscape_ok (hr : HR P κ h w) (ht : TR κ n tm a.tmps) {c : Call} {f : FuncId} {fn : Func} (ho : o.op = .call c) (hc : c.callee = .value (.func f)) (hf : P.funcs[f]? = some fn) (hb : fn.body = none) (hn : fn.name = "internal/abi.NoEscape") (hor : fn.origin = "")
    {x : Operand} {xo : XO} (hl : c.args.toList = [x]) (hx : opnd x = some xo) (hs : mvS xo tm h = .ok v h') : OpRes P o a κ h w v h' := by
  obtain ⟨y, h1, h2⟩ := withO_ok hs
  simp only [Out.ok.injEq] at h2
  obtain ⟨rfl, rfl⟩ := h2
  refine .pure hr (opnd_ok ht hx h1) ?_
  have hfind : Extern.find fn = some Extern.AbiNoEscape.same := by
    have e1 : Extern.allGenericRows.lookup "internal/abi.NoEscape" = none := by kernel_rfl
    have e2 : Extern.allTypedRows.lookup "internal/abi.NoEscape" = none := by kernel_rfl
    have e3 : Extern.allRows.lookup "internal/abi.NoEscape" = some Extern.AbiNoEscape.same := by kernel_rfl
    simp only [Extern.find, hn, e1, e2, e3]; rfl
  rw [run_extCall ho hc, args_eq hl, run_callFunc_extern hf (by rw [hn]; rfl) (by rw [hb]; rfl) (noNext hn hor noNext1 noNextE) hfind]
  rfl
theorem run_makeNoZero' (w : World) (ps : Array TypeId) (t e : TypeId) (ht : P.underlying t = some (.slice e)) (n : Nat) (hn : n ≤ 281474976710656) :
    ∃ cs : Array Value, (Extern.BytealgMakeNoZero.makeNoZero ps #[t] #[.int .i64 n]).run P w = .ok (.slice (some ⟨w.heap.size, 0, none⟩) n cs.size) (World.new (World.draw (World.draw w)) (.cells cs e)) ∧ n ≤ cs.size ∧ ∀ x ∈ cs, ∃ k q, x = .int k q := by
  have hdef : Extern.BytealgMakeNoZero.makeNoZero ps #[t] #[.int .i64 n] =
      (do
        let .slice elem ← underlying t | stuck "bytealg.MakeNoZero: slice type expected"
        if (n : Int) < 0 || (n : Int) > 2 ^ 48 then runtimePanic (.error "makeslice: len out of range")
        let cap ← choose (.appendCap (n : Int).toNat 0 elem)
        askRoom cap
        let bytes ← choose (.extern "internal/bytealg.MakeNoZero.bytes" 0)
        let a ← newRow elem (Extern.BytealgMakeNoZero.digits cap bytes #[])
        pure (.slice (some a) (n : Int).toNat cap)) := rfl
  refine ⟨Extern.BytealgMakeNoZero.digits (grownCap w n 0 e) ((Question.extern "internal/bytealg.MakeNoZero.bytes" 0).cut (w.tape (w.drawn + 1) (.extern "internal/bytealg.MakeNoZero.bytes" 0))) #[], ?_, ?_, digits_ints _ _ _ (by simp)⟩
  · rw [hdef]
    have h1 : ¬ (n : Int) < 0 := by omega
    have h2 : ¬ (281474976710656 : Int) < (n : Int) := by omega
    simp [run_underlying ht, h1, h2, Question.forced, newRow, Lib.size_digits, grownCap, World.new, World.draw]
    try rfl
  · rw [Lib.size_digits]
    simpa using grownCap_ge w n 0 e
theorem mkbytes_ok (hr : HR P κ h w) (ht : TR κ n tm a.tmps) {c : Call} {f : FuncId} {fn : Func} (ho : o.op = .call c) (hc : c.callee = .value (.func f)) (hf : P.funcs[f]? = some fn) (hb : fn.body = none) (hn : fn.name = "internal/bytealg.MakeNoZero") (hor : fn.origin = "")
    {t e : TypeId} (hres : fn.resultTypes.toList = [t]) (hu : P.underlying t = some (.slice e)) {x : Operand} {xo : XO} (hl : c.args.toList = [x]) (hx : opnd x = some xo) (hs : mkbytesS e xo tm h = .ok v h') : OpRes P o a κ h w v h' := by
  obtain ⟨kd, m, h1, h2⟩ := withI_ok hs
  have e1 := opnd_ok ht hx h1
  simp only [VR] at e1
  split at h2
  · rename_i m
    cases hsm : small m 1 with
    | false => rw [hsm] at h2; simp at h2
    | true =>
      rw [hsm] at h2
      simp only [Heap.pushK_eq, Out.ok.injEq] at h2
      obtain ⟨rfl, rfl⟩ := h2
      have hm : m ≤ 1099511627776 := by
        have := ble_iff.1 hsm
        simpa [small] using this
      have hfind : Extern.find fn = some (Extern.BytealgMakeNoZero.makeNoZero fn.params #[t]) := by
        have e1 : Extern.allGenericRows.lookup "internal/bytealg.MakeNoZero" = none := by kernel_rfl
        have e2 : Extern.allTypedRows.lookup "internal/bytealg.MakeNoZero" = some Extern.BytealgMakeNoZero.makeNoZero := by kernel_rfl
        have e3 : fn.resultTypes = #[t] := by rw [← hres]
        simp only [Extern.find, hn, e1, e2, e3]; rfl
      obtain ⟨cs, r1, r2, r3⟩ := run_makeNoZero' (P := P) w fn.params t e hu m (by omega)
      have hcs : VRl κ (repeatL m [.any]) (cs.toList.take m) := by
        refine VRl_iff.2 ⟨by simp [repeatL_length]; omega, fun i c y hc hy => ?_⟩
        have hi : i < m := by
          have := (List.getElem?_eq_some_iff.1 hc).1
          simpa [repeatL_length] using this
        rw [repeatL_get m [AV.any] i (by simpa using hi)] at hc
        simp only [List.length_singleton, Nat.mod_one, List.getElem?_cons_zero, Option.some.injEq] at hc
        subst hc
        rw [List.getElem?_take_of_lt hi] at hy
        obtain ⟨k, q, rfl⟩ := r3 y (by rw [← Array.mem_toList_iff]; exact List.mem_of_getElem? hy)
        simp [VR]
      have hd := Ext.draw (Ext.draw hr).hr
      have hx' := newRowS_ok hd.hr (rest := cs.toList.drop m) hcs (repeatL_all (by rfl) m) e (fr := (0, 0)) (.inl rfl)
      rw [List.take_append_drop] at hx'
      refine .inl ⟨.value (.slice (some ⟨w.heap.size, 0, none⟩) m cs.size), _, _, ?_, .inl ⟨_, rfl, ?_⟩, (Ext.draw hr).trans (hd.trans hx')⟩
      · rw [run_extCall ho hc, args_eq hl, run_callFunc_extern hf (by rw [hn]; rfl) (by rw [hb]; rfl) (noNext hn hor noNext2 noNextE) hfind]
        simp only [List.map_cons, List.map_nil, e1]
        have : (#[Value.int .i64 (Int.ofNat m)] : Array Value) = #[.int .i64 (m : Int)] := rfl
        rw [this, r1]
        rfl
      · simp only [VR]
        refine ⟨_, _, cs.size, Kp.at_same _ _ _, rfl, r2, .inr rfl, ?_, by omega⟩
        simp only [List.length_take, List.length_drop, Array.length_toList]
        omega
  · simp at h2
theorem cmpstr_ok (hr : HR P κ h w) (ht : TR κ n tm a.tmps) {c : Call} {f : FuncId} {fn : Func} (ho : o.op = .call c) (hc : c.callee = .value (.func f)) (hf : P.funcs[f]? = some fn) (hb : fn.body = none) (hn : fn.name = "internal/bytealg.abigen_runtime_cmpstring") (hor : fn.origin = "")
    {x y : Operand} {xo yo : XO} (hl : c.args.toList = [x, y]) (hx : opnd x = some xo) (hy : opnd y = some yo) (hs : cmpstrS xo yo tm h = .ok v h') : OpRes P o a κ h w v h' := by
  obtain ⟨u, h1, h2⟩ := withO_ok hs
  obtain ⟨u', h3, h4⟩ := withO_ok h2
  have e1 := opnd_ok ht hx h1
  have e2 := opnd_ok ht hy h3
  split at h4
  · rename_i la lb
    simp only [okI, Out.ok.injEq] at h4
    obtain ⟨rfl, rfl⟩ := h4
    simp only [VR] at e1 e2
    obtain ⟨sa, e1, g1⟩ := e1
    obtain ⟨sb, e2, g2⟩ := e2
    refine .pure hr (v' := .int .i64 (Lib.compareBytes sa.data.toList sb.data.toList)) (by simp only [VR]; rw [compareBytes_eq, g1, g2]; try rfl) ?_
    have hfind : Extern.find fn = some Extern.BytealgCompare.compare := by
      have e1 : Extern.allGenericRows.lookup "internal/bytealg.abigen_runtime_cmpstring" = none := by kernel_rfl
      have e2 : Extern.allTypedRows.lookup "internal/bytealg.abigen_runtime_cmpstring" = none := by kernel_rfl
      have e3 : Extern.allRows.lookup "internal/bytealg.abigen_runtime_cmpstring" = some Extern.BytealgCompare.compare := by kernel_rfl
      simp only [Extern.find, hn, e1, e2, e3]; rfl
    rw [run_extCall ho hc, args_eq hl, run_callFunc_extern hf (by rw [hn]; rfl) (by rw [hb]; rfl) (noNext hn hor noNext3 noNextE) hfind]
    simp only [List.map_cons, List.map_nil, e1, e2]
    have : ([Value.string sa, Value.string sb].toArray) = #[.string sa, .string sb] := rfl
    rw [this, Lib.run_compareString]
    rfl
  · simp at h4
theorem copExt_ok (hr : HR P κ h w) (ht : TR κ n tm a.tmps) {c : Call} {f : FuncId} {fn : Func} (ho : o.op = .call c) (hc : c.callee = .value (.func f)) (hf : P.funcs[f]? = some fn) (hb : fn.body = none) {xs : List XO} (hxs : c.args.toList.mapM opnd = some xs) {i : XI} (hi : copExt P fn xs = some (.ins i))
    (hs : i.sem tm h = .ok v h') : OpRes P o a κ h w v h' := by
  unfold copExt at hi
  split at hi
  · simp at hi
  · rename_i hor
    have hor : fn.origin = "" := by simpa using hor
    split at hi
    · rename_i hn
      have hn : fn.name = "internal/abi.NoEscape" := by simpa using hn
      split at hi
      · rename_i y
        simp only [Option.some.injEq, XC.ins.injEq] at hi; subst hi
        obtain ⟨x, hl, hx⟩ := mapM_one hxs
        exact noEscape_ok hr ht ho hc hf hb hn hor hl hx hs
      · simp at hi
    · split at hi
      · rename_i hn
        have hn : fn.name = "internal/bytealg.MakeNoZero" := by simpa using hn
        split at hi
        · rename_i y t hres
          simp only [Option.map_eq_some_iff, XC.ins.injEq] at hi
          obtain ⟨e, he, rfl⟩ := hi
          obtain ⟨x, hl, hx⟩ := mapM_one hxs
          have hu : P.underlying t = some (.slice e) := by
            simp only [elemS] at he
            split at he
            · rename_i q hq; simp only [Option.some.injEq] at he; subst he; exact hq
            · simp at he
          exact mkbytes_ok hr ht ho hc hf hb hn hor hres hu hl hx hs
        · simp at hi
      · split at hi
        · rename_i hn
          have hn : fn.name = "internal/bytealg.abigen_runtime_cmpstring" := by simpa using hn
          split at hi
          · rename_i y z
            simp only [Option.some.injEq, XC.ins.injEq] at hi; subst hi
            obtain ⟨x, u, hl, hx, hy⟩ := mapM_two hxs
            exact cmpstr_ok hr ht ho hc hf hb hn hor hl hx hy hs
          · simp at hi
        · simp at hi
end
end Go.X
