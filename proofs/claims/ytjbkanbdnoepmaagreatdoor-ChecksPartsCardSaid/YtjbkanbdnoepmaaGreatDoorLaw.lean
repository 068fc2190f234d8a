/- For all formulas that lie in memory: a call of foregonelaw25.ChecksParts returns true, and all memory that was there stays as it was. No conditions. -/
import Derived.Test.YtjbkanbdnoepmaaGreatDoorCpOpen
import Derived.Test.YtjbkanbdnoepmaaGreatDoorRunG
namespace Go.X
open Go
theorem orc_of {P : Program} {m : TypeId → String → Option FuncId} {srt : FuncId → Option (FuncId × TypeId)} {orcs : FuncId → Option Tab} {f : FuncId} {g : Tab} (h : (fnOf P (trieOf P) f).isSome = true) (hs : srt f = none) (ho : orcs f = some g) : ∃ b r, (envOf P m srt orcs).fn f = some (.orc g b r) := by
  cases hf : fnOf P (trieOf P) f with
  | none => rw [hf] at h; simp at h
  | some x =>
    obtain ⟨fn, _, h2⟩ := fnOf_some hf
    obtain ⟨b, r, rfl⟩ := copFun_code h2
    exact ⟨b, r, by simp only [envOf, hf, hs, ho, withOrc]⟩
end Go.X
namespace Go.Proofs.YtjbkanbdnoepmaaGreatDoor
open Go Go.Proofs Go.X
noncomputable def ES : XEnv := envOf Tryz.prog (methOf Tryz.prog) (fun _ => none) (tabOf [(4, T4_0)])
theorem eS : EnvOK Tryz.prog ES := envP_ok srtOK_none (tabOf_ok (List.forall_mem_cons.2 ⟨oT4_0, by simp⟩))
theorem fn4 : (fnOf Tryz.prog (trieOf Tryz.prog) 4).isSome = true := by kernel_rfl
set_option maxRecDepth 100000 in
theorem sane_calls (h : Heap) : CallT ES (.func n_sane [] []) [] h fun r h' => r = .bool true ∧ h' = h := by
  obtain ⟨b, r, hf⟩ := orc_of (m := methOf Tryz.prog) (srt := fun _ => none) (orcs := tabOf [(4, T4_0)]) (g := T4_0) fn4 rfl rfl
  exact CallT.row (t := T4_0) hf (v := .bool true) (h' := h) (fun k n => by kernel_rfl) ⟨rfl, rfl⟩
theorem fn_law : ES.fn n_law = some (.code c_law r_law) := by kernel_rfl
theorem fn_temp : ES.fn n_temp = some (.code c_temp r_temp) := by kernel_rfl
theorem fn_sameTemps : ES.fn n_sameTemps = some (.code c_sameTemps r_sameTemps) := by kernel_rfl
theorem fn_parts : ES.fn n_parts = some (.code c_parts r_parts) := by kernel_rfl
theorem fn_rparts : ES.fn n_rparts = some (.code c_rparts r_rparts) := by kernel_rfl
theorem fn_safe : ES.fn n_safe = some (.code c_safe r_safe) := by kernel_rfl
theorem fn_rsafe : ES.fn n_rsafe = some (.code c_rsafe r_rsafe) := by kernel_rfl
theorem fn_expr : ES.fn n_expr = some (.code c_expr r_expr) := by kernel_rfl
theorem fn_equalF : ES.fn n_equalF = some (.code c_equalF r_equalF) := by kernel_rfl
theorem fn_sameT1 : ES.fn n_sameT1 = some (.code c_sameT1 r_sameT1) := by kernel_rfl
theorem fn_sameE : ES.fn n_sameE = some (.code c_sameE r_sameE) := by kernel_rfl
theorem fn_contF : ES.fn n_contF = some (.code c_contF r_contF) := by kernel_rfl
theorem fn_safe1 : ES.fn n_safe1 = some (.code c_safe1 r_safe1) := by kernel_rfl
theorem fn_always : ES.fn n_always = some (.code c_always r_always) := by kernel_rfl
theorem fn_ofStates : ES.fn n_ofStates = some (.code c_ofStates r_ofStates) := by kernel_rfl
theorem fn_val : ES.fn n_val = some (.code c_val r_val) := by kernel_rfl
theorem fn_exprs : ES.fn n_exprs = some (.code c_exprs r_exprs) := by kernel_rfl
theorem fn_equalS : ES.fn n_equalS = some (.code c_equalS r_equalS) := by kernel_rfl
theorem fn_same : ES.fn n_same = some (.code c_same r_same) := by kernel_rfl
theorem fn_indexF : ES.fn n_indexF = some (.code c_indexF r_indexF) := by kernel_rfl
theorem fn_ralways : ES.fn n_ralways = some (.code c_ralways r_ralways) := by kernel_rfl
theorem fn_vals : ES.fn n_vals = some (.code c_vals r_vals) := by kernel_rfl
theorem fn_compare : ES.fn n_compare = some (.code c_compare r_compare) := by kernel_rfl
theorem fn_cmp : ES.fn n_cmp = some (.code c_cmp r_cmp) := by kernel_rfl
theorem fn_compareI : ES.fn n_compareI = some (.code c_compareI r_compareI) := by kernel_rfl
theorem fn_strCmp : ES.fn n_strCmp = some (.code c_strCmp r_strCmp) := by kernel_rfl
theorem fn_compareL : ES.fn n_compareL = some (.code c_compareL r_compareL) := by kernel_rfl
theorem fn_sizes : ES.fn n_sizes = some (.code c_sizes r_sizes) := by kernel_rfl
theorem fn_bstr : ES.fn n_bstr = some (.code c_bstr r_bstr) := by kernel_rfl
theorem code : Go.X.Code ES := ⟨fn_law, fn_temp, fn_sameTemps, fn_parts, fn_rparts, fn_safe, fn_rsafe, fn_expr, fn_equalF, fn_sameT1, fn_sameE, fn_contF, fn_safe1, fn_always, fn_ofStates, fn_val, fn_exprs, fn_equalS, fn_same, fn_indexF, fn_ralways, fn_vals, fn_compare, fn_cmp, fn_compareI, fn_strCmp, fn_compareL, fn_sizes, fn_bstr⟩
theorem law_here (t : DT) (hok : t.ok) (w : World) (A : Array Value) (hA : VRl (Kp.all w) [.agg t.cells] A.toList) : Calls Tryz.prog 3 A w fun e w' => e = .returned (.bool true) ∧ ∃ κ' h', Ext Tryz.prog (Kp.all w) ⟨.first, .leaf⟩ w κ' h' w' :=
  law_calls hmix eS code sane_calls t hok w A hA
theorem types : Types Tryz.prog 3 4 9 23 22 25 28 26 31 29 34 32 where
  i := Tryz.underlying3
  b := Tryz.underlying4
  s := Tryz.underlying9
  is := Tryz.underlying23
  ss := Tryz.underlying22
  vs := Tryz.underlying26
  es := Tryz.underlying29
  ts := Tryz.underlying32
  z := ⟨_, Tryz.underlying25, by kernel_rfl⟩
  v := ⟨_, Tryz.underlying28, by kernel_rfl⟩
  e := ⟨_, Tryz.underlying31, by kernel_rfl⟩
  t := ⟨_, Tryz.underlying34, by kernel_rfl⟩
  ci := by kernel_rfl
  cb := by kernel_rfl
  cs := by kernel_rfl
  cis := by kernel_rfl
  css := by kernel_rfl
  cvs := by kernel_rfl
  ces := by kernel_rfl
  cts := by kernel_rfl
  cz := by kernel_rfl
  cv := by kernel_rfl
  ce := by kernel_rfl
  ct := by kernel_rfl
end Go.Proofs.YtjbkanbdnoepmaaGreatDoor
