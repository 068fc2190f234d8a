/- For all verdicts that lie in memory: a call of foregonelaw25.ChecksCompares returns true, and all memory that was there stays as it was. No conditions. -/
import Derived.Test.YtphclenlannanaaGreatDoorCpOpen
import Derived.Test.YtphclenlannanaaGreatDoorRunG
namespace Go.X
open Go
theorem orc_of {P : Program} {m : TypeId → String → Option FuncId} {srt : FuncId → Option (FuncId × TypeId)} {orcs : FuncId → Option Tab} {f : FuncId} {g : Tab} (h : (fnOf P (trieOf P) f).isSome = true) (hs : srt f = none) (ho : orcs f = some g) : ∃ b r, (envOf P m srt orcs).fn f = some (.orc g b r) := by
  cases hf : fnOf P (trieOf P) f with
  | none => rw [hf] at h; simp at h
  | some x =>
    obtain ⟨fn, _, h2⟩ := fnOf_some hf
    obtain ⟨b, r, rfl⟩ := copFun_code h2
    exact ⟨b, r, by simp only [envOf, hf, hs, ho, withOrc]⟩
end Go.X
namespace Go.Proofs.YtphclenlannanaaGreatDoor
open Go Go.Proofs Go.X
noncomputable def ES : XEnv := envOf Tryz.prog (methOf Tryz.prog) (fun _ => none) (tabOf [(4, T4_0)])
theorem eS : EnvOK Tryz.prog ES := envP_ok srtOK_none (tabOf_ok (List.forall_mem_cons.2 ⟨oT4_0, by simp⟩))
theorem fn4 : (fnOf Tryz.prog (trieOf Tryz.prog) 4).isSome = true := by kernel_rfl
set_option maxRecDepth 100000 in
theorem sane_calls (h : Heap) : CallT ES (.func n_sane [] []) [] h fun r h' => r = .bool true ∧ h' = h := by
  obtain ⟨b, r, hf⟩ := orc_of (m := methOf Tryz.prog) (srt := fun _ => none) (orcs := tabOf [(4, T4_0)]) (g := T4_0) fn4 rfl rfl
  exact CallT.row (t := T4_0) hf (v := .bool true) (h' := h) (fun k n => by kernel_rfl) ⟨rfl, rfl⟩
theorem fn_law : ES.fn n_law = some (.code c_law r_law) := by kernel_rfl
theorem fn_light : ES.fn n_light = some (.code c_light r_light) := by kernel_rfl
theorem fn_val : ES.fn n_val = some (.code c_val r_val) := by kernel_rfl
theorem fn_vals : ES.fn n_vals = some (.code c_vals r_vals) := by kernel_rfl
theorem fn_concat : ES.fn n_concat = some (.code c_concat r_concat) := by kernel_rfl
theorem fn_grow : ES.fn n_grow = some (.code c_grow r_grow) := by kernel_rfl
theorem fn_cCompare : ES.fn n_cCompare = some (.code c_cCompare r_cCompare) := by kernel_rfl
theorem fn_rCompare : ES.fn n_rCompare = some (.code c_rCompare r_rCompare) := by kernel_rfl
theorem fn_cSame : ES.fn n_cSame = some (.code c_cSame r_cSame) := by kernel_rfl
theorem fn_rSame : ES.fn n_rSame = some (.code c_rSame r_rSame) := by kernel_rfl
theorem fn_orF : ES.fn n_orF = some (.code c_orF r_orF) := by kernel_rfl
theorem fn_cmpI : ES.fn n_cmpI = some (.code c_cmpI r_cmpI) := by kernel_rfl
theorem fn_nanI : ES.fn n_nanI = some (.code c_nanI r_nanI) := by kernel_rfl
theorem fn_cfR : ES.fn n_cfR = some (.code c_cfR r_cfR) := by kernel_rfl
theorem fn_mStates : ES.fn n_mStates = some (.code c_mStates r_mStates) := by kernel_rfl
theorem fn_sign : ES.fn n_sign = some (.code c_sign r_sign) := by kernel_rfl
theorem fn_rStates : ES.fn n_rStates = some (.code c_rStates r_rStates) := by kernel_rfl
theorem fn_csame : ES.fn n_csame = some (.code c_csame r_csame) := by kernel_rfl
theorem fn_sameAll : ES.fn n_sameAll = some (.code c_sameAll r_sameAll) := by kernel_rfl
theorem fn_cfV : ES.fn n_cfV = some (.code c_cfV r_cfV) := by kernel_rfl
theorem fn_vCompare : ES.fn n_vCompare = some (.code c_vCompare r_vCompare) := by kernel_rfl
theorem fn_rvCompare : ES.fn n_rvCompare = some (.code c_rvCompare r_rvCompare) := by kernel_rfl
theorem fn_efR : ES.fn n_efR = some (.code c_efR r_efR) := by kernel_rfl
theorem fn_same1 : ES.fn n_same1 = some (.code c_same1 r_same1) := by kernel_rfl
theorem fn_efV : ES.fn n_efV = some (.code c_efV r_efV) := by kernel_rfl
theorem fn_vSame : ES.fn n_vSame = some (.code c_vSame r_vSame) := by kernel_rfl
theorem fn_rLists : ES.fn n_rLists = some (.code c_rLists r_rLists) := by kernel_rfl
theorem fn_integers : ES.fn n_integers = some (.code c_integers r_integers) := by kernel_rfl
theorem fn_cmpS : ES.fn n_cmpS = some (.code c_cmpS r_cmpS) := by kernel_rfl
theorem fn_lists : ES.fn n_lists = some (.code c_lists r_lists) := by kernel_rfl
theorem fn_rInt : ES.fn n_rInt = some (.code c_rInt r_rInt) := by kernel_rfl
theorem fn_strCmp : ES.fn n_strCmp = some (.code c_strCmp r_strCmp) := by kernel_rfl
theorem fn_nanS : ES.fn n_nanS = some (.code c_nanS r_nanS) := by kernel_rfl
theorem fn_sizes : ES.fn n_sizes = some (.code c_sizes r_sizes) := by kernel_rfl
theorem fn_bstr : ES.fn n_bstr = some (.code c_bstr r_bstr) := by kernel_rfl
theorem fn_rcmp : ES.fn n_rcmp = some (.code c_rcmp r_rcmp) := by kernel_rfl
theorem code : Go.X.Code ES := ⟨fn_law, fn_light, fn_val, fn_vals, fn_concat, fn_grow, fn_cCompare, fn_rCompare, fn_cSame, fn_rSame, fn_orF, fn_cmpI, fn_nanI, fn_cfR, fn_mStates, fn_sign, fn_rStates, fn_csame, fn_sameAll, fn_cfV, fn_vCompare, fn_rvCompare, fn_efR, fn_same1, fn_efV, fn_vSame, fn_rLists, fn_integers, fn_cmpS, fn_lists, fn_rInt, fn_strCmp, fn_nanS, fn_sizes, fn_bstr, fn_rcmp⟩
theorem law_here (a b : DVd) (hok : a.ok) (hok' : b.ok) (w : World) (A : Array Value) (hA : VRl (Kp.all w) [.agg a.cells, .agg b.cells] A.toList) : Calls Tryz.prog 3 A w fun e w' => e = .returned (.bool true) ∧ ∃ κ' h', Ext Tryz.prog (Kp.all w) ⟨.first, .leaf⟩ w κ' h' w' :=
  law_calls hmix eS code sane_calls hok hok' w A hA
theorem types : Types Tryz.prog 3 4 9 32 31 34 37 35 40 38 64 62 where
  i := Tryz.underlying3
  b := Tryz.underlying4
  s := Tryz.underlying9
  is := Tryz.underlying32
  ss := Tryz.underlying31
  vs := Tryz.underlying35
  es := Tryz.underlying38
  ts := Tryz.underlying62
  z := ⟨_, Tryz.underlying34, by kernel_rfl⟩
  v := ⟨_, Tryz.underlying37, by kernel_rfl⟩
  e := ⟨_, Tryz.underlying40, by kernel_rfl⟩
  t := ⟨_, Tryz.underlying64, by kernel_rfl⟩
  ci := by kernel_rfl
  cb := by kernel_rfl
  cs := by kernel_rfl
  cis := by kernel_rfl
  css := by kernel_rfl
  cvs := by kernel_rfl
  ces := by kernel_rfl
  cts := by kernel_rfl
  cz := by kernel_rfl
  cv := by kernel_rfl
  ce := by kernel_rfl
  ct := by kernel_rfl
theorem typesV : TypesV Tryz.prog 3 35 22 24 26 where
  sts := Tryz.underlying22
  l := ⟨_, Tryz.underlying24, by kernel_rfl⟩
  vd := ⟨_, Tryz.underlying26, by kernel_rfl⟩
  csts := by kernel_rfl
  cl := by kernel_rfl
  cvd := by kernel_rfl
  by24 := by kernel_rfl
end Go.Proofs.YtphclenlannanaaGreatDoor
