/- Runs of the program's own functions on data, checked by the kernel: rows of tables (what a call comes to), for the run of foregonelaw37.sane. No conditions. -/
import Derived.Test.YtmnbopcehmcaeaaGreatDoorTRunE
namespace Go.Proofs.YtmnbopcehmcaeaaGreatDoor
open Go Go.Proofs Go.X
set_option maxRecDepth 1000000
noncomputable def L32_0 : List Ent := [⟨[ov118, (vi 100), (.slice (fp 2607) 0 4 (.ex 4))], true, (fp 2608), ((fp 2607), (.row 83 [(vi 1), (vi 3), .nilslice, (vi 2), (vi 2), .nilslice, (vi 1), (vi 2), .nilslice, (vi 3), (vi 0), .nilslice] false)) :: ol159, ol181, (hp 6043), (.tuple [(.agg [(.slice (hp 6036) 0 6 (.up 1)), (.slice (hp 6040) 0 1 (.up 1)), (.slice (hp 6038) 0 6 (.up 2))]), (.agg [(vi 8), (vi 1), (vi 1), (vi 2)]), (vi 0), (vi 0)])⟩]
noncomputable def T32_0 : Tab := .node 100 L32_0 .leaf .leaf
theorem rT32_0 : rowT E7 400 32 T32_0 okR = okR := by kernel_rfl
theorem oT32_0 : OrcOK Tryz.prog 32 T32_0 := (orc_of_rowT hmix e7 rT32_0).1
noncomputable def L32_1 : List Ent := [⟨[ov118, (vi 100), (.slice (fp 2607) 0 4 (.ex 4))], true, (hp 6046), ((hp 6045), (.row 3 [(vi 5)] false)) :: ((fp 2607), (.row 83 [(vi 1), (vi 3), .nilslice, (vi 2), (vi 1), .nilslice, (vi 1), (vi 2), .nilslice, (vi 3), (vi 0), (.slice (hp 6045) 0 1 (.ex 1))] false)) :: ol159, ol199, (hp 10662), (.tuple [(.agg [(.slice (hp 10655) 0 6 (.up 1)), (.slice (hp 10659) 0 1 (.up 1)), (.slice (hp 10657) 0 6 (.up 2))]), (.agg [(vi 11), (vi 0), (vi 1), (vi 5)]), (vi 0), (vi 0)])⟩]
noncomputable def T32_1 : Tab := .node 100 L32_1 .leaf .leaf
theorem rT32_1 : rowT E7 400 32 T32_1 okR = okR := by kernel_rfl
theorem oT32_1 : OrcOK Tryz.prog 32 T32_1 := (orc_of_rowT hmix e7 rT32_1).1
noncomputable def K8 : List (FuncId × Tab) := [(132, (.node 0 (L132_0 ++ L132_1) .leaf .leaf)), (266, T266_0), (120, T120_0), (209, T209_0), (64, T64_0), (206, T206_0), (211, M211_9), (212, M212_3), (210, T210_0), (253, (.node 0 (L253_0 ++ (L253_1 ++ (L253_2 ++ (L253_3 ++ L253_4)))) .leaf .leaf)), (342, T342_0), (188, T188_0), (292, T292_0), (93, T93_0), (127, (.node 0 (L127_0 ++ (L127_1 ++ (L127_2 ++ (L127_3 ++ L127_4)))) .leaf .leaf)), (7, M7_2), (32, (.node 100 (L32_0 ++ L32_1) .leaf .leaf))]
theorem k8 : ∀ q ∈ K8, OrcOK Tryz.prog q.1 q.2 := by
  unfold K8
  refine List.forall_mem_cons.2 ⟨(orc_two oT132_0 oT132_1), ?_⟩
  refine List.forall_mem_cons.2 ⟨oT266_0, ?_⟩
  refine List.forall_mem_cons.2 ⟨oT120_0, ?_⟩
  refine List.forall_mem_cons.2 ⟨oT209_0, ?_⟩
  refine List.forall_mem_cons.2 ⟨oT64_0, ?_⟩
  refine List.forall_mem_cons.2 ⟨oT206_0, ?_⟩
  refine List.forall_mem_cons.2 ⟨oM211_9, ?_⟩
  refine List.forall_mem_cons.2 ⟨oM212_3, ?_⟩
  refine List.forall_mem_cons.2 ⟨oT210_0, ?_⟩
  refine List.forall_mem_cons.2 ⟨(orc_two oT253_0 (orc_two oT253_1 (orc_two oT253_2 (orc_two oT253_3 oT253_4)))), ?_⟩
  refine List.forall_mem_cons.2 ⟨oT342_0, ?_⟩
  refine List.forall_mem_cons.2 ⟨oT188_0, ?_⟩
  refine List.forall_mem_cons.2 ⟨oT292_0, ?_⟩
  refine List.forall_mem_cons.2 ⟨oT93_0, ?_⟩
  refine List.forall_mem_cons.2 ⟨(orc_two oT127_0 (orc_two oT127_1 (orc_two oT127_2 (orc_two oT127_3 oT127_4)))), ?_⟩
  refine List.forall_mem_cons.2 ⟨oM7_2, ?_⟩
  refine List.forall_mem_cons.2 ⟨(orc_two oT32_0 oT32_1), ?_⟩
  simp
noncomputable def E8 : XEnv := envOf Tryz.prog (methOf Tryz.prog) (fun _ => none) (tabOf K8)
theorem e8 : EnvOK Tryz.prog E8 := envP_ok srtOK_none (tabOf_ok k8)
-- LEVEL 7
end Go.Proofs.YtmnbopcehmcaeaaGreatDoor
