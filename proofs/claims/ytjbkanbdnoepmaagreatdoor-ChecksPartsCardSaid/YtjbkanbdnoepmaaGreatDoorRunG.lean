/- Runs of the program's own functions on data, checked by the kernel: rows of tables (what a call comes to), for the run of foregonelaw25.sane. No conditions. -/
import Derived.Test.YtjbkanbdnoepmaaGreatDoorRunF
namespace Go.Proofs.YtjbkanbdnoepmaaGreatDoor
open Go Go.Proofs Go.X
set_option maxRecDepth 1000000
noncomputable def L4_0 : List Ent := [ro [] (.bool true)]
noncomputable def T4_0 : Tab := .node 0 L4_0 .leaf .leaf
theorem rT4_0 : rowT E9 400 4 T4_0 okR = okR := by kernel_rfl
theorem oT4_0 : OrcOK Tryz.prog 4 T4_0 := (orc_of_rowT hmix e9 rT4_0).1
noncomputable def K10 : List (FuncId × Tab) := [(77, (.node 0 (L77x_0 ++ (L77x_1 ++ (L77x_2 ++ (L77x_3 ++ (L77x_4 ++ (L77x_5 ++ (L77x_6 ++ L77x_7))))))) .leaf .leaf)), (271, (.node 0 (L271_0 ++ (L271_1 ++ (L271_2 ++ (L271_3 ++ L271_4)))) .leaf .leaf)), (346, T346_0), (174, T174_0), (36, (.node 0 (L36_0 ++ (L36_1 ++ (L36_2 ++ (L36_3 ++ (L36_4 ++ L36_5))))) .leaf .leaf)), (77, (.node 0 (L77_0 ++ (L77_1 ++ (L77_2 ++ L77_3))) .leaf .leaf)), (56, (.node 0 (L56_0 ++ (L56_1 ++ (L56_2 ++ (L56_3 ++ (L56_4 ++ (L56_5 ++ (L56_6 ++ (L56_7 ++ (L56_8 ++ (L56_9 ++ L56_10)))))))))) .leaf .leaf)), (166, T166_0), (46, (.node 100 (L46_0 ++ (L46_1 ++ (L46_2 ++ (L46_3 ++ (L46_4 ++ (L46_5 ++ (L46_6 ++ L46_7))))))) .leaf .leaf)), (12, (.node 100 (L12_0 ++ (L12_1 ++ (L12_2 ++ (L12_3 ++ L12_4)))) .leaf .leaf)), (17, T17_0), (4, (.node 0 L4_0 .leaf .leaf))]
theorem k10 : ∀ q ∈ K10, OrcOK Tryz.prog q.1 q.2 := by
  unfold K10
  refine List.forall_mem_cons.2 ⟨(orc_two oT77x_0 (orc_two oT77x_1 (orc_two oT77x_2 (orc_two oT77x_3 (orc_two oT77x_4 (orc_two oT77x_5 (orc_two oT77x_6 oT77x_7))))))), ?_⟩
  refine List.forall_mem_cons.2 ⟨(orc_two oT271_0 (orc_two oT271_1 (orc_two oT271_2 (orc_two oT271_3 oT271_4)))), ?_⟩
  refine List.forall_mem_cons.2 ⟨oT346_0, ?_⟩
  refine List.forall_mem_cons.2 ⟨oT174_0, ?_⟩
  refine List.forall_mem_cons.2 ⟨(orc_two oT36_0 (orc_two oT36_1 (orc_two oT36_2 (orc_two oT36_3 (orc_two oT36_4 oT36_5))))), ?_⟩
  refine List.forall_mem_cons.2 ⟨(orc_two oT77_0 (orc_two oT77_1 (orc_two oT77_2 oT77_3))), ?_⟩
  refine List.forall_mem_cons.2 ⟨(orc_two oT56_0 (orc_two oT56_1 (orc_two oT56_2 (orc_two oT56_3 (orc_two oT56_4 (orc_two oT56_5 (orc_two oT56_6 (orc_two oT56_7 (orc_two oT56_8 (orc_two oT56_9 oT56_10)))))))))), ?_⟩
  refine List.forall_mem_cons.2 ⟨oT166_0, ?_⟩
  refine List.forall_mem_cons.2 ⟨(orc_two oT46_0 (orc_two oT46_1 (orc_two oT46_2 (orc_two oT46_3 (orc_two oT46_4 (orc_two oT46_5 (orc_two oT46_6 oT46_7))))))), ?_⟩
  refine List.forall_mem_cons.2 ⟨(orc_two oT12_0 (orc_two oT12_1 (orc_two oT12_2 (orc_two oT12_3 oT12_4)))), ?_⟩
  refine List.forall_mem_cons.2 ⟨oT17_0, ?_⟩
  refine List.forall_mem_cons.2 ⟨oT4_0, ?_⟩
  simp
noncomputable def E10 : XEnv := envOf Tryz.prog (methOf Tryz.prog) srt (tabOf K10)
theorem e10 : EnvOK Tryz.prog E10 := envP_ok srtOK (tabOf_ok k10)
-- LEVEL 9
end Go.Proofs.YtjbkanbdnoepmaaGreatDoor
