/- Runs of the program's own functions on data, checked by the kernel: rows of tables (what a call comes to), for the run of foregonelaw25.sane. No conditions. -/
import Derived.Test.YtphclenlannanaaGreatDoorRunF
namespace Go.Proofs.YtphclenlannanaaGreatDoor
open Go Go.Proofs Go.X
set_option maxRecDepth 1000000
noncomputable def L4_0 : List Ent := [ro [] (.bool true)]
noncomputable def T4_0 : Tab := .node 0 L4_0 .leaf .leaf
theorem rT4_0 : rowT E8 400 4 T4_0 okR = okR := by kernel_rfl
theorem oT4_0 : OrcOK Tryz.prog 4 T4_0 := (orc_of_rowT hmix e8 rT4_0).1
noncomputable def K9 : List (FuncId × Tab) := [(273, (.node 0 (L273_0 ++ (L273_1 ++ (L273_2 ++ (L273_3 ++ L273_4)))) .leaf .leaf)), (347, T347_0), (184, T184_0), (38, (.node 0 (L38_0 ++ (L38_1 ++ (L38_2 ++ (L38_3 ++ (L38_4 ++ L38_5))))) .leaf .leaf)), (90, (.node 0 (L90_0 ++ (L90_1 ++ (L90_2 ++ L90_3))) .leaf .leaf)), (65, (.node 0 (L65_0 ++ (L65_1 ++ (L65_2 ++ (L65_3 ++ (L65_4 ++ (L65_5 ++ (L65_6 ++ (L65_7 ++ (L65_8 ++ (L65_9 ++ L65_10)))))))))) .leaf .leaf)), (176, T176_0), (57, (.node 100 (L57_0 ++ (L57_1 ++ (L57_2 ++ (L57_3 ++ (L57_4 ++ (L57_5 ++ (L57_6 ++ L57_7))))))) .leaf .leaf)), (11, (.node 100 (L11_0 ++ (L11_1 ++ (L11_2 ++ (L11_3 ++ L11_4)))) .leaf .leaf)), (16, T16_0), (4, (.node 0 L4_0 .leaf .leaf))]
theorem k9 : ∀ q ∈ K9, OrcOK Tryz.prog q.1 q.2 := by
  unfold K9
  refine List.forall_mem_cons.2 ⟨(orc_two oT273_0 (orc_two oT273_1 (orc_two oT273_2 (orc_two oT273_3 oT273_4)))), ?_⟩
  refine List.forall_mem_cons.2 ⟨oT347_0, ?_⟩
  refine List.forall_mem_cons.2 ⟨oT184_0, ?_⟩
  refine List.forall_mem_cons.2 ⟨(orc_two oT38_0 (orc_two oT38_1 (orc_two oT38_2 (orc_two oT38_3 (orc_two oT38_4 oT38_5))))), ?_⟩
  refine List.forall_mem_cons.2 ⟨(orc_two oT90_0 (orc_two oT90_1 (orc_two oT90_2 oT90_3))), ?_⟩
  refine List.forall_mem_cons.2 ⟨(orc_two oT65_0 (orc_two oT65_1 (orc_two oT65_2 (orc_two oT65_3 (orc_two oT65_4 (orc_two oT65_5 (orc_two oT65_6 (orc_two oT65_7 (orc_two oT65_8 (orc_two oT65_9 oT65_10)))))))))), ?_⟩
  refine List.forall_mem_cons.2 ⟨oT176_0, ?_⟩
  refine List.forall_mem_cons.2 ⟨(orc_two oT57_0 (orc_two oT57_1 (orc_two oT57_2 (orc_two oT57_3 (orc_two oT57_4 (orc_two oT57_5 (orc_two oT57_6 oT57_7))))))), ?_⟩
  refine List.forall_mem_cons.2 ⟨(orc_two oT11_0 (orc_two oT11_1 (orc_two oT11_2 (orc_two oT11_3 oT11_4)))), ?_⟩
  refine List.forall_mem_cons.2 ⟨oT16_0, ?_⟩
  refine List.forall_mem_cons.2 ⟨oT4_0, ?_⟩
  simp
noncomputable def E9 : XEnv := envOf Tryz.prog (methOf Tryz.prog) srt (tabOf K9)
theorem e9 : EnvOK Tryz.prog E9 := envP_ok srtOK (tabOf_ok k9)
-- LEVEL 8
end Go.Proofs.YtphclenlannanaaGreatDoor
