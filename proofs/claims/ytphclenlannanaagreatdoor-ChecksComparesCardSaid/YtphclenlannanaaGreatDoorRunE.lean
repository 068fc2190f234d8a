/- Runs of the program's own functions on data, checked by the kernel: rows of tables (what a call comes to), for the run of foregonelaw25.sane. No conditions. -/
import Derived.Test.YtphclenlannanaaGreatDoorRunD
namespace Go.Proofs.YtphclenlannanaaGreatDoor
open Go Go.Proofs Go.X
set_option maxRecDepth 1000000
noncomputable def L57_0 : List Ent := [⟨[ov327, (vi 100)], true, (fp 104), ol368, ol635, (fp 2381), (.tuple [(.agg [(.slice (fp 2156) 0 6 (.up 1)), (.slice (fp 250) 0 1 (.up 1)), (.slice (fp 2160) 0 6 (.up 2))]), (.int .i64 (.negSucc 0)), (vi 0), (vi 0)])⟩]
noncomputable def T57_0 : Tab := .node 100 L57_0 .leaf .leaf
theorem rT57_0 : rowT E5 400 57 T57_0 okR = okR := by kernel_rfl
theorem oT57_0 : OrcOK Tryz.prog 57 T57_0 := (orc_of_rowT hmix e5 rT57_0).1
noncomputable def L57_1 : List Ent := [⟨[ov370, (vi 100)], true, (fp 2578), ol410, ol655, (hp 4855), (.tuple [(.agg [(.slice (hp 4630) 0 6 (.up 1)), (.slice (fp 2724) 0 1 (.up 1)), (.slice (hp 4634) 0 6 (.up 2))]), (.int .i64 (.negSucc 0)), (vi 0), (vi 0)])⟩]
noncomputable def T57_1 : Tab := .node 100 L57_1 .leaf .leaf
theorem rT57_1 : rowT E5 400 57 T57_1 okR = okR := by kernel_rfl
theorem oT57_1 : OrcOK Tryz.prog 57 T57_1 := (orc_of_rowT hmix e5 rT57_1).1
noncomputable def L57_2 : List Ent := [⟨[ov412, (vi 100)], true, (hp 5546), ol414, ol674, (hp 7823), (.tuple [(.agg [(.slice (hp 7598) 0 6 (.up 1)), (.slice (hp 5692) 0 1 (.up 1)), (.slice (hp 7602) 0 6 (.up 2))]), (.int .i64 (.negSucc 0)), (vi 0), (vi 0)])⟩]
noncomputable def T57_2 : Tab := .node 100 L57_2 .leaf .leaf
theorem rT57_2 : rowT E5 400 57 T57_2 okR = okR := by kernel_rfl
theorem oT57_2 : OrcOK Tryz.prog 57 T57_2 := (orc_of_rowT hmix e5 rT57_2).1
noncomputable def L57_3 : List Ent := [⟨[ov416, (vi 100)], true, (hp 8224), ol421, ol693, (hp 10501), (.tuple [(.agg [(.slice (hp 10276) 0 6 (.up 1)), (.slice (hp 8370) 0 1 (.up 1)), (.slice (hp 10280) 0 6 (.up 2))]), (.int .i64 (.negSucc 0)), (vi 0), (vi 0)])⟩]
noncomputable def T57_3 : Tab := .node 100 L57_3 .leaf .leaf
theorem rT57_3 : rowT E5 400 57 T57_3 okR = okR := by kernel_rfl
theorem oT57_3 : OrcOK Tryz.prog 57 T57_3 := (orc_of_rowT hmix e5 rT57_3).1
noncomputable def L57_4 : List Ent := [⟨[ov423, (vi 100)], true, (hp 10778), ol458, ol712, (hp 13055), (.tuple [(.agg [(.slice (hp 12830) 0 6 (.up 1)), (.slice (hp 10924) 0 1 (.up 1)), (.slice (hp 12834) 0 6 (.up 2))]), (.int .i64 (.negSucc 0)), (vi 0), (vi 0)])⟩]
noncomputable def T57_4 : Tab := .node 100 L57_4 .leaf .leaf
theorem rT57_4 : rowT E5 400 57 T57_4 okR = okR := by kernel_rfl
theorem oT57_4 : OrcOK Tryz.prog 57 T57_4 := (orc_of_rowT hmix e5 rT57_4).1
noncomputable def L57_5 : List Ent := [⟨[ov460, (vi 100)], true, (hp 15075), ol453, ol743, (hp 18386), (.tuple [(.agg [(.slice (hp 18191) 0 10 (.up 1)), (.slice (hp 15221) 0 1 (.up 1)), (.slice (hp 18195) 0 12 (.up 2))]), (vi 8), (vi 12), (vi 0)])⟩]
noncomputable def T57_5 : Tab := .node 100 L57_5 .leaf .leaf
theorem rT57_5 : rowT E5 400 57 T57_5 okR = okR := by kernel_rfl
theorem oT57_5 : OrcOK Tryz.prog 57 T57_5 := (orc_of_rowT hmix e5 rT57_5).1
noncomputable def L57_6 : List Ent := [⟨[ov461, (vi 100)], true, (hp 21384), ol498, ol763, (hp 23661), (.tuple [(.agg [(.slice (hp 23436) 0 6 (.up 1)), (.slice (hp 21530) 0 1 (.up 1)), (.slice (hp 23440) 0 6 (.up 2))]), (.int .i64 (.negSucc 0)), (vi 0), (vi 0)])⟩]
noncomputable def T57_6 : Tab := .node 100 L57_6 .leaf .leaf
theorem rT57_6 : rowT E5 400 57 T57_6 okR = okR := by kernel_rfl
theorem oT57_6 : OrcOK Tryz.prog 57 T57_6 := (orc_of_rowT hmix e5 rT57_6).1
noncomputable def L57_7 : List Ent := [⟨[ov461, (vi 100)], true, (hp 24099), ol500, ol782, (hp 26376), (.tuple [(.agg [(.slice (hp 26151) 0 6 (.up 1)), (.slice (hp 24245) 0 1 (.up 1)), (.slice (hp 26155) 0 6 (.up 2))]), (.int .i64 (.negSucc 0)), (vi 0), (vi 0)])⟩]
noncomputable def T57_7 : Tab := .node 100 L57_7 .leaf .leaf
theorem rT57_7 : rowT E5 400 57 T57_7 okR = okR := by kernel_rfl
theorem oT57_7 : OrcOK Tryz.prog 57 T57_7 := (orc_of_rowT hmix e5 rT57_7).1
noncomputable def K6 : List (FuncId × Tab) := [(273, (.node 0 (L273_0 ++ (L273_1 ++ (L273_2 ++ (L273_3 ++ L273_4)))) .leaf .leaf)), (347, T347_0), (184, T184_0), (38, (.node 0 (L38_0 ++ (L38_1 ++ (L38_2 ++ (L38_3 ++ (L38_4 ++ L38_5))))) .leaf .leaf)), (90, (.node 0 (L90_0 ++ (L90_1 ++ (L90_2 ++ L90_3))) .leaf .leaf)), (65, (.node 0 (L65_0 ++ (L65_1 ++ (L65_2 ++ (L65_3 ++ (L65_4 ++ (L65_5 ++ (L65_6 ++ (L65_7 ++ (L65_8 ++ (L65_9 ++ L65_10)))))))))) .leaf .leaf)), (176, T176_0), (57, (.node 100 (L57_0 ++ (L57_1 ++ (L57_2 ++ (L57_3 ++ (L57_4 ++ (L57_5 ++ (L57_6 ++ L57_7))))))) .leaf .leaf))]
theorem k6 : ∀ q ∈ K6, OrcOK Tryz.prog q.1 q.2 := by
  unfold K6
  refine List.forall_mem_cons.2 ⟨(orc_two oT273_0 (orc_two oT273_1 (orc_two oT273_2 (orc_two oT273_3 oT273_4)))), ?_⟩
  refine List.forall_mem_cons.2 ⟨oT347_0, ?_⟩
  refine List.forall_mem_cons.2 ⟨oT184_0, ?_⟩
  refine List.forall_mem_cons.2 ⟨(orc_two oT38_0 (orc_two oT38_1 (orc_two oT38_2 (orc_two oT38_3 (orc_two oT38_4 oT38_5))))), ?_⟩
  refine List.forall_mem_cons.2 ⟨(orc_two oT90_0 (orc_two oT90_1 (orc_two oT90_2 oT90_3))), ?_⟩
  refine List.forall_mem_cons.2 ⟨(orc_two oT65_0 (orc_two oT65_1 (orc_two oT65_2 (orc_two oT65_3 (orc_two oT65_4 (orc_two oT65_5 (orc_two oT65_6 (orc_two oT65_7 (orc_two oT65_8 (orc_two oT65_9 oT65_10)))))))))), ?_⟩
  refine List.forall_mem_cons.2 ⟨oT176_0, ?_⟩
  refine List.forall_mem_cons.2 ⟨(orc_two oT57_0 (orc_two oT57_1 (orc_two oT57_2 (orc_two oT57_3 (orc_two oT57_4 (orc_two oT57_5 (orc_two oT57_6 oT57_7))))))), ?_⟩
  simp
noncomputable def E6 : XEnv := envOf Tryz.prog (methOf Tryz.prog) srt (tabOf K6)
theorem e6 : EnvOK Tryz.prog E6 := envP_ok srtOK (tabOf_ok k6)
-- LEVEL 5
end Go.Proofs.YtphclenlannanaaGreatDoor
