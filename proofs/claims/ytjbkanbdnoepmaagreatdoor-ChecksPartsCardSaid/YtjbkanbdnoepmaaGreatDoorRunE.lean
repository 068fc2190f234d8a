/- Runs of the program's own functions on data, checked by the kernel: rows of tables (what a call comes to), for the run of foregonelaw25.sane. No conditions. -/
import Derived.Test.YtjbkanbdnoepmaaGreatDoorRunD
namespace Go.Proofs.YtjbkanbdnoepmaaGreatDoor
open Go Go.Proofs Go.X
set_option maxRecDepth 1000000
noncomputable def L46_0 : List Ent := [⟨[ov327, (vi 100)], true, (fp 104), ol368, ol635, (fp 2381), (.tuple [(.agg [(.slice (fp 2156) 0 6 (.up 1)), (.slice (fp 250) 0 1 (.up 1)), (.slice (fp 2160) 0 6 (.up 2))]), (.int .i64 (.negSucc 0)), (vi 0), (vi 0)])⟩]
noncomputable def T46_0 : Tab := .node 100 L46_0 .leaf .leaf
theorem rT46_0 : rowT E5 400 46 T46_0 okR = okR := by kernel_rfl
theorem oT46_0 : OrcOK Tryz.prog 46 T46_0 := (orc_of_rowT hmix e5 rT46_0).1
noncomputable def L46_1 : List Ent := [⟨[ov370, (vi 100)], true, (fp 2864), ol410, ol655, (hp 5141), (.tuple [(.agg [(.slice (hp 4916) 0 6 (.up 1)), (.slice (fp 3010) 0 1 (.up 1)), (.slice (hp 4920) 0 6 (.up 2))]), (.int .i64 (.negSucc 0)), (vi 0), (vi 0)])⟩]
noncomputable def T46_1 : Tab := .node 100 L46_1 .leaf .leaf
theorem rT46_1 : rowT E5 400 46 T46_1 okR = okR := by kernel_rfl
theorem oT46_1 : OrcOK Tryz.prog 46 T46_1 := (orc_of_rowT hmix e5 rT46_1).1
noncomputable def L46_2 : List Ent := [⟨[ov412, (vi 100)], true, (hp 6261), ol414, ol674, (hp 8538), (.tuple [(.agg [(.slice (hp 8313) 0 6 (.up 1)), (.slice (hp 6407) 0 1 (.up 1)), (.slice (hp 8317) 0 6 (.up 2))]), (.int .i64 (.negSucc 0)), (vi 0), (vi 0)])⟩]
noncomputable def T46_2 : Tab := .node 100 L46_2 .leaf .leaf
theorem rT46_2 : rowT E5 400 46 T46_2 okR = okR := by kernel_rfl
theorem oT46_2 : OrcOK Tryz.prog 46 T46_2 := (orc_of_rowT hmix e5 rT46_2).1
noncomputable def L46_3 : List Ent := [⟨[ov416, (vi 100)], true, (hp 9368), ol421, ol693, (hp 11645), (.tuple [(.agg [(.slice (hp 11420) 0 6 (.up 1)), (.slice (hp 9514) 0 1 (.up 1)), (.slice (hp 11424) 0 6 (.up 2))]), (.int .i64 (.negSucc 0)), (vi 0), (vi 0)])⟩]
noncomputable def T46_3 : Tab := .node 100 L46_3 .leaf .leaf
theorem rT46_3 : rowT E5 400 46 T46_3 okR = okR := by kernel_rfl
theorem oT46_3 : OrcOK Tryz.prog 46 T46_3 := (orc_of_rowT hmix e5 rT46_3).1
noncomputable def L46_4 : List Ent := [⟨[ov423, (vi 100)], true, (hp 12351), ol458, ol712, (hp 14628), (.tuple [(.agg [(.slice (hp 14403) 0 6 (.up 1)), (.slice (hp 12497) 0 1 (.up 1)), (.slice (hp 14407) 0 6 (.up 2))]), (.int .i64 (.negSucc 0)), (vi 0), (vi 0)])⟩]
noncomputable def T46_4 : Tab := .node 100 L46_4 .leaf .leaf
theorem rT46_4 : rowT E5 400 46 T46_4 okR = okR := by kernel_rfl
theorem oT46_4 : OrcOK Tryz.prog 46 T46_4 := (orc_of_rowT hmix e5 rT46_4).1
noncomputable def L46_5 : List Ent := [⟨[ov460, (vi 100)], true, (hp 16934), ol453, ol743, (hp 20245), (.tuple [(.agg [(.slice (hp 20050) 0 10 (.up 1)), (.slice (hp 17080) 0 1 (.up 1)), (.slice (hp 20054) 0 12 (.up 2))]), (vi 8), (vi 12), (vi 0)])⟩]
noncomputable def T46_5 : Tab := .node 100 L46_5 .leaf .leaf
theorem rT46_5 : rowT E5 400 46 T46_5 okR = okR := by kernel_rfl
theorem oT46_5 : OrcOK Tryz.prog 46 T46_5 := (orc_of_rowT hmix e5 rT46_5).1
noncomputable def L46_6 : List Ent := [⟨[ov461, (vi 100)], true, (hp 23984), ol498, ol763, (hp 26261), (.tuple [(.agg [(.slice (hp 26036) 0 6 (.up 1)), (.slice (hp 24130) 0 1 (.up 1)), (.slice (hp 26040) 0 6 (.up 2))]), (.int .i64 (.negSucc 0)), (vi 0), (vi 0)])⟩]
noncomputable def T46_6 : Tab := .node 100 L46_6 .leaf .leaf
theorem rT46_6 : rowT E5 400 46 T46_6 okR = okR := by kernel_rfl
theorem oT46_6 : OrcOK Tryz.prog 46 T46_6 := (orc_of_rowT hmix e5 rT46_6).1
noncomputable def L46_7 : List Ent := [⟨[ov461, (vi 100)], true, (hp 27128), ol500, ol782, (hp 29405), (.tuple [(.agg [(.slice (hp 29180) 0 6 (.up 1)), (.slice (hp 27274) 0 1 (.up 1)), (.slice (hp 29184) 0 6 (.up 2))]), (.int .i64 (.negSucc 0)), (vi 0), (vi 0)])⟩]
noncomputable def T46_7 : Tab := .node 100 L46_7 .leaf .leaf
theorem rT46_7 : rowT E5 400 46 T46_7 okR = okR := by kernel_rfl
theorem oT46_7 : OrcOK Tryz.prog 46 T46_7 := (orc_of_rowT hmix e5 rT46_7).1
noncomputable def K6 : List (FuncId × Tab) := [(271, (.node 0 (L271_0 ++ (L271_1 ++ (L271_2 ++ (L271_3 ++ L271_4)))) .leaf .leaf)), (346, T346_0), (174, T174_0), (36, (.node 0 (L36_0 ++ (L36_1 ++ (L36_2 ++ (L36_3 ++ (L36_4 ++ L36_5))))) .leaf .leaf)), (77, (.node 0 (L77_0 ++ (L77_1 ++ (L77_2 ++ L77_3))) .leaf .leaf)), (56, (.node 0 (L56_0 ++ (L56_1 ++ (L56_2 ++ (L56_3 ++ (L56_4 ++ (L56_5 ++ (L56_6 ++ (L56_7 ++ (L56_8 ++ (L56_9 ++ L56_10)))))))))) .leaf .leaf)), (166, T166_0), (46, (.node 100 (L46_0 ++ (L46_1 ++ (L46_2 ++ (L46_3 ++ (L46_4 ++ (L46_5 ++ (L46_6 ++ L46_7))))))) .leaf .leaf))]
theorem k6 : ∀ q ∈ K6, OrcOK Tryz.prog q.1 q.2 := by
  unfold K6
  refine List.forall_mem_cons.2 ⟨(orc_two oT271_0 (orc_two oT271_1 (orc_two oT271_2 (orc_two oT271_3 oT271_4)))), ?_⟩
  refine List.forall_mem_cons.2 ⟨oT346_0, ?_⟩
  refine List.forall_mem_cons.2 ⟨oT174_0, ?_⟩
  refine List.forall_mem_cons.2 ⟨(orc_two oT36_0 (orc_two oT36_1 (orc_two oT36_2 (orc_two oT36_3 (orc_two oT36_4 oT36_5))))), ?_⟩
  refine List.forall_mem_cons.2 ⟨(orc_two oT77_0 (orc_two oT77_1 (orc_two oT77_2 oT77_3))), ?_⟩
  refine List.forall_mem_cons.2 ⟨(orc_two oT56_0 (orc_two oT56_1 (orc_two oT56_2 (orc_two oT56_3 (orc_two oT56_4 (orc_two oT56_5 (orc_two oT56_6 (orc_two oT56_7 (orc_two oT56_8 (orc_two oT56_9 oT56_10)))))))))), ?_⟩
  refine List.forall_mem_cons.2 ⟨oT166_0, ?_⟩
  refine List.forall_mem_cons.2 ⟨(orc_two oT46_0 (orc_two oT46_1 (orc_two oT46_2 (orc_two oT46_3 (orc_two oT46_4 (orc_two oT46_5 (orc_two oT46_6 oT46_7))))))), ?_⟩
  simp
noncomputable def E6 : XEnv := envOf Tryz.prog (methOf Tryz.prog) srt (tabOf K6)
theorem e6 : EnvOK Tryz.prog E6 := envP_ok srtOK (tabOf_ok k6)
-- LEVEL 5
end Go.Proofs.YtjbkanbdnoepmaaGreatDoor
