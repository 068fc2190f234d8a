/- Runs of the program's own functions on data, checked by the kernel: rows of tables (what a call comes to), for the run of foregonelaw37.sane. No conditions. -/
import Derived.Test.YtmnbopcehmcaeaaGreatDoorTRunD
namespace Go.Proofs.YtmnbopcehmcaeaaGreatDoor
open Go Go.Proofs Go.X
set_option maxRecDepth 1000000
noncomputable def ob315 : AObj := (.row 5 [(vb 70), (vb 71), (vb 67), (vb 0), (vb 0), (vb 0), (vb 0), (vb 0), (vb 0), (vb 0), (vb 3), (vb 0), (vb 0), (vb 0), (vb 0), (vb 0), (vb 0), (vb 0), (vb 0), (vb 0), (vb 0), (vb 0), (vb 0), (vb 17), (vb 125), (vb 105), (vb 54)] true)
noncomputable def T7_0 : Tab := (.node 3 [⟨[(vi 3), .nilslice], true, (fp 380), [], ((fp 429), ob315) :: [], (fp 430), (.tuple [(.slice (fp 429) 0 27 (.up 1)), (vi 0)])⟩, ⟨[(vi 3), .nilslice], true, (fp 430), [], ((fp 479), ob315) :: [], (fp 480), (.tuple [(.slice (fp 479) 0 27 (.up 1)), (vi 0)])⟩, ⟨[(vi 3), (.slice (fp 497) 0 0 (.ex 0))], true, (fp 498), [], ((fp 547), ob315) :: [], (fp 548), (.tuple [(.slice (fp 547) 0 27 (.up 1)), (vi 0)])⟩, ⟨[(vi 3), (.slice (fp 558) 0 0 (.ex 0))], true, (fp 559), [], ((fp 608), ob315) :: [], (fp 609), (.tuple [(.slice (fp 608) 0 27 (.up 1)), (vi 0)])⟩] .leaf .leaf)
theorem rT7_0 : rowT E6 400 7 T7_0 okR = okR := by kernel_rfl
theorem oT7_0 : OrcOK Tryz.prog 7 T7_0 := (orc_of_rowT hmix e6 rT7_0).1
noncomputable def ol319 : List (Pos × AObj) := ((fp 379), (.row 5 [(vb 70), (vb 71), (vb 67), (vb 0), (vb 0), (vb 0), (vb 0), (vb 0), (vb 0), (vb 0), (vb 1), (vb 0), (vb 0), (vb 0), (vb 0), (vb 0), (vb 0), (vb 0), (vb 0), (vb 0), (vb 0), (vb 0), (vb 0), (vb 17), (vb 125), (vb 105), (vb 58)] true)) :: []
noncomputable def ob322 : AObj := (.row 5 [(vb 0), (vb 0), (vb 0), (vb 5), (vb 0), (vb 0), (vb 0), (vb 1), (vb 0), (vb 0), (vb 0), (vb 3), (vb 0), (vb 0), (vb 0), (vb 5), (vb 0), (vb 0), (vb 0), (vb 2), (vb 2), (vb 0), (vb 0), (vb 4), (vb 1), (vb 97), (vb 2), (vb 0), (vb 0), (vb 4), (vb 1), (vb 98), (vb 2), (vb 0), (vb 1), (vb 0), (vb 0), (vb 0), (vb 1), (vb 4), (vb 1), (vb 97), (vb 2), (vb 0), (vb 1), (vb 0), (vb 0), (vb 0), (vb 1), (vb 4), (vb 1), (vb 98), (vb 2), (vb 0), (vb 1), (vb 0), (vb 0), (vb 0), (vb 2), (vb 4), (vb 1), (vb 97), (vb 0), (vb 0), (vb 0), (vb 0), (vb 0), (vb 0), (vb 0), (vb 1), (vb 0), (vb 0), (vb 0), (vb 0), (vb 0), (vb 0), (vb 0), (vb 2), (vb 0), (vb 0), (vb 0), (vb 1), (vb 0), (vb 0), (vb 0), (vb 3), (vb 0), (vb 0), (vb 0), (vb 2), (vb 0), (vb 0), (vb 0), (vb 1), (vb 0), (vb 0), (vb 0), (vb 2), (vb 0), (vb 0), (vb 0), (vb 4)] true)
noncomputable def ol321 : List (Pos × AObj) := ((hp 4439), ob322) :: []
noncomputable def ob324 : AObj := (.row 5 [(vb 70), (vb 71), (vb 67), (vb 0), (vb 0), (vb 0), (vb 0), (vb 0), (vb 0), (vb 0), (vb 1), (vb 0), (vb 0), (vb 0), (vb 0), (vb 0), (vb 0), (vb 0), (vb 102), (vb 0), (vb 0), (vb 0), (vb 5), (vb 0), (vb 0), (vb 0), (vb 1), (vb 0), (vb 0), (vb 0), (vb 3), (vb 0), (vb 0), (vb 0), (vb 5), (vb 0), (vb 0), (vb 0), (vb 2), (vb 2), (vb 0), (vb 0), (vb 4), (vb 1), (vb 97), (vb 2), (vb 0), (vb 0), (vb 4), (vb 1), (vb 98), (vb 2), (vb 0), (vb 1), (vb 0), (vb 0), (vb 0), (vb 1), (vb 4), (vb 1), (vb 97), (vb 2), (vb 0), (vb 1), (vb 0), (vb 0), (vb 0), (vb 1), (vb 4), (vb 1), (vb 98), (vb 2), (vb 0), (vb 1), (vb 0), (vb 0), (vb 0), (vb 2), (vb 4), (vb 1), (vb 97), (vb 0), (vb 0), (vb 0), (vb 0), (vb 0), (vb 0), (vb 0), (vb 1), (vb 0), (vb 0), (vb 0), (vb 0), (vb 0), (vb 0), (vb 0), (vb 2), (vb 0), (vb 0), (vb 0), (vb 1), (vb 0), (vb 0), (vb 0), (vb 3), (vb 0), (vb 0), (vb 0), (vb 2), (vb 0), (vb 0), (vb 0), (vb 1), (vb 0), (vb 0), (vb 0), (vb 2), (vb 0), (vb 0), (vb 0), (vb 4), (vb 29), (vb 57), (vb 180), (vb 226), (vb 141), (vb 157), (vb 25), (vb 9)] true)
noncomputable def ol323 : List (Pos × AObj) := ((hp 4490), ob324) :: []
noncomputable def ol325 : List (Pos × AObj) := ((hp 5088), ob322) :: []
noncomputable def ol326 : List (Pos × AObj) := ((hp 5139), ob324) :: []
noncomputable def ol327 : List (Pos × AObj) := ((hp 7877), ob322) :: []
noncomputable def ol328 : List (Pos × AObj) := ((hp 7928), ob324) :: []
noncomputable def T7_1 : Tab := (.node 1 [⟨[(vi 1), .nilslice], true, (fp 330), [], ol319, (fp 380), (.tuple [(.slice (fp 379) 0 27 (.up 1)), (vi 0)])⟩, ⟨[(vi 1), (.slice (hp 4439) 0 102 (.up 1))], true, (hp 4440), ol321, ol323, (hp 4491), (.tuple [(.slice (hp 4490) 0 129 (.up 1)), (vi 0)])⟩, ⟨[(vi 1), (.slice (hp 5088) 0 102 (.up 1))], true, (hp 5089), ol325, ol326, (hp 5140), (.tuple [(.slice (hp 5139) 0 129 (.up 1)), (vi 0)])⟩, ⟨[(vi 1), (.slice (hp 7877) 0 102 (.up 1))], true, (hp 7878), ol327, ol328, (hp 7929), (.tuple [(.slice (hp 7928) 0 129 (.up 1)), (vi 0)])⟩] .leaf .leaf)
theorem rT7_1 : rowT E6 400 7 T7_1 okR = okR := by kernel_rfl
theorem oT7_1 : OrcOK Tryz.prog 7 T7_1 := (orc_of_rowT hmix e6 rT7_1).1
noncomputable def M7_2 : Tab := .node 1 [⟨[(vi 1), .nilslice], true, (fp 330), [], ol319, (fp 380), (.tuple [(.slice (fp 379) 0 27 (.up 1)), (vi 0)])⟩, ⟨[(vi 1), (.slice (hp 4439) 0 102 (.up 1))], true, (hp 4440), ol321, ol323, (hp 4491), (.tuple [(.slice (hp 4490) 0 129 (.up 1)), (vi 0)])⟩, ⟨[(vi 1), (.slice (hp 5088) 0 102 (.up 1))], true, (hp 5089), ol325, ol326, (hp 5140), (.tuple [(.slice (hp 5139) 0 129 (.up 1)), (vi 0)])⟩, ⟨[(vi 1), (.slice (hp 7877) 0 102 (.up 1))], true, (hp 7878), ol327, ol328, (hp 7929), (.tuple [(.slice (hp 7928) 0 129 (.up 1)), (vi 0)])⟩] .leaf T7_0
theorem oM7_2 : OrcOK Tryz.prog 7 M7_2 := orc_node oT7_1 (fun e he => by simp [Tab.ents] at he) oT7_0
noncomputable def K7 : List (FuncId × Tab) := [(132, (.node 0 (L132_0 ++ L132_1) .leaf .leaf)), (266, T266_0), (120, T120_0), (209, T209_0), (64, T64_0), (206, T206_0), (211, M211_9), (212, M212_3), (210, T210_0), (253, (.node 0 (L253_0 ++ (L253_1 ++ (L253_2 ++ (L253_3 ++ L253_4)))) .leaf .leaf)), (342, T342_0), (188, T188_0), (292, T292_0), (93, T93_0), (127, (.node 0 (L127_0 ++ (L127_1 ++ (L127_2 ++ (L127_3 ++ L127_4)))) .leaf .leaf)), (7, M7_2)]
theorem k7 : ∀ q ∈ K7, OrcOK Tryz.prog q.1 q.2 := by
  unfold K7
  refine List.forall_mem_cons.2 ⟨(orc_two oT132_0 oT132_1), ?_⟩
  refine List.forall_mem_cons.2 ⟨oT266_0, ?_⟩
  refine List.forall_mem_cons.2 ⟨oT120_0, ?_⟩
  refine List.forall_mem_cons.2 ⟨oT209_0, ?_⟩
  refine List.forall_mem_cons.2 ⟨oT64_0, ?_⟩
  refine List.forall_mem_cons.2 ⟨oT206_0, ?_⟩
  refine List.forall_mem_cons.2 ⟨oM211_9, ?_⟩
  refine List.forall_mem_cons.2 ⟨oM212_3, ?_⟩
  refine List.forall_mem_cons.2 ⟨oT210_0, ?_⟩
  refine List.forall_mem_cons.2 ⟨(orc_two oT253_0 (orc_two oT253_1 (orc_two oT253_2 (orc_two oT253_3 oT253_4)))), ?_⟩
  refine List.forall_mem_cons.2 ⟨oT342_0, ?_⟩
  refine List.forall_mem_cons.2 ⟨oT188_0, ?_⟩
  refine List.forall_mem_cons.2 ⟨oT292_0, ?_⟩
  refine List.forall_mem_cons.2 ⟨oT93_0, ?_⟩
  refine List.forall_mem_cons.2 ⟨(orc_two oT127_0 (orc_two oT127_1 (orc_two oT127_2 (orc_two oT127_3 oT127_4)))), ?_⟩
  refine List.forall_mem_cons.2 ⟨oM7_2, ?_⟩
  simp
noncomputable def E7 : XEnv := envOf Tryz.prog (methOf Tryz.prog) (fun _ => none) (tabOf K7)
theorem e7 : EnvOK Tryz.prog E7 := envP_ok srtOK_none (tabOf_ok k7)
-- LEVEL 6
end Go.Proofs.YtmnbopcehmcaeaaGreatDoor
