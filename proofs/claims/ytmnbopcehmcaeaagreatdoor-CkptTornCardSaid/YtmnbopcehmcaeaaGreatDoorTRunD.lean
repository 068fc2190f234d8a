/- Runs of the program's own functions on data, checked by the kernel: rows of tables (what a call comes to), for the run of foregonelaw37.sane. No conditions. -/
import Derived.Test.YtmnbopcehmcaeaaGreatDoorTRunC
namespace Go.Proofs.YtmnbopcehmcaeaaGreatDoor
open Go Go.Proofs Go.X
set_option maxRecDepth 1000000
noncomputable def T188_0 : Tab := (.node 0 [⟨[ov118, .nilslice, (.bool true)], false, (fp 769), ol159, [], (fp 769), (vi 0)⟩, ⟨[ov118, (.slice (fp 935) 0 2 (.up 7)), (.bool false)], false, (fp 936), ol201, [], (fp 936), (vi 0)⟩, ⟨[ov118, (.slice (fp 1764) 0 2 (.up 7)), (.bool false)], false, (fp 1765), ol207, [], (fp 1765), (vi 0)⟩, ⟨[ov118, (.slice (fp 2745) 0 2 (.up 7)), (.bool false)], false, (fp 2746), ol213, [], (fp 2746), (vi 0)⟩, ⟨[ov118, (.slice (fp 3225) 0 2 (.up 7)), (.bool false)], false, (fp 3226), ol217, [], (fp 3226), (vi 0)⟩, ⟨[ov118, (.slice (fp 3059) 0 2 (.up 7)), (.bool false)], false, (fp 3060), ol215, [], (fp 3060), (vi 0)⟩, ⟨[ov118, (.slice (fp 3595) 0 2 (.up 7)), (.bool false)], false, (fp 3596), ol219, [], (fp 3596), (vi 0)⟩, ⟨[ov118, (.slice (fp 3993) 0 2 (.up 7)), (.bool false)], false, (fp 3994), ol222, [], (fp 3994), (vi 0)⟩, ⟨[ov118, (.slice (hp 5310) 0 2 (.up 7)), (.bool false)], false, (hp 5311), ol229, [], (hp 5311), (vi 0)⟩, ⟨[ov118, (.slice (hp 5314) 0 2 (.up 7)), (.bool false)], false, (hp 5315), ol233, [], (hp 5315), (vi 0)⟩, ⟨[ov118, (.slice (hp 5686) 0 2 (.up 7)), (.bool false)], false, (hp 5687), ol231, [], (hp 5687), (vi 0)⟩, ⟨[ov118, (.slice (hp 6183) 0 2 (.up 7)), (.bool false)], false, (hp 6184), ol235, [], (hp 6184), (vi 0)⟩, ⟨[ov118, (.slice (hp 6663) 0 2 (.up 7)), (.bool false)], false, (hp 6664), ol239, [], (hp 6664), (vi 0)⟩, ⟨[ov118, (.slice (hp 6497) 0 2 (.up 7)), (.bool false)], false, (hp 6498), ol237, [], (hp 6498), (vi 0)⟩, ⟨[ov118, (.slice (hp 7033) 0 2 (.up 7)), (.bool false)], false, (hp 7034), ol241, [], (hp 7034), (vi 0)⟩, ⟨[ov118, (.slice (hp 7431) 0 2 (.up 7)), (.bool false)], false, (hp 7432), ol244, [], (hp 7432), (vi 0)⟩, ⟨[ov118, (.slice (hp 8523) 0 2 (.up 7)), (.bool false)], false, (hp 8524), ol250, [], (hp 8524), (vi 0)⟩, ⟨[ov118, (.slice (hp 9001) 0 2 (.up 7)), (.bool false)], false, (hp 9002), ol253, [], (hp 9002), (vi 0)⟩, ⟨[ov118, (.slice (hp 8835) 0 2 (.up 7)), (.bool false)], false, (hp 8836), ol252, [], (hp 8836), (vi 0)⟩, ⟨[ov118, (.slice (hp 9371) 0 2 (.up 7)), (.bool false)], false, (hp 9372), ol255, [], (hp 9372), (vi 0)⟩, ⟨[ov118, (.slice (hp 9769) 0 2 (.up 7)), (.bool false)], false, (hp 9770), ol257, [], (hp 9770), (vi 0)⟩, ⟨[ov118, (.slice (hp 10305) 0 2 (.up 7)), (.bool false)], false, (hp 10306), ol260, [], (hp 10306), (vi 0)⟩] .leaf .leaf)
theorem rT188_0 : rowT E4 400 188 T188_0 okR = okR := by kernel_rfl
theorem oT188_0 : OrcOK Tryz.prog 188 T188_0 := (orc_of_rowT hmix e4 rT188_0).1
noncomputable def T292_0 : Tab := (.node 9223372036854775810 [ro [(vu 9223372036854775810)] (.bool false)] (.node 9223372036854775809 [ro [(vu 9223372036854775809)] (.bool false)] (.node 9223372036854775808 [ro [(vu 9223372036854775808)] (.bool false)] .leaf .leaf) .leaf) (.node 9223372036854775811 [ro [(vu 9223372036854775811)] (.bool true)] .leaf .leaf))
theorem rT292_0 : rowT E4 400 292 T292_0 okR = okR := by kernel_rfl
theorem oT292_0 : OrcOK Tryz.prog 292 T292_0 := (orc_of_rowT hmix e4 rT292_0).1
noncomputable def K5 : List (FuncId × Tab) := [(132, (.node 0 (L132_0 ++ L132_1) .leaf .leaf)), (266, T266_0), (120, T120_0), (209, T209_0), (64, T64_0), (206, T206_0), (211, M211_9), (212, M212_3), (210, T210_0), (253, (.node 0 (L253_0 ++ (L253_1 ++ (L253_2 ++ (L253_3 ++ L253_4)))) .leaf .leaf)), (342, T342_0), (188, T188_0), (292, T292_0)]
theorem k5 : ∀ q ∈ K5, OrcOK Tryz.prog q.1 q.2 := by
  unfold K5
  refine List.forall_mem_cons.2 ⟨(orc_two oT132_0 oT132_1), ?_⟩
  refine List.forall_mem_cons.2 ⟨oT266_0, ?_⟩
  refine List.forall_mem_cons.2 ⟨oT120_0, ?_⟩
  refine List.forall_mem_cons.2 ⟨oT209_0, ?_⟩
  refine List.forall_mem_cons.2 ⟨oT64_0, ?_⟩
  refine List.forall_mem_cons.2 ⟨oT206_0, ?_⟩
  refine List.forall_mem_cons.2 ⟨oM211_9, ?_⟩
  refine List.forall_mem_cons.2 ⟨oM212_3, ?_⟩
  refine List.forall_mem_cons.2 ⟨oT210_0, ?_⟩
  refine List.forall_mem_cons.2 ⟨(orc_two oT253_0 (orc_two oT253_1 (orc_two oT253_2 (orc_two oT253_3 oT253_4)))), ?_⟩
  refine List.forall_mem_cons.2 ⟨oT342_0, ?_⟩
  refine List.forall_mem_cons.2 ⟨oT188_0, ?_⟩
  refine List.forall_mem_cons.2 ⟨oT292_0, ?_⟩
  simp
noncomputable def E5 : XEnv := envOf Tryz.prog (methOf Tryz.prog) (fun _ => none) (tabOf K5)
theorem e5 : EnvOK Tryz.prog E5 := envP_ok srtOK_none (tabOf_ok k5)
-- LEVEL 4
noncomputable def T93_0 : Tab := (.node 0 [ro [(vi 0)] (.tuple [(vu 9223372036854775811), (vi 0)])] .leaf .leaf)
theorem rT93_0 : rowT E5 400 93 T93_0 okR = okR := by kernel_rfl
theorem oT93_0 : OrcOK Tryz.prog 93 T93_0 := (orc_of_rowT hmix e5 rT93_0).1
noncomputable def L127_0 : List Ent := [⟨[ov118, (.slice (fp 935) 0 2 (.up 7))], true, (fp 955), ol201, ((fp 1449), (.row 53 [(.slice (fp 1414) 0 2 (.up 7)), (.slice (fp 1248) 0 2 (.up 7))] true)) :: ((fp 1414), ob168) :: ((fp 1248), ob204) :: ol17, (fp 1450), (.tuple [(.slice (fp 1449) 0 2 (.up 1)), (vi 0), (vi 0)])⟩, ⟨[ov118, (.slice (fp 1764) 0 2 (.up 7))], true, (fp 1782), ol207, ((fp 2276), (.row 53 [(.slice (fp 2241) 0 2 (.up 7)), (.slice (fp 2075) 0 2 (.up 7))] true)) :: ((fp 2241), ob168) :: ((fp 2075), ob210) :: ol27, (fp 2277), (.tuple [(.slice (fp 2276) 0 2 (.up 1)), (vi 0), (vi 0)])⟩, ⟨[ov118, (.slice (fp 2745) 0 2 (.up 7))], true, (fp 2766), ol213, ((fp 3260), (.row 53 [(.slice (fp 3225) 0 2 (.up 7)), (.slice (fp 3059) 0 2 (.up 7))] true)) :: ((fp 3225), ob168) :: ((fp 3059), ob216) :: ol39, (fp 3261), (.tuple [(.slice (fp 3260) 0 2 (.up 1)), (vi 0), (vi 0)])⟩]
noncomputable def T127_0 : Tab := .node 0 L127_0 .leaf .leaf
theorem rT127_0 : rowT E5 400 127 T127_0 okR = okR := by kernel_rfl
theorem oT127_0 : OrcOK Tryz.prog 127 T127_0 := (orc_of_rowT hmix e5 rT127_0).1
noncomputable def L127_1 : List Ent := [⟨[ov118, (.slice (fp 3225) 0 2 (.up 7))], true, (fp 3302), ol217, ((fp 3676), (.row 53 [(.slice (fp 3595) 0 2 (.up 7))] true)) :: ((fp 3595), ob220) :: ol45, (fp 3677), (.tuple [(.slice (fp 3676) 0 1 (.up 1)), (vi 0), (vi 0)])⟩, ⟨[ov118, (.slice (fp 3059) 0 2 (.up 7))], true, (fp 3698), ol215, ((hp 4194), (.row 53 [(.slice (hp 4159) 0 2 (.up 7)), (.slice (fp 3993) 0 2 (.up 7))] true)) :: ((hp 4159), ob168) :: ((fp 3993), ob223) :: ol49, (hp 4195), (.tuple [(.slice (hp 4194) 0 2 (.up 1)), (vi 0), (vi 0)])⟩, ⟨[ov118, (.slice (fp 3595) 0 2 (.up 7))], true, (hp 4548), ol219, ((hp 4924), (.row 53 [(.slice (hp 4843) 0 2 (.up 7))] true)) :: ((hp 4843), ob227) :: ol55, (hp 4925), (.tuple [(.slice (hp 4924) 0 1 (.up 1)), (vi 0), (vi 0)])⟩, ⟨[ov118, (.slice (fp 3993) 0 2 (.up 7))], true, (hp 4946), ol222, [], (hp 5055), (.tuple [.nilslice, (vi 0), (vi 0)])⟩]
noncomputable def T127_1 : Tab := .node 0 L127_1 .leaf .leaf
theorem rT127_1 : rowT E5 400 127 T127_1 okR = okR := by kernel_rfl
theorem oT127_1 : OrcOK Tryz.prog 127 T127_1 := (orc_of_rowT hmix e5 rT127_1).1
noncomputable def L127_2 : List Ent := [⟨[ov118, (.slice (hp 5310) 0 2 (.up 7))], true, (hp 5391), ol229, ((hp 5767), (.row 53 [(.slice (hp 5686) 0 2 (.up 7))] true)) :: ((hp 5686), ob176) :: ol67, (hp 5768), (.tuple [(.slice (hp 5767) 0 1 (.up 1)), (vi 0), (vi 0)])⟩, ⟨[ov118, (.slice (hp 5314) 0 2 (.up 7))], true, (hp 5789), ol233, [], (hp 5898), (.tuple [.nilslice, (vi 0), (vi 0)])⟩, ⟨[ov118, (.slice (hp 5686) 0 2 (.up 7))], true, (hp 5899), ol231, [], (hp 6008), (.tuple [.nilslice, (vi 0), (vi 0)])⟩, ⟨[ov118, (.slice (hp 6183) 0 2 (.up 7))], true, (hp 6204), ol235, ((hp 6698), (.row 53 [(.slice (hp 6663) 0 2 (.up 7)), (.slice (hp 6497) 0 2 (.up 7))] true)) :: ((hp 6663), ob168) :: ((hp 6497), ob238) :: ol77, (hp 6699), (.tuple [(.slice (hp 6698) 0 2 (.up 1)), (vi 0), (vi 0)])⟩, ⟨[ov118, (.slice (hp 6663) 0 2 (.up 7))], true, (hp 6740), ol239, ((hp 7114), (.row 53 [(.slice (hp 7033) 0 2 (.up 7))] true)) :: ((hp 7033), ob242) :: ol83, (hp 7115), (.tuple [(.slice (hp 7114) 0 1 (.up 1)), (vi 0), (vi 0)])⟩]
noncomputable def T127_2 : Tab := .node 0 L127_2 .leaf .leaf
theorem rT127_2 : rowT E5 400 127 T127_2 okR = okR := by kernel_rfl
theorem oT127_2 : OrcOK Tryz.prog 127 T127_2 := (orc_of_rowT hmix e5 rT127_2).1
noncomputable def L127_3 : List Ent := [⟨[ov118, (.slice (hp 6497) 0 2 (.up 7))], true, (hp 7136), ol237, ((hp 7632), (.row 53 [(.slice (hp 7597) 0 2 (.up 7)), (.slice (hp 7431) 0 2 (.up 7))] true)) :: ((hp 7597), ob168) :: ((hp 7431), ob245) :: ol87, (hp 7633), (.tuple [(.slice (hp 7632) 0 2 (.up 1)), (vi 0), (vi 0)])⟩, ⟨[ov118, (.slice (hp 7033) 0 2 (.up 7))], true, (hp 7965), ol241, ((hp 8341), (.row 53 [(.slice (hp 8260) 0 2 (.up 7))] true)) :: ((hp 8260), ob249) :: ol93, (hp 8342), (.tuple [(.slice (hp 8341) 0 1 (.up 1)), (vi 0), (vi 0)])⟩, ⟨[ov118, (.slice (hp 7431) 0 2 (.up 7))], true, (hp 8363), ol244, [], (hp 8472), (.tuple [.nilslice, (vi 0), (vi 0)])⟩, ⟨[ov118, (.slice (hp 8523) 0 2 (.up 7))], true, (hp 8542), ol250, ((hp 9036), (.row 53 [(.slice (hp 9001) 0 2 (.up 7)), (.slice (hp 8835) 0 2 (.up 7))] true)) :: ((hp 9001), ob168) :: ((hp 8835), ob189) :: ol99, (hp 9037), (.tuple [(.slice (hp 9036) 0 2 (.up 1)), (vi 0), (vi 0)])⟩]
noncomputable def T127_3 : Tab := .node 0 L127_3 .leaf .leaf
theorem rT127_3 : rowT E5 400 127 T127_3 okR = okR := by kernel_rfl
theorem oT127_3 : OrcOK Tryz.prog 127 T127_3 := (orc_of_rowT hmix e5 rT127_3).1
noncomputable def L127_4 : List Ent := [⟨[ov118, (.slice (hp 9001) 0 2 (.up 7))], true, (hp 9078), ol253, ((hp 9452), (.row 53 [(.slice (hp 9371) 0 2 (.up 7))] true)) :: ((hp 9371), ob191) :: ol105, (hp 9453), (.tuple [(.slice (hp 9452) 0 1 (.up 1)), (vi 0), (vi 0)])⟩, ⟨[ov118, (.slice (hp 8835) 0 2 (.up 7))], true, (hp 9474), ol252, ((hp 9970), (.row 53 [(.slice (hp 9935) 0 2 (.up 7)), (.slice (hp 9769) 0 2 (.up 7))] true)) :: ((hp 9935), ob168) :: ((hp 9769), ob193) :: ol109, (hp 9971), (.tuple [(.slice (hp 9970) 0 2 (.up 1)), (vi 0), (vi 0)])⟩, ⟨[ov118, (.slice (hp 9371) 0 2 (.up 7))], true, (hp 10010), ol255, ((hp 10386), (.row 53 [(.slice (hp 10305) 0 2 (.up 7))] true)) :: ((hp 10305), ob195) :: ol115, (hp 10387), (.tuple [(.slice (hp 10386) 0 1 (.up 1)), (vi 0), (vi 0)])⟩, ⟨[ov118, (.slice (hp 9769) 0 2 (.up 7))], true, (hp 10408), ol257, [], (hp 10517), (.tuple [.nilslice, (vi 0), (vi 0)])⟩, ⟨[ov118, (.slice (hp 10305) 0 2 (.up 7))], true, (hp 10518), ol260, [], (hp 10627), (.tuple [.nilslice, (vi 0), (vi 0)])⟩]
noncomputable def T127_4 : Tab := .node 0 L127_4 .leaf .leaf
theorem rT127_4 : rowT E5 400 127 T127_4 okR = okR := by kernel_rfl
theorem oT127_4 : OrcOK Tryz.prog 127 T127_4 := (orc_of_rowT hmix e5 rT127_4).1
noncomputable def K6 : List (FuncId × Tab) := [(132, (.node 0 (L132_0 ++ L132_1) .leaf .leaf)), (266, T266_0), (120, T120_0), (209, T209_0), (64, T64_0), (206, T206_0), (211, M211_9), (212, M212_3), (210, T210_0), (253, (.node 0 (L253_0 ++ (L253_1 ++ (L253_2 ++ (L253_3 ++ L253_4)))) .leaf .leaf)), (342, T342_0), (188, T188_0), (292, T292_0), (93, T93_0), (127, (.node 0 (L127_0 ++ (L127_1 ++ (L127_2 ++ (L127_3 ++ L127_4)))) .leaf .leaf))]
theorem k6 : ∀ q ∈ K6, OrcOK Tryz.prog q.1 q.2 := by
  unfold K6
  refine List.forall_mem_cons.2 ⟨(orc_two oT132_0 oT132_1), ?_⟩
  refine List.forall_mem_cons.2 ⟨oT266_0, ?_⟩
  refine List.forall_mem_cons.2 ⟨oT120_0, ?_⟩
  refine List.forall_mem_cons.2 ⟨oT209_0, ?_⟩
  refine List.forall_mem_cons.2 ⟨oT64_0, ?_⟩
  refine List.forall_mem_cons.2 ⟨oT206_0, ?_⟩
  refine List.forall_mem_cons.2 ⟨oM211_9, ?_⟩
  refine List.forall_mem_cons.2 ⟨oM212_3, ?_⟩
  refine List.forall_mem_cons.2 ⟨oT210_0, ?_⟩
  refine List.forall_mem_cons.2 ⟨(orc_two oT253_0 (orc_two oT253_1 (orc_two oT253_2 (orc_two oT253_3 oT253_4)))), ?_⟩
  refine List.forall_mem_cons.2 ⟨oT342_0, ?_⟩
  refine List.forall_mem_cons.2 ⟨oT188_0, ?_⟩
  refine List.forall_mem_cons.2 ⟨oT292_0, ?_⟩
  refine List.forall_mem_cons.2 ⟨oT93_0, ?_⟩
  refine List.forall_mem_cons.2 ⟨(orc_two oT127_0 (orc_two oT127_1 (orc_two oT127_2 (orc_two oT127_3 oT127_4)))), ?_⟩
  simp
noncomputable def E6 : XEnv := envOf Tryz.prog (methOf Tryz.prog) (fun _ => none) (tabOf K6)
theorem e6 : EnvOK Tryz.prog E6 := envP_ok srtOK_none (tabOf_ok k6)
-- LEVEL 5
end Go.Proofs.YtmnbopcehmcaeaaGreatDoor
