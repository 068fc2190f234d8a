/- Runs of the program's own functions on data, checked by the kernel: rows of tables (what a call comes to), for the run of foregonelaw25.sane. No conditions. -/
import Derived.Test.YtjbkanbdnoepmaaGreatDoorRunE
namespace Go.Proofs.YtjbkanbdnoepmaaGreatDoor
open Go Go.Proofs Go.X
set_option maxRecDepth 1000000
noncomputable def ov615 : AV := (.agg [(.slice (fp 2156) 0 6 (.up 1)), (.slice (fp 250) 0 1 (.up 1)), (.slice (fp 2160) 0 6 (.up 2))])
noncomputable def ov637 : AV := (.agg [(.slice (hp 4916) 0 6 (.up 1)), (.slice (fp 3010) 0 1 (.up 1)), (.slice (hp 4920) 0 6 (.up 2))])
noncomputable def ov656 : AV := (.agg [(.slice (hp 8313) 0 6 (.up 1)), (.slice (hp 6407) 0 1 (.up 1)), (.slice (hp 8317) 0 6 (.up 2))])
noncomputable def ov675 : AV := (.agg [(.slice (hp 11420) 0 6 (.up 1)), (.slice (hp 9514) 0 1 (.up 1)), (.slice (hp 11424) 0 6 (.up 2))])
noncomputable def ov694 : AV := (.agg [(.slice (hp 14403) 0 6 (.up 1)), (.slice (hp 12497) 0 1 (.up 1)), (.slice (hp 14407) 0 6 (.up 2))])
noncomputable def ov713 : AV := (.agg [(.slice (hp 20050) 0 10 (.up 1)), (.slice (hp 17080) 0 1 (.up 1)), (.slice (hp 20054) 0 12 (.up 2))])
noncomputable def ov745 : AV := (.agg [(.slice (hp 26036) 0 6 (.up 1)), (.slice (hp 24130) 0 1 (.up 1)), (.slice (hp 26040) 0 6 (.up 2))])
noncomputable def ov764 : AV := (.agg [(.slice (hp 29180) 0 6 (.up 1)), (.slice (hp 27274) 0 1 (.up 1)), (.slice (hp 29184) 0 6 (.up 2))])
noncomputable def L77x_0 : List Ent := [⟨[ov615], true, (fp 2382), ol635, [], (fp 2525), (.bool true)⟩, ⟨[ov615], true, (fp 2540), ol635, [], (fp 2683), (.bool true)⟩, ⟨[ov637], true, (hp 5142), ol655, [], (hp 5285), (.bool true)⟩]
noncomputable def T77x_0 : Tab := .node 0 L77x_0 .leaf .leaf
theorem rT77x_0 : rowT E2 400 77 T77x_0 okR = okR := by kernel_rfl
theorem oT77x_0 : OrcOK Tryz.prog 77 T77x_0 := (orc_of_rowT hmix e2 rT77x_0).1
noncomputable def L77x_1 : List Ent := [⟨[ov637], true, (hp 5300), ol655, [], (hp 5443), (.bool true)⟩, ⟨[ov637], true, (hp 6029), ol655, [], (hp 6172), (.bool true)⟩, ⟨[ov656], true, (hp 8539), ol674, [], (hp 8682), (.bool true)⟩]
noncomputable def T77x_1 : Tab := .node 0 L77x_1 .leaf .leaf
theorem rT77x_1 : rowT E2 400 77 T77x_1 okR = okR := by kernel_rfl
theorem oT77x_1 : OrcOK Tryz.prog 77 T77x_1 := (orc_of_rowT hmix e2 rT77x_1).1
noncomputable def L77x_2 : List Ent := [⟨[ov656], true, (hp 8697), ol674, [], (hp 8840), (.bool true)⟩, ⟨[ov656], true, (hp 9161), ol674, [], (hp 9304), (.bool true)⟩, ⟨[ov675], true, (hp 11646), ol693, [], (hp 11789), (.bool true)⟩]
noncomputable def T77x_2 : Tab := .node 0 L77x_2 .leaf .leaf
theorem rT77x_2 : rowT E2 400 77 T77x_2 okR = okR := by kernel_rfl
theorem oT77x_2 : OrcOK Tryz.prog 77 T77x_2 := (orc_of_rowT hmix e2 rT77x_2).1
noncomputable def L77x_3 : List Ent := [⟨[ov675], true, (hp 11804), ol693, [], (hp 11947), (.bool true)⟩, ⟨[ov675], true, (hp 12079), ol693, [], (hp 12222), (.bool true)⟩, ⟨[ov694], true, (hp 14629), ol712, [], (hp 14772), (.bool true)⟩]
noncomputable def T77x_3 : Tab := .node 0 L77x_3 .leaf .leaf
theorem rT77x_3 : rowT E2 400 77 T77x_3 okR = okR := by kernel_rfl
theorem oT77x_3 : OrcOK Tryz.prog 77 T77x_3 := (orc_of_rowT hmix e2 rT77x_3).1
noncomputable def L77x_4 : List Ent := [⟨[ov694], true, (hp 14787), ol712, [], (hp 14930), (.bool true)⟩, ⟨[ov713], true, (hp 20246), ol743, [], (hp 20493), (.bool true)⟩]
noncomputable def T77x_4 : Tab := .node 0 L77x_4 .leaf .leaf
theorem rT77x_4 : rowT E2 400 77 T77x_4 okR = okR := by kernel_rfl
theorem oT77x_4 : OrcOK Tryz.prog 77 T77x_4 := (orc_of_rowT hmix e2 rT77x_4).1
noncomputable def L77x_5 : List Ent := [⟨[ov713], true, (hp 20514), ol743, [], (hp 20761), (.bool true)⟩, ⟨[ov713], true, (hp 23409), ol743, [], (hp 23656), (.bool true)⟩]
noncomputable def T77x_5 : Tab := .node 0 L77x_5 .leaf .leaf
theorem rT77x_5 : rowT E2 400 77 T77x_5 okR = okR := by kernel_rfl
theorem oT77x_5 : OrcOK Tryz.prog 77 T77x_5 := (orc_of_rowT hmix e2 rT77x_5).1
noncomputable def L77x_6 : List Ent := [⟨[ov745], true, (hp 26262), ol763, [], (hp 26405), (.bool true)⟩, ⟨[ov745], true, (hp 26420), ol763, [], (hp 26563), (.bool true)⟩, ⟨[ov745], true, (hp 26815), ol763, [], (hp 26958), (.bool true)⟩]
noncomputable def T77x_6 : Tab := .node 0 L77x_6 .leaf .leaf
theorem rT77x_6 : rowT E2 400 77 T77x_6 okR = okR := by kernel_rfl
theorem oT77x_6 : OrcOK Tryz.prog 77 T77x_6 := (orc_of_rowT hmix e2 rT77x_6).1
noncomputable def L77x_7 : List Ent := [⟨[ov764], true, (hp 29406), ol782, [], (hp 29549), (.bool true)⟩, ⟨[ov764], true, (hp 29564), ol782, [], (hp 29707), (.bool true)⟩, ⟨[ov764], true, (hp 30187), ol782, [], (hp 30330), (.bool true)⟩]
noncomputable def T77x_7 : Tab := .node 0 L77x_7 .leaf .leaf
theorem rT77x_7 : rowT E2 400 77 T77x_7 okR = okR := by kernel_rfl
theorem oT77x_7 : OrcOK Tryz.prog 77 T77x_7 := (orc_of_rowT hmix e2 rT77x_7).1
noncomputable def K7 : List (FuncId × Tab) := [(77, (.node 0 (L77x_0 ++ (L77x_1 ++ (L77x_2 ++ (L77x_3 ++ (L77x_4 ++ (L77x_5 ++ (L77x_6 ++ L77x_7))))))) .leaf .leaf)), (271, (.node 0 (L271_0 ++ (L271_1 ++ (L271_2 ++ (L271_3 ++ L271_4)))) .leaf .leaf)), (346, T346_0), (174, T174_0), (36, (.node 0 (L36_0 ++ (L36_1 ++ (L36_2 ++ (L36_3 ++ (L36_4 ++ L36_5))))) .leaf .leaf)), (77, (.node 0 (L77_0 ++ (L77_1 ++ (L77_2 ++ L77_3))) .leaf .leaf)), (56, (.node 0 (L56_0 ++ (L56_1 ++ (L56_2 ++ (L56_3 ++ (L56_4 ++ (L56_5 ++ (L56_6 ++ (L56_7 ++ (L56_8 ++ (L56_9 ++ L56_10)))))))))) .leaf .leaf)), (166, T166_0), (46, (.node 100 (L46_0 ++ (L46_1 ++ (L46_2 ++ (L46_3 ++ (L46_4 ++ (L46_5 ++ (L46_6 ++ L46_7))))))) .leaf .leaf))]
theorem k7 : ∀ q ∈ K7, OrcOK Tryz.prog q.1 q.2 := by
  unfold K7
  refine List.forall_mem_cons.2 ⟨(orc_two oT77x_0 (orc_two oT77x_1 (orc_two oT77x_2 (orc_two oT77x_3 (orc_two oT77x_4 (orc_two oT77x_5 (orc_two oT77x_6 oT77x_7))))))), ?_⟩
  refine List.forall_mem_cons.2 ⟨(orc_two oT271_0 (orc_two oT271_1 (orc_two oT271_2 (orc_two oT271_3 oT271_4)))), ?_⟩
  refine List.forall_mem_cons.2 ⟨oT346_0, ?_⟩
  refine List.forall_mem_cons.2 ⟨oT174_0, ?_⟩
  refine List.forall_mem_cons.2 ⟨(orc_two oT36_0 (orc_two oT36_1 (orc_two oT36_2 (orc_two oT36_3 (orc_two oT36_4 oT36_5))))), ?_⟩
  refine List.forall_mem_cons.2 ⟨(orc_two oT77_0 (orc_two oT77_1 (orc_two oT77_2 oT77_3))), ?_⟩
  refine List.forall_mem_cons.2 ⟨(orc_two oT56_0 (orc_two oT56_1 (orc_two oT56_2 (orc_two oT56_3 (orc_two oT56_4 (orc_two oT56_5 (orc_two oT56_6 (orc_two oT56_7 (orc_two oT56_8 (orc_two oT56_9 oT56_10)))))))))), ?_⟩
  refine List.forall_mem_cons.2 ⟨oT166_0, ?_⟩
  refine List.forall_mem_cons.2 ⟨(orc_two oT46_0 (orc_two oT46_1 (orc_two oT46_2 (orc_two oT46_3 (orc_two oT46_4 (orc_two oT46_5 (orc_two oT46_6 oT46_7))))))), ?_⟩
  simp
noncomputable def E7 : XEnv := envOf Tryz.prog (methOf Tryz.prog) srt (tabOf K7)
theorem e7 : EnvOK Tryz.prog E7 := envP_ok srtOK (tabOf_ok k7)
-- LEVEL 6
noncomputable def L12_0 : List Ent := [⟨[ov327, (vi 100)], true, (fp 96), ol368, [], (fp 2730), (.tuple [(.agg [(vi 1), (vi 0), (vi 0), (vi 0), (vi 0), .nilslice, .nilslice, (vi 0), (vi 6), (vi 4)]), (vi 0)])⟩, ⟨[ov370, (vi 100)], true, (fp 2854), ol410, ((hp 6204), (.row 26 [(.slice (hp 6194) 0 2 (.up 7)), (.slice (hp 6198) 0 2 (.up 7)), (.slice (hp 6202) 0 2 (.up 7))] true)) :: ((hp 6202), ob649) :: ((hp 6198), ob642) :: ((hp 6194), ob617) :: ((hp 4204), (.row 3 [(vi 2)] true)) :: ol46, (hp 6210), (.tuple [(.agg [(vi 4), (vi 0), (vi 0), (vi 0), (vi 0), (.slice (hp 6204) 0 3 (.up 1)), .nilslice, (vi 0), (vi 6), (vi 4)]), (vi 0)])⟩, ⟨[ov412, (vi 100)], true, (hp 6249), ol414, ((hp 9324), (.row 26 [(.slice (hp 9318) 0 2 (.up 7)), (.slice (hp 9322) 0 2 (.up 7))] true)) :: ((hp 9322), ob623) :: ((hp 9318), ob617) :: [], (hp 9330), (.tuple [(.agg [(vi 4), (vi 1), (vi 0), (vi 0), (vi 0), (.slice (hp 9324) 0 2 (.up 1)), .nilslice, (vi 0), (vi 6), (vi 4)]), (vi 0)])⟩]
noncomputable def T12_0 : Tab := .node 100 L12_0 .leaf .leaf
theorem rT12_0 : rowT E7 400 12 T12_0 okR = okR := by kernel_rfl
theorem oT12_0 : OrcOK Tryz.prog 12 T12_0 := (orc_of_rowT hmix e7 rT12_0).1
noncomputable def L12_1 : List Ent := [⟨[ov416, (vi 100)], true, (hp 9358), ol421, ((hp 12235), (.row 26 [(.slice (hp 12233) 0 2 (.up 7))] true)) :: ((hp 12233), ob617) :: [], (hp 12241), (.tuple [(.agg [(vi 3), (vi 0), (vi 0), (vi 4), (vi 1), (.slice (hp 12235) 0 1 (.up 1)), .nilslice, (vi 0), (vi 6), (vi 4)]), (vi 0)])⟩]
noncomputable def T12_1 : Tab := .node 100 L12_1 .leaf .leaf
theorem rT12_1 : rowT E7 400 12 T12_1 okR = okR := by kernel_rfl
theorem oT12_1 : OrcOK Tryz.prog 12 T12_1 := (orc_of_rowT hmix e7 rT12_1).1
noncomputable def L12_2 : List Ent := [⟨[ov423, (vi 100)], true, (hp 12343), ol458, [], (hp 16909), (.tuple [(.agg [(vi 1), (vi 0), (vi 0), (vi 0), (vi 0), .nilslice, .nilslice, (vi 0), (vi 6), (vi 4)]), (vi 0)])⟩]
noncomputable def T12_2 : Tab := .node 100 L12_2 .leaf .leaf
theorem rT12_2 : rowT E7 400 12 T12_2 okR = okR := by kernel_rfl
theorem oT12_2 : OrcOK Tryz.prog 12 T12_2 := (orc_of_rowT hmix e7 rT12_2).1
noncomputable def L12_3 : List Ent := [⟨[ov460, (vi 100)], true, (hp 16926), ol453, ((hp 23725), (.row 26 [(.slice (hp 23707) 0 2 (.up 7)), (.slice (hp 23711) 0 2 (.up 7)), (.slice (hp 23715) 0 2 (.up 7)), (.slice (hp 23719) 0 2 (.up 7)), (.slice (hp 23723) 0 2 (.up 7))] true)) :: ((hp 23723), ob737) :: ((hp 23719), ob731) :: ((hp 23715), ob725) :: ((hp 23711), ob718) :: ((hp 23707), ob617) :: ((hp 19444), (.row 3 [(vi 4)] true)) :: ((hp 18702), (.row 3 [(vi 3)] true)) :: ((hp 17960), (.row 3 [(vi 2)] true)) :: ol162, (hp 23731), (.tuple [(.agg [(vi 3), (vi 0), (vi 0), (vi 3), (vi 12), (.slice (hp 23725) 0 5 (.up 1)), .nilslice, (vi 0), (vi 10), (vi 6)]), (vi 0)])⟩]
noncomputable def T12_3 : Tab := .node 100 L12_3 .leaf .leaf
theorem rT12_3 : rowT E7 400 12 T12_3 okR = okR := by kernel_rfl
theorem oT12_3 : OrcOK Tryz.prog 12 T12_3 := (orc_of_rowT hmix e7 rT12_3).1
noncomputable def ob1053 : AObj := (.row 31 [(vi 2), (vi 0), .nilslice, (vi 0), (vi 0), (.bool false), .nilslice, (.str []), .nilslice, .nilslice, .nilslice, (vi 5), (vi 0), .nilslice, (vi 0), (vi 0), (.bool false), .nilslice, (.str []), .nilslice, .nilslice, (.slice (hp 23866) 0 1 (.ex 1))] false)
noncomputable def ob1066 : AObj := (.row 34 [(vi 1), (vi 19), (vi 0), .nilslice, (vi 0), (vi 0), (.bool false), .nilslice, (.str []), .nilslice, .nilslice, (.slice (hp 27003) 0 2 (.ex 2)), (vi 0), (vi 0), .nilslice, (vi 0), (vi 0), (.bool false), .nilslice, (.str []), .nilslice, .nilslice, .nilslice, .nilslice, (vi 8), (vi 0), (vi 0), .nilslice, (vi 0), (vi 0), (.bool false), .nilslice, (.str []), .nilslice, .nilslice, .nilslice, (vi 0), (vi 0), .nilslice, (vi 0), (vi 0), (.bool false), .nilslice, (.str []), .nilslice, .nilslice, .nilslice, (.slice (hp 27014) 0 1 (.ex 1))] false)
noncomputable def ob1064 : AObj := (.row 34 [(vi 1), (vi 46), (vi 8), .nilslice, (vi 0), (vi 0), (.bool false), .nilslice, (.str []), .nilslice, .nilslice, (.slice (hp 27012) 0 2 (.ex 2)), (vi 0), (vi 0), .nilslice, (vi 0), (vi 0), (.bool false), .nilslice, (.str []), .nilslice, .nilslice, .nilslice, .nilslice] false)
noncomputable def ob1062 : AObj := (.row 31 [(vi 2), (vi 0), .nilslice, (vi 0), (vi 0), (.bool false), .nilslice, (.str []), .nilslice, .nilslice, .nilslice, (vi 1), (vi 0), .nilslice, (vi 2), (vi 0), (.bool false), (.slice (hp 27011) 0 1 (.up 1)), (.str []), .nilslice, .nilslice, .nilslice] false)
noncomputable def L12_4 : List Ent := [⟨[ov461, (vi 100)], true, (hp 23878), ((hp 23870), ob499) :: ((hp 23868), ob1053) :: ((hp 23866), ob331) :: ol496, ((hp 26975), (.row 26 [(.slice (hp 26969) 0 2 (.up 7)), (.slice (hp 24594) 0 2 (.up 7))] true)) :: ((hp 26969), ob617) :: ((hp 24594), ob623) :: [], (hp 26981), (.tuple [(.agg [(vi 7), (vi 0), (vi 0), (vi 0), (vi 0), (.slice (hp 26975) 0 2 (.up 1)), .nilslice, (vi 0), (vi 6), (vi 4)]), (vi 0)])⟩, ⟨[ov461, (vi 100)], true, (hp 27018), ((hp 27015), ob1066) :: ((hp 27014), ob1064) :: ((hp 27012), ob1062) :: ((hp 27011), (.row 3 [(vi 1)] true)) :: ((hp 27003), ob361) :: ol500, ((hp 30351), (.row 26 [(.slice (hp 30345) 0 2 (.up 7)), (.slice (hp 30349) 0 2 (.up 7))] true)) :: ((hp 30349), ob769) :: ((hp 30345), ob617) :: ol277, (hp 30357), (.tuple [(.agg [(vi 5), (vi 0), (vi 1), (vi 0), (vi 0), (.slice (hp 30351) 0 2 (.up 1)), .nilslice, (vi 0), (vi 6), (vi 4)]), (vi 0)])⟩, ⟨[ov576, (vi 100)], true, (hp 31935), ol613, [], (hp 31960), (.tuple [(.agg [(vi 2), (vi 0), (vi 0), (vi 0), (vi 0), .nilslice, .nilslice, (vi 0), (vi 0), (vi 0)]), (vi 0)])⟩]
noncomputable def T12_4 : Tab := .node 100 L12_4 .leaf .leaf
theorem rT12_4 : rowT E7 400 12 T12_4 okR = okR := by kernel_rfl
theorem oT12_4 : OrcOK Tryz.prog 12 T12_4 := (orc_of_rowT hmix e7 rT12_4).1
noncomputable def K8 : List (FuncId × Tab) := [(77, (.node 0 (L77x_0 ++ (L77x_1 ++ (L77x_2 ++ (L77x_3 ++ (L77x_4 ++ (L77x_5 ++ (L77x_6 ++ L77x_7))))))) .leaf .leaf)), (271, (.node 0 (L271_0 ++ (L271_1 ++ (L271_2 ++ (L271_3 ++ L271_4)))) .leaf .leaf)), (346, T346_0), (174, T174_0), (36, (.node 0 (L36_0 ++ (L36_1 ++ (L36_2 ++ (L36_3 ++ (L36_4 ++ L36_5))))) .leaf .leaf)), (77, (.node 0 (L77_0 ++ (L77_1 ++ (L77_2 ++ L77_3))) .leaf .leaf)), (56, (.node 0 (L56_0 ++ (L56_1 ++ (L56_2 ++ (L56_3 ++ (L56_4 ++ (L56_5 ++ (L56_6 ++ (L56_7 ++ (L56_8 ++ (L56_9 ++ L56_10)))))))))) .leaf .leaf)), (166, T166_0), (46, (.node 100 (L46_0 ++ (L46_1 ++ (L46_2 ++ (L46_3 ++ (L46_4 ++ (L46_5 ++ (L46_6 ++ L46_7))))))) .leaf .leaf)), (12, (.node 100 (L12_0 ++ (L12_1 ++ (L12_2 ++ (L12_3 ++ L12_4)))) .leaf .leaf))]
theorem k8 : ∀ q ∈ K8, OrcOK Tryz.prog q.1 q.2 := by
  unfold K8
  refine List.forall_mem_cons.2 ⟨(orc_two oT77x_0 (orc_two oT77x_1 (orc_two oT77x_2 (orc_two oT77x_3 (orc_two oT77x_4 (orc_two oT77x_5 (orc_two oT77x_6 oT77x_7))))))), ?_⟩
  refine List.forall_mem_cons.2 ⟨(orc_two oT271_0 (orc_two oT271_1 (orc_two oT271_2 (orc_two oT271_3 oT271_4)))), ?_⟩
  refine List.forall_mem_cons.2 ⟨oT346_0, ?_⟩
  refine List.forall_mem_cons.2 ⟨oT174_0, ?_⟩
  refine List.forall_mem_cons.2 ⟨(orc_two oT36_0 (orc_two oT36_1 (orc_two oT36_2 (orc_two oT36_3 (orc_two oT36_4 oT36_5))))), ?_⟩
  refine List.forall_mem_cons.2 ⟨(orc_two oT77_0 (orc_two oT77_1 (orc_two oT77_2 oT77_3))), ?_⟩
  refine List.forall_mem_cons.2 ⟨(orc_two oT56_0 (orc_two oT56_1 (orc_two oT56_2 (orc_two oT56_3 (orc_two oT56_4 (orc_two oT56_5 (orc_two oT56_6 (orc_two oT56_7 (orc_two oT56_8 (orc_two oT56_9 oT56_10)))))))))), ?_⟩
  refine List.forall_mem_cons.2 ⟨oT166_0, ?_⟩
  refine List.forall_mem_cons.2 ⟨(orc_two oT46_0 (orc_two oT46_1 (orc_two oT46_2 (orc_two oT46_3 (orc_two oT46_4 (orc_two oT46_5 (orc_two oT46_6 oT46_7))))))), ?_⟩
  refine List.forall_mem_cons.2 ⟨(orc_two oT12_0 (orc_two oT12_1 (orc_two oT12_2 (orc_two oT12_3 oT12_4)))), ?_⟩
  simp
noncomputable def E8 : XEnv := envOf Tryz.prog (methOf Tryz.prog) srt (tabOf K8)
theorem e8 : EnvOK Tryz.prog E8 := envP_ok srtOK (tabOf_ok k8)
-- LEVEL 7
noncomputable def ob1098 : AObj := (.row 28 [(vi 2), (vi 0), (.bool false), .nilslice, (.str []), .nilslice, .nilslice, (vi 4), (vi 0), (.bool false), .nilslice, (.str [98]), .nilslice, .nilslice] false)
noncomputable def ol1094 : List (Pos × AObj) := ((fp 2841), ob406) :: ((fp 2839), ob404) :: ((fp 2838), (.row 3 [(vi 2)] true)) :: ((fp 2830), ob401) :: ((fp 2828), ob340) :: ((fp 2824), ob361) :: ((fp 2819), ob397) :: ((fp 2817), ob357) :: ((fp 2811), ob394) :: ((fp 2810), (.row 3 [(vi 4)] true)) :: ((fp 2800), ob391) :: ((fp 2799), ob350) :: ((fp 2797), ob388) :: ((fp 2795), ob386) :: ((fp 2789), ob331) :: ((fp 2785), ob383) :: ((fp 2781), ob329) :: ((fp 2777), ob340) :: ((fp 2772), ob379) :: ((fp 2769), ob377) :: ((fp 2767), ob375) :: ((fp 2766), (.row 3 [(vi 1)] true)) :: ((fp 2759), ob331) :: ((fp 2755), ob329) :: ol926
noncomputable def ol1102 : List (Pos × AObj) := ((fp 2742), ob953) :: ((fp 2740), (.row 3 [(vi 1)] true)) :: ol926
noncomputable def ol1104 : List (Pos × AObj) := ((fp 2749), ob979) :: ((fp 2747), (.row 3 [(vi 2)] true)) :: ol1102
noncomputable def T17_0 : Tab := (.node 18446744073709551620 [⟨[ov412, (vi 4), (vi 1), (vi 0), (vi 0), (vi 0), (.slice (hp 6247) 0 2 (.ex 2))], true, (hp 6248), ((hp 6247), (.row 26 [(.slice (fp 2735) 0 2 (.ex 2)), (.slice (hp 6246) 0 2 (.ex 2))] false)) :: ((hp 6246), ob1098) :: ((hp 6241), ob415) :: ((hp 6239), ob340) :: ol1094, [], (hp 9347), (.bool true)⟩] (.node 4 [⟨[ov370, (vi 4), (vi 0), (vi 0), (vi 0), (vi 0), (.slice (fp 2852) 0 3 (.ex 3))], true, (fp 2853), ((fp 2852), (.row 26 [(.slice (fp 2735) 0 2 (.ex 2)), (.slice (fp 2742) 0 2 (.ex 2)), (.slice (fp 2749) 0 2 (.ex 2))] false)) :: ((fp 2851), ob411) :: ((fp 2849), ob409) :: ((fp 2848), (.row 3 [(vi 2)] true)) :: ((fp 2841), ob406) :: ((fp 2839), ob404) :: ((fp 2838), (.row 3 [(vi 2)] true)) :: ((fp 2830), ob401) :: ((fp 2828), ob340) :: ((fp 2824), ob361) :: ((fp 2819), ob397) :: ((fp 2817), ob357) :: ((fp 2811), ob394) :: ((fp 2810), (.row 3 [(vi 4)] true)) :: ((fp 2800), ob391) :: ((fp 2799), ob350) :: ((fp 2797), ob388) :: ((fp 2795), ob386) :: ((fp 2789), ob331) :: ((fp 2785), ob383) :: ((fp 2781), ob329) :: ((fp 2777), ob340) :: ((fp 2772), ob379) :: ((fp 2769), ob377) :: ((fp 2767), ob375) :: ((fp 2766), (.row 3 [(vi 1)] true)) :: ((fp 2759), ob331) :: ((fp 2755), ob329) :: ol1104, [], (hp 6235), (.bool true)⟩] (.node 2 [⟨[ov576, (vi 2), (vi 0), (vi 0), (vi 0), (vi 0), .nilslice], true, (hp 31934), ol613, [], (hp 31961), (.bool true)⟩] (.node 1 [⟨[ov423, (vi 1), (vi 0), (vi 0), (vi 0), (vi 0), .nilslice], true, (hp 12342), ol458, [], (hp 16910), (.bool true)⟩] .leaf .leaf) .leaf) (.node 7 [⟨[ov461, (vi 7), (vi 0), (vi 0), (vi 0), (vi 0), (.slice (hp 23876) 0 2 (.ex 2))], true, (hp 23877), ((hp 23876), (.row 26 [(.slice (fp 2735) 0 2 (.ex 2)), (.slice (hp 23875) 0 2 (.ex 2))] false)) :: ((hp 23875), ob1098) :: ((hp 23870), ob499) :: ((hp 23868), ob1053) :: ((hp 23866), ob331) :: ((hp 23863), ob497) :: ((hp 23861), ob495) :: ((hp 23860), (.row 3 [(vi 2)] true)) :: ((hp 23852), ob492) :: ((hp 23850), ob340) :: ((hp 23846), ob361) :: ((hp 23841), ob488) :: ((hp 23839), ob357) :: ((hp 23833), ob485) :: ((hp 23832), (.row 3 [(vi 4)] true)) :: ((hp 23822), ob482) :: ((hp 23821), ob350) :: ((hp 23819), ob479) :: ((hp 23817), ob477) :: ((hp 23811), ob331) :: ((hp 23807), ob474) :: ((hp 23803), ob329) :: ((hp 23799), ob340) :: ((hp 23794), ob470) :: ((hp 23791), ob468) :: ((hp 23789), ob466) :: ((hp 23788), (.row 3 [(vi 1)] true)) :: ((hp 23781), ob331) :: ((hp 23777), ob329) :: ol926, [], (hp 26998), (.bool true)⟩] .leaf .leaf)) (.node 115792089237316195448679391950234630908613142358471229703867005785769267691523 [⟨[ov416, (vi 3), (vi 0), (vi 0), (vi 4), (vi 1), (.slice (hp 9356) 0 1 (.ex 1))], true, (hp 9357), ((hp 9356), (.row 26 [(.slice (fp 2735) 0 2 (.ex 2))] false)) :: ((hp 9355), ob422) :: ((hp 9353), ob420) :: ((hp 9347), ob418) :: ol1094, [], (hp 12250), (.bool true)⟩] (.node 340282366920938463463374607431768211461 [⟨[ov461, (vi 5), (vi 0), (vi 1), (vi 0), (vi 0), (.slice (hp 27016) 0 2 (.ex 2))], true, (hp 27017), ((hp 27016), (.row 26 [(.slice (fp 2735) 0 2 (.ex 2)), (.slice (fp 2742) 0 2 (.ex 2))] false)) :: ((hp 27015), ob1066) :: ((hp 27014), ob1064) :: ((hp 27012), ob1062) :: ((hp 27011), (.row 3 [(vi 1)] true)) :: ((hp 27003), ob361) :: ((hp 23870), ob501) :: ((hp 23863), ob497) :: ((hp 23861), ob495) :: ((hp 23860), (.row 3 [(vi 2)] true)) :: ((hp 23852), ob492) :: ((hp 23850), ob340) :: ((hp 23846), ob361) :: ((hp 23841), ob488) :: ((hp 23839), ob357) :: ((hp 23833), ob485) :: ((hp 23832), (.row 3 [(vi 4)] true)) :: ((hp 23822), ob482) :: ((hp 23821), ob350) :: ((hp 23819), ob479) :: ((hp 23817), ob477) :: ((hp 23811), ob331) :: ((hp 23807), ob474) :: ((hp 23803), ob329) :: ((hp 23799), ob340) :: ((hp 23794), ob470) :: ((hp 23791), ob468) :: ((hp 23789), ob466) :: ((hp 23788), (.row 3 [(vi 1)] true)) :: ((hp 23781), ob331) :: ((hp 23777), ob329) :: ol1102, [], (hp 30374), (.bool true)⟩] .leaf .leaf) (.node 1389505070847794345101683125310414936530747184257309767721798074428349659217923 [⟨[ov460, (vi 3), (vi 0), (vi 0), (vi 3), (vi 12), (.slice (hp 16924) 0 5 (.ex 5))], true, (hp 16925), ((hp 16924), (.row 26 [(.slice (fp 2735) 0 2 (.ex 2)), (.slice (fp 2742) 0 2 (.ex 2)), (.slice (fp 2749) 0 2 (.ex 2)), (.slice (hp 16916) 0 2 (.ex 2)), (.slice (hp 16923) 0 2 (.ex 2))] false)) :: ((hp 16923), (.row 28 [(vi 2), (vi 0), (.bool false), (.slice (hp 16921) 0 1 (.up 1)), (.str []), .nilslice, .nilslice, (vi 4), (vi 0), (.bool false), .nilslice, (.str [97]), .nilslice, .nilslice] false)) :: ((hp 16921), (.row 3 [(vi 4)] true)) :: ((hp 16916), (.row 28 [(vi 2), (vi 0), (.bool false), (.slice (hp 16914) 0 1 (.up 1)), (.str []), .nilslice, .nilslice, (vi 4), (vi 0), (.bool false), .nilslice, (.str [97]), .nilslice, .nilslice] false)) :: ((hp 16914), (.row 3 [(vi 3)] true)) :: ((hp 12330), ob454) :: ((hp 12328), ob340) :: ((hp 12324), ob361) :: ((hp 12319), ob450) :: ((hp 12317), ob357) :: ((hp 12311), ob447) :: ((hp 12310), (.row 3 [(vi 4)] true)) :: ((hp 12300), ob444) :: ((hp 12299), ob350) :: ((hp 12297), ob441) :: ((hp 12295), ob439) :: ((hp 12289), ob331) :: ((hp 12285), ob436) :: ((hp 12281), ob329) :: ((hp 12277), ob340) :: ((hp 12272), ob432) :: ((hp 12269), ob430) :: ((hp 12267), ob428) :: ((hp 12266), (.row 3 [(vi 1)] true)) :: ((hp 12259), ob331) :: ((hp 12255), ob329) :: ol1104, [], (hp 23772), (.bool true)⟩] .leaf .leaf)))
theorem rT17_0 : rowT E8 400 17 T17_0 okR = okR := by kernel_rfl
theorem oT17_0 : OrcOK Tryz.prog 17 T17_0 := (orc_of_rowT hmix e8 rT17_0).1
noncomputable def K9 : List (FuncId × Tab) := [(77, (.node 0 (L77x_0 ++ (L77x_1 ++ (L77x_2 ++ (L77x_3 ++ (L77x_4 ++ (L77x_5 ++ (L77x_6 ++ L77x_7))))))) .leaf .leaf)), (271, (.node 0 (L271_0 ++ (L271_1 ++ (L271_2 ++ (L271_3 ++ L271_4)))) .leaf .leaf)), (346, T346_0), (174, T174_0), (36, (.node 0 (L36_0 ++ (L36_1 ++ (L36_2 ++ (L36_3 ++ (L36_4 ++ L36_5))))) .leaf .leaf)), (77, (.node 0 (L77_0 ++ (L77_1 ++ (L77_2 ++ L77_3))) .leaf .leaf)), (56, (.node 0 (L56_0 ++ (L56_1 ++ (L56_2 ++ (L56_3 ++ (L56_4 ++ (L56_5 ++ (L56_6 ++ (L56_7 ++ (L56_8 ++ (L56_9 ++ L56_10)))))))))) .leaf .leaf)), (166, T166_0), (46, (.node 100 (L46_0 ++ (L46_1 ++ (L46_2 ++ (L46_3 ++ (L46_4 ++ (L46_5 ++ (L46_6 ++ L46_7))))))) .leaf .leaf)), (12, (.node 100 (L12_0 ++ (L12_1 ++ (L12_2 ++ (L12_3 ++ L12_4)))) .leaf .leaf)), (17, T17_0)]
theorem k9 : ∀ q ∈ K9, OrcOK Tryz.prog q.1 q.2 := by
  unfold K9
  refine List.forall_mem_cons.2 ⟨(orc_two oT77x_0 (orc_two oT77x_1 (orc_two oT77x_2 (orc_two oT77x_3 (orc_two oT77x_4 (orc_two oT77x_5 (orc_two oT77x_6 oT77x_7))))))), ?_⟩
  refine List.forall_mem_cons.2 ⟨(orc_two oT271_0 (orc_two oT271_1 (orc_two oT271_2 (orc_two oT271_3 oT271_4)))), ?_⟩
  refine List.forall_mem_cons.2 ⟨oT346_0, ?_⟩
  refine List.forall_mem_cons.2 ⟨oT174_0, ?_⟩
  refine List.forall_mem_cons.2 ⟨(orc_two oT36_0 (orc_two oT36_1 (orc_two oT36_2 (orc_two oT36_3 (orc_two oT36_4 oT36_5))))), ?_⟩
  refine List.forall_mem_cons.2 ⟨(orc_two oT77_0 (orc_two oT77_1 (orc_two oT77_2 oT77_3))), ?_⟩
  refine List.forall_mem_cons.2 ⟨(orc_two oT56_0 (orc_two oT56_1 (orc_two oT56_2 (orc_two oT56_3 (orc_two oT56_4 (orc_two oT56_5 (orc_two oT56_6 (orc_two oT56_7 (orc_two oT56_8 (orc_two oT56_9 oT56_10)))))))))), ?_⟩
  refine List.forall_mem_cons.2 ⟨oT166_0, ?_⟩
  refine List.forall_mem_cons.2 ⟨(orc_two oT46_0 (orc_two oT46_1 (orc_two oT46_2 (orc_two oT46_3 (orc_two oT46_4 (orc_two oT46_5 (orc_two oT46_6 oT46_7))))))), ?_⟩
  refine List.forall_mem_cons.2 ⟨(orc_two oT12_0 (orc_two oT12_1 (orc_two oT12_2 (orc_two oT12_3 oT12_4)))), ?_⟩
  refine List.forall_mem_cons.2 ⟨oT17_0, ?_⟩
  simp
noncomputable def E9 : XEnv := envOf Tryz.prog (methOf Tryz.prog) srt (tabOf K9)
theorem e9 : EnvOK Tryz.prog E9 := envP_ok srtOK (tabOf_ok k9)
-- LEVEL 8
end Go.Proofs.YtjbkanbdnoepmaaGreatDoor
