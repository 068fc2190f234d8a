/- Runs of the program's own functions on data, checked by the kernel: rows of tables (what a call comes to), for the run of foregonelaw37.sane. No conditions. -/
import Derived.Test.YtkmffbmgpnndcaaGreatDoorRunB
namespace Go.Proofs.YtkmffbmgpnndcaaGreatDoor
open Go Go.Proofs Go.X
set_option maxRecDepth 1000000
noncomputable def T277_0:Tab:=(.node 1171368248680556527619 [ro [(vu 9223372036854775811),(vi 63)] (vu 3)] .leaf .leaf)
theorem rT277_0:rowT E3 400 277 T277_0 okR = okR:=by kernel_rfl
theorem oT277_0:OrcOK Tryz.prog 277 T277_0:=(orc_of_rowT hmix e3 rT277_0).1
noncomputable def ol201:List (Pos × AObj):=((fp 935),ob166) :: ol159
noncomputable def ob204:AObj:=(.row 53 [(vi 2),(vi 0),(.bool false),(.slice (fp 1190) 0 1 (.up 1)),(.str []),.nilslice,.nilslice,(vi 4),(vi 0),(.bool false),.nilslice,(.str [97]),.nilslice,.nilslice] true)
noncomputable def ol207:List (Pos × AObj):=((fp 1764),ob166) :: ol159
noncomputable def ob210:AObj:=(.row 53 [(vi 2),(vi 0),(.bool false),(.slice (fp 2017) 0 1 (.up 1)),(.str []),.nilslice,.nilslice,(vi 4),(vi 0),(.bool false),.nilslice,(.str [97]),.nilslice,.nilslice] true)
noncomputable def L233_0:List Ent:=[⟨[ov118,(.slice (fp 882) 0 2 (.up 7))],false,(fp 883),((fp 882),ob166) :: ol159,[],(fp 883),(.tuple [(.bool true),(vi 0),(vi 0)])⟩,⟨[ov118,(.slice (fp 935) 0 2 (.up 7))],false,(fp 936),ol201,[],(fp 936),(.tuple [(.bool true),(vi 0),(vi 0)])⟩,⟨[ov118,(.slice (fp 1248) 0 2 (.up 7))],false,(fp 1249),((fp 1248),ob204) :: ((fp 1190),(.row 3 [(vi 1)] true)) :: ol159,[],(fp 1249),(.tuple [(.bool true),(vi 0),(vi 0)])⟩,⟨[ov118,(.slice (fp 1414) 0 2 (.up 7))],false,(fp 1415),((fp 1414),ob168) :: ol159,[],(fp 1415),(.tuple [(.bool true),(vi 0),(vi 0)])⟩,⟨[ov118,(.slice (fp 1752) 0 2 (.up 7))],false,(fp 1753),((fp 1752),ob166) :: ol159,[],(fp 1753),(.tuple [(.bool true),(vi 0),(vi 0)])⟩,⟨[ov118,(.slice (fp 1764) 0 2 (.up 7))],false,(fp 1765),ol207,[],(fp 1765),(.tuple [(.bool true),(vi 0),(vi 0)])⟩,⟨[ov118,(.slice (fp 2075) 0 2 (.up 7))],false,(fp 2076),((fp 2075),ob210) :: ((fp 2017),(.row 3 [(vi 1)] true)) :: ol159,[],(fp 2076),(.tuple [(.bool true),(vi 0),(vi 0)])⟩,⟨[ov118,(.slice (fp 2241) 0 2 (.up 7))],false,(fp 2242),((fp 2241),ob168) :: ol159,[],(fp 2242),(.tuple [(.bool true),(vi 0),(vi 0)])⟩]
noncomputable def T233_0:Tab:=.node 0 L233_0 .leaf .leaf
theorem rT233_0:rowT E3 400 233 T233_0 okR = okR:=by kernel_rfl
theorem oT233_0:OrcOK Tryz.prog 233 T233_0:=(orc_of_rowT hmix e3 rT233_0).1
noncomputable def ol213:List (Pos × AObj):=((fp 2745),ob166) :: ol159
noncomputable def ob216:AObj:=(.row 53 [(vi 2),(vi 0),(.bool false),(.slice (fp 3001) 0 1 (.up 1)),(.str []),.nilslice,.nilslice,(vi 4),(vi 0),(.bool false),.nilslice,(.str [97]),.nilslice,.nilslice] true)
noncomputable def ol215:List (Pos × AObj):=((fp 3059),ob216) :: ((fp 3001),(.row 3 [(vi 1)] true)) :: ol159
noncomputable def ol217:List (Pos × AObj):=((fp 3225),ob168) :: ol159
noncomputable def ob220:AObj:=(.row 53 [(vi 2),(vi 0),(.bool false),(.slice (fp 3537) 0 1 (.up 1)),(.str []),.nilslice,.nilslice,(vi 4),(vi 0),(.bool false),.nilslice,(.str [98]),.nilslice,.nilslice] true)
noncomputable def ol219:List (Pos × AObj):=((fp 3595),ob220) :: ((fp 3537),(.row 3 [(vi 1)] true)) :: ol159
noncomputable def ob223:AObj:=(.row 53 [(vi 2),(vi 0),(.bool false),(.slice (fp 3935) 0 1 (.up 1)),(.str []),.nilslice,.nilslice,(vi 4),(vi 0),(.bool false),.nilslice,(.str [97]),.nilslice,.nilslice] true)
noncomputable def ol222:List (Pos × AObj):=((fp 3993),ob223) :: ((fp 3935),(.row 3 [(vi 2)] true)) :: ol159
noncomputable def ob227:AObj:=(.row 53 [(vi 2),(vi 0),(.bool false),(.slice (hp 4785) 0 1 (.up 1)),(.str []),.nilslice,.nilslice,(vi 4),(vi 0),(.bool false),.nilslice,(.str [98]),.nilslice,.nilslice] true)
noncomputable def L233_1:List Ent:=[⟨[ov118,(.slice (fp 2733) 0 2 (.up 7))],false,(fp 2734),((fp 2733),ob166) :: ol159,[],(fp 2734),(.tuple [(.bool true),(vi 0),(vi 0)])⟩,⟨[ov118,(.slice (fp 2745) 0 2 (.up 7))],false,(fp 2746),ol213,[],(fp 2746),(.tuple [(.bool true),(vi 0),(vi 0)])⟩,⟨[ov118,(.slice (fp 3059) 0 2 (.up 7))],false,(fp 3060),ol215,[],(fp 3060),(.tuple [(.bool true),(vi 0),(vi 0)])⟩,⟨[ov118,(.slice (fp 3225) 0 2 (.up 7))],false,(fp 3226),ol217,[],(fp 3226),(.tuple [(.bool true),(vi 0),(vi 0)])⟩,⟨[ov118,(.slice (fp 3595) 0 2 (.up 7))],false,(fp 3596),ol219,[],(fp 3596),(.tuple [(.bool true),(vi 0),(vi 0)])⟩,⟨[ov118,(.slice (fp 3993) 0 2 (.up 7))],false,(fp 3994),ol222,[],(fp 3994),(.tuple [(.bool true),(vi 0),(vi 0)])⟩,⟨[ov118,(.slice (hp 4159) 0 2 (.up 7))],false,(hp 4160),((hp 4159),ob168) :: ol159,[],(hp 4160),(.tuple [(.bool true),(vi 0),(vi 0)])⟩,⟨[ov118,(.slice (hp 4843) 0 2 (.up 7))],false,(hp 4844),((hp 4843),ob227) :: ((hp 4785),(.row 3 [(vi 2)] true)) :: ol159,[],(hp 4844),(.tuple [(.bool true),(vi 0),(vi 0)])⟩]
noncomputable def T233_1:Tab:=.node 0 L233_1 .leaf .leaf
theorem rT233_1:rowT E3 400 233 T233_1 okR = okR:=by kernel_rfl
theorem oT233_1:OrcOK Tryz.prog 233 T233_1:=(orc_of_rowT hmix e3 rT233_1).1
noncomputable def ol229:List (Pos × AObj):=((hp 5310),ob172) :: ((hp 5235),(.row 3 [(vi 1)] true)) :: ol159
noncomputable def ol231:List (Pos × AObj):=((hp 5686),ob176) :: ((hp 5628),(.row 3 [(vi 2)] true)) :: ol159
noncomputable def ol233:List (Pos × AObj):=((hp 5314),ob174) :: ((hp 5263),(.row 3 [(vi 2)] true)) :: ol159
noncomputable def ol235:List (Pos × AObj):=((hp 6183),ob166) :: ol159
noncomputable def ob238:AObj:=(.row 53 [(vi 2),(vi 0),(.bool false),(.slice (hp 6439) 0 1 (.up 1)),(.str []),.nilslice,.nilslice,(vi 4),(vi 0),(.bool false),.nilslice,(.str [97]),.nilslice,.nilslice] true)
noncomputable def ol237:List (Pos × AObj):=((hp 6497),ob238) :: ((hp 6439),(.row 3 [(vi 1)] true)) :: ol159
noncomputable def ol239:List (Pos × AObj):=((hp 6663),ob168) :: ol159
noncomputable def ob242:AObj:=(.row 53 [(vi 2),(vi 0),(.bool false),(.slice (hp 6975) 0 1 (.up 1)),(.str []),.nilslice,.nilslice,(vi 4),(vi 0),(.bool false),.nilslice,(.str [98]),.nilslice,.nilslice] true)
noncomputable def ol241:List (Pos × AObj):=((hp 7033),ob242) :: ((hp 6975),(.row 3 [(vi 1)] true)) :: ol159
noncomputable def L233_2:List Ent:=[⟨[ov118,(.slice (hp 5310) 0 2 (.up 7))],false,(hp 5311),ol229,[],(hp 5311),(.tuple [(.bool true),(vi 0),(vi 0)])⟩,⟨[ov118,(.slice (hp 5686) 0 2 (.up 7))],false,(hp 5687),ol231,[],(hp 5687),(.tuple [(.bool true),(vi 0),(vi 0)])⟩,⟨[ov118,(.slice (hp 5314) 0 2 (.up 7))],false,(hp 5315),ol233,[],(hp 5315),(.tuple [(.bool true),(vi 0),(vi 0)])⟩,⟨[ov118,(.slice (hp 6171) 0 2 (.up 7))],false,(hp 6172),((hp 6171),ob166) :: ol159,[],(hp 6172),(.tuple [(.bool true),(vi 0),(vi 0)])⟩,⟨[ov118,(.slice (hp 6183) 0 2 (.up 7))],false,(hp 6184),ol235,[],(hp 6184),(.tuple [(.bool true),(vi 0),(vi 0)])⟩,⟨[ov118,(.slice (hp 6497) 0 2 (.up 7))],false,(hp 6498),ol237,[],(hp 6498),(.tuple [(.bool true),(vi 0),(vi 0)])⟩,⟨[ov118,(.slice (hp 6663) 0 2 (.up 7))],false,(hp 6664),ol239,[],(hp 6664),(.tuple [(.bool true),(vi 0),(vi 0)])⟩,⟨[ov118,(.slice (hp 7033) 0 2 (.up 7))],false,(hp 7034),ol241,[],(hp 7034),(.tuple [(.bool true),(vi 0),(vi 0)])⟩]
noncomputable def T233_2:Tab:=.node 0 L233_2 .leaf .leaf
theorem rT233_2:rowT E3 400 233 T233_2 okR = okR:=by kernel_rfl
theorem oT233_2:OrcOK Tryz.prog 233 T233_2:=(orc_of_rowT hmix e3 rT233_2).1
noncomputable def ob245:AObj:=(.row 53 [(vi 2),(vi 0),(.bool false),(.slice (hp 7373) 0 1 (.up 1)),(.str []),.nilslice,.nilslice,(vi 4),(vi 0),(.bool false),.nilslice,(.str [97]),.nilslice,.nilslice] true)
noncomputable def ol244:List (Pos × AObj):=((hp 7431),ob245) :: ((hp 7373),(.row 3 [(vi 2)] true)) :: ol159
noncomputable def ob249:AObj:=(.row 53 [(vi 2),(vi 0),(.bool false),(.slice (hp 8202) 0 1 (.up 1)),(.str []),.nilslice,.nilslice,(vi 4),(vi 0),(.bool false),.nilslice,(.str [98]),.nilslice,.nilslice] true)
noncomputable def ol250:List (Pos × AObj):=((hp 8523),ob166) :: ol159
noncomputable def ol252:List (Pos × AObj):=((hp 8835),ob189) :: ((hp 8777),(.row 3 [(vi 1)] true)) :: ol159
noncomputable def ol253:List (Pos × AObj):=((hp 9001),ob168) :: ol159
noncomputable def ol255:List (Pos × AObj):=((hp 9371),ob191) :: ((hp 9313),(.row 3 [(vi 1)] true)) :: ol159
noncomputable def ol257:List (Pos × AObj):=((hp 9769),ob193) :: ((hp 9711),(.row 3 [(vi 2)] true)) :: ol159
noncomputable def L233_3:List Ent:=[⟨[ov118,(.slice (hp 7431) 0 2 (.up 7))],false,(hp 7432),ol244,[],(hp 7432),(.tuple [(.bool true),(vi 0),(vi 0)])⟩,⟨[ov118,(.slice (hp 7597) 0 2 (.up 7))],false,(hp 7598),((hp 7597),ob168) :: ol159,[],(hp 7598),(.tuple [(.bool true),(vi 0),(vi 0)])⟩,⟨[ov118,(.slice (hp 8260) 0 2 (.up 7))],false,(hp 8261),((hp 8260),ob249) :: ((hp 8202),(.row 3 [(vi 2)] true)) :: ol159,[],(hp 8261),(.tuple [(.bool true),(vi 0),(vi 0)])⟩,⟨[ov118,(.slice (hp 8523) 0 2 (.up 7))],false,(hp 8524),ol250,[],(hp 8524),(.tuple [(.bool true),(vi 0),(vi 0)])⟩,⟨[ov118,(.slice (hp 8835) 0 2 (.up 7))],false,(hp 8836),ol252,[],(hp 8836),(.tuple [(.bool true),(vi 0),(vi 0)])⟩,⟨[ov118,(.slice (hp 9001) 0 2 (.up 7))],false,(hp 9002),ol253,[],(hp 9002),(.tuple [(.bool true),(vi 0),(vi 0)])⟩,⟨[ov118,(.slice (hp 9371) 0 2 (.up 7))],false,(hp 9372),ol255,[],(hp 9372),(.tuple [(.bool true),(vi 0),(vi 0)])⟩,⟨[ov118,(.slice (hp 9769) 0 2 (.up 7))],false,(hp 9770),ol257,[],(hp 9770),(.tuple [(.bool true),(vi 0),(vi 0)])⟩]
noncomputable def T233_3:Tab:=.node 0 L233_3 .leaf .leaf
theorem rT233_3:rowT E3 400 233 T233_3 okR = okR:=by kernel_rfl
theorem oT233_3:OrcOK Tryz.prog 233 T233_3:=(orc_of_rowT hmix e3 rT233_3).1
noncomputable def ol260:List (Pos × AObj):=((hp 10305),ob195) :: ((hp 10247),(.row 3 [(vi 2)] true)) :: ol159
noncomputable def L233_4:List Ent:=[⟨[ov118,(.slice (hp 9935) 0 2 (.up 7))],false,(hp 9936),((hp 9935),ob168) :: ol159,[],(hp 9936),(.tuple [(.bool true),(vi 0),(vi 0)])⟩,⟨[ov118,(.slice (hp 10305) 0 2 (.up 7))],false,(hp 10306),ol260,[],(hp 10306),(.tuple [(.bool true),(vi 0),(vi 0)])⟩]
noncomputable def T233_4:Tab:=.node 0 L233_4 .leaf .leaf
theorem rT233_4:rowT E3 400 233 T233_4 okR = okR:=by kernel_rfl
theorem oT233_4:OrcOK Tryz.prog 233 T233_4:=(orc_of_rowT hmix e3 rT233_4).1
noncomputable def T388_0:Tab:=(.node 1171368248680556527617 [ro [(vu 9223372036854775809),(vi 63)] (vu 256)] (.node 396604997584755359747 [ro [(vu 9223372036854775811),(vi 21)] (vu 4295033094)] (.node 175244068700240740355 [ro [(vu 9223372036854775811),(vi 9)] (vu 65792)] .leaf .leaf) .leaf) (.node 1171368248680556527619 [ro [(vu 9223372036854775811),(vi 63)] (vu 2)] .leaf .leaf))
theorem rT388_0:rowT E3 400 388 T388_0 okR = okR:=by kernel_rfl
theorem oT388_0:OrcOK Tryz.prog 388 T388_0:=(orc_of_rowT hmix e3 rT388_0).1
noncomputable def K4:List (FuncId × Tab):=[(113,(.node 0 (L113_0++L113_1) .leaf .leaf)),(197,T197_0),(101,T101_0),(276,T276_0),(48,T48_0),(187,T187_0),(278,M278_9),(279,M279_3),(277,T277_0),(233,(.node 0 (L233_0++(L233_1++(L233_2++(L233_3++L233_4)))) .leaf .leaf)),(388,T388_0)]
theorem k4:∀ q ∈ K4,OrcOK Tryz.prog q.1 q.2:=by
  unfold K4;refine fJ.2 ⟨(orc_two oT113_0 oT113_1),?_⟩;refine fJ.2 ⟨oT197_0,?_⟩;refine fJ.2 ⟨oT101_0,?_⟩;refine fJ.2 ⟨oT276_0,?_⟩;refine fJ.2 ⟨oT48_0,?_⟩;refine fJ.2 ⟨oT187_0,?_⟩;refine fJ.2 ⟨oM278_9,?_⟩;refine fJ.2 ⟨oM279_3,?_⟩;refine fJ.2 ⟨oT277_0,?_⟩;refine fJ.2 ⟨(orc_two oT233_0 (orc_two oT233_1 (orc_two oT233_2 (orc_two oT233_3 oT233_4)))),?_⟩;refine fJ.2 ⟨oT388_0,?_⟩;simp
noncomputable def E4:XEnv:=envOf Tryz.prog (methOf Tryz.prog) (fun _=>none) (tabOf K4)
theorem e4:EnvOK Tryz.prog E4:=envP_ok srtOK_none (tabOf_ok k4)
-- LEVEL 3
end Go.Proofs.YtkmffbmgpnndcaaGreatDoor
