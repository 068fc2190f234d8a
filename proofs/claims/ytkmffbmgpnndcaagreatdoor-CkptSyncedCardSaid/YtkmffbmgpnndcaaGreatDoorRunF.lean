/- Runs of the program's own functions on data, checked by the kernel: rows of tables (what a call comes to), for the run of foregonelaw37.sane. No conditions. -/
import Derived.Test.YtkmffbmgpnndcaaGreatDoorRunE
namespace Go.Proofs.YtkmffbmgpnndcaaGreatDoor
open Go Go.Proofs Go.X
set_option maxRecDepth 1000000
noncomputable def L24_0:List Ent:=[⟨[ov118,(vi 100),(.slice (fp 2607) 0 4 (.ex 4))],true,(fp 2608),((fp 2607),(.row 82 [(vi 1),(vi 3),.nilslice,(vi 2),(vi 2),.nilslice,(vi 1),(vi 2),.nilslice,(vi 3),(vi 0),.nilslice] false)) :: ol159,ol181,(hp 6043),(.tuple [(.agg [(.slice (hp 6036) 0 6 (.up 1)),(.slice (hp 6040) 0 1 (.up 1)),(.slice (hp 6038) 0 6 (.up 2))]),(.agg [(vi 8),(vi 1),(vi 1),(vi 2)]),(vi 0),(vi 0)])⟩]
noncomputable def T24_0:Tab:=.node 100 L24_0 .leaf .leaf
theorem rT24_0:rowT E7 400 24 T24_0 okR = okR:=by kernel_rfl
theorem oT24_0:OrcOK Tryz.prog 24 T24_0:=(orc_of_rowT hmix e7 rT24_0).1
noncomputable def L24_1:List Ent:=[⟨[ov118,(vi 100),(.slice (fp 2607) 0 4 (.ex 4))],true,(hp 6046),((hp 6045),(.row 3 [(vi 5)] false)) :: ((fp 2607),(.row 82 [(vi 1),(vi 3),.nilslice,(vi 2),(vi 1),.nilslice,(vi 1),(vi 2),.nilslice,(vi 3),(vi 0),(.slice (hp 6045) 0 1 (.ex 1))] false)) :: ol159,ol199,(hp 10662),(.tuple [(.agg [(.slice (hp 10655) 0 6 (.up 1)),(.slice (hp 10659) 0 1 (.up 1)),(.slice (hp 10657) 0 6 (.up 2))]),(.agg [(vi 11),(vi 0),(vi 1),(vi 5)]),(vi 0),(vi 0)])⟩]
noncomputable def T24_1:Tab:=.node 100 L24_1 .leaf .leaf
theorem rT24_1:rowT E7 400 24 T24_1 okR = okR:=by kernel_rfl
theorem oT24_1:OrcOK Tryz.prog 24 T24_1:=(orc_of_rowT hmix e7 rT24_1).1
noncomputable def K8:List (FuncId × Tab):=[(113,(.node 0 (L113_0++L113_1) .leaf .leaf)),(197,T197_0),(101,T101_0),(276,T276_0),(48,T48_0),(187,T187_0),(278,M278_9),(279,M279_3),(277,T277_0),(233,(.node 0 (L233_0++(L233_1++(L233_2++(L233_3++L233_4)))) .leaf .leaf)),(388,T388_0),(170,T170_0),(317,T317_0),(134,T134_0),(108,(.node 0 (L108_0++(L108_1++(L108_2++(L108_3++L108_4)))) .leaf .leaf)),(36,M36_2),(24,(.node 100 (L24_0++L24_1) .leaf .leaf))]
theorem k8:∀ q ∈ K8,OrcOK Tryz.prog q.1 q.2:=by
  unfold K8;refine fJ.2 ⟨(orc_two oT113_0 oT113_1),?_⟩;refine fJ.2 ⟨oT197_0,?_⟩;refine fJ.2 ⟨oT101_0,?_⟩;refine fJ.2 ⟨oT276_0,?_⟩;refine fJ.2 ⟨oT48_0,?_⟩;refine fJ.2 ⟨oT187_0,?_⟩;refine fJ.2 ⟨oM278_9,?_⟩;refine fJ.2 ⟨oM279_3,?_⟩;refine fJ.2 ⟨oT277_0,?_⟩;refine fJ.2 ⟨(orc_two oT233_0 (orc_two oT233_1 (orc_two oT233_2 (orc_two oT233_3 oT233_4)))),?_⟩;refine fJ.2 ⟨oT388_0,?_⟩;refine fJ.2 ⟨oT170_0,?_⟩;refine fJ.2 ⟨oT317_0,?_⟩;refine fJ.2 ⟨oT134_0,?_⟩;refine fJ.2 ⟨(orc_two oT108_0 (orc_two oT108_1 (orc_two oT108_2 (orc_two oT108_3 oT108_4)))),?_⟩;refine fJ.2 ⟨oM36_2,?_⟩;refine fJ.2 ⟨(orc_two oT24_0 oT24_1),?_⟩;simp
noncomputable def E8:XEnv:=envOf Tryz.prog (methOf Tryz.prog) (fun _=>none) (tabOf K8)
theorem e8:EnvOK Tryz.prog E8:=envP_ok srtOK_none (tabOf_ok k8)
-- LEVEL 7
end Go.Proofs.YtkmffbmgpnndcaaGreatDoor
