/- Runs of the program's own functions on data, checked by the kernel: rows of tables (what a call comes to), for the run of foregonelaw37.sane. No conditions. -/
import Derived.Test.YtkmffbmgpnndcaaGreatDoorRunF
namespace Go.Proofs.YtkmffbmgpnndcaaGreatDoor
open Go Go.Proofs Go.X
set_option maxRecDepth 1000000
noncomputable def L4_0:List Ent:=[ro [] (.bool true)]
noncomputable def T4_0:Tab:=.node 0 L4_0 .leaf .leaf
theorem rT4_0:rowT E8 400 4 T4_0 okR = okR:=by kernel_rfl
theorem oT4_0:OrcOK Tryz.prog 4 T4_0:=(orc_of_rowT hmix e8 rT4_0).1
noncomputable def K9:List (FuncId × Tab):=[(113,(.node 0 (L113_0++L113_1) .leaf .leaf)),(197,T197_0),(101,T101_0),(276,T276_0),(48,T48_0),(187,T187_0),(278,M278_9),(279,M279_3),(277,T277_0),(233,(.node 0 (L233_0++(L233_1++(L233_2++(L233_3++L233_4)))) .leaf .leaf)),(388,T388_0),(170,T170_0),(317,T317_0),(134,T134_0),(108,(.node 0 (L108_0++(L108_1++(L108_2++(L108_3++L108_4)))) .leaf .leaf)),(36,M36_2),(24,(.node 100 (L24_0++L24_1) .leaf .leaf)),(4,(.node 0 L4_0 .leaf .leaf))]
theorem k9:∀ q ∈ K9,OrcOK Tryz.prog q.1 q.2:=by
  unfold K9;refine fJ.2 ⟨(orc_two oT113_0 oT113_1),?_⟩;refine fJ.2 ⟨oT197_0,?_⟩;refine fJ.2 ⟨oT101_0,?_⟩;refine fJ.2 ⟨oT276_0,?_⟩;refine fJ.2 ⟨oT48_0,?_⟩;refine fJ.2 ⟨oT187_0,?_⟩;refine fJ.2 ⟨oM278_9,?_⟩;refine fJ.2 ⟨oM279_3,?_⟩;refine fJ.2 ⟨oT277_0,?_⟩;refine fJ.2 ⟨(orc_two oT233_0 (orc_two oT233_1 (orc_two oT233_2 (orc_two oT233_3 oT233_4)))),?_⟩;refine fJ.2 ⟨oT388_0,?_⟩;refine fJ.2 ⟨oT170_0,?_⟩;refine fJ.2 ⟨oT317_0,?_⟩;refine fJ.2 ⟨oT134_0,?_⟩;refine fJ.2 ⟨(orc_two oT108_0 (orc_two oT108_1 (orc_two oT108_2 (orc_two oT108_3 oT108_4)))),?_⟩;refine fJ.2 ⟨oM36_2,?_⟩;refine fJ.2 ⟨(orc_two oT24_0 oT24_1),?_⟩;refine fJ.2 ⟨oT4_0,?_⟩;simp
noncomputable def E9:XEnv:=envOf Tryz.prog (methOf Tryz.prog) (fun _=>none) (tabOf K9)
theorem e9:EnvOK Tryz.prog E9:=envP_ok srtOK_none (tabOf_ok k9)
-- LEVEL 8
end Go.Proofs.YtkmffbmgpnndcaaGreatDoor
