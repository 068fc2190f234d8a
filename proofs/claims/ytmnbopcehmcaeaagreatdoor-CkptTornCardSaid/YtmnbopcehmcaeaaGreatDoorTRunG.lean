/- Runs of the program's own functions on data, checked by the kernel: rows of tables (what a call comes to), for the run of foregonelaw37.sane. No conditions. -/
import Derived.Test.YtmnbopcehmcaeaaGreatDoorTRunF
namespace Go.Proofs.YtmnbopcehmcaeaaGreatDoor
open Go Go.Proofs Go.X
set_option maxRecDepth 1000000
noncomputable def L5_0 : List Ent := [ro [] (.bool true)]
noncomputable def T5_0 : Tab := .node 0 L5_0 .leaf .leaf
theorem rT5_0 : rowT E8 400 5 T5_0 okR = okR := by kernel_rfl
theorem oT5_0 : OrcOK Tryz.prog 5 T5_0 := (orc_of_rowT hmix e8 rT5_0).1
noncomputable def K9 : List (FuncId × Tab) := [(132, (.node 0 (L132_0 ++ L132_1) .leaf .leaf)), (266, T266_0), (120, T120_0), (209, T209_0), (64, T64_0), (206, T206_0), (211, M211_9), (212, M212_3), (210, T210_0), (253, (.node 0 (L253_0 ++ (L253_1 ++ (L253_2 ++ (L253_3 ++ L253_4)))) .leaf .leaf)), (342, T342_0), (188, T188_0), (292, T292_0), (93, T93_0), (127, (.node 0 (L127_0 ++ (L127_1 ++ (L127_2 ++ (L127_3 ++ L127_4)))) .leaf .leaf)), (7, M7_2), (32, (.node 100 (L32_0 ++ L32_1) .leaf .leaf)), (5, (.node 0 L5_0 .leaf .leaf))]
noncomputable def E9 : XEnv := envOf Tryz.prog (methOf Tryz.prog) (fun _ => none) (tabOf K9)
-- LEVEL 8
end Go.Proofs.YtmnbopcehmcaeaaGreatDoor
