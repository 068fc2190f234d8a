/- The package-level variables that CkptSynced's row lists hold what the program's own text lays into them: the rest of nine closed facts, one theorem each (the kernel gives its memory back behind each). No conditions. -/
import Derived.Test.YtkmffbmgpnndcaaGreatDoorTiedA
import Derived.LaidByTextLater
import Derived.SevenTiedAt
namespace Go.Proofs.YtkmffbmgpnndcaaGreatDoor
open Go
theorem t7:∀ os tape,varsDone Tryz.prog 400 (varsId Tryz.prog) os tape = true:=fun _ _=>by kernel_rfl
theorem t8:∀ os tape,(DataW.laidRun Tryz.prog (varsWorld Tryz.prog 400 (varsId Tryz.prog) os tape).memory 8 ((laidL:List (String × DataW Unit)).map (·.1))).map (·.1) = some (laidL:List (String × DataW Unit)):=fun _ _=>by kernel_rfl
theorem t9:∀ os tape,(DataW.laidRun Tryz.prog (varsWorld Tryz.prog 400 (varsId Tryz.prog) os tape).memory 8 ((laidL:List (String × DataW Unit)).map (·.1))).map (fun x=>decide x.2.Nodup && laidRowsB Tryz.prog (varsWorld Tryz.prog 400 (varsId Tryz.prog) os tape).memory x.2) = some true:=fun _ _=>by kernel_rfl
theorem tied:Tryz.prog.laidByTextLater laidL kindsL true:=Program.laidByTextLater_by_run 400 8 t1 t2 t3 t4 t5 t6 t7 t8 t9
theorem row_tied:Rows.ckptSyncedRow.laidByTextAt .later Tryz.pinned [.data,.data,.data,.sentinel,.sentinel,.sentinel] true :=
  OpenClaim.laidByTextAt_later rfl rfl tied noOwn
end Go.Proofs.YtkmffbmgpnndcaaGreatDoor
