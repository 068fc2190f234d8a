/- The closed facts that CkptTorn's row asks for, one theorem each (the kernel gives its memory back behind each). No conditions. -/
import Derived.Test.YtmnbopcehmcaeaaGreatDoorRows
import Derived.Test.YtmnbopcehmcaeaaGreatDoorTClo
import Derived.Test.YtmnbopcehmcaeaaGreatDoorTFactsA
import Derived.Test.YtmnbopcehmcaeaaGreatDoorTFactsB
import Derived.ProofKit
import Derived.LaidMore
import Derived.SevenTiedAt
namespace Go.Proofs.YtmnbopcehmcaeaaGreatDoor
open Go
theorem j23 : Rows.ckptTornRow.shortTexts.isNone = true := by kernel_rfl
theorem j24 : Tryz.prog.stopsHeard = true := by kernel_rfl
theorem j25 : Tryz.prog.mayEnter = true := by kernel_rfl
theorem j26 : (Rows.ckptTornRow.lifted == Tryz.prog.liftsFinal) = true := by kernel_rfl
theorem j27 : (Tryz.prog.make == some Rows.ckptTornRow.make) = true := by kernel_rfl
theorem j28 : (Rows.ckptTornRow.kinds == (if Rows.ckptTornRow.domain.isEmpty then [] else Tryz.f4.params.toList.map fun t => match Tryz.prog.underlying t with | some (.int k) => some k | _ => none)) = true := by kernel_rfl
theorem j29 : (Rows.ckptTornRow.pinned == Rows.ckptTornRow.pinnedBy) = true := by kernel_rfl
theorem j30 : (Rows.ckptTornRow.veiled == (Tryz.f4.params.toList ++ Rows.ckptTornSpec.plain.varTypes Tryz.prog ++ Tryz.f4.resultTypes.toList).any (Tryz.prog.veiledRec ·)) = true := by kernel_rfl
theorem j31 : Rows.ckptTornRow.veiledFits Tryz.prog Tryz.f4.params.toList (Tryz.f4.params.toList ++ Rows.ckptTornSpec.plain.varTypes Tryz.prog ++ Tryz.f4.resultTypes.toList) = true := by kernel_rfl
theorem andb {a b : Bool} (ha : a = true) (hb : b = true) : (a && b) = true := by rw [ha, hb]; rfl
set_option maxRecDepth 100000 in
theorem closedF : joinedFacts Tryz.prog 4 Tryz.f4 Rows.ckptTornSpec Rows.ckptTornRow = true := by
  unfold joinedFacts
  exact andb (andb (andb (andb (andb (andb (andb (andb (andb (andb (andb (andb (andb (andb (andb (andb (andb (andb (andb (andb (andb (andb (andb (andb (andb (andb (andb (andb (andb (andb (andb (j0) j1) j2) j3) j4) j5) j6) j7) j8) j9) j10) j11) j12) j13) j14) j15) j16) j17) j18) j19) j20) j21) j22) j23) j24) j25) j26) j27) j28) j29) j30) j31
theorem c2 : Rows.ckptTornRow.wfByText (OpenSpec.ofChange Rows.ckptTornSpec) = true := by kernel_rfl
theorem c3 : Tryz.prog.mainIs = some (true, "41ce3a242b753d32b011eff636658776adf1a48652ab793caedc08e3d7d3399d".toList) := by kernel_rfl
theorem c4 : true = Tryz.prog.looks [] := by kernel_rfl
theorem c6 : ([3, 22, 3, 22, 3, 5, 22].all fun u => !Tryz.prog.wantsStandIn u) = true := by kernel_rfl
theorem readI : Tryz.prog.readableRec 3 = true := by kernel_rfl
theorem sizeI : decide (3 < Tryz.prog.types.size) = true := by kernel_rfl
theorem readU : Tryz.prog.readableRec 5 = true := by kernel_rfl
theorem sizeU : decide (5 < Tryz.prog.types.size) = true := by kernel_rfl
theorem readB : Tryz.prog.readableRec 22 = true := by kernel_rfl
theorem sizeB : decide (22 < Tryz.prog.types.size) = true := by kernel_rfl
theorem cellsU : Tryz.prog.cellsOf 5 = 1 := by kernel_rfl
theorem c7 : Tryz.prog.inits.idxOf? 4 = none := by kernel_rfl
end Go.Proofs.YtmnbopcehmcaeaaGreatDoor
