/- The closed facts that ChecksCompares's row asks for, one theorem each (the kernel gives its memory back behind each). No conditions. -/
import Derived.Test.YtphclenlannanaaGreatDoorRows
import Derived.Test.YtphclenlannanaaGreatDoorClo
import Derived.Test.YtphclenlannanaaGreatDoorFactsA
import Derived.Test.YtphclenlannanaaGreatDoorFactsB
import Derived.ProofKit
import Derived.LaidMore
import Derived.SevenTiedAt
namespace Go.Proofs.YtphclenlannanaaGreatDoor
open Go
theorem j23 : Rows.checksComparesRow.shortTexts.isNone = true := by kernel_rfl
theorem j24 : Tryz.prog.stopsHeard = true := by kernel_rfl
theorem j25 : Tryz.prog.mayEnter = true := by kernel_rfl
theorem j26 : (Rows.checksComparesRow.lifted == Tryz.prog.liftsFinal) = true := by kernel_rfl
theorem j27 : (Tryz.prog.make == some Rows.checksComparesRow.make) = true := by kernel_rfl
theorem j28 : (Rows.checksComparesRow.kinds == (if Rows.checksComparesRow.domain.isEmpty then [] else Tryz.f3.params.toList.map fun t => match Tryz.prog.underlying t with | some (.int k) => some k | _ => none)) = true := by kernel_rfl
theorem j29 : (Rows.checksComparesRow.pinned == Rows.checksComparesRow.pinnedBy) = true := by kernel_rfl
theorem j30 : (Rows.checksComparesRow.veiled == (Tryz.f3.params.toList ++ Rows.checksComparesSpec.plain.varTypes Tryz.prog ++ Tryz.f3.resultTypes.toList).any (Tryz.prog.veiledRec ·)) = true := by kernel_rfl
theorem j31 : Rows.checksComparesRow.veiledFits Tryz.prog Tryz.f3.params.toList (Tryz.f3.params.toList ++ Rows.checksComparesSpec.plain.varTypes Tryz.prog ++ Tryz.f3.resultTypes.toList) = true := by kernel_rfl
theorem andb {a b : Bool} (ha : a = true) (hb : b = true) : (a && b) = true := by rw [ha, hb]; rfl
set_option maxRecDepth 100000 in
theorem closedF : joinedFacts Tryz.prog 3 Tryz.f3 Rows.checksComparesSpec Rows.checksComparesRow = true := by
  unfold joinedFacts
  exact andb (andb (andb (andb (andb (andb (andb (andb (andb (andb (andb (andb (andb (andb (andb (andb (andb (andb (andb (andb (andb (andb (andb (andb (andb (andb (andb (andb (andb (andb (andb (j0) j1) j2) j3) j4) j5) j6) j7) j8) j9) j10) j11) j12) j13) j14) j15) j16) j17) j18) j19) j20) j21) j22) j23) j24) j25) j26) j27) j28) j29) j30) j31
theorem c2 : Rows.checksComparesRow.wfByText (OpenSpec.ofChange Rows.checksComparesSpec) = true := by kernel_rfl
theorem c3 : Tryz.prog.mainIs = some (true, "95bb95a27d4bedcc42c01fe2059700ea883b23ce737b7fa1a6dfc74a04e07ced".toList) := by kernel_rfl
theorem c4 : true = Tryz.prog.looks [] := by kernel_rfl
theorem c6 : ([26, 26].all fun u => !Tryz.prog.wantsStandIn u) = true := by kernel_rfl
theorem readA : Tryz.prog.readableRec 26 = true := by kernel_rfl
theorem sizeA : decide (26 < Tryz.prog.types.size) = true := by kernel_rfl
theorem c7 : Tryz.prog.inits.idxOf? 3 = none := by kernel_rfl
end Go.Proofs.YtphclenlannanaaGreatDoor
