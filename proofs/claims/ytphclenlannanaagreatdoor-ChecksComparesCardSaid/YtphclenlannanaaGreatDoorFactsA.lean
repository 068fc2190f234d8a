/- Closed facts that ChecksCompares's row asks for, one theorem each (the kernel gives its memory back behind each). No conditions. -/
import Derived.Test.YtphclenlannanaaGreatDoorRows
import Derived.ProofKit
import Derived.LaidMore
import Derived.SevenTiedAt
namespace Go.Proofs.YtphclenlannanaaGreatDoor
open Go
theorem j0 : Rows.checksComparesRow.wf (OpenSpec.ofChange Rows.checksComparesSpec) = true := by kernel_rfl
theorem j1 : laidOutB Tryz.prog = true := by kernel_rfl
theorem j2 : mapsRowed Tryz.prog = true := by kernel_rfl
theorem j3 : Tryz.f3.params.all (Tryz.prog.readableRec ·) = true := by kernel_rfl
theorem j4 : namedTie Tryz.prog Rows.checksComparesRow.named Rows.checksComparesSpec.vars = true := by kernel_rfl
theorem j5 : (Rows.checksComparesRow.stops == []) = true := by kernel_rfl
theorem j6 : (Tryz.prog.stops == []) = true := by kernel_rfl
theorem j7 : (Rows.checksComparesRow.knobs == []) = true := by kernel_rfl
theorem j8 : (Tryz.prog.stopKnobs == []) = true := by kernel_rfl
end Go.Proofs.YtphclenlannanaaGreatDoor
