/- Closed facts that FleetNil's row asks for, one theorem each (the kernel gives its memory back behind each). No conditions. -/
import Derived.Test.YtplboahkpmiofaaGreatDoorRows
import Derived.ProofKit
import Derived.LaidMore
import Derived.SevenTiedAt
namespace Go.Proofs.YtplboahkpmiofaaGreatDoor
open Go
theorem j0 : Rows.fleetNilRow.wf (OpenSpec.ofChange Rows.fleetNilSpec) = true := by kernel_rfl
theorem j1 : laidOutB Tryz.prog = true := by kernel_rfl
theorem j2 : mapsRowed Tryz.prog = true := by kernel_rfl
theorem j3 : Tryz.f3.params.all (Tryz.prog.readableRec ·) = true := by kernel_rfl
theorem j4 : namedTie Tryz.prog Rows.fleetNilRow.named Rows.fleetNilSpec.vars = true := by kernel_rfl
theorem j5 : (Rows.fleetNilRow.stops == []) = true := by kernel_rfl
theorem j6 : (Tryz.prog.stops == []) = true := by kernel_rfl
theorem j7 : (Rows.fleetNilRow.knobs == []) = true := by kernel_rfl
theorem j8 : (Tryz.prog.stopKnobs == []) = true := by kernel_rfl
end Go.Proofs.YtplboahkpmiofaaGreatDoor
