/- Closed facts that CkptFrames's row asks for, one theorem each (the kernel gives its memory back behind each). No conditions. -/
import Derived.Test.YtmnbopcehmcaeaaGreatDoorRows
import Derived.ProofKit
import Derived.LaidMore
import Derived.SevenTiedAt
namespace Go.Proofs.YtmnbopcehmcaeaaGreatDoor
open Go
theorem j13 : (Rows.ckptFramesRow.maps == (Tryz.f3.params.toList ++ Rows.ckptFramesSpec.plain.varTypes Tryz.prog).any (Tryz.prog.mapsRec ·)) = true := by kernel_rfl
theorem j14 : (Rows.ckptFramesRow.ifaces == (Tryz.f3.params.toList ++ Rows.ckptFramesSpec.plain.varTypes Tryz.prog).any (Tryz.prog.ifacesRec ·)) = true := by kernel_rfl
theorem j15 : (Rows.ckptFramesRow.mapsOut == Tryz.prog.mapsAmong Tryz.f3.resultTypes.toList) = true := by kernel_rfl
theorem j16 : (Rows.ckptFramesRow.loops == (Tryz.f3.params.toList ++ Rows.ckptFramesSpec.plain.varTypes Tryz.prog).any (Tryz.prog.loopsFrom ·)) = true := by kernel_rfl
theorem j17 : (Rows.ckptFramesRow.wideKeys == (Tryz.f3.params.toList ++ Rows.ckptFramesSpec.plain.varTypes Tryz.prog ++ Tryz.f3.resultTypes.toList).any (Tryz.prog.wideKeysFrom ·)) = true := by kernel_rfl
theorem j18 : Rows.ckptFramesSpec.vars.all (Tryz.prog.varReadable ·) = true := by kernel_rfl
theorem j19 : Tryz.f3.resultTypes.all (fun t => Tryz.prog.readableRec t && decide (t < Tryz.prog.types.size)) = true := by kernel_rfl
theorem j20 : (Rows.ckptFramesRow.ifacesOut == Tryz.f3.resultTypes.toList.any (Tryz.prog.ifacesRec ·)) = true := by kernel_rfl
theorem j21 : (Rows.ckptFramesRow.loopsOut == Tryz.f3.resultTypes.toList.any (Tryz.prog.loopsFrom ·)) = true := by kernel_rfl
theorem j22 : (Rows.ckptFramesRow.plainKeys == Tryz.prog.plainKeys) = true := by kernel_rfl
end Go.Proofs.YtmnbopcehmcaeaaGreatDoor
