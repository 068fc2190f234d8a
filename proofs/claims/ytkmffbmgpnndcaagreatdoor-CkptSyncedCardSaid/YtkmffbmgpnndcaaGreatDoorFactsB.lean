/- Closed facts that CkptSynced's row asks for, one theorem each (the kernel gives its memory back behind each). No conditions. -/
import Derived.Test.YtkmffbmgpnndcaaGreatDoorRows
import Derived.ProofKit
import Derived.LaidMore
import Derived.SevenTiedAt
namespace Go.Proofs.YtkmffbmgpnndcaaGreatDoor
open Go
theorem j13:(Rows.ckptSyncedRow.maps == (Tryz.f3.params.toList++(OpenSpec.ofChange Rows.ckptSyncedSpec).bare.plain.varTypes Tryz.prog).any (Tryz.prog.mapsRec ·)) = true:=by kernel_rfl
theorem j14:(Rows.ckptSyncedRow.ifaces == (Tryz.f3.params.toList++(OpenSpec.ofChange Rows.ckptSyncedSpec).bare.plain.varTypes Tryz.prog).any (Tryz.prog.ifacesRec ·)) = true:=by kernel_rfl
theorem j15:(Rows.ckptSyncedRow.mapsOut == Tryz.prog.mapsAmong Tryz.f3.resultTypes.toList) = true:=by kernel_rfl
theorem j16:(Rows.ckptSyncedRow.loops == (Tryz.f3.params.toList++(OpenSpec.ofChange Rows.ckptSyncedSpec).bare.plain.varTypes Tryz.prog).any (Tryz.prog.loopsFrom ·)) = true:=by kernel_rfl
theorem j17:(Rows.ckptSyncedRow.wideKeys == (Tryz.f3.params.toList++(OpenSpec.ofChange Rows.ckptSyncedSpec).bare.plain.varTypes Tryz.prog++Tryz.f3.resultTypes.toList).any (Tryz.prog.wideKeysFrom ·)) = true:=by kernel_rfl
theorem j18:(OpenSpec.ofChange Rows.ckptSyncedSpec).bare.vars.all (Tryz.prog.varReadable ·) = true:=by kernel_rfl
theorem j19:Tryz.f3.resultTypes.all (fun t=>Tryz.prog.readableRec t && decide (t < Tryz.prog.types.size)) = true:=by kernel_rfl
theorem j20:(Rows.ckptSyncedRow.ifacesOut == Tryz.f3.resultTypes.toList.any (Tryz.prog.ifacesRec ·)) = true:=by kernel_rfl
theorem j21:(Rows.ckptSyncedRow.loopsOut == Tryz.f3.resultTypes.toList.any (Tryz.prog.loopsFrom ·)) = true:=by kernel_rfl
theorem j22:(Rows.ckptSyncedRow.plainKeys == Tryz.prog.plainKeys) = true:=by kernel_rfl
end Go.Proofs.YtkmffbmgpnndcaaGreatDoor
