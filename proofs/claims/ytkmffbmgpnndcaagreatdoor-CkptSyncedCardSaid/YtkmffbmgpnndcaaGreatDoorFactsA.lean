/- Closed facts that CkptSynced's row asks for, one theorem each (the kernel gives its memory back behind each). No conditions. -/
import Derived.Test.YtkmffbmgpnndcaaGreatDoorRows
import Derived.ProofKit
import Derived.LaidMore
import Derived.SevenTiedAt
namespace Go.Proofs.YtkmffbmgpnndcaaGreatDoor
open Go
set_option maxRecDepth 1000000
theorem j0:Rows.ckptSyncedRow.wf (OpenSpec.ofChange (OpenSpec.ofChange Rows.ckptSyncedSpec).bare) = true:=by kernel_rfl
theorem tysz:Tryz.prog.types.size = 695:=by kernel_rfl
theorem ty0:(List.range' 0 130).all (rowFine Tryz.prog) = true:=by kernel_rfl
theorem ty1:(List.range' 130 130).all (rowFine Tryz.prog) = true:=by kernel_rfl
theorem ty2:(List.range' 260 130).all (rowFine Tryz.prog) = true:=by kernel_rfl
theorem ty3:(List.range' 390 130).all (rowFine Tryz.prog) = true:=by kernel_rfl
theorem ty4:(List.range' 520 130).all (rowFine Tryz.prog) = true:=by kernel_rfl
theorem ty5:(List.range' 650 45).all (rowFine Tryz.prog) = true:=by kernel_rfl
theorem tyr:List.range 695 = List.range' 0 130++(List.range' 130 130++(List.range' 260 130++(List.range' 390 130++(List.range' 520 130++(List.range' 650 45))))):=by decide +kernel
theorem tyall:(List.range Tryz.prog.types.size).all (rowFine Tryz.prog) = true:=by
  rw [tysz,tyr];simp only [List.all_append,ty0,ty1,ty2,ty3,ty4,ty5,Bool.and_true]
theorem glall:Tryz.prog.globals.all (fun g=>decide (g.type < Tryz.prog.types.size)) = true:=by kernel_rfl
theorem fnall:Tryz.prog.funcs.all (fun f=>f.params.all fun t=>decide (t < Tryz.prog.types.size)) = true:=by kernel_rfl
theorem j1:laidOutB Tryz.prog = true:=by
  unfold laidOutB;rw [tyall,glall,fnall];rfl
theorem j2:mapsRowed Tryz.prog = true:=by kernel_rfl
theorem j3:Tryz.f3.params.all (Tryz.prog.readableRec ·) = true:=by kernel_rfl
theorem j4:namedTie Tryz.prog Rows.ckptSyncedRow.named (OpenSpec.ofChange Rows.ckptSyncedSpec).bare.vars = true:=by kernel_rfl
theorem j5:(Rows.ckptSyncedRow.stops == []) = true:=by kernel_rfl
theorem j6:(Tryz.prog.stops == []) = true:=by kernel_rfl
theorem j7:(Rows.ckptSyncedRow.knobs == []) = true:=by kernel_rfl
theorem j8:(Tryz.prog.stopKnobs == []) = true:=by kernel_rfl
end Go.Proofs.YtkmffbmgpnndcaaGreatDoor
