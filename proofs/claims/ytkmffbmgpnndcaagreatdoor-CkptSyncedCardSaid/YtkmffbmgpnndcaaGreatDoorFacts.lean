/- The closed facts that CkptSynced's row asks for, one theorem each (the kernel gives its memory back behind each). No conditions. -/
import Derived.Test.YtkmffbmgpnndcaaGreatDoorRows
import Derived.Test.YtkmffbmgpnndcaaGreatDoorClo
import Derived.Test.YtkmffbmgpnndcaaGreatDoorFactsA
import Derived.Test.YtkmffbmgpnndcaaGreatDoorFactsB
import Derived.Test.YtkmffbmgpnndcaaGreatDoorCpOpen
import Derived.ProofKit
import Derived.LaidMore
import Derived.SevenTiedAt
namespace Go.Proofs.YtkmffbmgpnndcaaGreatDoor
open Go
theorem j23:Rows.ckptSyncedRow.shortTexts.isNone = true:=by kernel_rfl
theorem j24:Tryz.prog.stopsHeard = true:=by kernel_rfl
theorem j25:Tryz.prog.mayEnter = true:=by kernel_rfl
theorem j26:(Rows.ckptSyncedRow.lifted == Tryz.prog.liftsFinal) = true:=by kernel_rfl
theorem j27:(Tryz.prog.make == some Rows.ckptSyncedRow.make) = true:=by kernel_rfl
theorem j28:(Rows.ckptSyncedRow.kinds == (if Rows.ckptSyncedRow.domain.isEmpty then [] else Tryz.f3.params.toList.map fun t=>match Tryz.prog.underlying t with | some (.int k)=>some k | _=>none)) = true:=by kernel_rfl
theorem j29:(Rows.ckptSyncedRow.pinned == Rows.ckptSyncedRow.pinnedBy) = true:=by kernel_rfl
theorem j30:(Rows.ckptSyncedRow.veiled == (Tryz.f3.params.toList++(OpenSpec.ofChange Rows.ckptSyncedSpec).bare.plain.varTypes Tryz.prog++Tryz.f3.resultTypes.toList).any (Tryz.prog.veiledRec ·)) = true:=by kernel_rfl
theorem j31:Rows.ckptSyncedRow.veiledFits Tryz.prog Tryz.f3.params.toList (Tryz.f3.params.toList++(OpenSpec.ofChange Rows.ckptSyncedSpec).bare.plain.varTypes Tryz.prog++Tryz.f3.resultTypes.toList) = true:=by kernel_rfl
theorem andb {a b:Bool} (ha:a = true) (hb:b = true):(a && b) = true:=by rw [ha,hb];rfl
set_option maxRecDepth 100000 in
theorem closedF:joinedFacts Tryz.prog 3 Tryz.f3 (OpenSpec.ofChange Rows.ckptSyncedSpec).bare Rows.ckptSyncedRow = true:=by
  unfold joinedFacts;exact andb (andb (andb (andb (andb (andb (andb (andb (andb (andb (andb (andb (andb (andb (andb (andb (andb (andb (andb (andb (andb (andb (andb (andb (andb (andb (andb (andb (andb (andb (andb (j0) j1) j2) j3) j4) j5) j6) j7) j8) j9) j10) j11) j12) j13) j14) j15) j16) j17) j18) j19) j20) j21) j22) j23) j24) j25) j26) j27) j28) j29) j30) j31
theorem c2:Rows.ckptSyncedRow.wfByText (OpenSpec.ofChange Rows.ckptSyncedSpec) = true:=by kernel_rfl
theorem c3:Tryz.prog.mainIs = some (true, "c2a76054a38183d194893e09bda6d9d9d3208239abe39cfcb6dc5f77d3dbaf86".toList):=by kernel_rfl
theorem c4:true = Tryz.prog.looks []:=by kernel_rfl
theorem c6:([27,30].all fun u=>!Tryz.prog.wantsStandIn u) = true:=by kernel_rfl
theorem readV:Tryz.prog.readableRec 27 = true:=by kernel_rfl
theorem sizeV:decide (27 < Tryz.prog.types.size) = true:=by kernel_rfl
theorem readO:Tryz.prog.readableRec 30 = true:=by kernel_rfl
theorem sizeO:decide (30 < Tryz.prog.types.size) = true:=by kernel_rfl
theorem types:Go.X.TypesV Tryz.prog 9 5 28 92 22 24 30 25 27 where
  i:=Tryz.underlying3
  s:=Tryz.underlying9
  u:=Tryz.underlying5
  b:=Tryz.underlying28
  f:=⟨_,Tryz.underlying92,by kernel_rfl⟩
  fs:=Tryz.underlying22
  d:=⟨_,Tryz.underlying24,by kernel_rfl⟩
  o:=⟨_,Tryz.underlying30,by kernel_rfl⟩
  os:=Tryz.underlying25
  v:=⟨_,Tryz.underlying27,by kernel_rfl⟩
  ci:=by kernel_rfl
  cs:=by kernel_rfl
  cu:=by kernel_rfl
  cb:=by kernel_rfl
  cf:=by kernel_rfl
  cfs:=by kernel_rfl
  cd:=by kernel_rfl
  co:=by kernel_rfl
  cos:=by kernel_rfl
  cv:=by kernel_rfl
  bu:=of_decide_eq_true (by kernel_rfl)
  bf:=of_decide_eq_true (by kernel_rfl)
  bo:=of_decide_eq_true (by kernel_rfl)
theorem c7:Tryz.prog.inits.idxOf? 3 = none:=by kernel_rfl
end Go.Proofs.YtkmffbmgpnndcaaGreatDoor
