/- files.disk of this program by its contract: what the environment of the law leans on. No conditions. -/
import Derived.Test.YtkmffbmgpnndcaaGreatDoorSrtA
import Derived.Test.YtkmffbmgpnndcaaGreatDoorDkData
namespace Go.Proofs.YtkmffbmgpnndcaaGreatDoor
open Go Go.Proofs Go.X
def dkN:DkN:=⟨24,92,5,79,80,81⟩
def srtS (f:FuncId):Option Con:=match Nat.beq f 80 with | true=>some (sortFilesV 81) | false=>none
theorem srtS_ok:SrtOK Tryz.prog srtS:=by
  intro f F h;unfold srtS at h
  cases hf:Nat.beq f 80 with
  | false=>rw [hf] at h;simp at h
  | true =>
    rw [hf] at h;obtain rfl:=Option.some.inj h;obtain rfl:=Nat.eq_of_beq_eq_true hf;exact conOK_sort sortsF
noncomputable def XD0:XEnv:=envOf Tryz.prog (methOf Tryz.prog) srtS (fun _=>none)
theorem xd0:EnvOK Tryz.prog XD0:=envP_ok srtS_ok (fun _ _ h=>by simp at h)
theorem mixD:Tryz.prog.follows .mixedOrders = true:=by kernel_rfl
theorem cloneD:XD0.fn 79 = some (.code (dkClone dkN) [.tmp (.lo .d0 .d2)]):=by kernel_rfl
theorem sortD0:XD0.fn 80 = some (.con (sortFilesV 81)):=by kernel_rfl
set_option maxRecDepth 100000 in
theorem diskIs:DkIs Tryz.prog dkN 27 :=
  ⟨Tryz.f27,_,_,_,_,_,_,_,_,_,_,Tryz.func27,by decide,by kernel_rfl,rfl,rfl,rfl,rfl,rfl,by kernel_rfl,by kernel_rfl,by kernel_rfl,by kernel_rfl,by kernel_rfl,by kernel_rfl,by kernel_rfl,by kernel_rfl,by kernel_rfl⟩
def srtD (f:FuncId):Option Con:=match Nat.beq f 27 with | true=>some (diskV 92 5) | false=>none
set_option maxRecDepth 100000 in
theorem srtD_ok:SrtOK Tryz.prog srtD:=by
  intro f F h;unfold srtD at h
  cases hf:Nat.beq f 27 with
  | false=>rw [hf] at h;simp at h
  | true =>
    rw [hf] at h;obtain rfl:=Option.some.inj h;obtain rfl:=Nat.eq_of_beq_eq_true hf;exact conOK_disk (N:=dkN) mixD xd0 cloneD sortD0 diskIs
end Go.Proofs.YtkmffbmgpnndcaaGreatDoor
