/- A start that fits: the heap that the door's own run leaves meets what CkptSynced's row lists, and a call with zeros and nil slices can begin there. No conditions. -/
import Derived.Test.YtkmffbmgpnndcaaGreatDoorTied
import Derived.ProofKit
import Derived.LaidMore
import Derived.Stop.Joined
import Derived.Deep.DeepHandedRow
namespace Go.Proofs.YtkmffbmgpnndcaaGreatDoor
open Go Go.ChangeAt
def args0:Array Value:=#[.agg #[.slice none 0 0,.slice none 0 0],.agg #[.int .i64 0,.string .empty,.string .empty,.slice none 0 0]]
noncomputable def W0 (os:Os):World:=(World.doorLaid Tryz.prog 400 os).forCall (fun _ _=>0) ⟨#[],args0,[]⟩
def LF:List (String × DataW Unit):=laidL.filter fun x=>x.2.handleName?.isNone
theorem a1 (os:Os):(DataW.laidRun Tryz.prog (W0 os).memory 8 (LF.map (·.1))).map (·.1) = some LF:=by kernel_rfl
theorem a2 (os:Os):(DataW.laidRun Tryz.prog (W0 os).memory 8 (LF.map (·.1))).map (fun x=>decide x.2.Nodup && laidRowsB Tryz.prog (W0 os).memory x.2) = some true:=by kernel_rfl
theorem a3 (os:Os):((laidL:List (String × DataW Unit)).filter fun x=>x.2.handleName?.isSome && x.2.funcsIn?.isNone).all (handleAtB Tryz.prog (W0 os).memory) = true:=by kernel_rfl
theorem a4 (os:Os):funcsRun Tryz.prog (W0 os).memory 8 ((funcsListed laidL).map (·.1)) = some ((funcsListed laidL).map (·.2.funcsOut)):=by kernel_rfl
theorem door_met (os:Os):laidMetH Tryz.prog laidL (W0 os).memory:=laidMetH_of_parts3 (fuel:=8) (laidMet_of_run' 8 (a1 os) (a2 os)) (a3 os) (a4 os)
theorem b1 (os:Os):(W0 os).variablesRefB Tryz.prog = true:=by kernel_rfl
theorem b2 (os:Os):((W0 os).heap.toList.drop Tryz.prog.globals.size).take ((begin Tryz.prog (fun _ _=>0) default).world.heap.size - Tryz.prog.globals.size) = (begin Tryz.prog (fun _ _=>0) default).world.heap.toList.drop Tryz.prog.globals.size:=by kernel_rfl
theorem b3 (os:Os):Input.okWideB Tryz.prog (W0 os) 3 ⟨#[],args0,[]⟩ = true:=by kernel_rfl
noncomputable def preUB {H:Type} (enc:TypeId × Value→H) (w:World) (args:Array Value):Bool:=match DataW.whole enc Tryz.prog w Tryz.f3.params.toList (OpenSpec.ofChange Rows.ckptSyncedSpec).vars false args.toList 8 with
  | some _=>true
  | none=>false
theorem pre_of {H:Type} {enc:TypeId × Value→H} {w:World} {args:Array Value} (h:preUB enc w args = true):(OpenSpec.ofChange Rows.ckptSyncedSpec).pre enc Tryz.prog Tryz.f3 [] false w args:=by
  unfold preUB at h
  split at h
  · rename_i x hx
    clear h;exact OpenSpec.pre_of_parts (DataW.Whole_of_whole hx) rfl (fun k e=>by cases e)
  · cases h
theorem b4 (os:Os) (H:Type) (enc:TypeId × Value→H):preUB enc (W0 os).memory args0 = true:=by kernel_rfl
theorem b5 (os:Os) (H:Type) (enc:TypeId × Value→H):Rows.ckptSyncedSpec.sizedB enc Tryz.prog Tryz.f3 false (W0 os).memory args0 8 = true:=by kernel_rfl
theorem witness (os:Os) (H:Type) (enc:TypeId × Value→H):∃ (w:World) (tape:Tape) (i:Input),w.os = os∧(w.forCall tape i).Shaped Tryz.checked.prog∧i.vars = []∧Input.okWide Tryz.checked.prog (w.forCall tape i) .any w.heap.size 3 i ∧
      (OpenSpec.ofChange Rows.ckptSyncedSpec).preRow enc Tryz.checked.prog Tryz.f3 [] false laidL (w.forCall tape i).memory i.args ∧
      ({ modest:=false }:Assume).holds Tryz.checked.prog (lone (Frame.enter Tryz.checked.prog 3 i.args .normal) [] (w.forCall tape i)) :=
  ⟨World.doorLaid Tryz.prog 400 os,fun _ _=>0,⟨#[],args0,[]⟩,rfl,World.shaped_of_RefB (b1 os) (b2 os),(Input.okWide_of_okWideB (base:=0) (b3 os)).1,(Input.okWide_of_okWideB (b3 os)).2,⟨⟨pre_of (b4 os H enc),door_met os⟩,sizedMet_of_sizedB (b5 os H enc)⟩,by
    simp only [Assume.holds];exact ⟨by simp,by simp,fun h=>(by cases h),by simp,by simp⟩⟩
end Go.Proofs.YtkmffbmgpnndcaaGreatDoor
