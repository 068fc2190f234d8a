/- For all arguments that lie in memory, none of whose rows and texts is longer than what the form admits: a call of foregonelaw37.CkptSynced returns true, and all memory that was there stays as it was. No further conditions. -/
import Derived.Test.YtkmffbmgpnndcaaGreatDoorCpOpen
import Derived.Test.YtkmffbmgpnndcaaGreatDoorSrtB
import Derived.Test.YtkmffbmgpnndcaaGreatDoorRunG
namespace Go.X
open Go
theorem orc_of {P:Program} {m:TypeId→String→Option FuncId} {srt:FuncId→Option Con} {orcs:FuncId→Option Tab} {f:FuncId} {g:Tab} (h:(fnOf P (trieOf P) f).isSome = true) (hs:srt f = none) (ho:orcs f = some g):∃ b r,(envOf P m srt orcs).fn f = some (.orc g b r):=by
  cases hf:fnOf P (trieOf P) f with
  | none=>rw [hf] at h;simp at h
  | some x =>
    obtain ⟨fn,_,h2⟩:=fnOf_some hf;obtain ⟨b,r,rfl⟩:=copFun_code h2;exact ⟨b,r,by simp only [envOf,hf,hs,ho,withOrc]⟩
end Go.X
namespace Go.Proofs.YtkmffbmgpnndcaaGreatDoor
open Go Go.Proofs Go.X
noncomputable def KS:List (FuncId × Tab):=[(4,T4_0)]
theorem ks:∀ q ∈ KS,OrcOK Tryz.prog q.1 q.2:=by
  unfold KS;exact fJ.2 ⟨oT4_0,by simp⟩
noncomputable def ES:XEnv:=envOf Tryz.prog (methOf Tryz.prog) srtD (tabOf KS)
theorem eS:EnvOK Tryz.prog ES:=envP_ok srtD_ok (tabOf_ok ks)
set_option maxRecDepth 100000 in
theorem sane_calls (h:Heap):CallT ES (.func n_sane [] []) [] h fun r h'=>r = .bool true∧h' = h:=by
  obtain ⟨b,r,hf⟩:=orc_of (m:=methOf Tryz.prog) (srt:=srtD) (orcs:=tabOf KS) (f:=n_sane) (g:=T4_0) (by kernel_rfl) rfl (by kernel_rfl);exact CallT.row (t:=T4_0) hf (v:=.bool true) (h':=h) (fun k n=>by kernel_rfl) ⟨rfl,rfl⟩
theorem fn_law:ES.fn n_law = some (.code c_law r_law):=by kernel_rfl
theorem fn_slim:ES.fn n_slim = some (.code c_slim r_slim):=by kernel_rfl
theorem fn_ckNow:ES.fn n_ckNow = some (.code c_ckNow r_ckNow):=by kernel_rfl
theorem fn_ckApply:ES.fn n_ckApply = some (.code c_ckApply r_ckApply):=by kernel_rfl
theorem fn_crash:ES.fn n_crash = some (.code c_crash r_crash):=by kernel_rfl
theorem fn_sync:ES.fn n_sync = some (.code c_sync r_sync):=by kernel_rfl
theorem fn_sameDisk:ES.fn n_sameDisk = some (.code c_sameDisk r_sameDisk):=by kernel_rfl
theorem fn_sameVol:ES.fn n_sameVol = some (.code c_sameVol r_sameVol):=by kernel_rfl
theorem fn_sameOps:ES.fn n_sameOps = some (.code c_sameOps r_sameOps):=by kernel_rfl
theorem fn_now:ES.fn n_now = some (.code c_now r_now):=by kernel_rfl
theorem fn_apply:ES.fn n_apply = some (.code c_apply r_apply):=by kernel_rfl
theorem fn_opened:ES.fn n_opened = some (.code c_opened r_opened):=by kernel_rfl
theorem fn_clipO:ES.fn n_clipO = some (.code c_clipO r_clipO):=by kernel_rfl
theorem fn_copied:ES.fn n_copied = some (.code c_copied r_copied):=by kernel_rfl
theorem fn_bytesOf:ES.fn n_bytesOf = some (.code c_bytesOf r_bytesOf):=by kernel_rfl
theorem fn_valid:ES.fn n_valid = some (.code c_valid r_valid):=by kernel_rfl
theorem fn_verbs:ES.fn n_verbs = some (.code c_verbs r_verbs):=by kernel_rfl
theorem fn_verb1:ES.fn n_verb1 = some (.code c_verb1 r_verb1):=by kernel_rfl
theorem fn_verb2:ES.fn n_verb2 = some (.code c_verb2 r_verb2):=by kernel_rfl
theorem fn_verb3:ES.fn n_verb3 = some (.code c_verb3 r_verb3):=by kernel_rfl
theorem fn_verb4:ES.fn n_verb4 = some (.code c_verb4 r_verb4):=by kernel_rfl
theorem fn_concat:ES.fn n_concat = some (.code c_concat r_concat):=by kernel_rfl
theorem fn_grow:ES.fn n_grow = some (.code c_grow r_grow):=by kernel_rfl
theorem fn_bclone:ES.fn n_bclone = some (.code c_bclone r_bclone):=by kernel_rfl
theorem fn_isName:ES.fn n_isName = some (.code c_isName r_isName):=by kernel_rfl
theorem fn_containsF:ES.fn n_containsF = some (.code c_containsF r_containsF):=by kernel_rfl
theorem fn_indexF:ES.fn n_indexF = some (.code c_indexF r_indexF):=by kernel_rfl
theorem fn_isName1:ES.fn n_isName1 = some (.code c_isName1 r_isName1):=by kernel_rfl
theorem code:Go.X.Code ES:=⟨fn_law,fn_slim,fn_ckNow,fn_ckApply,fn_crash,fn_sync,fn_sameDisk,fn_sameVol,fn_sameOps,fn_now,fn_apply,fn_opened,fn_clipO,fn_copied,fn_bytesOf,fn_valid,fn_verbs,fn_verb1,fn_verb2,fn_verb3,fn_verb4,fn_concat,fn_grow,fn_bclone,fn_isName,fn_containsF,fn_indexF,fn_isName1⟩
theorem disk:ES.fn n_disk = some (.con (diskV tyF tyB)):=by kernel_rfl
theorem law_here {nl fu nl2 fu2:Bool} {fs:List FV} {os:List OpW} {o:OpW} {B:Nat} (hB:B ≤ big47) (h1:fs.length ≤ B) (h2:os.length ≤ B) (h3:∀ f ∈ fs,okFV B f) (h4:∀ o ∈ os,okOW B o) (h5:okOW B o) (w:World) (A:Array Value)
    (hA:VRl (Kp.all w) [.agg [slAV nl fu fs.length (fs.flatMap FV.cells),slAV nl2 fu2 os.length (os.flatMap OpW.cells)],.agg o.cells] A.toList) :
    Calls Tryz.prog 3 A w fun e w'=>e = .returned (.bool true)∧∃ κ' h',Ext Tryz.prog (Kp.all w) ⟨.first,.leaf⟩ w κ' h' w' :=
  law_calls mixD eS code disk sane_calls hB h1 h2 h3 h4 h5 w A hA
end Go.Proofs.YtkmffbmgpnndcaaGreatDoor
