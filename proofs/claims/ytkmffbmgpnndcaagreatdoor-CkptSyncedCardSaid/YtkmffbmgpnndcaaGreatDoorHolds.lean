/- For all volumes and operations: foregonelaw37.CkptSynced returns true, and its arguments read afterwards as they read before; the row's listed variables are tied to the program's text. No conditions beyond the row's own. -/
import Derived.Test.YtkmffbmgpnndcaaGreatDoorRows
import Derived.Test.YtkmffbmgpnndcaaGreatDoorCards
import Derived.Test.YtkmffbmgpnndcaaGreatDoorLaw
import Derived.Test.YtkmffbmgpnndcaaGreatDoorTied
import Derived.Test.YtkmffbmgpnndcaaGreatDoorFacts
import Derived.Test.YtkmffbmgpnndcaaGreatDoorStart
import Derived.ProofKit
import Derived.LaidMore
import Derived.OpenShut
import Derived.Carry
import Derived.ChangeOld
import Derived.Stop.Joined
import Derived.Lib.SmallJoins
import Derived.SevenTiedAt
import Derived.Deep.DeepHandedRow
import Derived.JoinedCond
namespace Go.Proofs.YtkmffbmgpnndcaaGreatDoor
open Go Go.ChangeShapes Go.WideShapes Go.ChangeAt Go.WideMaps Go.WideElems Go.RowKit Go.Joins Go.X
theorem own:ownKnob Tryz.prog.godebug = none:=by kernel_rfl
set_option maxRecDepth 100000 in
theorem lifted (os:Os) (started:os.Started) (H:Type) (enc:TypeId × Value→H) (F:Stop.Interp) :
    ReturnsInHanded {} Tryz.checked os 3 .any ((OpenSpec.ofChange Rows.ckptSyncedSpec).preRow enc Tryz.prog Tryz.f3 [] false laidL)
      (((OpenSpec.ofChange Rows.ckptSyncedSpec).at F).post enc Tryz.prog Tryz.f3 false true false false):=by
  refine returnsInHanded_of_row (C:=Tryz.checked) (s:=OpenSpec.ofChange Rows.ckptSyncedSpec) own started c7 Tryz.func3 (witness os H enc) ?_;intro W base args ds gs before hval0 hW _ _ hsz0 _ _ _;have hsz:(DataW.weightsEach Tryz.prog (Tryz.f3.params.toList++(OpenSpec.ofChange Rows.ckptSyncedSpec).bare.plain.varTypes Tryz.prog) (ds++gs)).all (· ≤ reachBytes) = true:=hsz0;clear hsz0;have hval:∀ (j:Nat) t v,Tryz.f3.params[j]? = some t→args[j]? = some v→Value.okWide Tryz.prog W .any base t v:=hval0;have hW':=hW;obtain ⟨p,q,hA0,hV,rfl,hfz,hnd⟩:=hW;have hA:DataW.TrodAll enc Tryz.prog W 0 (fun _=>true) true Tryz.f3.params.toList args.toList ds p:=hA0;rw [Tryz.params3] at hA hval hsz;obtain ⟨rfl,rfl⟩:=trodVars_none hV;obtain ⟨v0,vs0,d0,ds0,p0,q0,hargs0,rfl,rfl,h0,hr0⟩:=trodAll_cons hA;obtain ⟨v1,vs1,d1,ds1,p1,q1,hargs1,rfl,rfl,h1,hr1⟩:=trodAll_cons hr0;obtain ⟨e7,rfl,rfl⟩:=trodAll_nil hr1;subst e7;subst hargs1;obtain rfl:args = #[v0,v1]:=by cases args;simp_all
  obtain ⟨cs0,rfl,_⟩:=okWide_struct Tryz.underlying27 (hval 0 27 v0 rfl rfl);obtain ⟨cs1,rfl,_⟩:=okWide_struct Tryz.underlying30 (hval 1 30 v1 rfl rfl);obtain ⟨n0,hf0⟩:=h0;obtain ⟨n1,hf1⟩:=h1;have hb0:wtB Tryz.prog reachBytes 27 d0:=fun x hx=>of_decide_eq_true (List.all_eq_true.1 hsz x (weightsEach_mem (i:=0) rfl rfl hx))
  have hb1:wtB Tryz.prog reachBytes 30 d1:=fun x hx=>of_decide_eq_true (List.all_eq_true.1 hsz x (weightsEach_mem (i:=1) rfl rfl hx))
  obtain ⟨nl,fu,nl2,fu2,fs,os',hl1,hl2,hk1,hk2,hv0⟩:=open_volB measW types hf0 hb0;obtain ⟨o,hk3,hv1⟩:=open_opB measW types hf1 hb1;clear hA0 hval0;refine Calls.mono (law_here (nl:=nl) (fu:=fu) (nl2:=nl2) (fu2:=fu2) (B:=reachBytes) (by decide) hl1 hl2 hk1 hk2 hk3 W _ ?_) fun e W' ⟨he,κ',h',hx⟩=>?_
  · have h4:VR (Kp.all W) (.agg [slAV nl fu fs.length (fs.flatMap FV.cells),slAV nl2 fu2 os'.length (os'.flatMap OpW.cells)]) (.agg cs0):=by
      simp only [VR];exact ⟨cs0,rfl,by simp only [List.all_cons,List.all_nil,sl_one,Bool.and_true],hv0⟩
    have h5:VR (Kp.all W) (.agg o.cells) (.agg cs1):=by
      simp only [VR];exact ⟨cs1,rfl,by simp only [OpW.cells,OpW.sl,List.all_cons,List.all_nil,sl_one,one_str,one_int,Bool.and_true],hv1⟩
    exact VRl.app (VRl.one h4) (VRl.one h5)
  subst he;have hkept:∀ i,i < W.heap.size→W'.heap[i]? = W.heap[i]?:=fun i hi=>by
    have h1:W.heap[i]? = some W.heap[i]:=by simp [hi]
    rw [h1];exact hx.hr.frozen i _ (by rw [hx.M];exact h1)
  have hbelow:Below W.heap.size W W':=⟨hx.os,hx.tape,hx.output,hx.size,hkept⟩;have hlt:=hW'.lt;rw [List.append_nil] at hlt;have hs0:=Below.trod j1 readV (of_decide_eq_true sizeV) ⟨n0,hf0⟩ hbelow fun x m=>hlt x (List.mem_append_left _ m)
  have hs1:=Below.trod j1 readO (of_decide_eq_true sizeO) ⟨n1,hf1⟩ hbelow fun x m=>hlt x (List.mem_append_right _ (List.mem_append_left _ m))
  refine ⟨_,rfl,_,_,_,[],p0++(p1++[]),[],hW',trodAll_mk1 (shut_bool Tryz.underlying4 true),?_,rfl,?_,fun h=>by cases h⟩
  · exact ⟨_,_,hs0,⟨_,_,hs1,rfl,rfl⟩,rfl⟩
  · refine ⟨hx.os,hx.output,fun i hi=>?_⟩;rw [hkept i hi]
    cases W.heap[i]? with
    | none=>rfl
    | some o=>cases o <;> simp
theorem ckptSynced_holds:Rows.CkptSyncedSaid :=
  OpenClaim.holds_of_cond 3 Tryz.f3 rfl rfl rfl rfl rfl rfl rfl ⟨rfl,rfl,rfl,rfl,rfl⟩ rfl rfl rfl rfl rfl c1 Tryz.func3 closedF
    (of_decide_eq_true (by kernel_rfl)) (by unfold Func.isWrapper;first | (rw [if_pos (by decide +kernel)];kernel_rfl) | (rw [if_neg (by decide +kernel)];exact ⟨rfl,rfl⟩))
    (fun os started H enc _ F=>by rw [OpenClaim.pre_eq_preRow];exact lifted os started H enc F)
theorem ckptSynced_card_holds:Rows.CkptSyncedCardSaid :=
  Claim7.holds_tied_plain_at .later [] [.data,.data,.data,.sentinel,.sentinel,.sentinel] true (true, "c2a76054a38183d194893e09bda6d9d9d3208239abe39cfcb6dc5f77d3dbaf86") true
    ckptSynced_holds (fun _ h=>by cases h) c2 (fun _ h=>by cases h) row_tied rfl ⟨rfl,rfl⟩ c3 rfl
    (fun f fn hf hfn=>by
      obtain rfl:f = 3:=Option.some.inj (c1.symm.trans hf) |>.symm;obtain rfl:fn = Tryz.f3:=(Option.some.inj (Tryz.func3.symm.trans hfn)).symm;exact ⟨c4,fun j t ht=>by
        rw [Tryz.params3] at ht;have hm:t ∈ [27,30]:=by simpa using Array.mem_of_getElem? ht
        exact (show Tryz.prog.wantsStandIn t = false by simpa using List.all_eq_true.1 c6 t hm)⟩)
    c5
#print axioms ckptSynced_card_holds
end Go.Proofs.YtkmffbmgpnndcaaGreatDoor
