/- For all generations, payloads, places, bytes: foregonelaw37.CkptTorn returns true, and its arguments read afterwards as they read before; the row's listed variables are tied to the program's text. No conditions beyond the row's own. -/
import Derived.Test.YtmnbopcehmcaeaaGreatDoorRows
import Derived.Test.YtmnbopcehmcaeaaGreatDoorCards
import Derived.Test.YtmnbopcehmcaeaaGreatDoorTLaw
import Derived.Test.YtmnbopcehmcaeaaGreatDoorTTied
import Derived.Test.YtmnbopcehmcaeaaGreatDoorTFacts
import Derived.Test.YtmnbopcehmcaeaaGreatDoorTStart
import Derived.ProofKit
import Derived.LaidMore
import Derived.OpenShut
import Derived.Carry
import Derived.ChangeOld
import Derived.Stop.Joined
import Derived.Lib.SmallJoins
import Derived.SevenTiedAt
namespace Go.Proofs.YtmnbopcehmcaeaaGreatDoor
open Go Go.ChangeShapes Go.WideShapes Go.ChangeAt Go.WideMaps Go.WideElems Go.RowKit Go.Joins Go.X
theorem own : ownKnob Tryz.prog.godebug = none := by kernel_rfl
set_option maxRecDepth 100000 in
theorem lifted (os : Os) (started : os.Started) (H : Type) (enc : TypeId × Value → H) :
    ReturnsInHanded {} Tryz.checked os 4 .any (fun w args => (Rows.ckptTornSpec.pre enc Tryz.prog Tryz.f4 [] false w args ∧ laidMetH Tryz.prog laidL w) ∧ sizedMet enc Tryz.prog Tryz.f4 (OpenSpec.ofChange Rows.ckptTornSpec) false w args)
      (Rows.ckptTornSpec.post enc Tryz.prog Tryz.f4 false true false false) := by
  refine returnsInHanded_of_change_and (C := Tryz.checked) (X := fun w _ => laidMetH Tryz.prog laidL w) (fun _ _ _ hh h => h.of_heap hh) own started c7 Tryz.func4 (witness os H enc) ?_
  intro W base args ds gs before hval0 hW _ _ _ _
  have hval : ∀ (j : Nat) t v, Tryz.f4.params[j]? = some t → args[j]? = some v → Value.okWide Tryz.prog W .any base t v := hval0
  have hW' := hW
  obtain ⟨p, q, hA0, hV, rfl, hfz, hnd⟩ := hW
  have hA : DataW.TrodAll enc Tryz.prog W 0 (fun _ => true) true Tryz.f4.params.toList args.toList ds p := hA0
  rw [Tryz.params4] at hA hval
  obtain ⟨rfl, rfl⟩ := trodVars_none hV
  obtain ⟨v0, vs0, d0, ds0, p0, q0, hargs0, rfl, rfl, h0, hr0⟩ := trodAll_cons hA
  obtain ⟨v1, vs1, d1, ds1, p1, q1, hargs1, rfl, rfl, h1, hr1⟩ := trodAll_cons hr0
  obtain ⟨v2, vs2, d2, ds2, p2, q2, hargs2, rfl, rfl, h2, hr2⟩ := trodAll_cons hr1
  obtain ⟨v3, vs3, d3, ds3, p3, q3, hargs3, rfl, rfl, h3, hr3⟩ := trodAll_cons hr2
  obtain ⟨v4, vs4, d4, ds4, p4, q4, hargs4, rfl, rfl, h4, hr4⟩ := trodAll_cons hr3
  obtain ⟨v5, vs5, d5, ds5, p5, q5, hargs5, rfl, rfl, h5, hr5⟩ := trodAll_cons hr4
  obtain ⟨v6, vs6, d6, ds6, p6, q6, hargs6, rfl, rfl, h6, hr6⟩ := trodAll_cons hr5
  obtain ⟨e7, rfl, rfl⟩ := trodAll_nil hr6
  subst e7
  subst hargs6
  subst hargs5
  subst hargs4
  subst hargs3
  subst hargs2
  subst hargs1
  obtain rfl : args = #[v0, v1, v2, v3, v4, v5, v6] := by cases args; simp_all
  obtain ⟨z0, rfl⟩ := okWide_int Tryz.underlying3 (hval 0 3 v0 rfl rfl)
  obtain ⟨ad1, ln1, cp1, rfl⟩ := okWide_slice Tryz.underlying22 (hval 1 22 v1 rfl rfl)
  obtain ⟨n1, hf1⟩ := h1
  obtain ⟨nl1, fu1, l1, hl1, hb1, hv1⟩ := open_bytes Tryz.underlying22 Tryz.underlying5 cellsU hf1
  obtain ⟨z2, rfl⟩ := okWide_int Tryz.underlying3 (hval 2 3 v2 rfl rfl)
  obtain ⟨ad3, ln3, cp3, rfl⟩ := okWide_slice Tryz.underlying22 (hval 3 22 v3 rfl rfl)
  obtain ⟨n3, hf3⟩ := h3
  obtain ⟨nl3, fu3, l3, hl3, hb3, hv3⟩ := open_bytes Tryz.underlying22 Tryz.underlying5 cellsU hf3
  obtain ⟨z4, rfl⟩ := okWide_int Tryz.underlying3 (hval 4 3 v4 rfl rfl)
  obtain ⟨u5, rfl, _, _, hwf⟩ := open_int Tryz.underlying5 (hval 5 5 v5 rfl rfl) h5
  obtain ⟨ad6, ln6, cp6, rfl⟩ := okWide_slice Tryz.underlying22 (hval 6 22 v6 rfl rfl)
  obtain ⟨n6, hf6⟩ := h6
  obtain ⟨nl6, fu6, l6, hl6, hb6, hv6⟩ := open_bytes Tryz.underlying22 Tryz.underlying5 cellsU hf6
  obtain ⟨by0, hby, rfl⟩ := u8_nat hwf
  clear hA0 hval0
  refine Calls.mono (law_here (z := z0) (z2 := z2) (zat := z4) (nl1 := nl1) (fu1 := fu1) (nl2 := nl3) (fu2 := fu3) (nl3 := nl6) (fu3 := fu6) hb1 hb3 hb6 hby hl1 hl3 W _ ?_) fun e W' ⟨he, κ', h', hx⟩ => ?_
  · exact VRl.app (VRl.one (by simp only [VR])) (VRl.app hv1 (VRl.app (VRl.one (by simp only [VR])) (VRl.app hv3 (VRl.app (VRl.one (by simp only [VR])) (VRl.app (VRl.one (by simp only [VR])) hv6)))))
  subst he
  have hkept : ∀ i, i < W.heap.size → W'.heap[i]? = W.heap[i]? := fun i hi => by
    have h1 : W.heap[i]? = some W.heap[i] := by simp [hi]
    rw [h1]
    exact hx.hr.frozen i _ (by rw [hx.M]; exact h1)
  have hbelow : Below W.heap.size W W' := ⟨hx.os, hx.tape, hx.output, hx.size, hkept⟩
  have hlt := hW'.lt
  rw [List.append_nil] at hlt
  have hs0 := Below.trod j1 readI (of_decide_eq_true sizeI) h0 hbelow fun x m => hlt x (List.mem_append_left _ m)
  have hs1 := Below.trod j1 readB (of_decide_eq_true sizeB) ⟨n1, hf1⟩ hbelow fun x m => hlt x (List.mem_append_right _ (List.mem_append_left _ m))
  have hs2 := Below.trod j1 readI (of_decide_eq_true sizeI) h2 hbelow fun x m => hlt x (List.mem_append_right _ (List.mem_append_right _ (List.mem_append_left _ m)))
  have hs3 := Below.trod j1 readB (of_decide_eq_true sizeB) ⟨n3, hf3⟩ hbelow fun x m => hlt x (List.mem_append_right _ (List.mem_append_right _ (List.mem_append_right _ (List.mem_append_left _ m))))
  have hs4 := Below.trod j1 readI (of_decide_eq_true sizeI) h4 hbelow fun x m => hlt x (List.mem_append_right _ (List.mem_append_right _ (List.mem_append_right _ (List.mem_append_right _ (List.mem_append_left _ m)))))
  have hs6 := Below.trod j1 readB (of_decide_eq_true sizeB) ⟨n6, hf6⟩ hbelow fun x m => hlt x (List.mem_append_right _ (List.mem_append_right _ (List.mem_append_right _ (List.mem_append_right _ (List.mem_append_right _ (List.mem_append_right _ (List.mem_append_left _ m)))))))
  have hs5 := Below.trod j1 readU (of_decide_eq_true sizeU) h5 hbelow fun x m => hlt x (List.mem_append_right _ (List.mem_append_right _ (List.mem_append_right _ (List.mem_append_right _ (List.mem_append_right _ (List.mem_append_left _ m))))))
  refine ⟨_, rfl, _, _, _, [], p0 ++ (p1 ++ (p2 ++ (p3 ++ (p4 ++ (p5 ++ (p6 ++ [])))))), [], hW', trodAll_mk1 (shut_bool Tryz.underlying4 true), ?_, rfl, ?_, fun h => by cases h⟩
  · exact ⟨_, _, hs0, ⟨_, _, hs1, ⟨_, _, hs2, ⟨_, _, hs3, ⟨_, _, hs4, ⟨_, _, hs5, ⟨_, _, hs6, rfl, rfl⟩, rfl⟩, rfl⟩, rfl⟩, rfl⟩, rfl⟩, rfl⟩
  · refine ⟨hx.os, hx.output, fun i hi => ?_⟩
    rw [hkept i hi]
    cases W.heap[i]? with
    | none => rfl
    | some o => cases o <;> simp
theorem ckptTorn_holds : Rows.CkptTornSaid :=
  OpenClaim.holds_of_wide 4 Tryz.f4 rfl rfl rfl rfl rfl rfl rfl ⟨rfl, rfl, rfl, rfl, rfl⟩ rfl rfl rfl rfl rfl c1 Tryz.func4 closedF
    (of_decide_eq_true (by kernel_rfl)) (by unfold Func.isWrapper; first | (rw [if_pos (by decide +kernel)]; kernel_rfl) | (rw [if_neg (by decide +kernel)]; exact ⟨rfl, rfl⟩))
    (fun os started H enc _ => lifted os started H enc)
theorem ckptTorn_card_holds : Rows.CkptTornCardSaid :=
  Claim7.holds_tied_plain_at .later [] [.data, .data, .data, .sentinel, .sentinel, .sentinel] true (true, "41ce3a242b753d32b011eff636658776adf1a48652ab793caedc08e3d7d3399d") true
    ckptTorn_holds (fun _ h => by cases h) c2 (fun _ h => by cases h) row_tied rfl ⟨rfl, rfl⟩ c3 rfl
    (fun f fn hf hfn => by
      obtain rfl : f = 4 := Option.some.inj (c1.symm.trans hf) |>.symm
      obtain rfl : fn = Tryz.f4 := (Option.some.inj (Tryz.func4.symm.trans hfn)).symm
      exact ⟨c4, fun j t ht => by
        rw [Tryz.params4] at ht
        have hm : t ∈ [3, 22, 3, 22, 3, 5, 22] := by simpa using Array.mem_of_getElem? ht
        exact (show Tryz.prog.wantsStandIn t = false by simpa using List.all_eq_true.1 c6 t hm)⟩)
    c5
#print axioms ckptTorn_card_holds
end Go.Proofs.YtmnbopcehmcaeaaGreatDoor
