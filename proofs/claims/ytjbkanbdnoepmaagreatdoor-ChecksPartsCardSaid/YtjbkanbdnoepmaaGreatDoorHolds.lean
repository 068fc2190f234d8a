/- For every api.Temp: foregonelaw25.ChecksParts returns true, and its argument reads afterwards as it read before; the row's listed variables are tied to the program's text. No conditions beyond the row's own. -/
import Derived.Test.YtjbkanbdnoepmaaGreatDoorRows
import Derived.Test.YtjbkanbdnoepmaaGreatDoorCards
import Derived.Test.YtjbkanbdnoepmaaGreatDoorLaw
import Derived.Test.YtjbkanbdnoepmaaGreatDoorTied
import Derived.Test.YtjbkanbdnoepmaaGreatDoorFacts
import Derived.Test.YtjbkanbdnoepmaaGreatDoorStart
import Derived.ProofKit
import Derived.LaidMore
import Derived.OpenShut
import Derived.Carry
import Derived.ChangeOld
import Derived.Stop.Joined
import Derived.Lib.SmallJoins
import Derived.SevenTiedAt
namespace Go.Proofs.YtjbkanbdnoepmaaGreatDoor
open Go Go.ChangeShapes Go.WideShapes Go.ChangeAt Go.WideMaps Go.WideElems Go.RowKit Go.Joins Go.X
theorem own : ownKnob Tryz.prog.godebug = none := by kernel_rfl
set_option maxRecDepth 100000 in
theorem lifted (os : Os) (started : os.Started) (H : Type) (enc : TypeId × Value → H) :
    ReturnsInHanded {} Tryz.checked os 3 .any (fun w args => (Rows.checksPartsSpec.pre enc Tryz.prog Tryz.f3 [] false w args ∧ laidMetH Tryz.prog laidL w) ∧ sizedMet enc Tryz.prog Tryz.f3 (OpenSpec.ofChange Rows.checksPartsSpec) false w args)
      (Rows.checksPartsSpec.post enc Tryz.prog Tryz.f3 false true false false) := by
  refine returnsInHanded_of_change_and (C := Tryz.checked) (X := fun w _ => laidMetH Tryz.prog laidL w) (fun _ _ _ hh h => h.of_heap hh) own started c7 Tryz.func3 (witness os H enc) ?_
  intro W base args ds gs before hval0 hW _ _ _ _
  have hval : ∀ (j : Nat) t v, Tryz.f3.params[j]? = some t → args[j]? = some v → Value.okWide Tryz.prog W .any base t v := hval0
  have hW' := hW
  obtain ⟨p, q, hA0, hV, rfl, hfz, hnd⟩ := hW
  have hA : DataW.TrodAll enc Tryz.prog W 0 (fun _ => true) true Tryz.f3.params.toList args.toList ds p := hA0
  rw [Tryz.params3] at hA hval
  obtain ⟨v0, d0, rfl, rfl, h0⟩ := trodAll_one hA
  obtain ⟨rfl, rfl⟩ := trodVars_none hV
  obtain ⟨cs, rfl, hsz⟩ := okWide_struct Tryz.underlying34 (hval 0 34 v0 rfl rfl)
  obtain ⟨fuel, hf⟩ := h0
  obtain ⟨t, hok, hvr⟩ := open_temp types fuel cs.toList _ hf
  clear hA0 hval0
  refine Calls.mono (law_here t hok W #[.agg cs] ?_) fun e W' ⟨he, κ', h', hx⟩ => ?_
  · have h1 : VR (Kp.all W) (.agg t.cells) (.agg cs) := by
      simp only [VR]
      exact ⟨cs, rfl, DT.all_one t, hvr⟩
    exact VRl.one h1
  subst he
  have hkept : ∀ i, i < W.heap.size → W'.heap[i]? = W.heap[i]? := fun i hi => by
    have h1 : W.heap[i]? = some W.heap[i] := by simp [hi]
    rw [h1]
    exact hx.hr.frozen i _ (by rw [hx.M]; exact h1)
  have hbelow : Below W.heap.size W W' := ⟨hx.os, hx.tape, hx.output, hx.size, hkept⟩
  have hlt := hW'.lt
  rw [List.append_nil] at hlt
  have hstay := Below.trod j1 read34 (of_decide_eq_true size34) ⟨fuel, hf⟩ hbelow hlt
  refine ⟨_, rfl, _, _, _, [], p, [], hW', trodAll_mk1 (shut_bool Tryz.underlying4 true), ?_, rfl, ?_, fun h => by cases h⟩
  · exact trodAll_mk1 hstay
  · refine ⟨hx.os, hx.output, fun i hi => ?_⟩
    rw [hkept i hi]
    cases W.heap[i]? with
    | none => rfl
    | some o => cases o <;> simp
theorem checksParts_holds : Rows.ChecksPartsSaid :=
  OpenClaim.holds_of_wide 3 Tryz.f3 rfl rfl rfl rfl rfl rfl rfl ⟨rfl, rfl, rfl, rfl, rfl⟩ rfl rfl rfl rfl rfl c1 Tryz.func3 closedF
    (of_decide_eq_true (by kernel_rfl)) (by unfold Func.isWrapper; first | (rw [if_pos (by decide +kernel)]; kernel_rfl) | (rw [if_neg (by decide +kernel)]; exact ⟨rfl, rfl⟩))
    (fun os started H enc _ => lifted os started H enc)
theorem checksParts_card_holds : Rows.ChecksPartsCardSaid :=
  Claim7.holds_tied_plain_at .later [] [.data, .data, .data, .sentinel, .sentinel, .sentinel] true (true, "efff33480be6f16a2ca6fe01a4a2ebda253a5fcf170bd8fd6aa5987c4b34b1f7") true
    checksParts_holds (fun _ h => by cases h) c2 (fun _ h => by cases h) row_tied rfl ⟨rfl, rfl⟩ c3 rfl
    (fun f fn hf hfn => by
      obtain rfl : f = 3 := Option.some.inj (c1.symm.trans hf) |>.symm
      obtain rfl : fn = Tryz.f3 := (Option.some.inj (Tryz.func3.symm.trans hfn)).symm
      exact ⟨c4, fun j t ht => by
        rw [Tryz.params3] at ht
        have hm : t ∈ [34] := by simpa using Array.mem_of_getElem? ht
        exact (show Tryz.prog.wantsStandIn t = false by simpa using List.all_eq_true.1 c6 t hm)⟩)
    c5
#print axioms checksParts_card_holds
end Go.Proofs.YtjbkanbdnoepmaaGreatDoor
