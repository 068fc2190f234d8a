/- For all api.Verdicts: foregonelaw25.ChecksCompares returns true, and its arguments read afterwards as they read before; the row's listed variables are tied to the program's text. No conditions beyond the row's own. -/
import Derived.Test.YtphclenlannanaaGreatDoorRows
import Derived.Test.YtphclenlannanaaGreatDoorCards
import Derived.Test.YtphclenlannanaaGreatDoorLaw
import Derived.Test.YtphclenlannanaaGreatDoorTied
import Derived.Test.YtphclenlannanaaGreatDoorFacts
import Derived.Test.YtphclenlannanaaGreatDoorStart
import Derived.ProofKit
import Derived.LaidMore
import Derived.OpenShut
import Derived.Carry
import Derived.ChangeOld
import Derived.Stop.Joined
import Derived.Lib.SmallJoins
import Derived.SevenTiedAt
namespace Go.Proofs.YtphclenlannanaaGreatDoor
open Go Go.ChangeShapes Go.WideShapes Go.ChangeAt Go.WideMaps Go.WideElems Go.RowKit Go.Joins Go.X
theorem own : ownKnob Tryz.prog.godebug = none := by kernel_rfl
set_option maxRecDepth 100000 in
theorem lifted (os : Os) (started : os.Started) (H : Type) (enc : TypeId × Value → H) :
    ReturnsInHanded {} Tryz.checked os 3 .any (fun w args => (Rows.checksComparesSpec.pre enc Tryz.prog Tryz.f3 [] false w args ∧ laidMetH Tryz.prog laidL w) ∧ sizedMet enc Tryz.prog Tryz.f3 (OpenSpec.ofChange Rows.checksComparesSpec) false w args)
      (Rows.checksComparesSpec.post enc Tryz.prog Tryz.f3 false true false false) := by
  refine returnsInHanded_of_change_and (C := Tryz.checked) (X := fun w _ => laidMetH Tryz.prog laidL w) (fun _ _ _ hh h => h.of_heap hh) own started c7 Tryz.func3 (witness os H enc) ?_
  intro W base args ds gs before hval0 hW _ hsz0 _ _
  have hval : ∀ (j : Nat) t v, Tryz.f3.params[j]? = some t → args[j]? = some v → Value.okWide Tryz.prog W .any base t v := hval0
  have hsz : (DataW.weightsEach Tryz.prog (Tryz.f3.params.toList ++ Rows.checksComparesSpec.plain.varTypes Tryz.prog) (ds ++ gs)).all (· ≤ reachBytes) = true := hsz0
  have hW' := hW
  obtain ⟨p, q, hA0, hV, rfl, hfz, hnd⟩ := hW
  have hA : DataW.TrodAll enc Tryz.prog W 0 (fun _ => true) true Tryz.f3.params.toList args.toList ds p := hA0
  rw [Tryz.params3] at hA hval hsz
  obtain ⟨v0, v1, d0, d1, p0, p1, rfl, rfl, rfl, h0, h1⟩ := trodAll_two hA
  obtain ⟨rfl, rfl⟩ := trodVars_none hV
  obtain ⟨cs0, rfl, _⟩ := okWide_struct Tryz.underlying26 (hval 0 26 v0 rfl rfl)
  obtain ⟨cs1, rfl, _⟩ := okWide_struct Tryz.underlying26 (hval 1 26 v1 rfl rfl)
  obtain ⟨n0, hf0⟩ := h0
  obtain ⟨n1, hf1⟩ := h1
  have hw0 : ∀ w ∈ d0.weights Tryz.prog 26, w ≤ reachBytes := fun w hw => by
    have := List.all_eq_true.1 hsz w (weightsEach_mem (i := 0) rfl rfl hw)
    exact of_decide_eq_true this
  have hw1 : ∀ w ∈ d1.weights Tryz.prog 26, w ≤ reachBytes := fun w hw => by
    have := List.all_eq_true.1 hsz w (weightsEach_mem (i := 1) rfl rfl hw)
    exact of_decide_eq_true this
  obtain ⟨a, hoka, hva⟩ := open_verdict types typesV hf0 hw0
  obtain ⟨b, hokb, hvb⟩ := open_verdict types typesV hf1 hw1
  clear hA0 hval0 hsz0
  refine Calls.mono (law_here a b hoka hokb W #[.agg cs0, .agg cs1] ?_) fun e W' ⟨he, κ', h', hx⟩ => ?_
  · have e0 : VR (Kp.all W) (.agg a.cells) (.agg cs0) := by
      simp only [VR]
      exact ⟨cs0, rfl, DVd.all_one a, hva⟩
    have e1 : VR (Kp.all W) (.agg b.cells) (.agg cs1) := by
      simp only [VR]
      exact ⟨cs1, rfl, DVd.all_one b, hvb⟩
    exact VRl.app (VRl.one e0) (VRl.one e1)
  subst he
  have hkept : ∀ i, i < W.heap.size → W'.heap[i]? = W.heap[i]? := fun i hi => by
    have h1 : W.heap[i]? = some W.heap[i] := by simp [hi]
    rw [h1]
    exact hx.hr.frozen i _ (by rw [hx.M]; exact h1)
  have hbelow : Below W.heap.size W W' := ⟨hx.os, hx.tape, hx.output, hx.size, hkept⟩
  have hlt := hW'.lt
  rw [List.append_nil] at hlt
  have hs0 := Below.trod j1 readA (of_decide_eq_true sizeA) ⟨n0, hf0⟩ hbelow fun x m => hlt x (List.mem_append_left _ m)
  have hs1 := Below.trod j1 readA (of_decide_eq_true sizeA) ⟨n1, hf1⟩ hbelow fun x m => hlt x (List.mem_append_right _ m)
  refine ⟨_, rfl, _, _, _, [], p0 ++ p1, [], hW', trodAll_mk1 (shut_bool Tryz.underlying4 true), ?_, rfl, ?_, fun h => by cases h⟩
  · exact trodAll_mk2 hs0 hs1
  · refine ⟨hx.os, hx.output, fun i hi => ?_⟩
    rw [hkept i hi]
    cases W.heap[i]? with
    | none => rfl
    | some o => cases o <;> simp
theorem checksCompares_holds : Rows.ChecksComparesSaid :=
  OpenClaim.holds_of_wide 3 Tryz.f3 rfl rfl rfl rfl rfl rfl rfl ⟨rfl, rfl, rfl, rfl, rfl⟩ rfl rfl rfl rfl rfl c1 Tryz.func3 closedF
    (of_decide_eq_true (by kernel_rfl)) (by unfold Func.isWrapper; first | (rw [if_pos (by decide +kernel)]; kernel_rfl) | (rw [if_neg (by decide +kernel)]; exact ⟨rfl, rfl⟩))
    (fun os started H enc _ => lifted os started H enc)
theorem checksCompares_card_holds : Rows.ChecksComparesCardSaid :=
  Claim7.holds_tied_plain_at .later [] [.data, .data, .data, .sentinel, .sentinel, .sentinel] true (true, "95bb95a27d4bedcc42c01fe2059700ea883b23ce737b7fa1a6dfc74a04e07ced") true
    checksCompares_holds (fun _ h => by cases h) c2 (fun _ h => by cases h) row_tied rfl ⟨rfl, rfl⟩ c3 rfl
    (fun f fn hf hfn => by
      obtain rfl : f = 3 := Option.some.inj (c1.symm.trans hf) |>.symm
      obtain rfl : fn = Tryz.f3 := (Option.some.inj (Tryz.func3.symm.trans hfn)).symm
      exact ⟨c4, fun j t ht => by
        rw [Tryz.params3] at ht
        have hm : t ∈ [26, 26] := by simpa using Array.mem_of_getElem? ht
        exact (show Tryz.prog.wantsStandIn t = false by simpa using List.all_eq_true.1 c6 t hm)⟩)
    c5
#print axioms checksCompares_card_holds
end Go.Proofs.YtphclenlannanaaGreatDoor
