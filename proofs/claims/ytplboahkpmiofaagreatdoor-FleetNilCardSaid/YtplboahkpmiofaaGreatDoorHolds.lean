/- For every FleetAct and every int: foregonelaw36.FleetNil returns true, and its arguments read afterwards as they read before; the row's listed variables are tied to the program's text. No conditions beyond the row's own. -/
import Derived.Test.YtplboahkpmiofaaGreatDoorRows
import Derived.Test.YtplboahkpmiofaaGreatDoorCards
import Derived.Test.YtplboahkpmiofaaGreatDoorLaw
import Derived.Test.YtplboahkpmiofaaGreatDoorTied
import Derived.Test.YtplboahkpmiofaaGreatDoorFacts
import Derived.Test.YtplboahkpmiofaaGreatDoorStart
import Derived.ProofKit
import Derived.LaidMore
import Derived.OpenShut
import Derived.Stop.Joined
import Derived.Lib.SmallJoins
import Derived.SevenTiedAt
namespace Go.Proofs.YtplboahkpmiofaaGreatDoor
open Go Go.ChangeShapes Go.WideShapes Go.ChangeAt Go.WideMaps Go.WideElems Go.RowKit Go.Joins
theorem own : ownKnob Tryz.prog.godebug = none := by kernel_rfl
set_option maxRecDepth 100000 in
theorem lifted (os : Os) (started : os.Started) (H : Type) (enc : TypeId × Value → H) :
    ReturnsInHanded {} Tryz.checked os 3 .any (fun w args => (Rows.fleetNilSpec.pre enc Tryz.prog Tryz.f3 [] false w args ∧ laidMetH Tryz.prog laidL w) ∧ sizedMet enc Tryz.prog Tryz.f3 (OpenSpec.ofChange Rows.fleetNilSpec) false w args)
      (Rows.fleetNilSpec.post enc Tryz.prog Tryz.f3 false true false false) := by
  refine returnsInHanded_of_change_and (C := Tryz.checked) (X := fun w _ => laidMetH Tryz.prog laidL w) (fun _ _ _ hh h => h.of_heap hh) own started c7 Tryz.func3 (witness os H enc) ?_
  intro W base args ds gs before hval0 hW _ _ _ _
  have hval : ∀ (j : Nat) t v, Tryz.f3.params[j]? = some t → args[j]? = some v → Value.okWide Tryz.prog W .any base t v := hval0
  have hW' := hW
  obtain ⟨p, q, hA0, hV, rfl, hfz, hnd⟩ := hW
  have hA : DataW.TrodAll enc Tryz.prog W 0 (fun _ => true) true Tryz.f3.params.toList args.toList ds p := hA0
  rw [Tryz.params3] at hA hval
  obtain ⟨v0, v1, d0, d1, p0, p1, rfl, rfl, rfl, h0, h1⟩ := trodAll_two hA
  obtain ⟨rfl, rfl⟩ := trodVars_none hV
  obtain ⟨n, rfl, rfl, rfl, wn⟩ := open_int Tryz.underlying3 (hval 1 3 v1 rfl rfl) h1
  obtain ⟨c0, c1, c2, y0, y1, y2, m, rfl, rfl, rfl, k0, k1, k2⟩ := open_agg3 Tryz.underlying23 (by kernel_rfl) (by kernel_rfl) (hval 0 23 v0 rfl rfl) h0
  obtain ⟨x, e0, rfl, wx⟩ := DataW.trod_int Tryz.underlying3 k0
  obtain ⟨y, e1, rfl, wy⟩ := DataW.trod_int Tryz.underlying3 k1
  obtain ⟨z, e2, rfl, wz⟩ := DataW.trod_int Tryz.underlying3 k2
  simp only [List.cons.injEq, and_true] at e0 e1 e2
  subst e0 e1 e2
  clear hA0 hval0
  refine Calls.mono (law_calls x y z n W) fun e W' ⟨he, κ', hx⟩ => ?_
  subst he
  have hkept : ∀ i, i < W.heap.size → W'.heap[i]? = W.heap[i]? := fun i hi => by
    have h1 : W.heap[i]? = some W.heap[i] := by simp [hi]
    rw [h1]
    exact hx.hr.frozen i _ (by rw [hx.M]; exact h1)
  have i3 : ∀ {w : World} {sp : Nat → Bool} {v : Int}, (Lit.int .i64 v).wf = true → ∃ n, DataW.trod enc Tryz.prog w 0 sp true n 3 [.int .i64 v] = some (.lit (.int .i64 v), []) := fun hv => by
    obtain ⟨n, hn⟩ := shut_int (enc := enc) (w := _) (base := 0) (spare := _) (held := true) Tryz.underlying3 hv
    exact ⟨n, by simpa [Value.cells] using hn⟩
  refine ⟨_, rfl, _, _, _, [], [], [], hW', trodAll_mk1 (shut_bool Tryz.underlying4 true), ?_, rfl, ?_, fun h => by cases h⟩
  · exact trodAll_mk2 (shut_agg3 (y0 := (_, _)) (y1 := (_, _)) (y2 := (_, _)) Tryz.underlying23 (by kernel_rfl) (by kernel_rfl) (i3 wx) (i3 wy) (i3 wz)) (shut_int Tryz.underlying3 wn)
  · refine ⟨hx.os, hx.output, fun i hi => ?_⟩
    rw [hkept i hi]
    cases W.heap[i]? with
    | none => rfl
    | some o => cases o <;> simp
theorem fleetNil_holds : Rows.FleetNilSaid :=
  OpenClaim.holds_of_wide 3 Tryz.f3 rfl rfl rfl rfl rfl rfl rfl ⟨rfl, rfl, rfl, rfl, rfl⟩ rfl rfl rfl rfl rfl c1 Tryz.func3 closedF
    (of_decide_eq_true (by kernel_rfl)) (by unfold Func.isWrapper; first | (rw [if_pos (by decide +kernel)]; kernel_rfl) | (rw [if_neg (by decide +kernel)]; exact ⟨rfl, rfl⟩))
    (fun os started H enc _ => lifted os started H enc)
theorem fleetNil_card_holds : Rows.FleetNilCardSaid :=
  Claim7.holds_tied_plain_at .later [] [.data, .data, .data, .sentinel, .sentinel, .sentinel] true (true, "4d4a5c59d07daafb268b8a167ef1e2cc6a2f2942c418882d3bc91ba00b19aded") true
    fleetNil_holds (fun _ h => by cases h) c2 (fun _ h => by cases h) row_tied rfl ⟨rfl, rfl⟩ c3 rfl
    (fun f fn hf hfn => by
      obtain rfl : f = 3 := Option.some.inj (c1.symm.trans hf) |>.symm
      obtain rfl : fn = Tryz.f3 := (Option.some.inj (Tryz.func3.symm.trans hfn)).symm
      exact ⟨c4, fun j t ht => by
        rw [Tryz.params3] at ht
        have hm : t ∈ [23, 3] := by simpa using Array.mem_of_getElem? ht
        exact (show Tryz.prog.wantsStandIn t = false by simpa using List.all_eq_true.1 c6 t hm)⟩)
    c5
#print axioms fleetNil_card_holds
end Go.Proofs.YtplboahkpmiofaaGreatDoor
