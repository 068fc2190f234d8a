/- For all integers: a call of foregonelaw36.FleetNil returns true, and all memory that was there stays as it was. No conditions. -/
import Derived.Test.YtplboahkpmiofaaGreatDoorRunF
namespace Go.X
open Go
/-- In every world, with all that lies there kept. -/
def Kp.all (w : World) : Kp := ⟨fun _ => none, fun b => w.heap[b]?⟩
theorem hr_all {P : Program} (w : World) : HR P (Kp.all w) ⟨.first, .leaf⟩ w :=
  ⟨fun p x h => by simp [Kp.all] at h, fun p q x y h => by simp [Live, Kp.all] at h, fun b o h => h, fun p x h => by simp [Live, Kp.all] at h, fun p x h => by simp [Kp.all] at h, fun p _ => leaf_get _ _⟩
/-- What a closed row says of calls. -/
theorem calls_of_row {P : Program} {f : FuncId} {args : List AV} {v : AV} (h : EntOK P f ⟨args, false, .first, [], [], .first, v⟩) (w : World) (A : Array Value) (hA : VRl (Kp.all w) args A.toList) :
    Calls P f A w fun e w' => ∃ κ' v', e = .returned v' ∧ VR κ' v v' ∧ Ext P (Kp.all w) ⟨.first, .leaf⟩ w κ' ⟨.first, .leaf⟩ w' := by
  refine Calls.mono ((h.ok (Kp.all w) ⟨.first, .leaf⟩ w (hr_all w) (by simp) (by simp) A hA).calls rfl) fun e w' hq => ?_
  rcases hq with hq | ⟨κ', h1, h2⟩
  · exact hq.elim
  · cases e with
    | outgrown => exact h1.elim
    | panicked c => exact h1.elim
    | returned v' => exact ⟨κ', v', rfl, h1, h2⟩
end Go.X
namespace Go.Proofs.YtplboahkpmiofaaGreatDoor
open Go Go.Proofs Go.X
noncomputable def ES : XEnv := envOf Tryz.prog (methOf Tryz.prog) (tabOf [(4, T4_0)])
theorem eS : EnvOK Tryz.prog ES := envP_ok (tabOf_ok (List.forall_mem_cons.2 ⟨oT4_0, by simp⟩))
noncomputable def lawE (x y z n : Int) : Ent := ⟨[.agg [.int .i64 x, .int .i64 y, .int .i64 z], .int .i64 n], false, .first, [], [], .first, .bool true⟩
set_option maxRecDepth 100000 in
theorem law_run (x y z n : Int) : rowE ES 400 3 (lawE x y z n) = okR := by kernel_rfl
theorem law_ok (x y z n : Int) : EntOK Tryz.prog 3 (lawE x y z n) := ent_of_rowE hmix eS (by rw [law_run]; exact okR_ne)
theorem law_calls (x y z n : Int) (w : World) : Calls Tryz.prog 3 #[.agg #[.int .i64 x, .int .i64 y, .int .i64 z], .int .i64 n] w fun e w' => e = .returned (.bool true) ∧ ∃ κ', Ext Tryz.prog (Kp.all w) ⟨.first, .leaf⟩ w κ' ⟨.first, .leaf⟩ w' := by
  refine Calls.mono (calls_of_row (law_ok x y z n) w _ ?_) fun e w' h => ?_
  · simp [VRl, VR, AV.one]
  · obtain ⟨κ', v', rfl, hv, hx⟩ := h
    simp only [VR] at hv
    exact ⟨by rw [hv], κ', hx⟩
end Go.Proofs.YtplboahkpmiofaaGreatDoor
