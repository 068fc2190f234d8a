/- The law: true for all formulas, where sane is true. -/
import Derived.Test.YtjbkanbdnoepmaaGreatDoorCpMeter
import Derived.Test.YtjbkanbdnoepmaaGreatDoorCpTemps
namespace Go.X
open Go
section
variable {E : XEnv}
abbrev n_sane : Nat := 4
theorem sem_sameB {x y : XO} {tm : Tm} {h : Heap} {b : Bool} (hx : x.val tm = some (.bool b)) (hy : y.val tm = some (.bool b)) : (XI.same false .bool x y).sem tm h = .ok (.bool true) h := by
  simp only [XI.sem, sameS, withO_run hx, withO_run hy]
  cases b <;> rfl
theorem law_ok (C : Code E) (hsane : ∀ h, CallT E (.func n_sane [] []) [] h fun r h' => r = .bool true ∧ h' = h) (t : DT) (hok : t.ok) {h : Heap} : CallT E (.func n_law [] []) [.agg t.cells] h (fun r _ => r = .bool true) := by
  have H : Has h [] := Has.nil
  refine CallT.body C.law ?_
  unfold BodyT c_law
  refine wpC_seq ?_
  refine wpC_reg ?_
  refine wp_box rfl rfl H fun q1 h H => ?_
  refine wpOps_ins (rfl) ?_
  refine wpOps_nil ?_
  refine wpC_seq ?_
  refine wpC_seq ?_
  refine wpC_reg ?_
  refine wp_call rfl (hsane _) ?_
  rintro _ _ ⟨rfl, rfl⟩
  refine wpOps_ins (rfl) ?_
  refine wpOps_nil ?_
  refine wpC_condF rfl ?_
  refine wpC_skip ?_
  refine wpC_seq ?_
  refine wpC_reg ?_
  refine wpOps_ins (rfl) ?_
  refine wp_box rfl rfl H fun q2 h H => ?_
  refine wpOps_ins (rfl) ?_
  refine wpOps_nil ?_
  refine wpC_seq ?_
  refine wpC_seq ?_
  refine wpC_reg ?_
  refine wpOps_ins (rfl) ?_
  refine wpOps_ins (sem_load rfl (H.mem (x := (q1, .row tyTemp t.cells false)) (by simp)) (fun _ => partOf_all (DT.len _))) ?_
  refine wp_call rfl (temp_ok C t hok (by omega) (by omega) (by omega) (by omega) H) ?_
  rintro _ h ⟨b, left, rfl, H, hl⟩
  cases b
  · refine wpOps_ins (rfl) ?_
    refine wpOps_nil ?_
    refine wpC_condT rfl ?_
    refine wpC_seq ?_
    refine wpC_reg ?_
    refine wpOps_ins (rfl) ?_
    refine wpOps_nil ?_
    refine wpC_ret ?_
    exact ⟨trivial, _, rfl, rfl⟩
  · have hsz : t.size ≤ 500 := by have := hl rfl; omega
    refine wpOps_ins (rfl) ?_
    refine wpOps_nil ?_
    refine wpC_condF rfl ?_
    refine wpC_skip ?_
    refine wpC_seq ?_
    refine wpC_phase rfl ?_
    refine wpOps_ins (sem_load rfl (H.mem (x := (q1, .row tyTemp t.cells false)) (by simp)) (fun _ => partOf_all (DT.len _))) ?_
    refine wpOps_ins (sem_load rfl (H.mem (x := (q1, .row tyTemp t.cells false)) (by simp)) (fun _ => partOf_all (DT.len _))) ?_
    refine wpOps_nil ⟨?_, ?_⟩
    · refine wpK_ins (sem_load rfl (H.mem (x := (q1, .row tyTemp t.cells false)) (by simp)) (fun _ => partOf_all (DT.len _))) rfl rfl ?_
      refine wpK_ins (sem_load rfl (H.mem (x := (q1, .row tyTemp t.cells false)) (by simp)) (fun _ => partOf_all (DT.len _))) rfl rfl ?_
      exact wpK_nil
    · refine wp_call rfl (parts_ok C t hok hsz H) ?_
      rintro r1 h ⟨B1, hr1, H⟩
      refine wpOps_nil ?_
      refine wpC_phase rfl ?_
      refine wpOps_nil ⟨?_, ?_⟩
      · refine wpK_ins (sem_load rfl (H.mem (x := (q1, .row tyTemp t.cells false)) (by simp)) (fun _ => partOf_all (DT.len _))) rfl rfl ?_
        exact wpK_nil
      · refine wp_call rfl (rparts_ok C t hok hsz H) ?_
        rintro r2 h ⟨B2, hr2, H⟩
        refine wpOps_nil ?_
        refine wpC_phase rfl ?_
        refine wpOps_nil ⟨?_, ?_⟩
        · exact wpK_nil
        · refine wp_call rfl (sameTemps_ok C t.parts (DT.parts_ok t hok) (parts_maxN hsz) (hr1.slr (fun x m => List.mem_append_right _ (List.mem_append_left _ m))) (hr2.slr (fun x m => List.mem_append_left _ m)) H) ?_
          rintro _ h ⟨rfl, H⟩
          refine wpOps_nil ?_
          refine wpC_phase rfl ?_
          refine wpOps_ins (rfl) ?_
          refine wpOps_on rfl ?_
          refine wpOps_ins (sem_load rfl (H.mem (x := (q1, .row tyTemp t.cells false)) (by simp)) (fun _ => partOf_all (DT.len _))) ?_
          refine wpOps_on rfl ?_
          refine wpOps_ins (sem_load rfl (H.mem (x := (q1, .row tyTemp t.cells false)) (by simp)) (fun _ => partOf_all (DT.len _))) ?_
          refine wpOps_nil ⟨?_, ?_⟩
          · refine wpK_ins (rfl) rfl rfl ?_
            refine wpK_on rfl ?_
            refine wpK_ins (sem_load rfl (H.mem (x := (q1, .row tyTemp t.cells false)) (by simp)) (fun _ => partOf_all (DT.len _))) rfl rfl ?_
            refine wpK_on rfl ?_
            refine wpK_ins (sem_load rfl (H.mem (x := (q1, .row tyTemp t.cells false)) (by simp)) (fun _ => partOf_all (DT.len _))) rfl rfl ?_
            exact wpK_nil
          · refine wpOps_on rfl ?_
            refine wp_call rfl (safe_ok C hok hsz H) ?_
            rintro _ h ⟨rfl, H⟩
            refine wpOps_nil ?_
            refine wpC_phase rfl ?_
            refine wpOps_nil ⟨?_, ?_⟩
            · refine wpK_on rfl ?_
              refine wpK_ins (sem_load rfl (H.mem (x := (q1, .row tyTemp t.cells false)) (by simp)) (fun _ => partOf_all (DT.len _))) rfl rfl ?_
              exact wpK_nil
            · refine wpOps_on rfl ?_
              refine wp_call rfl (rsafe_ok C hok hsz H) ?_
              rintro _ h ⟨rfl, H⟩
              refine wpOps_nil ?_
              refine wpC_last rfl ?_
              refine wpOps_on rfl ?_
              refine wpOps_ins (sem_sameB rfl rfl) ?_
              refine wpOps_ins (rfl) ?_
              refine wpOps_ins (rfl) ?_
              refine wpOps_nil ⟨?_, ?_⟩
              · refine wpK_on rfl ?_
                refine wpK_ins (sem_sameB rfl rfl) rfl rfl ?_
                refine wpK_ins (rfl) rfl rfl ?_
                refine wpK_ins (rfl) rfl rfl ?_
                exact wpK_nil
              · refine wpC_ret ?_
                exact ⟨trivial, _, rfl, rfl⟩
end
end Go.X
