/- slices.Sorted over maps.Keys at this program. -/
import Derived.Test.YtphclenlannanaaGreatDoorSrtP
import Derived.Test.YtphclenlannanaaGreatDoorXxSorted
namespace Go.Proofs.YtphclenlannanaaGreatDoor
open Go Go.Proofs Go.X Go.RowKit Go.Maps Go.Sort Go.Shelf
theorem sortsA (m : Nat) : AnyZI.SortsIn Tryz.prog Tryz.sortedA_ren Fence.wide m :=
  ⟨fun blk off cap ss W hH hblk hsz => callsIn_wide.2 (AnyM.slices_Sort_int Tryz.sortA blk off cap ss W hH hblk hsz),
   fun p cap W => callsIn_wide.2 (AnyM.slices_Sort_int_none Tryz.sortA p cap W)⟩
noncomputable def srt : FuncId → Option (FuncId × TypeId) := fun f => match Nat.beq f 88 with | true => some (181, 3) | false => none
theorem srtOK : SrtOK Tryz.prog srt := by
  intro f g ty h
  unfold srt at h
  cases hb : Nat.beq f 88 with
  | false => rw [hb] at h; simp at h
  | true =>
    rw [hb] at h
    simp only [Option.some.injEq, Prod.mk.injEq] at h
    obtain ⟨rfl, rfl⟩ := h
    obtain rfl := Nat.eq_of_beq_eq_true hb
    exact sortedOK_of (ρ := Tryz.sortedA_ren) (ρk := Tryz.keysA_ren) Tryz.sortedA { Tryz.keysA with } sortsA (enters_of Tryz.func180 (by kernel_rfl) rfl)
end Go.Proofs.YtphclenlannanaaGreatDoor
