/-
  DERIVED. GIVEN WITH THE SEED: THE CARDS: each row of YtjbkanbdnoepmaaGreatDoorRows.lean that lists a variable, with what it lists TIED to the program's text (the seventh form; the later family's looks); each row that meets fmt, with fmt's text TOLD by the authors' own Lean function (tested against real Go, not proved from fmt's source: count such statements apart). THE CARD IS WHAT COUNTS. Prove the row's statement (the work); the ties are given (YtjbkanbdnoepmaaGreatDoorTie.lean); close each card by the builder's one call (the guide's Derived/Test/ToyasCard.lean, 'card_holds'). Laid BY PROGRAM, IN A SANDBOX (cutbox-door.mjs). By AI agents, Wed Nov 11 2026. No macro, syntax, notation, axiom, sorry.
-/
import Derived.Test.YtjbkanbdnoepmaaGreatDoorRows
import GoSem.ClaimSeven
namespace Go.Proofs.YtjbkanbdnoepmaaGreatDoor
namespace Rows

/-- THE TIED CARD OF 'foregonelaw25.ChecksParts'. -/
def checksPartsCard : Claim7 := { stood := { row := checksPartsRow, standIns := [], harness := (true, "efff33480be6f16a2ca6fe01a4a2ebda253a5fcf170bd8fd6aa5987c4b34b1f7"), looks := true }, kinds := [], alts := [], laidByText := true, laidKinds := [.data, .data, .data, .sentinel, .sentinel, .sentinel], laidTests := true, laidLooks := .later }
def ChecksPartsCardSaid : Prop := Claim7.holds Tryz.pinned (.plain (OpenSpec.ofChange checksPartsSpec)) checksPartsCard

/-- THE SECOND FORM's CARD OF 'foregonelaw25.ChecksParts'. -/
def checksPartsUptoCard : Claim7 := { stood := { row := checksPartsUptoRow, standIns := [], harness := (true, "efff33480be6f16a2ca6fe01a4a2ebda253a5fcf170bd8fd6aa5987c4b34b1f7"), looks := true }, kinds := [], alts := [], laidByText := true, laidKinds := [.data, .data, .data, .sentinel, .sentinel, .sentinel], laidTests := true, laidLooks := .later }
def ChecksPartsUptoCardSaid : Prop := Claim7.holds Tryz.pinned (.plain (OpenSpec.upto checksPartsSpec)) checksPartsUptoCard
end Rows
end Go.Proofs.YtjbkanbdnoepmaaGreatDoor
