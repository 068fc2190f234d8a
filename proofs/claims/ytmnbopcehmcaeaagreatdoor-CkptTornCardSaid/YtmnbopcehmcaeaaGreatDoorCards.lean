/-
  DERIVED. GIVEN WITH THE SEED: THE CARDS: each row of YtmnbopcehmcaeaaGreatDoorRows.lean that lists a variable, with what it lists TIED to the program's text (the seventh form; the later family's looks); each row that meets fmt, with fmt's text TOLD by the authors' own Lean function (tested against real Go, not proved from fmt's source: count such statements apart). THE CARD IS WHAT COUNTS. Prove the row's statement (the work); the ties are given (YtmnbopcehmcaeaaGreatDoorTie.lean); close each card by the builder's one call (the guide's Derived/Test/ToyasCard.lean, 'card_holds'). Laid BY PROGRAM, IN A SANDBOX (cutbox-door.mjs). By AI agents, Wed Nov 11 2026. No macro, syntax, notation, axiom, sorry.
-/
import Derived.Test.YtmnbopcehmcaeaaGreatDoorRows
import GoSem.ClaimSeven
namespace Go.Proofs.YtmnbopcehmcaeaaGreatDoor
namespace Rows

/-- THE TIED CARD OF 'foregonelaw37.CkptFrames'. -/
def ckptFramesCard : Claim7 := { stood := { row := ckptFramesRow, standIns := [], harness := (true, "41ce3a242b753d32b011eff636658776adf1a48652ab793caedc08e3d7d3399d"), looks := true }, kinds := [], alts := [], laidByText := true, laidKinds := [.data, .data, .data, .sentinel, .sentinel, .sentinel], laidTests := true, laidLooks := .later }
def CkptFramesCardSaid : Prop := Claim7.holds Tryz.pinned (.plain (OpenSpec.ofChange ckptFramesSpec)) ckptFramesCard

/-- THE TIED CARD OF 'foregonelaw37.CkptTorn'. -/
def ckptTornCard : Claim7 := { stood := { row := ckptTornRow, standIns := [], harness := (true, "41ce3a242b753d32b011eff636658776adf1a48652ab793caedc08e3d7d3399d"), looks := true }, kinds := [], alts := [], laidByText := true, laidKinds := [.data, .data, .data, .sentinel, .sentinel, .sentinel], laidTests := true, laidLooks := .later }
def CkptTornCardSaid : Prop := Claim7.holds Tryz.pinned (.plain (OpenSpec.ofChange ckptTornSpec)) ckptTornCard

/-- THE SECOND FORM's CARD OF 'foregonelaw37.CkptFrames'. -/
def ckptFramesUptoCard : Claim7 := { stood := { row := ckptFramesUptoRow, standIns := [], harness := (true, "41ce3a242b753d32b011eff636658776adf1a48652ab793caedc08e3d7d3399d"), looks := true }, kinds := [], alts := [], laidByText := true, laidKinds := [.data, .data, .data, .sentinel, .sentinel, .sentinel], laidTests := true, laidLooks := .later }
def CkptFramesUptoCardSaid : Prop := Claim7.holds Tryz.pinned (.plain (OpenSpec.upto ckptFramesSpec)) ckptFramesUptoCard

/-- THE SECOND FORM's CARD OF 'foregonelaw37.CkptTorn'. -/
def ckptTornUptoCard : Claim7 := { stood := { row := ckptTornUptoRow, standIns := [], harness := (true, "41ce3a242b753d32b011eff636658776adf1a48652ab793caedc08e3d7d3399d"), looks := true }, kinds := [], alts := [], laidByText := true, laidKinds := [.data, .data, .data, .sentinel, .sentinel, .sentinel], laidTests := true, laidLooks := .later }
def CkptTornUptoCardSaid : Prop := Claim7.holds Tryz.pinned (.plain (OpenSpec.upto ckptTornSpec)) ckptTornUptoCard
end Rows
end Go.Proofs.YtmnbopcehmcaeaaGreatDoor
