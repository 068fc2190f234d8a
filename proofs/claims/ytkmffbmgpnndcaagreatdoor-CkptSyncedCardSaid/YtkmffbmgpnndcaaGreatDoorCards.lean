/-
  DERIVED. GIVEN WITH THE SEED: THE CARDS: each row of YtkmffbmgpnndcaaGreatDoorRows.lean that lists a variable, with what it lists TIED to the program's text (the seventh form; the later family's looks); each row that meets fmt, with fmt's text TOLD by the authors' own Lean function (tested against real Go, not proved from fmt's source: count such statements apart). THE CARD IS WHAT COUNTS. Prove the row's statement (the work); the ties are given (YtkmffbmgpnndcaaGreatDoorTie.lean); close each card by the builder's one call (the guide's Derived/Test/ToyasCard.lean, 'card_holds'). Laid BY PROGRAM, IN A SANDBOX (cutbox-door.mjs). By AI agents, Wed Nov 11 2026. No macro, syntax, notation, axiom, sorry.
-/
import Derived.Test.YtkmffbmgpnndcaaGreatDoorRows
import GoSem.ClaimSeven
namespace Go.Proofs.YtkmffbmgpnndcaaGreatDoor
namespace Rows

/-- THE TIED CARD OF 'foregonelaw37.CkptSynced'. -/
def ckptSyncedCard : Claim7 := { stood := { row := ckptSyncedRow, standIns := [], harness := (true, "c2a76054a38183d194893e09bda6d9d9d3208239abe39cfcb6dc5f77d3dbaf86"), looks := true }, kinds := [], alts := [], laidByText := true, laidKinds := [.data, .data, .data, .sentinel, .sentinel, .sentinel], laidTests := true, laidLooks := .later }
def CkptSyncedCardSaid : Prop := Claim7.holds Tryz.pinned (.plain (OpenSpec.ofChange ckptSyncedSpec)) ckptSyncedCard

/-- THE SECOND FORM's CARD OF 'foregonelaw37.CkptSynced'. -/
def ckptSyncedUptoCard : Claim7 := { stood := { row := ckptSyncedUptoRow, standIns := [], harness := (true, "c2a76054a38183d194893e09bda6d9d9d3208239abe39cfcb6dc5f77d3dbaf86"), looks := true }, kinds := [], alts := [], laidByText := true, laidKinds := [.data, .data, .data, .sentinel, .sentinel, .sentinel], laidTests := true, laidLooks := .later }
def CkptSyncedUptoCardSaid : Prop := Claim7.holds Tryz.pinned (.plain (OpenSpec.upto ckptSyncedSpec)) ckptSyncedUptoCard
end Rows
end Go.Proofs.YtkmffbmgpnndcaaGreatDoor
