/-
  DERIVED. GIVEN WITH THE SEED: THE CARDS: each row of YtphclenlannanaaGreatDoorRows.lean that lists a variable, with what it lists TIED to the program's text (the seventh form; the later family's looks); each row that meets fmt, with fmt's text TOLD by the authors' own Lean function (tested against real Go, not proved from fmt's source: count such statements apart). THE CARD IS WHAT COUNTS. Prove the row's statement (the work); the ties are given (YtphclenlannanaaGreatDoorTie.lean); close each card by the builder's one call (the guide's Derived/Test/ToyasCard.lean, 'card_holds'). Laid BY PROGRAM, IN A SANDBOX (cutbox-door.mjs). By AI agents, Wed Nov 11 2026. No macro, syntax, notation, axiom, sorry.
-/
import Derived.Test.YtphclenlannanaaGreatDoorRows
import GoSem.ClaimSeven
namespace Go.Proofs.YtphclenlannanaaGreatDoor
namespace Rows

/-- THE TIED CARD OF 'foregonelaw25.ChecksCompares'. -/
def checksComparesCard : Claim7 := { stood := { row := checksComparesRow, standIns := [], harness := (true, "95bb95a27d4bedcc42c01fe2059700ea883b23ce737b7fa1a6dfc74a04e07ced"), looks := true }, kinds := [], alts := [], laidByText := true, laidKinds := [.data, .data, .data, .sentinel, .sentinel, .sentinel], laidTests := true, laidLooks := .later }
def ChecksComparesCardSaid : Prop := Claim7.holds Tryz.pinned (.plain (OpenSpec.ofChange checksComparesSpec)) checksComparesCard

/-- THE SECOND FORM's CARD OF 'foregonelaw25.ChecksCompares'. -/
def checksComparesUptoCard : Claim7 := { stood := { row := checksComparesUptoRow, standIns := [], harness := (true, "95bb95a27d4bedcc42c01fe2059700ea883b23ce737b7fa1a6dfc74a04e07ced"), looks := true }, kinds := [], alts := [], laidByText := true, laidKinds := [.data, .data, .data, .sentinel, .sentinel, .sentinel], laidTests := true, laidLooks := .later }
def ChecksComparesUptoCardSaid : Prop := Claim7.holds Tryz.pinned (.plain (OpenSpec.upto checksComparesSpec)) checksComparesUptoCard
end Rows
end Go.Proofs.YtphclenlannanaaGreatDoor
