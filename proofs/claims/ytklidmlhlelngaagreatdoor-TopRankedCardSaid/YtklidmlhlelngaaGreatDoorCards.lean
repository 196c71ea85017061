/-
  DERIVED. GIVEN WITH THE SEED: THE CARDS: each row of YtklidmlhlelngaaGreatDoorRows.lean that lists a variable, with what it lists TIED to the program's text (the seventh form; the later family's looks); each row that meets fmt, with fmt's text TOLD by the authors' own Lean function (tested against real Go, not proved from fmt's source: count such statements apart). THE CARD IS WHAT COUNTS. Prove the row's statement (the work); the ties are given (YtklidmlhlelngaaGreatDoorTie.lean); close each card by the builder's one call (the guide's Derived/Test/ToyasCard.lean, 'card_holds'). Laid BY PROGRAM, IN A SANDBOX (cutbox-door.mjs). By AI agents, Wed Nov 11 2026. No macro, syntax, notation, axiom, sorry.
-/
import Derived.Test.YtklidmlhlelngaaGreatDoorRows
import GoSem.ClaimSeven
namespace Go.Proofs.YtklidmlhlelngaaGreatDoor
namespace Rows

/-- THE TIED CARD OF 'klistertop.TopRanked'. -/
def topRankedCard : Claim7 := { stood := { row := topRankedRow, standIns := [], harness := (true, "1fb7e03f8d9c41f68bfa5d9d3b38f2eef43cb0379d4a2046be2c5e4a8e122f76"), looks := true }, kinds := [], alts := [], laidByText := true, laidKinds := [.data, .data, .data, .data, .sentinel, .sentinel, .pinned], laidTests := true, laidLooks := .later }
def TopRankedCardSaid : Prop := Claim7.holds Tryz.pinned (.plain (OpenSpec.ofChange topRankedSpec)) topRankedCard

/-- THE SECOND FORM's CARD OF 'klistertop.TopRanked'. -/
def topRankedUptoCard : Claim7 := { stood := { row := topRankedUptoRow, standIns := [], harness := (true, "1fb7e03f8d9c41f68bfa5d9d3b38f2eef43cb0379d4a2046be2c5e4a8e122f76"), looks := true }, kinds := [], alts := [], laidByText := true, laidKinds := [.data, .data, .data, .data, .sentinel, .sentinel, .pinned], laidTests := true, laidLooks := .later }
def TopRankedUptoCardSaid : Prop := Claim7.holds Tryz.pinned (.plain (OpenSpec.upto topRankedSpec)) topRankedUptoCard
end Rows
end Go.Proofs.YtklidmlhlelngaaGreatDoor
