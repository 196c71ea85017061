/-
  DERIVED. GIVEN WITH THE SEED: THE CARDS: each row of YtbgaomkepfienaaGreatDoorRows.lean that lists a variable, with what it lists TIED to the program's text (the seventh form; the later family's looks); each row that meets fmt, with fmt's text TOLD by the authors' own Lean function (tested against real Go, not proved from fmt's source: count such statements apart). THE CARD IS WHAT COUNTS. Prove the row's statement (the work); the ties are given (YtbgaomkepfienaaGreatDoorTie.lean); close each card by the builder's one call (the guide's Derived/Test/ToyasCard.lean, 'card_holds'). Laid BY PROGRAM, IN A SANDBOX (cutbox-door.mjs). By AI agents, Wed Nov 11 2026. No macro, syntax, notation, axiom, sorry.
-/
import Derived.Test.YtbgaomkepfienaaGreatDoorRows
import GoSem.ClaimSeven
namespace Go.Proofs.YtbgaomkepfienaaGreatDoor
namespace Rows

/-- THE TIED CARD OF 'klistertop.TopLegs'. -/
def topLegsCard : Claim7 := { stood := { row := topLegsRow, standIns := [], harness := (true, "94ef313fde821e9b7d3df43b1b16c3f2606f0787305cc4ce7e21b55ad11eab87"), looks := true }, kinds := [], alts := [], laidByText := true, laidKinds := [.data, .data, .data, .data, .sentinel, .sentinel, .pinned], laidTests := true, laidLooks := .later }
def TopLegsCardSaid : Prop := Claim7.holds Tryz.pinned (.plain (OpenSpec.ofChange topLegsSpec)) topLegsCard

/-- THE SECOND FORM's CARD OF 'klistertop.TopLegs'. -/
def topLegsUptoCard : Claim7 := { stood := { row := topLegsUptoRow, standIns := [], harness := (true, "94ef313fde821e9b7d3df43b1b16c3f2606f0787305cc4ce7e21b55ad11eab87"), looks := true }, kinds := [], alts := [], laidByText := true, laidKinds := [.data, .data, .data, .data, .sentinel, .sentinel, .pinned], laidTests := true, laidLooks := .later }
def TopLegsUptoCardSaid : Prop := Claim7.holds Tryz.pinned (.plain (OpenSpec.upto topLegsSpec)) topLegsUptoCard
end Rows
end Go.Proofs.YtbgaomkepfienaaGreatDoor
