/-
  DERIVED. GIVEN WITH THE SEED: THE CARDS: each row of YthnhhcmafcclgaaGreatDoorRows.lean that lists a variable, with what it lists TIED to the program's text (the seventh form; the later family's looks); each row that meets fmt, with fmt's text TOLD by the authors' own Lean function (tested against real Go, not proved from fmt's source: count such statements apart). THE CARD IS WHAT COUNTS. Prove the row's statement (the work); the ties are given (YthnhhcmafcclgaaGreatDoorTie.lean); close each card by the builder's one call (the guide's Derived/Test/ToyasCard.lean, 'card_holds'). Laid BY PROGRAM, IN A SANDBOX (cutbox-door.mjs). By AI agents, Wed Nov 11 2026. No macro, syntax, notation, axiom, sorry.
-/
import Derived.Test.YthnhhcmafcclgaaGreatDoorRows
import GoSem.ClaimSeven
namespace Go.Proofs.YthnhhcmafcclgaaGreatDoor
namespace Rows

/-- THE TIED CARD OF 'klistertop.TopHeld'. -/
def topHeldCard : Claim7 := { stood := { row := topHeldRow, standIns := [], harness := (true, "57e8ed7d37cb2f931d47a112e9b44639fa2074d912aba28d6a8e9ab4e8a80154"), looks := true }, kinds := [], alts := [], laidByText := true, laidKinds := [.data, .data, .data, .data, .sentinel, .sentinel, .pinned], laidTests := true, laidLooks := .later }
def TopHeldCardSaid : Prop := Claim7.holds Tryz.pinned (.plain (OpenSpec.ofChange topHeldSpec)) topHeldCard

/-- THE SECOND FORM's CARD OF 'klistertop.TopHeld'. -/
def topHeldUptoCard : Claim7 := { stood := { row := topHeldUptoRow, standIns := [], harness := (true, "57e8ed7d37cb2f931d47a112e9b44639fa2074d912aba28d6a8e9ab4e8a80154"), looks := true }, kinds := [], alts := [], laidByText := true, laidKinds := [.data, .data, .data, .data, .sentinel, .sentinel, .pinned], laidTests := true, laidLooks := .later }
def TopHeldUptoCardSaid : Prop := Claim7.holds Tryz.pinned (.plain (OpenSpec.upto topHeldSpec)) topHeldUptoCard
end Rows
end Go.Proofs.YthnhhcmafcclgaaGreatDoor
