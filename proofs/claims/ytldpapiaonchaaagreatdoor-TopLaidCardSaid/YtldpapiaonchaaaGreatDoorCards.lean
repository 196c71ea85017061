/-
  DERIVED. GIVEN WITH THE SEED: THE CARDS: each row of YtldpapiaonchaaaGreatDoorRows.lean that lists a variable, with what it lists TIED to the program's text (the seventh form; the later family's looks); each row that meets fmt, with fmt's text TOLD by the authors' own Lean function (tested against real Go, not proved from fmt's source: count such statements apart). THE CARD IS WHAT COUNTS. Prove the row's statement (the work); the ties are given (YtldpapiaonchaaaGreatDoorTie.lean); close each card by the builder's one call (the guide's Derived/Test/ToyasCard.lean, 'card_holds'). Laid BY PROGRAM, IN A SANDBOX (cutbox-door.mjs). By AI agents, Wed Nov 11 2026. No macro, syntax, notation, axiom, sorry.
-/
import Derived.Test.YtldpapiaonchaaaGreatDoorRows
import GoSem.ClaimSeven
namespace Go.Proofs.YtldpapiaonchaaaGreatDoor
namespace Rows

/-- THE TIED CARD OF 'klistertop.TopLaid'. -/
def topLaidCard : Claim7 := { stood := { row := topLaidRow, standIns := [], harness := (true, "7960adaf5bb69ee9194342ccecc5c34e0996b3810e1c6e469790bf8974c5dce7"), looks := true }, kinds := [], alts := [], laidByText := true, laidKinds := [.data, .data, .data, .data, .sentinel, .sentinel, .pinned], laidTests := true, laidLooks := .later }
def TopLaidCardSaid : Prop := Claim7.holds Tryz.pinned (.plain (OpenSpec.ofChange topLaidSpec)) topLaidCard

/-- THE SECOND FORM's CARD OF 'klistertop.TopLaid'. -/
def topLaidUptoCard : Claim7 := { stood := { row := topLaidUptoRow, standIns := [], harness := (true, "7960adaf5bb69ee9194342ccecc5c34e0996b3810e1c6e469790bf8974c5dce7"), looks := true }, kinds := [], alts := [], laidByText := true, laidKinds := [.data, .data, .data, .data, .sentinel, .sentinel, .pinned], laidTests := true, laidLooks := .later }
def TopLaidUptoCardSaid : Prop := Claim7.holds Tryz.pinned (.plain (OpenSpec.upto topLaidSpec)) topLaidUptoCard
end Rows
end Go.Proofs.YtldpapiaonchaaaGreatDoor
