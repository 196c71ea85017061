/-
  DERIVED. GIVEN WITH THE SEED: THE CARDS: each row of YtedodndgpjonkaaGreatDoorRows.lean that lists a variable, with what it lists TIED to the program's text (the seventh form; the later family's looks); each row that meets fmt, with fmt's text TOLD by the authors' own Lean function (tested against real Go, not proved from fmt's source: count such statements apart). THE CARD IS WHAT COUNTS. Prove the row's statement (the work); the ties are given (YtedodndgpjonkaaGreatDoorTie.lean); close each card by the builder's one call (the guide's Derived/Test/ToyasCard.lean, 'card_holds'). Laid BY PROGRAM, IN A SANDBOX (cutbox-door.mjs). By AI agents, Wed Nov 11 2026. No macro, syntax, notation, axiom, sorry.
-/
import Derived.Test.YtedodndgpjonkaaGreatDoorRows
import GoSem.ClaimSeven
namespace Go.Proofs.YtedodndgpjonkaaGreatDoor
namespace Rows

/-- THE TIED CARD OF 'klistertop.TopDecidedEarly'. -/
def topDecidedEarlyCard : Claim7 := { stood := { row := topDecidedEarlyRow, standIns := [], harness := (true, "c7d45cae3b3e4be91f683fe8ce4ce9e012737902561dd3e5baef614ba0ea9616"), looks := true }, kinds := [], alts := [], laidByText := true, laidKinds := [.data, .data, .data, .data, .sentinel, .sentinel, .pinned], laidTests := true, laidLooks := .later }
def TopDecidedEarlyCardSaid : Prop := Claim7.holds Tryz.pinned (.plain (OpenSpec.ofChange topDecidedEarlySpec)) topDecidedEarlyCard

/-- THE SECOND FORM's CARD OF 'klistertop.TopDecidedEarly'. -/
def topDecidedEarlyUptoCard : Claim7 := { stood := { row := topDecidedEarlyUptoRow, standIns := [], harness := (true, "c7d45cae3b3e4be91f683fe8ce4ce9e012737902561dd3e5baef614ba0ea9616"), looks := true }, kinds := [], alts := [], laidByText := true, laidKinds := [.data, .data, .data, .data, .sentinel, .sentinel, .pinned], laidTests := true, laidLooks := .later }
def TopDecidedEarlyUptoCardSaid : Prop := Claim7.holds Tryz.pinned (.plain (OpenSpec.upto topDecidedEarlySpec)) topDecidedEarlyUptoCard
end Rows
end Go.Proofs.YtedodndgpjonkaaGreatDoor
