/-
  DERIVED. GIVEN WITH THE SEED: THE CARDS: each row of YtecgckocabkadaaGreatDoorRows.lean that lists a variable, with what it lists TIED to the program's text (the seventh form; the later family's looks); each row that meets fmt, with fmt's text TOLD by the authors' own Lean function (tested against real Go, not proved from fmt's source: count such statements apart). THE CARD IS WHAT COUNTS. Prove the row's statement (the work); the ties are given (YtecgckocabkadaaGreatDoorTie.lean); close each card by the builder's one call (the guide's Derived/Test/ToyasCard.lean, 'card_holds'). Laid BY PROGRAM, IN A SANDBOX (cutbox-door.mjs). By AI agents, Wed Nov 11 2026. No macro, syntax, notation, axiom, sorry.
-/
import Derived.Test.YtecgckocabkadaaGreatDoorRows
import GoSem.ClaimSeven
namespace Go.Proofs.YtecgckocabkadaaGreatDoor
namespace Rows

/-- THE TIED CARD OF 'klistertop.TopPassed'. -/
def topPassedCard : Claim7 := { stood := { row := topPassedRow, standIns := [], harness := (true, "9cf3734d949e655325dc2ea5f835f87898ac00f09b034b262aca2218e9e04898"), looks := true }, kinds := [], alts := [], laidByText := true, laidKinds := [.data, .data, .data, .data, .sentinel, .sentinel, .pinned], laidTests := true, laidLooks := .later }
def TopPassedCardSaid : Prop := Claim7.holds Tryz.pinned (.plain (OpenSpec.ofChange topPassedSpec)) topPassedCard

/-- THE SECOND FORM's CARD OF 'klistertop.TopPassed'. -/
def topPassedUptoCard : Claim7 := { stood := { row := topPassedUptoRow, standIns := [], harness := (true, "9cf3734d949e655325dc2ea5f835f87898ac00f09b034b262aca2218e9e04898"), looks := true }, kinds := [], alts := [], laidByText := true, laidKinds := [.data, .data, .data, .data, .sentinel, .sentinel, .pinned], laidTests := true, laidLooks := .later }
def TopPassedUptoCardSaid : Prop := Claim7.holds Tryz.pinned (.plain (OpenSpec.upto topPassedSpec)) topPassedUptoCard
end Rows
end Go.Proofs.YtecgckocabkadaaGreatDoor
