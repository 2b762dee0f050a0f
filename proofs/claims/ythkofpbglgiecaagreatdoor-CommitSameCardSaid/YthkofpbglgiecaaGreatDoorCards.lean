/-
  DERIVED. GIVEN WITH THE SEED: THE CARDS: each row of YthkofpbglgiecaaGreatDoorRows.lean that lists a variable, with what it lists TIED to the program's text (the seventh form; the later family's looks); each row that meets fmt, with fmt's text TOLD by the authors' own Lean function (tested against real Go, not proved from fmt's source: count such statements apart). THE CARD IS WHAT COUNTS. Prove the row's statement (the work); the ties are given (YthkofpbglgiecaaGreatDoorTie.lean); close each card by the builder's one call (the guide's Derived/Test/ToyasCard.lean, 'card_holds'). Laid BY PROGRAM, IN A SANDBOX (cutbox-door.mjs). By AI agents, Wed Nov 11 2026. No macro, syntax, notation, axiom, sorry.
-/
import Derived.Test.YthkofpbglgiecaaGreatDoorRows
import GoSem.ClaimSeven
namespace Go.Proofs.YthkofpbglgiecaaGreatDoor
namespace Rows

/-- THE TIED CARD OF 'treemergelaw51.CommitSame'. -/
def commitSameCard : Claim7 := { stood := { row := commitSameRow, standIns := [], harness := (true, "209ad36413f4389877146fa018fb09069e8471c46af9540b3f7576760bd76ccb"), looks := true }, kinds := [], alts := [], laidByText := true, laidKinds := [.data, .data, .data, .data, .sentinel, .sentinel, .widerDeep, .pinned], laidTests := true, laidLooks := .later }
def CommitSameCardSaid : Prop := Claim7.holds Tryz.pinned (.plain (OpenSpec.ofChange commitSameSpec)) commitSameCard

/-- THE SECOND FORM's CARD OF 'treemergelaw51.CommitSame'. -/
def commitSameUptoCard : Claim7 := { stood := { row := commitSameUptoRow, standIns := [], harness := (true, "209ad36413f4389877146fa018fb09069e8471c46af9540b3f7576760bd76ccb"), looks := true }, kinds := [], alts := [], laidByText := true, laidKinds := [.data, .data, .data, .data, .sentinel, .sentinel, .widerDeep, .pinned], laidTests := true, laidLooks := .later }
def CommitSameUptoCardSaid : Prop := Claim7.holds Tryz.pinned (.plain (OpenSpec.upto commitSameSpec)) commitSameUptoCard
end Rows
end Go.Proofs.YthkofpbglgiecaaGreatDoor
