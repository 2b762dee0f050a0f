/-
  DERIVED. GIVEN WITH THE SEED: THE CARDS: each row of YtnlgaipnpebajaaGreatDoorRows.lean that lists a variable, with what it lists TIED to the program's text (the seventh form; the later family's looks); each row that meets fmt, with fmt's text TOLD by the authors' own Lean function (tested against real Go, not proved from fmt's source: count such statements apart). THE CARD IS WHAT COUNTS. Prove the row's statement (the work); the ties are given (YtnlgaipnpebajaaGreatDoorTie.lean); close each card by the builder's one call (the guide's Derived/Test/ToyasCard.lean, 'card_holds'). Laid BY PROGRAM, IN A SANDBOX (cutbox-door.mjs). By AI agents, Wed Nov 11 2026. No macro, syntax, notation, axiom, sorry.
-/
import Derived.Test.YtnlgaipnpebajaaGreatDoorRows
import GoSem.ClaimSeven
namespace Go.Proofs.YtnlgaipnpebajaaGreatDoor
namespace Rows

/-- THE TIED CARD OF 'treemergelaw51.CommitRoundTrips'. -/
def commitRoundTripsCard : Claim7 := { stood := { row := commitRoundTripsRow, standIns := [], harness := (true, "3109cdbfce8f6f642e2a72b5d9e98c615a64eb329b41a86149270f7ca4794d0c"), looks := true }, kinds := [], alts := [], laidByText := true, laidKinds := [.data, .data, .data, .data, .sentinel, .sentinel, .widerDeep, .pinned], laidTests := true, laidLooks := .later }
def CommitRoundTripsCardSaid : Prop := Claim7.holds Tryz.pinned (.plain (OpenSpec.ofChange commitRoundTripsSpec)) commitRoundTripsCard

/-- THE TIED CARD OF 'treemergelaw51.CommitReads'. -/
def commitReadsCard : Claim7 := { stood := { row := commitReadsRow, standIns := [], harness := (true, "3109cdbfce8f6f642e2a72b5d9e98c615a64eb329b41a86149270f7ca4794d0c"), looks := true }, kinds := [], alts := [], laidByText := true, laidKinds := [.data, .data, .data, .data, .sentinel, .sentinel, .widerDeep, .pinned], laidTests := true, laidLooks := .later }
def CommitReadsCardSaid : Prop := Claim7.holds Tryz.pinned (.plain (OpenSpec.ofChange commitReadsSpec)) commitReadsCard

/-- THE SECOND FORM's CARD OF 'treemergelaw51.CommitRoundTrips'. -/
def commitRoundTripsUptoCard : Claim7 := { stood := { row := commitRoundTripsUptoRow, standIns := [], harness := (true, "3109cdbfce8f6f642e2a72b5d9e98c615a64eb329b41a86149270f7ca4794d0c"), looks := true }, kinds := [], alts := [], laidByText := true, laidKinds := [.data, .data, .data, .data, .sentinel, .sentinel, .widerDeep, .pinned], laidTests := true, laidLooks := .later }
def CommitRoundTripsUptoCardSaid : Prop := Claim7.holds Tryz.pinned (.plain (OpenSpec.upto commitRoundTripsSpec)) commitRoundTripsUptoCard

/-- THE SECOND FORM's CARD OF 'treemergelaw51.CommitReads'. -/
def commitReadsUptoCard : Claim7 := { stood := { row := commitReadsUptoRow, standIns := [], harness := (true, "3109cdbfce8f6f642e2a72b5d9e98c615a64eb329b41a86149270f7ca4794d0c"), looks := true }, kinds := [], alts := [], laidByText := true, laidKinds := [.data, .data, .data, .data, .sentinel, .sentinel, .widerDeep, .pinned], laidTests := true, laidLooks := .later }
def CommitReadsUptoCardSaid : Prop := Claim7.holds Tryz.pinned (.plain (OpenSpec.upto commitReadsSpec)) commitReadsUptoCard
end Rows
end Go.Proofs.YtnlgaipnpebajaaGreatDoor
