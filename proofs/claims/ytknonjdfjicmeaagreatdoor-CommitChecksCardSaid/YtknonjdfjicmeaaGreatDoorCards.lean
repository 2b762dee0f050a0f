/-
  DERIVED. GIVEN WITH THE SEED: THE CARDS: each row of YtknonjdfjicmeaaGreatDoorRows.lean that lists a variable, with what it lists TIED to the program's text (the seventh form; the later family's looks); each row that meets fmt, with fmt's text TOLD by the authors' own Lean function (tested against real Go, not proved from fmt's source: count such statements apart). THE CARD IS WHAT COUNTS. Prove the row's statement (the work); the ties are given (YtknonjdfjicmeaaGreatDoorTie.lean); close each card by the builder's one call (the guide's Derived/Test/ToyasCard.lean, 'card_holds'). Laid BY PROGRAM, IN A SANDBOX (cutbox-door.mjs). By AI agents, Wed Nov 11 2026. No macro, syntax, notation, axiom, sorry.
-/
import Derived.Test.YtknonjdfjicmeaaGreatDoorRows
import GoSem.ClaimSeven
namespace Go.Proofs.YtknonjdfjicmeaaGreatDoor
namespace Rows

/-- THE TIED CARD OF 'treemergelaw51.CommitChecks'. -/
def commitChecksCard : Claim7 := { stood := { row := commitChecksRow, standIns := [], harness := (true, "973d6f0e3554b0d26a01bc8e0e82bf9af7d64858cd8feb9c303553d3b4f69e8e"), looks := true }, kinds := [], alts := [], laidByText := true, laidKinds := [.data, .data, .data, .data, .sentinel, .sentinel, .widerDeep, .pinned], laidTests := true, laidLooks := .later }
def CommitChecksCardSaid : Prop := Claim7.holds Tryz.pinned (.plain (OpenSpec.ofChange commitChecksSpec)) commitChecksCard

/-- THE TIED CARD OF 'treemergelaw51.CommitEncodes'. -/
def commitEncodesCard : Claim7 := { stood := { row := commitEncodesRow, standIns := [], harness := (true, "973d6f0e3554b0d26a01bc8e0e82bf9af7d64858cd8feb9c303553d3b4f69e8e"), looks := true }, kinds := [], alts := [], laidByText := true, laidKinds := [.data, .data, .data, .data, .sentinel, .sentinel, .widerDeep, .pinned], laidTests := true, laidLooks := .later }
def CommitEncodesCardSaid : Prop := Claim7.holds Tryz.pinned (.plain (OpenSpec.ofChange commitEncodesSpec)) commitEncodesCard

/-- THE SECOND FORM's CARD OF 'treemergelaw51.CommitChecks'. -/
def commitChecksUptoCard : Claim7 := { stood := { row := commitChecksUptoRow, standIns := [], harness := (true, "973d6f0e3554b0d26a01bc8e0e82bf9af7d64858cd8feb9c303553d3b4f69e8e"), looks := true }, kinds := [], alts := [], laidByText := true, laidKinds := [.data, .data, .data, .data, .sentinel, .sentinel, .widerDeep, .pinned], laidTests := true, laidLooks := .later }
def CommitChecksUptoCardSaid : Prop := Claim7.holds Tryz.pinned (.plain (OpenSpec.upto commitChecksSpec)) commitChecksUptoCard

/-- THE SECOND FORM's CARD OF 'treemergelaw51.CommitEncodes'. -/
def commitEncodesUptoCard : Claim7 := { stood := { row := commitEncodesUptoRow, standIns := [], harness := (true, "973d6f0e3554b0d26a01bc8e0e82bf9af7d64858cd8feb9c303553d3b4f69e8e"), looks := true }, kinds := [], alts := [], laidByText := true, laidKinds := [.data, .data, .data, .data, .sentinel, .sentinel, .widerDeep, .pinned], laidTests := true, laidLooks := .later }
def CommitEncodesUptoCardSaid : Prop := Claim7.holds Tryz.pinned (.plain (OpenSpec.upto commitEncodesSpec)) commitEncodesUptoCard
end Rows
end Go.Proofs.YtknonjdfjicmeaaGreatDoor
