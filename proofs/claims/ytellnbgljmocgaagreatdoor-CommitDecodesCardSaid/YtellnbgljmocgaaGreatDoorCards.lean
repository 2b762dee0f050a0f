/-
  DERIVED. GIVEN WITH THE SEED: THE CARDS: each row of YtellnbgljmocgaaGreatDoorRows.lean that lists a variable, with what it lists TIED to the program's text (the seventh form; the later family's looks); each row that meets fmt, with fmt's text TOLD by the authors' own Lean function (tested against real Go, not proved from fmt's source: count such statements apart). THE CARD IS WHAT COUNTS. Prove the row's statement (the work); the ties are given (YtellnbgljmocgaaGreatDoorTie.lean); close each card by the builder's one call (the guide's Derived/Test/ToyasCard.lean, 'card_holds'). Laid BY PROGRAM, IN A SANDBOX (cutbox-door.mjs). By AI agents, Wed Nov 11 2026. No macro, syntax, notation, axiom, sorry.
-/
import Derived.Test.YtellnbgljmocgaaGreatDoorRows
import GoSem.ClaimSeven
namespace Go.Proofs.YtellnbgljmocgaaGreatDoor
namespace Rows

/-- THE TIED CARD OF 'treemergelaw51.CommitDecodes'. -/
def commitDecodesCard : Claim7 := { stood := { row := commitDecodesRow, standIns := [], harness := (true, "35de8ef50cd074a559418c96f34e7112b2afcf8243c981851f21692faa1aa61b"), looks := true }, kinds := [], alts := [], laidByText := true, laidKinds := [.data, .data, .data, .data, .sentinel, .sentinel, .widerDeep, .pinned], laidTests := true, laidLooks := .later }
def CommitDecodesCardSaid : Prop := Claim7.holds Tryz.pinned (.plain (OpenSpec.ofChange commitDecodesSpec)) commitDecodesCard

/-- THE SECOND FORM's CARD OF 'treemergelaw51.CommitDecodes'. -/
def commitDecodesUptoCard : Claim7 := { stood := { row := commitDecodesUptoRow, standIns := [], harness := (true, "35de8ef50cd074a559418c96f34e7112b2afcf8243c981851f21692faa1aa61b"), looks := true }, kinds := [], alts := [], laidByText := true, laidKinds := [.data, .data, .data, .data, .sentinel, .sentinel, .widerDeep, .pinned], laidTests := true, laidLooks := .later }
def CommitDecodesUptoCardSaid : Prop := Claim7.holds Tryz.pinned (.plain (OpenSpec.upto commitDecodesSpec)) commitDecodesUptoCard
end Rows
end Go.Proofs.YtellnbgljmocgaaGreatDoor
