/-
  DERIVED. GIVEN WITH THE SEED: THE CARDS: each row of YtighfcpaplmaiaaGreatDoorRows.lean that lists a variable, with what it lists TIED to the program's text (the seventh form; the later family's looks); each row that meets fmt, with fmt's text TOLD by the authors' own Lean function (tested against real Go, not proved from fmt's source: count such statements apart). THE CARD IS WHAT COUNTS. Prove the row's statement (the work); the ties are given (YtighfcpaplmaiaaGreatDoorTie.lean); close each card by the builder's one call (the guide's Derived/Test/ToyasCard.lean, 'card_holds'). Laid BY PROGRAM, IN A SANDBOX (cutbox-door.mjs). By AI agents, Wed Nov 11 2026. No macro, syntax, notation, axiom, sorry.
-/
import Derived.Test.YtighfcpaplmaiaaGreatDoorRows
import GoSem.ClaimSeven
namespace Go.Proofs.YtighfcpaplmaiaaGreatDoor
namespace Rows

/-- THE TIED CARD OF 'treemergelaw15.CallsTargets'. -/
def callsTargetsCard : Claim7 := { stood := { row := callsTargetsRow, standIns := [], harness := (true, "49c625f5070b1711fed5ef9969f95fdf0c136d8bcca94c7f9ef14686027c7aeb"), looks := false }, kinds := [], alts := [], laidByText := true, laidKinds := [.widerDeep], laidTests := true, laidLooks := .later }
def CallsTargetsCardSaid : Prop := Claim7.holds Tryz.pinned (.plain (OpenSpec.ofChange callsTargetsSpec)) callsTargetsCard

/-- THE TIED CARD OF 'treemergelaw15.CallsGraph'. -/
def callsGraphCard : Claim7 := { stood := { row := callsGraphRow, standIns := [], harness := (true, "49c625f5070b1711fed5ef9969f95fdf0c136d8bcca94c7f9ef14686027c7aeb"), looks := false }, kinds := [], alts := [], laidByText := true, laidKinds := [.widerDeep], laidTests := true, laidLooks := .later }
def CallsGraphCardSaid : Prop := Claim7.holds Tryz.pinned (.plain (OpenSpec.ofChange callsGraphSpec)) callsGraphCard

/-- THE TIED CARD OF 'treemergelaw15.CallsNames'. -/
def callsNamesCard : Claim7 := { stood := { row := callsNamesRow, standIns := [], harness := (true, "49c625f5070b1711fed5ef9969f95fdf0c136d8bcca94c7f9ef14686027c7aeb"), looks := false }, kinds := [], alts := [], laidByText := true, laidKinds := [.widerDeep], laidTests := true, laidLooks := .later }
def CallsNamesCardSaid : Prop := Claim7.holds Tryz.pinned (.plain (OpenSpec.ofChange callsNamesSpec)) callsNamesCard

/-- THE TIED CARD OF 'treemergelaw15.CallsReach'. -/
def callsReachCard : Claim7 := { stood := { row := callsReachRow, standIns := [], harness := (true, "49c625f5070b1711fed5ef9969f95fdf0c136d8bcca94c7f9ef14686027c7aeb"), looks := false }, kinds := [], alts := [], laidByText := true, laidKinds := [.widerDeep], laidTests := true, laidLooks := .later }
def CallsReachCardSaid : Prop := Claim7.holds Tryz.pinned (.plain (OpenSpec.ofChange callsReachSpec)) callsReachCard

/-- THE TIED CARD OF 'treemergelaw15.CallsEdges'. -/
def callsEdgesCard : Claim7 := { stood := { row := callsEdgesRow, standIns := [], harness := (true, "49c625f5070b1711fed5ef9969f95fdf0c136d8bcca94c7f9ef14686027c7aeb"), looks := false }, kinds := [], alts := [], laidByText := true, laidKinds := [.widerDeep], laidTests := true, laidLooks := .later }
def CallsEdgesCardSaid : Prop := Claim7.holds Tryz.pinned (.plain (OpenSpec.ofChange callsEdgesSpec)) callsEdgesCard

/-- THE TIED CARD OF 'treemergelaw15.CallsClasses'. -/
def callsClassesCard : Claim7 := { stood := { row := callsClassesRow, standIns := [], harness := (true, "49c625f5070b1711fed5ef9969f95fdf0c136d8bcca94c7f9ef14686027c7aeb"), looks := false }, kinds := [], alts := [], laidByText := true, laidKinds := [.widerDeep], laidTests := true, laidLooks := .later }
def CallsClassesCardSaid : Prop := Claim7.holds Tryz.pinned (.plain (OpenSpec.ofChange callsClassesSpec)) callsClassesCard

/-- THE SECOND FORM's CARD OF 'treemergelaw15.CallsTargets'. -/
def callsTargetsUptoCard : Claim7 := { stood := { row := callsTargetsUptoRow, standIns := [], harness := (true, "49c625f5070b1711fed5ef9969f95fdf0c136d8bcca94c7f9ef14686027c7aeb"), looks := false }, kinds := [], alts := [], laidByText := true, laidKinds := [.widerDeep], laidTests := true, laidLooks := .later }
def CallsTargetsUptoCardSaid : Prop := Claim7.holds Tryz.pinned (.plain (OpenSpec.upto callsTargetsSpec)) callsTargetsUptoCard

/-- THE SECOND FORM's CARD OF 'treemergelaw15.CallsGraph'. -/
def callsGraphUptoCard : Claim7 := { stood := { row := callsGraphUptoRow, standIns := [], harness := (true, "49c625f5070b1711fed5ef9969f95fdf0c136d8bcca94c7f9ef14686027c7aeb"), looks := false }, kinds := [], alts := [], laidByText := true, laidKinds := [.widerDeep], laidTests := true, laidLooks := .later }
def CallsGraphUptoCardSaid : Prop := Claim7.holds Tryz.pinned (.plain (OpenSpec.upto callsGraphSpec)) callsGraphUptoCard

/-- THE SECOND FORM's CARD OF 'treemergelaw15.CallsNames'. -/
def callsNamesUptoCard : Claim7 := { stood := { row := callsNamesUptoRow, standIns := [], harness := (true, "49c625f5070b1711fed5ef9969f95fdf0c136d8bcca94c7f9ef14686027c7aeb"), looks := false }, kinds := [], alts := [], laidByText := true, laidKinds := [.widerDeep], laidTests := true, laidLooks := .later }
def CallsNamesUptoCardSaid : Prop := Claim7.holds Tryz.pinned (.plain (OpenSpec.upto callsNamesSpec)) callsNamesUptoCard

/-- THE SECOND FORM's CARD OF 'treemergelaw15.CallsReach'. -/
def callsReachUptoCard : Claim7 := { stood := { row := callsReachUptoRow, standIns := [], harness := (true, "49c625f5070b1711fed5ef9969f95fdf0c136d8bcca94c7f9ef14686027c7aeb"), looks := false }, kinds := [], alts := [], laidByText := true, laidKinds := [.widerDeep], laidTests := true, laidLooks := .later }
def CallsReachUptoCardSaid : Prop := Claim7.holds Tryz.pinned (.plain (OpenSpec.upto callsReachSpec)) callsReachUptoCard

/-- THE SECOND FORM's CARD OF 'treemergelaw15.CallsEdges'. -/
def callsEdgesUptoCard : Claim7 := { stood := { row := callsEdgesUptoRow, standIns := [], harness := (true, "49c625f5070b1711fed5ef9969f95fdf0c136d8bcca94c7f9ef14686027c7aeb"), looks := false }, kinds := [], alts := [], laidByText := true, laidKinds := [.widerDeep], laidTests := true, laidLooks := .later }
def CallsEdgesUptoCardSaid : Prop := Claim7.holds Tryz.pinned (.plain (OpenSpec.upto callsEdgesSpec)) callsEdgesUptoCard

/-- THE SECOND FORM's CARD OF 'treemergelaw15.CallsClasses'. -/
def callsClassesUptoCard : Claim7 := { stood := { row := callsClassesUptoRow, standIns := [], harness := (true, "49c625f5070b1711fed5ef9969f95fdf0c136d8bcca94c7f9ef14686027c7aeb"), looks := false }, kinds := [], alts := [], laidByText := true, laidKinds := [.widerDeep], laidTests := true, laidLooks := .later }
def CallsClassesUptoCardSaid : Prop := Claim7.holds Tryz.pinned (.plain (OpenSpec.upto callsClassesSpec)) callsClassesUptoCard
end Rows
end Go.Proofs.YtighfcpaplmaiaaGreatDoor
