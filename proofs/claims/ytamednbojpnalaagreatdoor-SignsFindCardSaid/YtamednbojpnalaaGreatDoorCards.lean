/-
  DERIVED. GIVEN WITH THE SEED: THE CARDS: each row of YtamednbojpnalaaGreatDoorRows.lean that lists a variable, with what it lists TIED to the program's text (the seventh form; the later family's looks); each row that meets fmt, with fmt's text TOLD by the authors' own Lean function (tested against real Go, not proved from fmt's source: count such statements apart). THE CARD IS WHAT COUNTS. Prove the row's statement (the work); the ties are given (YtamednbojpnalaaGreatDoorTie.lean); close each card by the builder's one call (the guide's Derived/Test/ToyasCard.lean, 'card_holds'). Laid BY PROGRAM, IN A SANDBOX (cutbox-door.mjs). By AI agents, Wed Nov 11 2026. No macro, syntax, notation, axiom, sorry.
-/
import Derived.Test.YtamednbojpnalaaGreatDoorRows
import GoSem.ClaimSeven
namespace Go.Proofs.YtamednbojpnalaaGreatDoor
namespace Rows

/-- THE TIED CARD OF 'treemergelaw40.SignsMismatches'. -/
def signsMismatchesCard : Claim7 := { stood := { row := signsMismatchesRow, standIns := [], harness := (true, "fc50236e3f80582a16819b8118e9d5edfe75778989222534500d81c1ba207a66"), looks := false }, kinds := [], alts := [], laidByText := true, laidKinds := [.data, .data, .data, .widerDeep], laidTests := true, laidLooks := .later }
def SignsMismatchesCardSaid : Prop := Claim7.holds Tryz.pinned (.plain (OpenSpec.ofChange signsMismatchesSpec)) signsMismatchesCard

/-- THE TIED CARD OF 'treemergelaw40.SignsCounts'. -/
def signsCountsCard : Claim7 := { stood := { row := signsCountsRow, standIns := [], harness := (true, "fc50236e3f80582a16819b8118e9d5edfe75778989222534500d81c1ba207a66"), looks := false }, kinds := [], alts := [], laidByText := true, laidKinds := [.data, .data, .data, .widerDeep], laidTests := true, laidLooks := .later }
def SignsCountsCardSaid : Prop := Claim7.holds Tryz.pinned (.plain (OpenSpec.ofChange signsCountsSpec)) signsCountsCard

/-- THE TIED CARD OF 'treemergelaw40.SignsDiffs'. -/
def signsDiffsCard : Claim7 := { stood := { row := signsDiffsRow, standIns := [], harness := (true, "fc50236e3f80582a16819b8118e9d5edfe75778989222534500d81c1ba207a66"), looks := false }, kinds := [], alts := [], laidByText := true, laidKinds := [.data, .data, .data, .widerDeep], laidTests := true, laidLooks := .later }
def SignsDiffsCardSaid : Prop := Claim7.holds Tryz.pinned (.plain (OpenSpec.ofChange signsDiffsSpec)) signsDiffsCard

/-- THE TIED CARD OF 'treemergelaw40.SignsChanges'. -/
def signsChangesCard : Claim7 := { stood := { row := signsChangesRow, standIns := [], harness := (true, "fc50236e3f80582a16819b8118e9d5edfe75778989222534500d81c1ba207a66"), looks := false }, kinds := [], alts := [], laidByText := true, laidKinds := [.data, .data, .data, .widerDeep], laidTests := true, laidLooks := .later }
def SignsChangesCardSaid : Prop := Claim7.holds Tryz.pinned (.plain (OpenSpec.ofChange signsChangesSpec)) signsChangesCard

/-- THE TIED CARD OF 'treemergelaw40.SignsFind'. -/
def signsFindCard : Claim7 := { stood := { row := signsFindRow, standIns := [], harness := (true, "fc50236e3f80582a16819b8118e9d5edfe75778989222534500d81c1ba207a66"), looks := false }, kinds := [], alts := [], laidByText := true, laidKinds := [.data, .data, .data, .widerDeep], laidTests := true, laidLooks := .later }
def SignsFindCardSaid : Prop := Claim7.holds Tryz.pinned (.plain (OpenSpec.ofChange signsFindSpec)) signsFindCard

/-- THE SECOND FORM's CARD OF 'treemergelaw40.SignsMismatches'. -/
def signsMismatchesUptoCard : Claim7 := { stood := { row := signsMismatchesUptoRow, standIns := [], harness := (true, "fc50236e3f80582a16819b8118e9d5edfe75778989222534500d81c1ba207a66"), looks := false }, kinds := [], alts := [], laidByText := true, laidKinds := [.data, .data, .data, .widerDeep], laidTests := true, laidLooks := .later }
def SignsMismatchesUptoCardSaid : Prop := Claim7.holds Tryz.pinned (.plain (OpenSpec.upto signsMismatchesSpec)) signsMismatchesUptoCard

/-- THE SECOND FORM's CARD OF 'treemergelaw40.SignsCounts'. -/
def signsCountsUptoCard : Claim7 := { stood := { row := signsCountsUptoRow, standIns := [], harness := (true, "fc50236e3f80582a16819b8118e9d5edfe75778989222534500d81c1ba207a66"), looks := false }, kinds := [], alts := [], laidByText := true, laidKinds := [.data, .data, .data, .widerDeep], laidTests := true, laidLooks := .later }
def SignsCountsUptoCardSaid : Prop := Claim7.holds Tryz.pinned (.plain (OpenSpec.upto signsCountsSpec)) signsCountsUptoCard

/-- THE SECOND FORM's CARD OF 'treemergelaw40.SignsDiffs'. -/
def signsDiffsUptoCard : Claim7 := { stood := { row := signsDiffsUptoRow, standIns := [], harness := (true, "fc50236e3f80582a16819b8118e9d5edfe75778989222534500d81c1ba207a66"), looks := false }, kinds := [], alts := [], laidByText := true, laidKinds := [.data, .data, .data, .widerDeep], laidTests := true, laidLooks := .later }
def SignsDiffsUptoCardSaid : Prop := Claim7.holds Tryz.pinned (.plain (OpenSpec.upto signsDiffsSpec)) signsDiffsUptoCard

/-- THE SECOND FORM's CARD OF 'treemergelaw40.SignsChanges'. -/
def signsChangesUptoCard : Claim7 := { stood := { row := signsChangesUptoRow, standIns := [], harness := (true, "fc50236e3f80582a16819b8118e9d5edfe75778989222534500d81c1ba207a66"), looks := false }, kinds := [], alts := [], laidByText := true, laidKinds := [.data, .data, .data, .widerDeep], laidTests := true, laidLooks := .later }
def SignsChangesUptoCardSaid : Prop := Claim7.holds Tryz.pinned (.plain (OpenSpec.upto signsChangesSpec)) signsChangesUptoCard

/-- THE SECOND FORM's CARD OF 'treemergelaw40.SignsFind'. -/
def signsFindUptoCard : Claim7 := { stood := { row := signsFindUptoRow, standIns := [], harness := (true, "fc50236e3f80582a16819b8118e9d5edfe75778989222534500d81c1ba207a66"), looks := false }, kinds := [], alts := [], laidByText := true, laidKinds := [.data, .data, .data, .widerDeep], laidTests := true, laidLooks := .later }
def SignsFindUptoCardSaid : Prop := Claim7.holds Tryz.pinned (.plain (OpenSpec.upto signsFindSpec)) signsFindUptoCard
end Rows
end Go.Proofs.YtamednbojpnalaaGreatDoor
