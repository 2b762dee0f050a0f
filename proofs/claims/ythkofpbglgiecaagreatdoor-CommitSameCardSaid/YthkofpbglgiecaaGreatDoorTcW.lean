/- The card of 'treemergelaw51.CommitSame': the law's function returns true for every input, and what it is given reads as before. Conditions: those of the given card alone. -/
import Derived.Test.YthkofpbglgiecaaGreatDoorTcZ
import Derived.SevenTiedAt
set_option linter.unusedVariables false
set_option linter.unusedSimpArgs false
set_option maxRecDepth 100000
namespace Go.Proofs.YthkofpbglgiecaaGreatDoor
open Go
theorem cWf : Rows.commitSameRow.wfByText (OpenSpec.ofChange Rows.commitSameSpec) = true := by kernel_rfl
theorem cMain : Tryz.pinned.checked.prog.mainIs = some (true, "209ad36413f4389877146fa018fb09069e8471c46af9540b3f7576760bd76ccb".toList) := by kernel_rfl
theorem cNamed : Tryz.prog.funcNamed "treemerge/treemergelaw51.CommitSame" = some 3 := by kernel_rfl
theorem cLooks : true = Tryz.prog.looks [] := by kernel_rfl
theorem cWants : Tryz.prog.wantsStandIn 26 = false := by kernel_rfl
theorem cGoes : false = Rows.commitSameRow.goesBy Tryz.prog := by kernel_rfl
theorem commitSame_card : Rows.CommitSameCardSaid :=
  Claim7.holds_tied_plain_at .later [] [.data, .data, .data, .data, .sentinel, .sentinel, .widerDeep, .pinned] true (true, "209ad36413f4389877146fa018fb09069e8471c46af9540b3f7576760bd76ccb") true
    commitSame_row (fun _ h => by cases h) cWf (fun _ h => by cases h) commitSame_row_tie rfl ⟨rfl, rfl⟩ cMain rfl
    (fun f fn hf hfn => by
      obtain rfl : f = 3 := Option.some.inj (cNamed.symm.trans hf) |>.symm
      obtain rfl : fn = Tryz.f3 := (Option.some.inj (Tryz.func3.symm.trans hfn)).symm
      exact ⟨cLooks, fun j t ht => by
        rw [Tryz.params3] at ht
        have h3 : t = 26 := by
          rcases j with _ | _ | j
          · simpa using ht.symm
          · simpa using ht.symm
          · simp at ht
        subst h3
        exact cWants⟩)
    cGoes
end Go.Proofs.YthkofpbglgiecaaGreatDoor
