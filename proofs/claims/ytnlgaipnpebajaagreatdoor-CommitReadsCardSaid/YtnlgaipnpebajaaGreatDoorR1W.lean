/- The card of 'CommitReads': the law's function returns true for every input, and what it is given reads as before. Conditions: those of the given card alone. -/
import Derived.Test.YtnlgaipnpebajaaGreatDoorR1Z
import Derived.SevenTiedAt
set_option linter.unusedVariables false
set_option linter.unusedSimpArgs false
set_option maxRecDepth 100000
namespace Go.Proofs.YtnlgaipnpebajaaGreatDoor.law1
open Go
theorem cWants0 : Tryz.prog.wantsStandIn 9 = false := by kernel_rfl
theorem cWants1 : Tryz.prog.wantsStandIn 3 = false := by kernel_rfl
theorem card : Rows.CommitReadsCardSaid :=
  Claim7.holds_tied_plain_at .later [] [.data, .data, .data, .data, .sentinel, .sentinel, .widerDeep, .pinned] true (true, "3109cdbfce8f6f642e2a72b5d9e98c615a64eb329b41a86149270f7ca4794d0c") true
    row (fun _ h => by cases h) cWf (fun _ h => by cases h) commitReads_row_tie rfl ⟨rfl, rfl⟩ cMain rfl
    (fun f fn hf hfn => by
      obtain rfl : f = 4 := Option.some.inj (cNamed.symm.trans hf) |>.symm
      obtain rfl : fn = Tryz.f4 := (Option.some.inj (Tryz.func4.symm.trans hfn)).symm
      exact ⟨cLooks, fun j t ht => by
        rw [Tryz.params4] at ht
        rcases j with _ | _ | j
        · obtain rfl : t = 9 := by simpa using ht.symm
          exact cWants0
        · obtain rfl : t = 3 := by simpa using ht.symm
          exact cWants1
        · simp at ht⟩)
    cGoes
end Go.Proofs.YtnlgaipnpebajaaGreatDoor.law1
