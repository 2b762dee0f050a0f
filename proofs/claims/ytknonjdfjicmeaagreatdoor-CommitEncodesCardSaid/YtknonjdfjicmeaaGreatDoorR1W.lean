/- The card of 'CommitEncodes': the law's function returns true for every input, and what it is given reads as before. Conditions: those of the given card alone. -/
import Derived.Test.YtknonjdfjicmeaaGreatDoorR1Z
import Derived.SevenTiedAt
set_option linter.unusedVariables false
set_option linter.unusedSimpArgs false
set_option maxRecDepth 100000
namespace Go.Proofs.YtknonjdfjicmeaaGreatDoor.law1
open Go
theorem cWants : Tryz.prog.wantsStandIn 26 = false := by kernel_rfl
theorem card : Rows.CommitEncodesCardSaid :=
  Claim7.holds_tied_plain_at .later [] [.data, .data, .data, .data, .sentinel, .sentinel, .widerDeep, .pinned] true (true, "973d6f0e3554b0d26a01bc8e0e82bf9af7d64858cd8feb9c303553d3b4f69e8e") true
    row (fun _ h => by cases h) cWf (fun _ h => by cases h) commitEncodes_row_tie rfl ⟨rfl, rfl⟩ cMain rfl
    (fun f fn hf hfn => by
      obtain rfl : f = 4 := Option.some.inj (cNamed.symm.trans hf) |>.symm
      obtain rfl : fn = Tryz.f4 := (Option.some.inj (Tryz.func4.symm.trans hfn)).symm
      exact ⟨cLooks, fun j t ht => by
        rw [Tryz.params4] at ht
        have h3 : t = 26 := by
          rcases j with _ | j
          · simpa using ht.symm
          · simp at ht
        subst h3
        exact cWants⟩)
    cGoes
end Go.Proofs.YtknonjdfjicmeaaGreatDoor.law1
