/- The card of 'CommitDecodes': the law's function returns true for every input, and what it is given reads as before. Conditions: those of the given card alone. -/
import Derived.Test.YtellnbgljmocgaaGreatDoorR0Z
import Derived.SevenTiedAt
set_option linter.unusedVariables false
set_option linter.unusedSimpArgs false
set_option maxRecDepth 100000
namespace Go.Proofs.YtellnbgljmocgaaGreatDoor.law0
open Go
theorem cWants : Tryz.prog.wantsStandIn 9 = false := by kernel_rfl
theorem card : Rows.CommitDecodesCardSaid :=
  Claim7.holds_tied_plain_at .later [] [.data, .data, .data, .data, .sentinel, .sentinel, .widerDeep, .pinned] true (true, "35de8ef50cd074a559418c96f34e7112b2afcf8243c981851f21692faa1aa61b") true
    row (fun _ h => by cases h) cWf (fun _ h => by cases h) commitDecodes_row_tie rfl ⟨rfl, rfl⟩ cMain rfl
    (fun f fn hf hfn => by
      obtain rfl : f = 3 := Option.some.inj (cNamed.symm.trans hf) |>.symm
      obtain rfl : fn = Tryz.f3 := (Option.some.inj (Tryz.func3.symm.trans hfn)).symm
      exact ⟨cLooks, fun j t ht => by
        rw [Tryz.params3] at ht
        have h3 : t = 9 := by
          rcases j with _ | j
          · simpa using ht.symm
          · simp at ht
        subst h3
        exact cWants⟩)
    cGoes
end Go.Proofs.YtellnbgljmocgaaGreatDoor.law0
