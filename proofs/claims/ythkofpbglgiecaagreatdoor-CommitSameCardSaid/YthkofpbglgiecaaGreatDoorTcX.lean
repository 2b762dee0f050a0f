/- The closed facts of the row of 'treemergelaw51.CommitSame', by the kernel, the long ones each by itself. -/
import Derived.Test.YthkofpbglgiecaaGreatDoorTcY
set_option linter.unusedVariables false
set_option linter.unusedSimpArgs false
set_option maxRecDepth 100000
namespace Go.Proofs.YthkofpbglgiecaaGreatDoor
open Go
theorem jMaps : mapsRowed Tryz.prog = true := by kernel_rfl
theorem jInPlace : (Rows.commitSameRow.inPlace == Tryz.prog.inPlace 3) = true := by kernel_rfl
theorem jUnfollowed : (Rows.commitSameRow.unfollowed == Tryz.prog.unfollowed 3) = true := by kernel_rfl
theorem jRecurses : (Rows.commitSameRow.recurses == Tryz.prog.recurses 3) = true := by kernel_rfl
theorem jNamed : (Rows.commitSameRow.named == Tryz.prog.varsNamed 3) = true := by kernel_rfl
theorem jPlain : (Rows.commitSameRow.plainKeys == Tryz.prog.plainKeys) = true := by kernel_rfl
theorem jHeard : Tryz.prog.stopsHeard = true := by kernel_rfl
theorem jEnter : Tryz.prog.mayEnter = true := by kernel_rfl
theorem jLifted : (Rows.commitSameRow.lifted == Tryz.prog.liftsFinal) = true := by kernel_rfl
theorem jFacts : joinedFacts Tryz.pinned.checked.prog 3 Tryz.f3 Rows.commitSameSpec Rows.commitSameRow = true := by
  rw [joinedFacts]
  simp only [Bool.and_eq_true]
  refine ⟨⟨⟨⟨⟨⟨⟨⟨⟨⟨⟨⟨⟨⟨⟨⟨⟨⟨⟨⟨⟨⟨⟨⟨⟨⟨⟨⟨⟨⟨⟨?_, laidOut⟩, jMaps⟩, ?_⟩, ?_⟩, ?_⟩, ?_⟩, ?_⟩, ?_⟩, jInPlace⟩, jUnfollowed⟩, jRecurses⟩, jNamed⟩, ?_⟩, ?_⟩, ?_⟩, ?_⟩, ?_⟩, ?_⟩, ?_⟩, ?_⟩, ?_⟩, jPlain⟩, ?_⟩, jHeard⟩, jEnter⟩, jLifted⟩, ?_⟩, ?_⟩, ?_⟩, ?_⟩, ?_⟩
  all_goals kernel_rfl
end Go.Proofs.YthkofpbglgiecaaGreatDoor
