/- The seat's closed facts, by the kernel, each by itself. -/
import Derived.Test.YtknonjdfjicmeaaGreatDoorRy
set_option linter.unusedVariables false
set_option linter.unusedSimpArgs false
set_option maxRecDepth 100000
namespace Go.Proofs.YtknonjdfjicmeaaGreatDoor
open Go
theorem jMaps : mapsRowed Tryz.prog = true := by kernel_rfl
theorem jPlain : (Rows.commitChecksRow.plainKeys == Tryz.prog.plainKeys) = true := by kernel_rfl
theorem jHeard : Tryz.prog.stopsHeard = true := by kernel_rfl
theorem jEnter : Tryz.prog.mayEnter = true := by kernel_rfl
theorem jLifted : (Rows.commitChecksRow.lifted == Tryz.prog.liftsFinal) = true := by kernel_rfl
theorem cMain : Tryz.pinned.checked.prog.mainIs = some (true, "973d6f0e3554b0d26a01bc8e0e82bf9af7d64858cd8feb9c303553d3b4f69e8e".toList) := by kernel_rfl
theorem cLooks : true = Tryz.prog.looks [] := by kernel_rfl
end Go.Proofs.YtknonjdfjicmeaaGreatDoor
