/- The seat's closed facts, by the kernel, each by itself. -/
import Derived.Test.YtnlgaipnpebajaaGreatDoorRy
set_option linter.unusedVariables false
set_option linter.unusedSimpArgs false
set_option maxRecDepth 100000
namespace Go.Proofs.YtnlgaipnpebajaaGreatDoor
open Go
theorem jMaps : mapsRowed Tryz.prog = true := by kernel_rfl
theorem jPlain : (Rows.commitRoundTripsRow.plainKeys == Tryz.prog.plainKeys) = true := by kernel_rfl
theorem jHeard : Tryz.prog.stopsHeard = true := by kernel_rfl
theorem jEnter : Tryz.prog.mayEnter = true := by kernel_rfl
theorem jLifted : (Rows.commitRoundTripsRow.lifted == Tryz.prog.liftsFinal) = true := by kernel_rfl
theorem cMain : Tryz.pinned.checked.prog.mainIs = some (true, "3109cdbfce8f6f642e2a72b5d9e98c615a64eb329b41a86149270f7ca4794d0c".toList) := by kernel_rfl
theorem cLooks : true = Tryz.prog.looks [] := by kernel_rfl
end Go.Proofs.YtnlgaipnpebajaaGreatDoor
