/- The seat's closed facts, by the kernel, each by itself. -/
import Derived.Test.YtellnbgljmocgaaGreatDoorRy
set_option linter.unusedVariables false
set_option linter.unusedSimpArgs false
set_option maxRecDepth 100000
namespace Go.Proofs.YtellnbgljmocgaaGreatDoor
open Go
theorem jMaps : mapsRowed Tryz.prog = true := by kernel_rfl
theorem jPlain : (Rows.commitDecodesRow.plainKeys == Tryz.prog.plainKeys) = true := by kernel_rfl
theorem jHeard : Tryz.prog.stopsHeard = true := by kernel_rfl
theorem jEnter : Tryz.prog.mayEnter = true := by kernel_rfl
theorem jLifted : (Rows.commitDecodesRow.lifted == Tryz.prog.liftsFinal) = true := by kernel_rfl
theorem cMain : Tryz.pinned.checked.prog.mainIs = some (true, "35de8ef50cd074a559418c96f34e7112b2afcf8243c981851f21692faa1aa61b".toList) := by kernel_rfl
theorem cLooks : true = Tryz.prog.looks [] := by kernel_rfl
end Go.Proofs.YtellnbgljmocgaaGreatDoor
