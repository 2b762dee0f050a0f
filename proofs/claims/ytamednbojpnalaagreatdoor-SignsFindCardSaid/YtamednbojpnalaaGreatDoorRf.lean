/- The seat's closed facts, by the kernel, each by itself. -/
import Derived.Test.YtamednbojpnalaaGreatDoorRy
set_option linter.unusedVariables false
set_option linter.unusedSimpArgs false
set_option maxRecDepth 100000
namespace Go.Proofs.YtamednbojpnalaaGreatDoor
open Go
theorem jMaps:mapsRowed Tryz.prog=true:=by kernel_rfl
theorem jPlain:(Rows.signsFindRow.plainKeys == Tryz.prog.plainKeys)=true:=by kernel_rfl
theorem jHeard:Tryz.prog.stopsHeard=true:=by kernel_rfl
theorem jEnter:Tryz.prog.mayEnter=true:=by kernel_rfl
theorem jLifted:(Rows.signsFindRow.lifted == Tryz.prog.liftsFinal)=true:=by kernel_rfl
theorem cMain:Tryz.pinned.checked.prog.mainIs=some (true, "fc50236e3f80582a16819b8118e9d5edfe75778989222534500d81c1ba207a66".toList):=by kernel_rfl
theorem cLooks:false=Tryz.prog.looks []:=by kernel_rfl
end Go.Proofs.YtamednbojpnalaaGreatDoor
