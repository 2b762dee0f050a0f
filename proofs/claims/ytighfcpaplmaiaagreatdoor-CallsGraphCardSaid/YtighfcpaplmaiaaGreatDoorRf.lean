import Derived.Test.YtighfcpaplmaiaaGreatDoorRy
set_option linter.unusedVariables false
set_option linter.unusedSimpArgs false
set_option maxRecDepth 100000
namespace Go.Proofs.YtighfcpaplmaiaaGreatDoor
open Go
theorem f5s:mapsRowed Tryz.prog=true:=by kernel_rfl
theorem d7R:(Rows.callsReachRow.plainKeys == Tryz.prog.plainKeys)=true:=by kernel_rfl
theorem d7F:Tryz.prog.stopsHeard=true:=by kernel_rfl
theorem d7t:Tryz.prog.mayEnter=true:=by kernel_rfl
theorem d2Y:(Rows.callsReachRow.lifted == Tryz.prog.liftsFinal)=true:=by kernel_rfl
theorem f6T:Tryz.pinned.checked.prog.mainIs=some (true, "49c625f5070b1711fed5ef9969f95fdf0c136d8bcca94c7f9ef14686027c7aeb".toList):=by kernel_rfl
theorem d7Y:false=Tryz.prog.looks []:=by kernel_rfl
end Go.Proofs.YtighfcpaplmaiaaGreatDoor
