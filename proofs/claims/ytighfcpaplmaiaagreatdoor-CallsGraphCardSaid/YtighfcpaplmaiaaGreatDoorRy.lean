import Derived.Test.YtighfcpaplmaiaaGreatDoorUgG
import Derived.Test.YtighfcpaplmaiaaGreatDoorTie
import Derived.Test.YtighfcpaplmaiaaGreatDoorCards
import Derived.ProofKit
import Derived.OpenShut
import Derived.LaidMore
import Derived.Lay
import Derived.MakeChecks
import Derived.SevenTiedAt
import Derived.Stop.Joined
set_option linter.unusedVariables false
set_option linter.unusedSimpArgs false
set_option maxRecDepth 100000
namespace Go.Proofs.YtighfcpaplmaiaaGreatDoor
open Go.ChangeShapes Go.WideShapes Go.ChangeAt Go.RowKit Go.Vg
theorem own:ownKnob Tryz.prog.godebug=none:=by kernel_rfl
theorem c0A:laidOutB Tryz.prog=true:=by kernel_rfl
def b3e:List (String×DataW Unit):=Rows.callsReachRow.laid
theorem c0L{W:World}(_:laidMetH Tryz.prog b3e W)(_:W.ShapedOpen Tryz.prog):iniW W:=trivial
theorem b8s{W:World}(h:laidMetH Tryz.prog b3e W):∀ g cs,env.gl g=some cs→b0Y cs=true∧RV env.P (b1O W) [] (.fptr cs) (.pointer (some ⟨g,0,none⟩)):=by
 rw[MakeChecks.laidMetH_plain _ _ _ (by kernel_rfl)]at h
 have h3:b3e[0]? = some ("treemerge/grammar.shapes",Rows.laid_treemerge_grammar_shapes):=by kernel_rfl
 exact c6c (Lib.laidMet.reads h (h0j h3))
end Go.Proofs.YtighfcpaplmaiaaGreatDoor
