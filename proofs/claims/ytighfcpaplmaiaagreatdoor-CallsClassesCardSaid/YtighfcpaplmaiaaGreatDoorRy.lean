/- What the variables hold that the rows list. -/
import Derived.Test.YtighfcpaplmaiaaGreatDoorUeQ
import Derived.Test.YtighfcpaplmaiaaGreatDoorTie
import Derived.Test.YtighfcpaplmaiaaGreatDoorCards
import Derived.ProofKit
import Derived.OpenShut
import Derived.LaidMore
import Derived.Lay
import Derived.MakeChecks
import Derived.SevenTiedAt
import Derived.Stop.Joined
set_option linter.unusedVariables false
set_option linter.unusedSimpArgs false
set_option maxRecDepth 100000
namespace Go.Proofs.YtighfcpaplmaiaaGreatDoor
open Go.ChangeShapes Go.WideShapes Go.ChangeAt Go.RowKit Go.Vg
theorem own:ownKnob Tryz.prog.godebug=none:=by kernel_rfl
theorem laidOut:laidOutB Tryz.prog=true:=by kernel_rfl
def theLaid:List (String×DataW Unit):=Rows.callsReachRow.laid
theorem ini_of_laid{W:World}(_:laidMetH Tryz.prog theLaid W)(_:W.ShapedOpen Tryz.prog):iniW W:=trivial
theorem glob_of_laid{W:World}(h:laidMetH Tryz.prog theLaid W):∀ g cs,env.gl g=some cs→pureL cs=true∧RV env.P (startG W) [] (.fptr cs) (.pointer (some ⟨g,0,none⟩)):=by
 rw[MakeChecks.laidMetH_plain _ _ _ (by kernel_rfl)]at h
 have h3:theLaid[0]? = some ("treemerge/grammar.shapes",Rows.laid_treemerge_grammar_shapes):=by kernel_rfl
 exact glob_shapes (Lib.laidMet.reads h (List.mem_of_getElem? h3))
end Go.Proofs.YtighfcpaplmaiaaGreatDoor
