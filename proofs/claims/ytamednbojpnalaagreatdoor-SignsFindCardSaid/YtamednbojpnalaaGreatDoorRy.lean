/- What the variables hold that the rows list. -/
import Derived.Test.YtamednbojpnalaaGreatDoorToY
import Derived.Test.YtamednbojpnalaaGreatDoorTie
import Derived.Test.YtamednbojpnalaaGreatDoorCards
import Derived.ProofKit
import Derived.OpenShut
import Derived.LaidMore
import Derived.Lay
import Derived.MakeChecks
import Derived.SevenTiedAt
import Derived.Stop.Joined
set_option linter.unusedVariables false
set_option linter.unusedSimpArgs false
set_option maxRecDepth 100000
namespace Go.Proofs.YtamednbojpnalaaGreatDoor
open Go.ChangeShapes Go.WideShapes Go.ChangeAt Go.RowKit Go.Vg
theorem own:ownKnob Tryz.prog.godebug=none:=by kernel_rfl
theorem laidOut:laidOutB Tryz.prog=true:=by kernel_rfl
def theLaid:List (String×DataW Unit):=Rows.signsFindRow.laid
theorem ini_of_laid{W:World}(h:laidMetH Tryz.prog theLaid W)(hs:W.ShapedOpen Tryz.prog):iniW W:=by
 rw[MakeChecks.laidMetH_plain _ _ _ (by kernel_rfl)]at h
 have h3:theLaid[2]? = some ("internal/strconv.uint64pow10",Lib.tabData .u64 Lib.pow10Tab):=by kernel_rfl
 have r3:=Lib.laidMet.reads h (List.mem_of_getElem? h3)
 exact⟨tab_of_reads (g:=1) (t:=253) (e:=215) (n:=20) (by kernel_rfl) (by kernel_rfl) (by kernel_rfl) (by kernel_rfl) (by kernel_rfl) (by kernel_rfl) r3,
  int_of_shaped (g:=2) (t:=3) (zero := #[.int .i64 0]) (by kernel_rfl) hs (by decide +kernel) (by kernel_rfl) rfl (by kernel_rfl) (by kernel_rfl) (by kernel_rfl)⟩
theorem glob_of_laid{W:World}(h:laidMetH Tryz.prog theLaid W):∀ g cs,env.gl g=some cs→pureL cs=true∧RV env.P (startG W) [] (.fptr cs) (.pointer (some ⟨g,0,none⟩)):=by
 rw[MakeChecks.laidMetH_plain _ _ _ (by kernel_rfl)]at h
 have h3:theLaid[3]? = some ("treemerge/grammar.shapes",Rows.laid_treemerge_grammar_shapes):=by kernel_rfl
 exact glob_shapes (Lib.laidMet.reads h (List.mem_of_getElem? h3))
end Go.Proofs.YtamednbojpnalaaGreatDoor
