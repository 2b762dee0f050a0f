/- What the variables hold that the rows list. -/
import Derived.Test.YtellnbgljmocgaaGreatDoorTcY
import Derived.Test.YtellnbgljmocgaaGreatDoorTieX
import Derived.Test.YtellnbgljmocgaaGreatDoorCards
import Derived.ProofKit
import Derived.OpenShut
import Derived.LaidMore
import Derived.Lay
import Derived.MakeChecks
import Derived.SevenTiedAt
import Derived.Stop.Joined
set_option linter.unusedVariables false
set_option linter.unusedSimpArgs false
set_option maxRecDepth 100000
namespace Go.Proofs.YtellnbgljmocgaaGreatDoor
open Go.ChangeShapes Go.WideShapes Go.ChangeAt Go.RowKit Go.Vg
theorem own : ownKnob Tryz.prog.godebug = none := by kernel_rfl
theorem laidOut : laidOutB Tryz.prog = true := by kernel_rfl
theorem tyCm_ok : tyCm.ok Tryz.prog (.inl 27) = true := by kernel_rfl
def theLaid : List (String × DataW Unit) := Rows.commitDecodesRow.laid
theorem ini_of_laid {W : World} (h : laidMetH Tryz.prog theLaid W) (hs : W.ShapedOpen Tryz.prog) : iniW W := by
  rw [MakeChecks.laidMetH_plain _ _ _ (by kernel_rfl)] at h
  have h3 : theLaid[2]? = some ("internal/strconv.uint64pow10", Lib.tabData .u64 Lib.pow10Tab) := by kernel_rfl
  have h5 : theLaid[5]? = some ("strconv.ErrSyntax", Rows.laid_strconv_ErrSyntax) := by kernel_rfl
  have h4 : theLaid[4]? = some ("strconv.ErrRange", Rows.laid_strconv_ErrRange) := by kernel_rfl
  have r3 := Lib.laidMet.reads h (List.mem_of_getElem? h3)
  have r5 := Lib.laidMet.reads h (List.mem_of_getElem? h5)
  have r4 := Lib.laidMet.reads h (List.mem_of_getElem? h4)
  exact ⟨tab_of_reads (g := 0) (t := 202) (e := 38) (n := 20) (by kernel_rfl) (by kernel_rfl) (by kernel_rfl) (by kernel_rfl) (by kernel_rfl) (by kernel_rfl) r3,
    int_of_shaped (g := 3) (t := 3) (zero := #[.int .i64 0]) (by kernel_rfl) hs (by decide +kernel) (by kernel_rfl) rfl (by kernel_rfl) (by kernel_rfl) (by kernel_rfl),
    iface_of_reads (g := 1) (t := 66) (by kernel_rfl) (by kernel_rfl) ⟨_, Tryz.underlying66⟩ r5,
    iface_of_reads (g := 2) (t := 66) (by kernel_rfl) (by kernel_rfl) ⟨_, Tryz.underlying66⟩ r4⟩
end Go.Proofs.YtellnbgljmocgaaGreatDoor
