/- The laws 'CommitChecks' and 'CommitEncodes'. -/
import Derived.Test.YtknonjdfjicmeaaGreatDoorTrD
import Derived.Test.YtknonjdfjicmeaaGreatDoorTcM
set_option linter.unusedVariables false
set_option linter.unusedSimpArgs false
set_option maxRecDepth 20000
namespace Go.Proofs.YtknonjdfjicmeaaGreatDoor
open Go Go.Vg Go.Proofs
theorem CommitChecksV (c : Cm) (hr : c.rng) : VPure env 3 [.agg c.enc] (.bool true) := by
  refine vpure_vc (fn := Tryz.f3) Tryz.func3 rfl (by rw [Tryz.ntmps3]; simp) (by simp -implicitDefEqProofs only [go_sem]) rfl ?_
  simp -implicitDefEqProofs only [go_sem, Tryz.f3]
  refine (Small c).calls (by simp -implicitDefEqProofs only [go_sem]) ?_
  cases hs : smallB c with
  | false =>
    simp -implicitDefEqProofs only [go_sem]
    refine awake.calls rfl ?_
    simp -implicitDefEqProofs only [go_sem]
  | true =>
    have ok := small_ok hs hr
    simp -implicitDefEqProofs only [go_sem]
    refine snd_draw (cs := []) mixed (by kernel_rfl) ?_
    simp -implicitDefEqProofs only [go_sem]
    refine vPC_of (Ccheck c ok) (by simp -implicitDefEqProofs only [go_sem]) ?_
    simp -implicitDefEqProofs only [go_sem]
    refine vPC_of (R51Check c ok) (by simp -implicitDefEqProofs only [go_sem]) ?_
    simp -implicitDefEqProofs only [go_sem]
    refine vPC_of awake rfl ?_
    simp -implicitDefEqProofs only [go_sem]
theorem CommitEncodesV (c : Cm) (hr : c.rng) : VPure env 4 [.agg c.enc] (.bool true) := by
  refine vpure_vc (fn := Tryz.f4) Tryz.func4 rfl (by rw [Tryz.ntmps4]; simp) (by simp -implicitDefEqProofs only [go_sem]) rfl ?_
  simp -implicitDefEqProofs only [go_sem, Tryz.f4]
  refine (Small c).calls (by simp -implicitDefEqProofs only [go_sem]) ?_
  cases hs : smallB c with
  | false =>
    simp -implicitDefEqProofs only [go_sem]
    refine awake.calls rfl ?_
    simp -implicitDefEqProofs only [go_sem]
  | true =>
    have ok := small_ok hs hr
    simp -implicitDefEqProofs only [go_sem]
    refine (Cencode c ok).calls (by simp -implicitDefEqProofs only [go_sem]) ?_
    simp -implicitDefEqProofs only [go_sem, encodeV]
    refine (R51Encode c ok).calls (by simp -implicitDefEqProofs only [go_sem]) ?_
    simp -implicitDefEqProofs only [go_sem, encodeV]
    refine snd_draw (cs := []) mixed (by kernel_rfl) ?_
    simp -implicitDefEqProofs only [go_sem]
    refine vPC_of (Cdigest c ok) (by simp -implicitDefEqProofs only [go_sem]) ?_
    simp -implicitDefEqProofs only [go_sem]
    refine vPC_of (R51Digest c ok) (by simp -implicitDefEqProofs only [go_sem]) ?_
    simp -implicitDefEqProofs only [go_sem, digestV]
    refine vPC_of awake rfl ?_
    simp -implicitDefEqProofs only [go_sem]
end Go.Proofs.YtknonjdfjicmeaaGreatDoor
