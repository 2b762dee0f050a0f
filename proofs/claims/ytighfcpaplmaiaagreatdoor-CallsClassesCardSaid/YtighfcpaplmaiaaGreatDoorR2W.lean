/- The card of 'CallsClasses': the law's function returns true for every input, and what it is given reads as before. Conditions: those of the given card alone. -/
import Derived.Test.YtighfcpaplmaiaaGreatDoorR2Z
import Derived.SevenTiedAt
set_option linter.unusedVariables false
set_option linter.unusedSimpArgs false
set_option maxRecDepth 100000
namespace Go.Proofs.YtighfcpaplmaiaaGreatDoor.law2
open Go
theorem cWants0:Tryz.prog.wantsStandIn 22=false:=by kernel_rfl
theorem cWants1:Tryz.prog.wantsStandIn 24=false:=by kernel_rfl
theorem card:Rows.CallsClassesCardSaid :=
 Claim7.holds_tied_plain_at .later [] [.widerDeep] true (true, "49c625f5070b1711fed5ef9969f95fdf0c136d8bcca94c7f9ef14686027c7aeb") false
  row (fun _ h=>by cases h) cWf (fun _ h=>by cases h) callsClasses_row_tie rfl ⟨rfl,rfl⟩ cMain rfl
  (fun f fn hf hfn=>by
   obtain rfl:f=8:=Option.some.inj (cNamed.symm.trans hf) |>.symm
   obtain rfl:fn=Tryz.f8:=(Option.some.inj (Tryz.func8.symm.trans hfn)).symm
   exact⟨cLooks,fun j t ht=>by
    rw[Tryz.params8]at ht
    rcases j with _ | _ | j
    ·obtain rfl:t=22:=by simpa using ht.symm
     exact cWants0
    ·obtain rfl:t=24:=by simpa using ht.symm
     exact cWants1
    ·simp at ht⟩)
  cGoes
end Go.Proofs.YtighfcpaplmaiaaGreatDoor.law2
