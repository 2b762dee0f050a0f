import Derived.Test.YtighfcpaplmaiaaGreatDoorR3Z
import Derived.SevenTiedAt
set_option linter.unusedVariables false
set_option linter.unusedSimpArgs false
set_option maxRecDepth 100000
namespace Go.Proofs.YtighfcpaplmaiaaGreatDoor.law3
open Go
theorem d8t:Tryz.prog.wantsStandIn 22=false:=by kernel_rfl
theorem d8R:Tryz.prog.wantsStandIn 24=false:=by kernel_rfl
theorem card:Rows.CallsTargetsCardSaid :=
 Claim7.holds_tied_plain_at .later [] [.widerDeep] true (true, "49c625f5070b1711fed5ef9969f95fdf0c136d8bcca94c7f9ef14686027c7aeb") false
  row (fun _ h=>by cases h) cWf (fun _ h=>by cases h) callsTargets_row_tie rfl ⟨rfl,rfl⟩ f9h rfl
  (fun f fn hf hfn=>by
   obtain rfl:f=3:=Option.some.inj (f2V.symm.trans hf) |>.symm
   obtain rfl:fn=Tryz.f3:=(Option.some.inj (Tryz.func3.symm.trans hfn)).symm
   exact⟨f4b,fun j t ht=>by
    rw[Tryz.params3]at ht
    rcases j with _ | _ | j
    ·obtain rfl:t=22:=by simpa using ht.symm
     exact d8t
    ·obtain rfl:t=24:=by simpa using ht.symm
     exact d8R
    ·simp at ht⟩)
  g2M
end Go.Proofs.YtighfcpaplmaiaaGreatDoor.law3
