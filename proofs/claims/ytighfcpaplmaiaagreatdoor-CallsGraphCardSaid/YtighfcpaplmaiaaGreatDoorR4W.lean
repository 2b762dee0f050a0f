import Derived.Test.YtighfcpaplmaiaaGreatDoorR4Z
import Derived.SevenTiedAt
set_option linter.unusedVariables false
set_option linter.unusedSimpArgs false
set_option maxRecDepth 100000
namespace Go.Proofs.YtighfcpaplmaiaaGreatDoor.law4
open Go
theorem f5v:Tryz.prog.wantsStandIn 22=false:=by kernel_rfl
theorem card:Rows.CallsGraphCardSaid :=
 Claim7.holds_tied_plain_at .later [] [.widerDeep] true (true, "49c625f5070b1711fed5ef9969f95fdf0c136d8bcca94c7f9ef14686027c7aeb") false
  row (fun _ h=>by cases h) cWf (fun _ h=>by cases h) callsGraph_row_tie rfl ⟨rfl,rfl⟩ f6T rfl
  (fun f fn hf hfn=>by
   obtain rfl:f=4:=Option.some.inj (d1r.symm.trans hf) |>.symm
   obtain rfl:fn=Tryz.f4:=(Option.some.inj (Tryz.func4.symm.trans hfn)).symm
   exact⟨d7Y,fun j t ht=>by
    rw[Tryz.params4]at ht
    have h3:t=22:=by
     rcases j with _ | j
     ·simpa using ht.symm
     ·simp at ht
    subst h3
    exact f5v⟩)
  d9u
end Go.Proofs.YtighfcpaplmaiaaGreatDoor.law4
