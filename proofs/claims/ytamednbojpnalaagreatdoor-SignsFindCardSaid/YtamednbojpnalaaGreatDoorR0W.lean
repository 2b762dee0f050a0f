/- The card of 'SignsFind': the law's function returns true for every input, and what it is given reads as before. Conditions: those of the given card alone. -/
import Derived.Test.YtamednbojpnalaaGreatDoorR0Z
import Derived.SevenTiedAt
set_option linter.unusedVariables false
set_option linter.unusedSimpArgs false
set_option maxRecDepth 100000
namespace Go.Proofs.YtamednbojpnalaaGreatDoor.law0
open Go
theorem cWants:Tryz.prog.wantsStandIn 22=false:=by kernel_rfl
theorem card:Rows.SignsFindCardSaid :=
 Claim7.holds_tied_plain_at .later [] [.data,.data,.data,.widerDeep] true (true, "fc50236e3f80582a16819b8118e9d5edfe75778989222534500d81c1ba207a66") false
  row (fun _ h=>by cases h) cWf (fun _ h=>by cases h) signsFind_row_tie rfl ⟨rfl,rfl⟩ cMain rfl
  (fun f fn hf hfn=>by
   obtain rfl:f=7:=Option.some.inj (cNamed.symm.trans hf) |>.symm
   obtain rfl:fn=Tryz.f7:=(Option.some.inj (Tryz.func7.symm.trans hfn)).symm
   exact⟨cLooks,fun j t ht=>by
    rw[Tryz.params7]at ht
    have h3:t=22:=by
     rcases j with _ | j
     ·simpa using ht.symm
     ·simp at ht
    subst h3
    exact cWants⟩)
  cGoes
end Go.Proofs.YtamednbojpnalaaGreatDoor.law0
