import Derived.Test.YtighfcpaplmaiaaGreatDoorRf
set_option linter.unusedVariables false
set_option linter.unusedSimpArgs false
set_option maxRecDepth 100000
namespace Go.Proofs.YtighfcpaplmaiaaGreatDoor.law3
open Go
theorem d5a:(Rows.callsTargetsRow.inPlace == Tryz.prog.inPlace 3)=true:=by kernel_rfl
theorem c4S:(Rows.callsTargetsRow.unfollowed == Tryz.prog.unfollowed 3)=true:=by kernel_rfl
theorem d0a:(Rows.callsTargetsRow.recurses == Tryz.prog.recurses 3)=true:=by kernel_rfl
theorem f5Y:(Rows.callsTargetsRow.named == Tryz.prog.varsNamed 3)=true:=by kernel_rfl
theorem f3X:joinedFacts Tryz.pinned.checked.prog 3 Tryz.f3 Rows.callsTargetsSpec Rows.callsTargetsRow=true:=by
 rw[joinedFacts]
 simp only[g9g]
 refine⟨⟨⟨⟨⟨⟨⟨⟨⟨⟨⟨⟨⟨⟨⟨⟨⟨⟨⟨⟨⟨⟨⟨⟨⟨⟨⟨⟨⟨⟨⟨?_,c5W⟩,f9D⟩,?_⟩,?_⟩,?_⟩,?_⟩,?_⟩,?_⟩,d5a⟩,c4S⟩,d0a⟩,f5Y⟩,?_⟩,?_⟩,?_⟩,?_⟩,?_⟩,?_⟩,?_⟩,?_⟩,?_⟩,f4i⟩,?_⟩,f3V⟩,f4O⟩,d9I⟩,?_⟩,?_⟩,?_⟩,?_⟩,?_⟩
 all_goals kernel_rfl
theorem cWf:Rows.callsTargetsRow.wfByText (OpenSpec.ofChange Rows.callsTargetsSpec)=true:=by kernel_rfl
theorem d0R{P:Program}(h:P.funcs.toList.any Func.goes=false)(s:String):false=P.goesAt .entering s:=by
 have hf:∀ g:FuncId,(P.funcs[g]?).any Func.goes=false:=by
  intro g
  cases hg:P.funcs[g]? with
  | none=>rfl
  | some fn =>
   have hm:fn∈P.funcs.toList:=Array.mem_toList_iff.2 (Array.mem_of_getElem? hg)
   have:=List.any_eq_false.1 h fn hm
   simpa using this
 have hg:∀ f,P.goes f=false:=by
  intro f
  unfold Program.goes
  rw[h0w]
  constructor
  ·rw[Bool.eq_false_iff]
   intro ha
   simp only[hf]at ha
   simp at ha
  ·rw[Bool.and_eq_false_iff]
   right
   rw[←Array.any_toList]
   exact h
 unfold Program.goesAt Program.goesFrom
 cases P.funcNamed s with
 | none=>rfl
 | some f=>simp[hg]
theorem quiet:Tryz.prog.funcs.toList.any Func.goes=false:=by kernel_rfl
theorem g2M:false=Rows.callsTargetsRow.goesBy Tryz.prog:=d0R quiet _
theorem f2V:Tryz.prog.funcNamed "treemerge/treemergelaw15.CallsTargets" = some 3:=by kernel_rfl
end Go.Proofs.YtighfcpaplmaiaaGreatDoor.law3
