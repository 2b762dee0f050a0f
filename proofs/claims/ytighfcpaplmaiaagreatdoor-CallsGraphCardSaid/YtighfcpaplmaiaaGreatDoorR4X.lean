import Derived.Test.YtighfcpaplmaiaaGreatDoorRf
set_option linter.unusedVariables false
set_option linter.unusedSimpArgs false
set_option maxRecDepth 100000
namespace Go.Proofs.YtighfcpaplmaiaaGreatDoor.law4
open Go
theorem c2G:(Rows.callsGraphRow.inPlace == Tryz.prog.inPlace 4)=true:=by kernel_rfl
theorem b6S:(Rows.callsGraphRow.unfollowed == Tryz.prog.unfollowed 4)=true:=by kernel_rfl
theorem c0I:(Rows.callsGraphRow.recurses == Tryz.prog.recurses 4)=true:=by kernel_rfl
theorem d2S:(Rows.callsGraphRow.named == Tryz.prog.varsNamed 4)=true:=by kernel_rfl
theorem d0Y:joinedFacts Tryz.pinned.checked.prog 4 Tryz.f4 Rows.callsGraphSpec Rows.callsGraphRow=true:=by
 rw[joinedFacts]
 simp only[h0k]
 refine⟨⟨⟨⟨⟨⟨⟨⟨⟨⟨⟨⟨⟨⟨⟨⟨⟨⟨⟨⟨⟨⟨⟨⟨⟨⟨⟨⟨⟨⟨⟨?_,c0A⟩,f5s⟩,?_⟩,?_⟩,?_⟩,?_⟩,?_⟩,?_⟩,c2G⟩,b6S⟩,c0I⟩,d2S⟩,?_⟩,?_⟩,?_⟩,?_⟩,?_⟩,?_⟩,?_⟩,?_⟩,?_⟩,d7R⟩,?_⟩,d7F⟩,d7t⟩,d2Y⟩,?_⟩,?_⟩,?_⟩,?_⟩,?_⟩
 all_goals kernel_rfl
theorem cWf:Rows.callsGraphRow.wfByText (OpenSpec.ofChange Rows.callsGraphSpec)=true:=by kernel_rfl
theorem b9C{P:Program}(h:P.funcs.toList.any Func.goes=false)(s:String):false=P.goesAt .entering s:=by
 have hf:∀ g:FuncId,(P.funcs[g]?).any Func.goes=false:=by
  intro g
  cases hg:P.funcs[g]? with
  | none=>rfl
  | some fn =>
   have hm:fn∈P.funcs.toList:=Array.mem_toList_iff.2 (Array.mem_of_getElem? hg)
   have:=List.any_eq_false.1 h fn hm
   simpa using this
 have hg:∀ f,P.goes f=false:=by
  intro f
  unfold Program.goes
  rw[h1B]
  constructor
  ·rw[Bool.eq_false_iff]
   intro ha
   simp only[hf]at ha
   simp at ha
  ·rw[Bool.and_eq_false_iff]
   right
   rw[←Array.any_toList]
   exact h
 unfold Program.goesAt Program.goesFrom
 cases P.funcNamed s with
 | none=>rfl
 | some f=>simp[hg]
theorem quiet:Tryz.prog.funcs.toList.any Func.goes=false:=by kernel_rfl
theorem d9u:false=Rows.callsGraphRow.goesBy Tryz.prog:=b9C quiet _
theorem d1r:Tryz.prog.funcNamed "treemerge/treemergelaw15.CallsGraph" = some 4:=by kernel_rfl
end Go.Proofs.YtighfcpaplmaiaaGreatDoor.law4
