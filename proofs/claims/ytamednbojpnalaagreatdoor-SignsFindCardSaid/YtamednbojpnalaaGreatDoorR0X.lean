/- The closed facts of the row of 'SignsFind', by the kernel, the long ones each by itself. -/
import Derived.Test.YtamednbojpnalaaGreatDoorRf
set_option linter.unusedVariables false
set_option linter.unusedSimpArgs false
set_option maxRecDepth 100000
namespace Go.Proofs.YtamednbojpnalaaGreatDoor.law0
open Go
theorem jInPlace:(Rows.signsFindRow.inPlace == Tryz.prog.inPlace 7)=true:=by kernel_rfl
theorem jUnfollowed:(Rows.signsFindRow.unfollowed == Tryz.prog.unfollowed 7)=true:=by kernel_rfl
theorem jRecurses:(Rows.signsFindRow.recurses == Tryz.prog.recurses 7)=true:=by kernel_rfl
theorem jNamed:(Rows.signsFindRow.named == Tryz.prog.varsNamed 7)=true:=by kernel_rfl
theorem jFacts:joinedFacts Tryz.pinned.checked.prog 7 Tryz.f7 Rows.signsFindSpec Rows.signsFindRow=true:=by
 rw[joinedFacts]
 simp only[Bool.and_eq_true]
 refine⟨⟨⟨⟨⟨⟨⟨⟨⟨⟨⟨⟨⟨⟨⟨⟨⟨⟨⟨⟨⟨⟨⟨⟨⟨⟨⟨⟨⟨⟨⟨?_,laidOut⟩,jMaps⟩,?_⟩,?_⟩,?_⟩,?_⟩,?_⟩,?_⟩,jInPlace⟩,jUnfollowed⟩,jRecurses⟩,jNamed⟩,?_⟩,?_⟩,?_⟩,?_⟩,?_⟩,?_⟩,?_⟩,?_⟩,?_⟩,jPlain⟩,?_⟩,jHeard⟩,jEnter⟩,jLifted⟩,?_⟩,?_⟩,?_⟩,?_⟩,?_⟩
 all_goals kernel_rfl
theorem cWf:Rows.signsFindRow.wfByText (OpenSpec.ofChange Rows.signsFindSpec)=true:=by kernel_rfl
theorem goes_none{P:Program}(h:P.funcs.toList.any Func.goes=false)(s:String):false=P.goesAt .entering s:=by
 have hf:∀ g:FuncId,(P.funcs[g]?).any Func.goes=false:=by
  intro g
  cases hg:P.funcs[g]? with
  | none=>rfl
  | some fn =>
   have hm:fn∈P.funcs.toList:=Array.mem_toList_iff.2 (Array.mem_of_getElem? hg)
   have:=List.any_eq_false.1 h fn hm
   simpa using this
 have hg:∀ f,P.goes f=false:=by
  intro f
  unfold Program.goes
  rw[Bool.or_eq_false_iff]
  constructor
  ·rw[Bool.eq_false_iff]
   intro ha
   simp only[hf]at ha
   simp at ha
  ·rw[Bool.and_eq_false_iff]
   right
   rw[←Array.any_toList]
   exact h
 unfold Program.goesAt Program.goesFrom
 cases P.funcNamed s with
 | none=>rfl
 | some f=>simp[hg]
theorem quiet:Tryz.prog.funcs.toList.any Func.goes=false:=by kernel_rfl
theorem cGoes:false=Rows.signsFindRow.goesBy Tryz.prog:=goes_none quiet _
theorem cNamed:Tryz.prog.funcNamed "treemerge/treemergelaw40.SignsFind" = some 7:=by kernel_rfl
end Go.Proofs.YtamednbojpnalaaGreatDoor.law0
