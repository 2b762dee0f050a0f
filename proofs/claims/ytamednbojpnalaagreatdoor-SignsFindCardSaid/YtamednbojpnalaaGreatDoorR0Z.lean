/- 'SignsFind' returns true for every input, and what it is given reads as before. Conditions: those of the given row alone. -/
import Derived.Test.YtamednbojpnalaaGreatDoorR0X
import Derived.Test.YtamednbojpnalaaGreatDoorToY
set_option linter.unusedVariables false
set_option linter.unusedSimpArgs false
set_option maxRecDepth 100000
namespace Go.Proofs.YtamednbojpnalaaGreatDoor.law0
open Go.ChangeShapes Go.WideShapes Go.ChangeAt Go.RowKit Go.Vg
theorem witness(os:Os)(H:Type)(enc:TypeId×Value→H):∃ (w:World) (tape:Tape) (i:Input),w.os=os∧(w.forCall tape i).Shaped Tryz.checked.prog∧i.vars=[]∧Input.okWide Tryz.checked.prog (w.forCall tape i) .any w.heap.size 7 i ∧
   ((Rows.signsFindSpec.pre enc Tryz.checked.prog Tryz.f7 Rows.signsFindRow.domain false (w.forCall tape i).memory i.args∧laidMetH Tryz.prog theLaid (w.forCall tape i).memory)∧sizedMet enc Tryz.checked.prog Tryz.f7 (OpenSpec.ofChange Rows.signsFindSpec) false (w.forCall tape i).memory i.args)∧({}:Assume).holds Tryz.checked.prog (lone (Frame.enter Tryz.checked.prog 7 i.args .normal) [] (w.forCall tape i)) :=
 ChangeSpec.witness_shaped (enc:=enc) (C:=Tryz.checked) (os:=os) (X:=fun w _=>laidMetH Tryz.prog theLaid w) false (World.laidAll Tryz.prog os theLaid) #[.slice none 0 0] 8 (World.laidAll_os _ _ _)
   (World.shaped_of_ZipB (by kernel_rfl) (by kernel_rfl)) (by kernel_rfl) (by kernel_rfl) (by kernel_rfl)
   (by rw[MakeChecks.laidMetH_plain _ _ _ (by kernel_rfl)];exact laidMet_laidAll _ (by kernel_rfl) (by kernel_rfl))
theorem lifted(os:Os)(started:os.Started)(H:Type)(enc:TypeId×Value→H) :
  ReturnsInHanded {} Tryz.checked os 7 .any (fun w args=>(Rows.signsFindSpec.pre enc Tryz.prog Tryz.f7 Rows.signsFindRow.domain false w args∧laidMetH Tryz.prog theLaid w)∧sizedMet enc Tryz.prog Tryz.f7 (OpenSpec.ofChange Rows.signsFindSpec) false w args)
   (Rows.signsFindSpec.post enc Tryz.prog Tryz.f7 false true false false):=by
 refine returnsInHanded_wide (C:=Tryz.checked) (X:=fun w _=>laidMetH Tryz.prog theLaid w) (fun _ _ _ hh h=>h.of_heap hh) own started (by kernel_rfl) Tryz.func7 (witness os H enc) ?_
 rintro W args ds gs before hW hw hL hs ⟨b0,hin⟩
 have hW':=hW
 obtain⟨p,q,hA0,hV0,rfl,hfz,hnd⟩:=hW
 have hA:DataW.TrodAll enc Tryz.prog W 0 (fun _=>true) true Tryz.f7.params.toList args.toList ds p:=hA0
 rw[Tryz.params7]at hA
 obtain⟨v0,d0,rfl,rfl,h0⟩:=trodAll_one hA
 obtain⟨rfl,rfl⟩:=trodVars_none hV0
 have hw:(DataW.weightsEach Tryz.prog (Tryz.f7.params.toList++[]) ([d0]++[])).all (· ≤ reachBytes)=true:=hw
 rw[Tryz.params7]at hw
 simp only[List.append_nil,DataW.weightsEach,List.all_append,Bool.and_eq_true]at hw
 obtain⟨a0,r0⟩:=arg_units Tryz.underlying22 (hin 0 _ _ (by kernel_rfl) rfl) h0 hw
 have ha:Args env.P (startG W) [] [sl 34 (a0.map Un.enc)] #[v0]:=⟨rfl,fun j x v hx hv=>by
  rcases j with _ | j
  ·simp at hx hv;subst hx hv;exact r0
  ·simp at hx⟩
 refine(calls_trueZ (SignsFind_law a0 ) (glob_of_laid hL) (ini_of_laid hL hs) ha).mono fun e W' ⟨he,hb⟩=>?_
 have hlt:∀ x∈p,x.block<W.heap.size:=fun x hx=>hW'.lt x (by simpa using hx)
 refine⟨_,he,_,_,_,[],p,[],hW',?_,?_,rfl,hb.frame _,fun h=>by cases h⟩
 ·exact trodAll_mk1 (shut_bool Tryz.underlying4 true)
 ·exact trodAll_mk1 (Below.trod laidOut (by kernel_rfl) (by decide +kernel) h0 hb fun x hx=>hlt x hx)
theorem row:Rows.SignsFindSaid :=
 OpenClaim.holds_of_wide 7 Tryz.f7 rfl rfl rfl rfl rfl rfl rfl ⟨rfl,rfl,rfl,rfl,rfl⟩ rfl rfl rfl rfl rfl (by kernel_rfl) Tryz.func7 jFacts
  (of_decide_eq_true (by kernel_rfl)) (by unfold Func.isWrapper;rw[if_neg (of_decide_eq_false (by kernel_rfl))];exact⟨rfl,rfl⟩)
  (fun os started H enc _=>lifted os started H enc)
end Go.Proofs.YtamednbojpnalaaGreatDoor.law0
