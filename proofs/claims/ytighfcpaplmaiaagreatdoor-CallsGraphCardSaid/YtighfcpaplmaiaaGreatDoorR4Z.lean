import Derived.Test.YtighfcpaplmaiaaGreatDoorR4X
import Derived.Test.YtighfcpaplmaiaaGreatDoorUgS
set_option linter.unusedVariables false
set_option linter.unusedSimpArgs false
set_option maxRecDepth 100000
namespace Go.Proofs.YtighfcpaplmaiaaGreatDoor.law4
open Go.ChangeShapes Go.WideShapes Go.ChangeAt Go.RowKit Go.Vg
theorem b9s(os:Os)(H:Type)(enc:TypeId×Value→H):∃ (w:World) (tape:Tape) (i:Input),w.os=os∧(w.forCall tape i).Shaped Tryz.checked.prog∧i.vars=[]∧Input.okWide Tryz.checked.prog (w.forCall tape i) .any w.heap.size 4 i ∧
   ((Rows.callsGraphSpec.pre enc Tryz.checked.prog Tryz.f4 Rows.callsGraphRow.domain false (w.forCall tape i).memory i.args∧laidMetH Tryz.prog b3e (w.forCall tape i).memory)∧sizedMet enc Tryz.checked.prog Tryz.f4 (OpenSpec.ofChange Rows.callsGraphSpec) false (w.forCall tape i).memory i.args)∧({}:Assume).holds Tryz.checked.prog (lone (Frame.enter Tryz.checked.prog 4 i.args .normal) [] (w.forCall tape i)) :=
 ChangeSpec.witness_shaped (enc:=enc) (C:=Tryz.checked) (os:=os) (X:=fun w _=>laidMetH Tryz.prog b3e w) false (World.laidAll Tryz.prog os b3e) #[.slice none 0 0] 8 (World.laidAll_os _ _ _)
   (World.shaped_of_ZipB (by kernel_rfl) (by kernel_rfl)) (by kernel_rfl) (by kernel_rfl) (by kernel_rfl)
   (by rw[MakeChecks.laidMetH_plain _ _ _ (by kernel_rfl)];exact laidMet_laidAll _ (by kernel_rfl) (by kernel_rfl))
theorem lifted(os:Os)(started:os.Started)(H:Type)(enc:TypeId×Value→H) :
  ReturnsInHanded {} Tryz.checked os 4 .any (fun w args=>(Rows.callsGraphSpec.pre enc Tryz.prog Tryz.f4 Rows.callsGraphRow.domain false w args∧laidMetH Tryz.prog b3e w)∧sizedMet enc Tryz.prog Tryz.f4 (OpenSpec.ofChange Rows.callsGraphSpec) false w args)
   (Rows.callsGraphSpec.post enc Tryz.prog Tryz.f4 false true false false):=by
 refine b3E (C:=Tryz.checked) (X:=fun w _=>laidMetH Tryz.prog b3e w) (fun _ _ _ hh h=>h.of_heap hh) own started (by kernel_rfl) Tryz.func4 (b9s os H enc) ?_
 rintro W args ds gs b2q hW hw hL hs ⟨b0,hin⟩
 have hW':=hW
 obtain⟨p,q,hA0,hV0,rfl,hfz,hnd⟩:=hW
 have hA:DataW.TrodAll enc Tryz.prog W 0 (fun _=>true) true Tryz.f4.params.toList args.toList ds p:=hA0
 rw[Tryz.params4]at hA
 obtain⟨v0,d0,rfl,rfl,h0⟩:=trodAll_one hA
 obtain⟨rfl,rfl⟩:=trodVars_none hV0
 have hw:(DataW.weightsEach Tryz.prog (Tryz.f4.params.toList++[]) ([d0]++[])).all (· ≤ reachBytes)=true:=hw
 rw[Tryz.params4]at hw
 simp only[h0F,DataW.weightsEach,List.all_append,h0k]at hw
 obtain⟨a0,r0⟩:=c4u Tryz.underlying22 (hin 0 _ _ (by kernel_rfl) rfl) h0 hw
 have ha:b8a env.P (b1O W) [] [sl 70 (a0.map Un.enc)] #[v0]:=⟨rfl,fun j x v hx hv=>by
  rcases j with _ | j
  ·simp at hx hv;subst hx hv;exact r0
  ·simp at hx⟩
 refine(b9U (c1d a0 ) (b8s hL) (c0L hL hs) ha).mono fun e W' ⟨he,hb⟩=>?_
 have hlt:∀ x∈p,x.block<W.heap.size:=fun x hx=>hW'.lt x (by simpa using hx)
 refine⟨_,he,_,_,_,[],p,[],hW',?_,?_,rfl,hb.frame _,fun h=>by cases h⟩
 ·exact trodAll_mk1 (shut_bool Tryz.underlying4 true)
 ·exact trodAll_mk1 (Below.trod c0A (by kernel_rfl) (by decide +kernel) h0 hb fun x hx=>hlt x hx)
theorem row:Rows.CallsGraphSaid :=
 OpenClaim.holds_of_wide 4 Tryz.f4 rfl rfl rfl rfl rfl rfl rfl ⟨rfl,rfl,rfl,rfl,rfl⟩ rfl rfl rfl rfl rfl (by kernel_rfl) Tryz.func4 d0Y
  (of_decide_eq_true (by kernel_rfl)) (by unfold Func.isWrapper;rw[if_neg (of_decide_eq_false (by kernel_rfl))];exact⟨rfl,rfl⟩)
  (fun os started H enc _=>lifted os started H enc)
end Go.Proofs.YtighfcpaplmaiaaGreatDoor.law4
