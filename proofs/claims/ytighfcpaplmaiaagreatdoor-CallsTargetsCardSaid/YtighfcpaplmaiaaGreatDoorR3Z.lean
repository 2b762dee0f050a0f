import Derived.Test.YtighfcpaplmaiaaGreatDoorR3X
import Derived.Test.YtighfcpaplmaiaaGreatDoorUgP
set_option linter.unusedVariables false
set_option linter.unusedSimpArgs false
set_option maxRecDepth 100000
namespace Go.Proofs.YtighfcpaplmaiaaGreatDoor.law3
open Go.ChangeShapes Go.WideShapes Go.ChangeAt Go.RowKit Go.Vg
theorem c5t(os:Os)(H:Type)(enc:TypeId×Value→H):∃ (w:World) (tape:Tape) (i:Input),w.os=os∧(w.forCall tape i).Shaped Tryz.checked.prog∧i.vars=[]∧Input.okWide Tryz.checked.prog (w.forCall tape i) .any w.heap.size 3 i ∧
   ((Rows.callsTargetsSpec.pre enc Tryz.checked.prog Tryz.f3 Rows.callsTargetsRow.domain false (w.forCall tape i).memory i.args∧laidMetH Tryz.prog b5w (w.forCall tape i).memory)∧sizedMet enc Tryz.checked.prog Tryz.f3 (OpenSpec.ofChange Rows.callsTargetsSpec) false (w.forCall tape i).memory i.args)∧({}:Assume).holds Tryz.checked.prog (lone (Frame.enter Tryz.checked.prog 3 i.args .normal) [] (w.forCall tape i)) :=
 ChangeSpec.witness_shaped (enc:=enc) (C:=Tryz.checked) (os:=os) (X:=fun w _=>laidMetH Tryz.prog b5w w) false (World.laidAll Tryz.prog os b5w) #[.slice none 0 0,.agg #[.int .i64 0,.int .i64 0]] 8 (World.laidAll_os _ _ _)
   (World.shaped_of_ZipB (by kernel_rfl) (by kernel_rfl)) (by kernel_rfl) (by kernel_rfl) (by kernel_rfl)
   (by rw[MakeChecks.laidMetH_plain _ _ _ (by kernel_rfl)];exact laidMet_laidAll _ (by kernel_rfl) (by kernel_rfl))
theorem lifted(os:Os)(started:os.Started)(H:Type)(enc:TypeId×Value→H) :
  ReturnsInHanded {} Tryz.checked os 3 .any (fun w args=>(Rows.callsTargetsSpec.pre enc Tryz.prog Tryz.f3 Rows.callsTargetsRow.domain false w args∧laidMetH Tryz.prog b5w w)∧sizedMet enc Tryz.prog Tryz.f3 (OpenSpec.ofChange Rows.callsTargetsSpec) false w args)
   (Rows.callsTargetsSpec.post enc Tryz.prog Tryz.f3 false true false false):=by
 refine b6i (C:=Tryz.checked) (X:=fun w _=>laidMetH Tryz.prog b5w w) (fun _ _ _ hh h=>h.of_heap hh) own started (by kernel_rfl) Tryz.func3 (c5t os H enc) ?_
 rintro W args ds gs b2u hW hw hL hs ⟨b0,hin⟩
 have hW':=hW
 obtain⟨p,q,hA0,hV0,rfl,hfz,hnd⟩:=hW
 have hA:DataW.TrodAll enc Tryz.prog W 0 (fun _=>true) true Tryz.f3.params.toList args.toList ds p:=hA0
 rw[Tryz.params3]at hA
 obtain⟨v0,v1,d0,d1,p0,p1,rfl,rfl,rfl,h0,h1⟩:=trodAll_two hA
 obtain⟨rfl,rfl⟩:=trodVars_none hV0
 have hw:(DataW.weightsEach Tryz.prog (Tryz.f3.params.toList++[]) ([d0,d1]++[])).all (· ≤ reachBytes)=true:=hw
 rw[Tryz.params3]at hw
 simp only[g9B,DataW.weightsEach,List.all_append,g9g]at hw
 obtain⟨a0,r0⟩:=d2K Tryz.underlying22 (hin 0 _ _ (by kernel_rfl) rfl) h0 hw.1
 obtain⟨x1,s1,r1⟩:=d8u d8Q (by decide) d3N h1 hw.2
 obtain⟨m1,n1,hn1,rfl⟩:=f3S s1
 have ha:b8d env.P (b1O W) [] [sl 70 (a0.map Un.enc),.agg [.int .i64 m1,.int .i64 n1]] #[v0,v1]:=⟨rfl,fun j x v hx hv=>by
  rcases j with _ | _ | j
  ·simp at hx hv;subst hx hv;exact r0
  ·simp at hx hv;subst hx hv;exact r1
  ·simp at hx⟩
 refine(c5E (b8r a0 m1 n1 hn1 ) (c3y hL) (c5g hL hs) ha).mono fun e W' ⟨he,hb⟩=>?_
 have hlt:∀ x∈p0++p1,x.block<W.heap.size:=fun x hx=>hW'.lt x (by simpa using hx)
 refine⟨_,he,_,_,_,[],p0++p1,[],hW',?_,?_,rfl,hb.frame _,fun h=>by cases h⟩
 ·exact trodAll_mk1 (shut_bool Tryz.underlying4 true)
 ·exact trodAll_mk2 (Below.trod c5W (by kernel_rfl) (by decide +kernel) h0 hb fun x hx=>hlt x (by simp[hx])) (Below.trod c5W (by kernel_rfl) (by decide +kernel) h1 hb fun x hx=>hlt x (by simp[hx]))
theorem row:Rows.CallsTargetsSaid :=
 OpenClaim.holds_of_wide 3 Tryz.f3 rfl rfl rfl rfl rfl rfl rfl ⟨rfl,rfl,rfl,rfl,rfl⟩ rfl rfl rfl rfl rfl (by kernel_rfl) Tryz.func3 f3X
  (of_decide_eq_true (by kernel_rfl)) (by unfold Func.isWrapper;rw[if_neg (of_decide_eq_false (by kernel_rfl))];exact⟨rfl,rfl⟩)
  (fun os started H enc _=>lifted os started H enc)
end Go.Proofs.YtighfcpaplmaiaaGreatDoor.law3
