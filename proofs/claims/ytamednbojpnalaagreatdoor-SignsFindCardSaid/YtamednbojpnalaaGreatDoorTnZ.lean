/- grammar.first and Check. -/
import Derived.Test.YtamednbojpnalaaGreatDoorTnX
set_option linter.unusedVariables false
set_option linter.unusedSimpArgs false
set_option maxRecDepth 20000
namespace Go.Vg
def nodeG(n:Nd):Int:=if !(knownB n.kind && kidsG n.kind n.kids && spelledG n.kind n.text && n.levels)then 7 else if !calledG n.kind n.text then 4 else if !gapsG n then 7 else 0
mutual
def firstG:Nd→Int
 | .mk k t g ks=>if nodeG (.mk k t g ks)=0 then firstGs ks else nodeG (.mk k t g ks)
def firstGs:List Nd→Int
 | []=>0
 | x::r=>if firstG x=0 then firstGs r else firstG x
end
theorem kidsG_len{k:Int}{ks:List Nd}(h:kidsG k ks=true)(h0:(shp k).first.length≠0→k≠14):(shp k).first.length≤ks.length:=by
 by_cases hz:(shp k).first.length=0
 ·omega
 ·have:=h0 hz
  simp[kidsG,this]at h
  omega
end Go.Vg
namespace Go.Proofs.YtamednbojpnalaaGreatDoor
open Go Go.Vg Go.Proofs
theorem levels_pre{k:Int}{ks:List Nd}(hk:1≤k∧k<27)(h:kidsG k ks=true):(k=24→2≤ks.length)∧(k=25∨k=21→1≤ks.length):=by
 refine⟨fun e=>?_,fun e=>?_⟩
 ·subst e;exact kidsG_len h (by decide)
 ·rcases e with rfl | rfl
  ·exact kidsG_len h (by decide)
  ·exact kidsG_len h (by decide)
theorem Gfirst:(n:Nd)→shortG n→VPure env 84 [.agg n.enc] (.int .i64 (firstG n)):=by
 refine Nd.all fun k t g ks ih hs=>?_
 have hnode:firstG (.mk k t g ks)=if nodeG (.mk k t g ks)=0 then firstGs ks else nodeG (.mk k t g ks):=by rw[firstG]
 have hng:nodeG (.mk k t g ks)=if !(knownB k && kidsG k ks && spelledG k t && (Nd.mk k t g ks).levels)then 7 else if !calledG k t then 4 else if !gapsG (.mk k t g ks)then 7 else 0:=rfl
 refine vpure_vc (fn:=Tryz.f84) Tryz.func84 rfl (by rw[Tryz.ntmps84];simp) (by simp -implicitDefEqProofs only[go_sem]) rfl ?_
 simp -implicitDefEqProofs only[go_sem,Tryz.f84]
 refine(Gknown k).calls rfl ?_
 rw[show(decide (1≤k) && decide (k<27))=knownB k from rfl]
 cases h1:knownB k
 ·simp -implicitDefEqProofs only[go_sem]
  rw[hnode,hng,h1];rfl
 have hk:1≤k∧k<27:=by simpa[knownB]using h1
 simp -implicitDefEqProofs only[go_sem]
 refine(Gkids k t g ks hk).calls (by simp -implicitDefEqProofs only[go_sem]) ?_
 cases h2:kidsG k ks
 ·simp -implicitDefEqProofs only[go_sem]
  rw[hnode,hng,h1,h2];rfl
 simp -implicitDefEqProofs only[go_sem]
 refine(Gspelled k t g ks hk).calls (by simp -implicitDefEqProofs only[go_sem]) ?_
 cases h3:spelledG k t
 ·simp -implicitDefEqProofs only[go_sem]
  rw[hnode,hng,h1,h2,h3];rfl
 simp -implicitDefEqProofs only[go_sem]
 refine(Glevels (.mk k t g ks) (levels_pre hk h2).1 (levels_pre hk h2).2).calls (by simp -implicitDefEqProofs only[go_sem]) ?_
 cases h4:(Nd.mk k t g ks).levels
 ·simp -implicitDefEqProofs only[go_sem]
  rw[hnode,hng,h1,h2,h3,h4];rfl
 simp -implicitDefEqProofs only[go_sem]
 refine(Gcalled k t g ks hk).calls (by simp -implicitDefEqProofs only[go_sem]) ?_
 cases h5:calledG k t
 ·simp -implicitDefEqProofs only[go_sem]
  rw[hnode,hng,h1,h2,h3,h4,h5];rfl
 simp -implicitDefEqProofs only[go_sem]
 refine(Ggaps (.mk k t g ks) hk (hs _ (by rw[nodes];exact List.mem_cons_self ..))).calls (by simp -implicitDefEqProofs only[go_sem]) ?_
 cases h6:gapsG (.mk k t g ks)
 ·simp -implicitDefEqProofs only[go_sem]
  rw[hnode,hng,h1,h2,h3,h4,h5,h6];rfl
 have hn0:nodeG (.mk k t g ks)=0:=by rw[hng,h1,h2,h3,h4,h5,h6];rfl
 rw[hnode,if_pos hn0]
 simp -implicitDefEqProofs only[go_sem]
 intro _ _
 refine snd_list (β:=Unit) ks (fun pre _=>⟨[(34,.int .i64 pre.length),(33,.int .i64 ks.length),(32,sl 32 (ks.map Nd.enc)),(2,.int .i64 0),(1,.ptr 0 0)],[VObj.cells (Nd.mk k t g ks).enc],[]⟩)
  (fun pre post _=>firstGs ks=firstGs post) () ?_ rfl ?_ ?_
 ·simp -implicitDefEqProofs only[go_sem]
  try rfl
 ·intro _ hi
  simp -implicitDefEqProofs only[go_sem]
  rw[hi];rfl
 ·intro pre x post _ hx hi
  have hpl:ks.length=pre.length+1+post.length:=by rw[hx];simp;omega
  have hgx:(ks.map Nd.enc).getD (pre.length:Int).toNat []=x.enc:=by rw[hx];simp[List.getD_eq_getElem?_getD]
  have hw:IntKind.i64.wrap (↑pre.length+1)=↑(pre.length+1):=wrap_next (by omega)
  have hlt:((pre.length:Int)<ks.length)=True:=by simp;omega
  have hm:x∈ks:=by rw[hx];simp
  rw[hi,firstGs]
  simp -implicitDefEqProofs only[go_sem,hgx,hlt]
  refine(ih x hm (shortG_kid hs hm)).calls (by simp -implicitDefEqProofs only[go_sem]) ?_
  simp -implicitDefEqProofs only[go_sem]
  refine⟨fun h=>?_,fun h=>⟨(),by rw[if_pos (by simpa using h)],hw⟩⟩
  rw[if_neg (by simpa using h)]
theorem GCheck(n:Nd)(hs:shortG n):VPure env 53 [.agg n.enc] (.int .i64 (if withinN n 4000 60<0 then 3 else firstG n)):=by
 refine vpure_vc (fn:=Tryz.f53) Tryz.func53 rfl (by rw[Tryz.ntmps53];simp) (by simp -implicitDefEqProofs only[go_sem]) rfl ?_
 simp -implicitDefEqProofs only[go_sem,Tryz.f53]
 refine(Gwithin n 4000 60 (by omega) (by omega) (by omega)).calls (by simp -implicitDefEqProofs only[go_sem]) ?_
 simp -implicitDefEqProofs only[go_sem]
 refine⟨fun h=>?_,fun h=>?_⟩
 ·rw[if_pos h]
 ·refine(Gfirst n hs).calls (by simp -implicitDefEqProofs only[go_sem]) ?_
  simp -implicitDefEqProofs only[go_sem]
  rw[if_neg h]
end Go.Proofs.YtamednbojpnalaaGreatDoor
set_option maxRecDepth 20000
namespace Go.Vg
open Go
theorem shp1:shp 1=⟨[],0,1,0,[],1⟩:=rfl
theorem shp2:shp 2=⟨[(3,0),(5,0),(6,0)],0,0,1,[],2⟩:=rfl
theorem shp3:shp 3=⟨[],4,0,0,[],2⟩:=rfl
theorem shp4:shp 4=⟨[(5,0)],0,0,1,[],1⟩:=rfl
theorem shp5:shp 5=⟨[],0,0,1,[],1⟩:=rfl
theorem shp6:shp 6=⟨[],0,2,0,[],2⟩:=rfl
theorem shp7:shp 7=⟨[(8,0)],2,0,1,[],4⟩:=rfl
theorem shp8:shp 8=⟨[],0,0,2,[],2⟩:=rfl
theorem shp9:shp 9=⟨[(0,3)],0,0,1,[],4⟩:=rfl
theorem shp10:shp 10=⟨[(0,3)],0,0,1,[],4⟩:=rfl
theorem shp11:shp 11=⟨[(0,3)],0,0,1,[],3⟩:=rfl
theorem shp12:shp 12=⟨[(0,3)],0,0,0,[],2⟩:=rfl
theorem shp13:shp 13=⟨[(0,3),(6,0),(14,0)],0,0,0,[],1⟩:=rfl
theorem shp14:shp 14=⟨[(6,0)],0,0,0,[],1⟩:=rfl
theorem shp15:shp 15=⟨[(0,3),(6,0)],0,0,0,[],1⟩:=rfl
theorem shp16:shp 16=⟨[(0,3)],0,0,0,[],1⟩:=rfl
theorem shp17:shp 17=⟨[],0,0,3,[],1⟩:=rfl
theorem shp18:shp 18=⟨[],0,0,4,[⟨#[116,114,117,101]⟩,⟨#[102,97,108,115,101]⟩],1⟩:=rfl
theorem shp19:shp 19=⟨[],0,0,1,[],1⟩:=rfl
theorem shp20:shp 20=⟨[],0,3,1,[],3⟩:=rfl
theorem shp21:shp 21=⟨[(0,3)],0,3,1,[],4⟩:=rfl
theorem shp22:shp 22=⟨[],0,0,1,[],4⟩:=rfl
theorem shp23:shp 23=⟨[],0,0,4,[⟨#[115,101,108,102]⟩],1⟩:=rfl
theorem shp24:shp 24=⟨[(0,3),(0,3)],0,0,4,[⟨#[124]⟩,⟨#[38]⟩,⟨#[61,61]⟩,⟨#[60]⟩,⟨#[43]⟩,⟨#[45]⟩,⟨#[42]⟩,⟨#[47]⟩],1⟩:=rfl
theorem shp25:shp 25=⟨[(0,3)],0,0,4,[⟨#[45]⟩,⟨#[33]⟩],1⟩:=rfl
theorem shp26:shp 26=⟨[(0,3)],0,0,0,[],2⟩:=rfl
theorem known_cases{k:Int}(h:knownB k=true):k=1∨k=2∨k=3∨k=4∨k=5∨k=6∨k=7∨k=8∨k=9∨k=10∨k=11∨k=12∨k=13∨k=14∨k=15∨k=16∨k=17∨k=18∨k=19∨k=20∨k=21∨k=22∨k=23∨k=24∨k=25∨k=26:=by
 simp[knownB]at h;omega
theorem least_len{k:Int}(h:knownB k=true)(h14:k≠14):leastK k=((shp k).first.length:Int):=by
 rcases known_cases h with rfl | rfl | rfl | rfl | rfl | rfl | rfl | rfl | rfl | rfl | rfl | rfl | rfl | rfl | rfl | rfl | rfl | rfl | rfl | rfl | rfl | rfl | rfl | rfl | rfl | rfl <;> first | rfl | exact absurd rfl h14
theorem pt_cases(i:Int)(h:0≤i):i=0∨i=1∨i=2∨3≤i:=by omega
theorem group_known(c:Int):groupK c=0∨(1≤c∧c<27):=by
 unfold groupK
 repeat' split
 all_goals omega
theorem fitsG_eq{k:Int}(h:knownB k=true)(i c:Int)(hi:0≤i):fitsG k i c=fitsK k i c:=by
 have hg:=group_known c
 rcases pt_cases i hi with rfl | rfl | rfl | h3
 rotate_right
 ·have n0:¬ i<0:=by omega
  have n1:¬ i<1:=by omega
  have n2:¬ i<2:=by omega
  have n3:¬ i<3:=by omega
  have m0:¬ i=0:=by omega
  have m1:¬ i=1:=by omega
  have m2:¬ i=2:=by omega
  have p0:0<i:=by omega
  rcases known_cases h with rfl | rfl | rfl | rfl | rfl | rfl | rfl | rfl | rfl | rfl | rfl | rfl | rfl | rfl | rfl | rfl | rfl | rfl | rfl | rfl | rfl | rfl | rfl | rfl | rfl | rfl
  all_goals(simp only[fitsG,ptAt,fitsK,shp1,shp2,shp3,shp4,shp5,shp6,shp7,shp8,shp9,shp10,shp11,shp12,shp13,shp14,shp15,shp16,shp17,shp18,shp19,shp20,shp21,shp22,shp23,shp24,shp25,shp26,List.length_cons,List.length_nil];rw[Bool.eq_iff_iff];simp[knownB,n0,n1,n2,n3,m0,m1,m2,p0,hi])
  all_goals omega
 all_goals
  rcases known_cases h with rfl | rfl | rfl | rfl | rfl | rfl | rfl | rfl | rfl | rfl | rfl | rfl | rfl | rfl | rfl | rfl | rfl | rfl | rfl | rfl | rfl | rfl | rfl | rfl | rfl | rfl
  all_goals(simp only[fitsG,ptAt,fitsK,shp1,shp2,shp3,shp4,shp5,shp6,shp7,shp8,shp9,shp10,shp11,shp12,shp13,shp14,shp15,shp16,shp17,shp18,shp19,shp20,shp21,shp22,shp23,shp24,shp25,shp26,List.length_cons,List.length_nil];rw[Bool.eq_iff_iff];simp[knownB])
  all_goals omega
theorem kidsFit_eq{k:Int}(h:knownB k=true):∀ (ks:List Nd) (i:Nat),kidsFit k ks i=fitsFrom k ks i
 | [],i=>rfl
 | x::r,i=>by
  rw[kidsFit,fitsFrom,fitsG_eq h _ _ (by omega),kidsFit_eq h r (i+1)]
  rfl
theorem spelled_eq{k:Int}(h:knownB k=true)(t:ByteArray):spelledG k t=(namedK k t || wordK k t):=by
 rcases known_cases h with rfl | rfl | rfl | rfl | rfl | rfl | rfl | rfl | rfl | rfl | rfl | rfl | rfl | rfl | rfl | rfl | rfl | rfl | rfl | rfl | rfl | rfl | rfl | rfl | rfl | rfl
 all_goals(simp only[spelledG,namedK,wordK,levelK,opLevel,shp1,shp2,shp3,shp4,shp5,shp6,shp7,shp8,shp9,shp10,shp11,shp12,shp13,shp14,shp15,shp16,shp17,shp18,shp19,shp20,shp21,shp22,shp23,shp24,shp25,shp26])
 all_goals(try(simp;done))
 all_goals(try(simp;grind))
theorem called_eq{k:Int}(h:knownB k=true)(t:ByteArray):calledG k t = !((decide (k=17) && !intB t) || (!decide (k=17) && namedK k t && !validName t)):=by
 rcases known_cases h with rfl | rfl | rfl | rfl | rfl | rfl | rfl | rfl | rfl | rfl | rfl | rfl | rfl | rfl | rfl | rfl | rfl | rfl | rfl | rfl | rfl | rfl | rfl | rfl | rfl | rfl
 all_goals(simp only[calledG,shp1,shp2,shp3,shp4,shp5,shp6,shp7,shp8,shp9,shp10,shp11,shp12,shp13,shp14,shp15,shp16,shp17,shp18,shp19,shp20,shp21,shp22,shp23,shp24,shp25,shp26])
 all_goals(simp[namedK])
theorem fitsFrom_get{k:Int}:∀ {ks:List Nd} {i:Int},fitsFrom k ks i=true→∀ (j:Nat) x,ks[j]? = some x→fitsK k (i+j) x.kind=true
 | [],i,h,j,x,hx=>by simp at hx
 | y::r,i,h,j,x,hx=>by
  rw[fitsFrom,Bool.and_eq_true]at h
  match j with
  | 0=>simp at hx;subst hx;simpa using h.1
  | j+1 =>
   have:=fitsFrom_get h.2 j x (by simpa using hx)
   rw[←this];congr 1;omega
theorem kids_eq{k:Int}(h:knownB k=true)(ks:List Nd):kidsG k ks=(!decide ((ks.length:Int)<leastK k) && fitsFrom k ks 0):=by
 have hF:=kidsFit_eq h ks 0
 have hfar:(shp k).rk=0∧(shp k).rg=0→(shp k).first.length<ks.length→fitsFrom k ks 0=false:=fun hr hl=>by
  cases hc:fitsFrom k ks 0 with
  | false=>rfl
  | true =>
   have:=fitsFrom_get hc (shp k).first.length _ (List.getElem?_eq_getElem hl)
   rw[Int.zero_add,←fitsG_eq h _ _ (by omega)]at this
   simp[fitsG,ptAt,hr]at this
   have hk:=this.1.2
   simp[knownB]at hk
   have:=this.2
   omega
 unfold kidsG
 rw[hF]
 by_cases h14:k=14
 ·subst h14
  have hl:leastK 14=0:=rfl
  rw[hl,show((0:Nat):Int)=0 from rfl]
  have hfar:=hfar ⟨rfl,rfl⟩
  have hf1:(shp 14).first.length=1:=rfl
  rw[hf1]at hfar ⊢
  have hr:((shp 14).rk=0∧(shp 14).rg=0)=True:=by simp[shp14]
  simp only[hr]
  rcases ks with _ | ⟨x,_ | ⟨y,r⟩⟩
  ·simp[fitsFrom]
  ·simp
  ·have:=hfar (by simp)
   simp[this]
 ·rw[least_len h h14]
  simp only[h14,decide_false,Bool.false_and,Bool.false_or]
  by_cases hl:ks.length<(shp k).first.length
  ·have:((ks.length:Int)<((shp k).first.length:Int)):=by omega
   simp[hl]
  ·have h':¬ ((ks.length:Int)<((shp k).first.length:Int)):=by omega
   simp only[hl,h',decide_false,Bool.false_or,Bool.not_false,Bool.true_and]
   by_cases hr:(shp k).rk=0∧(shp k).rg=0
   ·by_cases hl2:(shp k).first.length<ks.length
    ·simp[hfar hr hl2]
    ·simp[hl2]
   ·simp[hr]
theorem node_eq(n:Nd):nodeG n=n.node:=by
 obtain⟨k,t,g,ks⟩:=n
 have e1:(Nd.mk k t g ks).shape=(knownB k && kidsG k ks && spelledG k t && (Nd.mk k t g ks).levels):=by
  by_cases h:knownB k=true
  ·have hk:1≤k∧k<27:=by simpa[knownB]using h
   have h1:¬ k<1:=by omega
   have h2:¬ 26<k:=by omega
   simp only[Nd.shape,Nd.kind,Nd.kids,Nd.text,h1,h2,h,kids_eq h,spelled_eq h,decide_false,Bool.not_false,Bool.true_and,Bool.and_assoc]
   rfl
  ·have h':knownB k=false:=by simpa using h
   rw[h']
   have:¬ (1≤k∧k<27):=by simpa[knownB]using h
   simp only[Nd.shape,Nd.kind,Nd.kids,Nd.text,Bool.false_and]
   by_cases h1:k<1
   ·simp[h1]
   ·have:26<k:=by omega
    simp[this]
 have hng:nodeG (.mk k t g ks)=if !(knownB k && kidsG k ks && spelledG k t && (Nd.mk k t g ks).levels)then 7 else if !calledG k t then 4 else if !gapsG (.mk k t g ks)then 7 else 0:=rfl
 have hnn:(Nd.mk k t g ks).node=if !(Nd.mk k t g ks).shape then 7 else if(decide (k=17) && !intB t) || (!decide (k=17) && namedK k t && !validName t)then 4
  else if 0<g.length∧(g.length:Int)≠(Nd.mk k t g ks).own then 7 else if g.all triviaB then 0 else 7:=rfl
 rw[hng,hnn,e1]
 by_cases hs:(knownB k && kidsG k ks && spelledG k t && (Nd.mk k t g ks).levels)=true
 ·have hk:knownB k=true:=by simp[Bool.and_eq_true]at hs;exact hs.1.1.1
  rw[hs,called_eq hk]
  simp only[Bool.not_true,Bool.false_eq_true,if_false,Bool.not_not]
  congr 1
  by_cases hg:g.length=0
  ·have:g=[]:=List.eq_nil_of_length_eq_zero hg
   subst this
   simp[gapsG,Nd.gaps]
  ·have h0:0<g.length:=by omega
   have e:gapsG (.mk k t g ks)=(g.all triviaB && decide ((g.length:Int)=(Nd.mk k t g ks).own)):=by
    have:g≠[]:=by rintro rfl;simp at hg
    simp[gapsG,Nd.gaps,this]
    rfl
   rw[e]
   by_cases ho:(g.length:Int)=(Nd.mk k t g ks).own
   ·simp only[ho,decide_true,Bool.and_true,h0,true_and,ne_eq,not_true_eq_false,if_false]
    cases g.all triviaB <;> rfl
   ·simp[ho,h0]
 ·have:(knownB k && kidsG k ks && spelledG k t && (Nd.mk k t g ks).levels)=false:=by simpa using hs
  rw[this]
  rfl
theorem firstG_eq:∀ n:Nd,firstG n=firstN n:=by
 refine Nd.all fun k t g ks ih=>?_
 have hs:∀ l:List Nd,(∀ x∈l,firstG x=firstN x)→firstGs l=firstNs l:=by
  intro l
  induction l with
  | nil=>intro _;rfl
  | cons x r ihr =>
   intro h
   rw[firstGs,firstNs,h x (by simp),ihr fun y hy=>h y (by simp[hy])]
 rw[firstG,firstN,node_eq,hs ks ih]
mutual
def okN:Nd→Int→Bool
 | .mk k t g ks,d=>decide (0<d) && decide ((ks.length:Int)≤mostK k) && okNs ks (d - 1)
def okNs:List Nd→Int→Bool
 | [],_=>true
 | x::r,d=>okN x d && okNs r d
end
def cntN(n:Nd):Nat:=(nodes n).length
def cntNs(l:List Nd):Nat:=(nodesL l).length
theorem cnt_mk{k t g ks}:cntN (.mk k t g ks)=cntNs ks+1:=by simp[cntN,cntNs,nodes]
theorem cnt_cons{x:Nd}{r:List Nd}:cntNs (x::r)=cntN x+cntNs r:=by simp[cntN,cntNs,nodesL]
theorem cnt_pos(n:Nd):1≤cntN n:=by obtain⟨k,t,g,ks⟩:=n;rw[cnt_mk];omega
theorem within_eq:∀ (n:Nd) (l d:Int),withinN n l d=if okN n d=true∧(cntN n:Int)≤l then l - cntN n else -1:=by
 refine Nd.all fun k t g ks ih l d=>?_
 have hs:∀ (r:List Nd),(∀ x∈r,∀ (l d:Int),withinN x l d=if okN x d=true∧(cntN x:Int)≤l then l - cntN x else -1)→∀ (l d:Int),0≤l→withinNs r l d=if okNs r d=true∧(cntNs r:Int)≤l then l - cntNs r else -1:=by
  intro r
  induction r with
  | nil=>intro _ l d hl;simp[withinNs,okNs,cntNs,nodesL,hl]
  | cons x r ihr =>
   intro h l d hl
   have ihr:=ihr fun y hy=>h y (by simp[hy])
   rw[withinNs,h x (by simp),okNs,cnt_cons]
   by_cases hx:okN x d=true∧(cntN x:Int)≤l
   ·rw[if_pos hx,if_neg (by omega),ihr _ _ (by omega)]
    by_cases hr:okNs r d=true∧(cntNs r:Int)≤l - cntN x
    ·rw[if_pos hr,if_pos ⟨by simp[hx.1,hr.1],by omega⟩];omega
    ·rw[if_neg hr,if_neg]
     rintro⟨h1,h2⟩
     simp only[Bool.and_eq_true]at h1
     exact hr ⟨h1.2,by omega⟩
   ·rw[if_neg hx,if_pos (by omega),if_neg]
    rintro⟨h1,h2⟩
    simp only[Bool.and_eq_true]at h1
    exact hx ⟨h1.1,by omega⟩
 rw[withinN,okN,cnt_mk]
 by_cases hb:l≤0∨d≤0∨mostK k<(ks.length:Int)
 ·rw[if_pos hb,if_neg]
  rintro⟨h1,h2⟩
  simp only[Bool.and_eq_true,decide_eq_true_eq]at h1
  omega
 ·rw[if_neg hb,hs ks ih _ _ (by omega)]
  have a1:0<d:=by omega
  have a2:(ks.length:Int)≤mostK k:=by omega
  simp only[a1,a2,decide_true,Bool.true_and]
  by_cases hr:okNs ks (d - 1)=true∧(cntNs ks:Int)≤l - 1
  ·rw[if_pos hr,if_pos ⟨hr.1,by omega⟩];omega
  ·rw[if_neg hr,if_neg]
   rintro⟨h1,h2⟩
   exact hr ⟨h1,by omega⟩
theorem sizeN_eq:∀ (n:Nd) (l:Int),sizeN n l=if okN n (61 - l)=true∧cntN n≤4000 then(cntN n:Int)else 4001:=by
 refine Nd.all fun k t g ks ih l=>?_
 have hs:∀ (r:List Nd),(∀ x∈r,∀ (l:Int),sizeN x l=if okN x (61 - l)=true∧cntN x≤4000 then(cntN x:Int)else 4001)→∀ (k l:Int),1≤k→min (sizesN r k l) 4001=if okNs r (61 - l)=true∧k+(cntNs r:Int)≤4000 then k+(cntNs r:Int)else if k≤4000 then 4001 else min k 4001:=by
  intro r
  induction r with
  | nil =>
   intro _ k l hk
   simp only[sizesN,okNs,cntNs,nodesL,List.length_nil,true_and]
   by_cases h:k≤4000
   ·rw[if_pos (by omega)];omega
   ·rw[if_neg (by omega),if_neg h]
  | cons x r ihr =>
   intro h k l hk
   have ihr:=ihr fun y hy=>h y (by simp[hy])
   have hp:=cnt_pos x
   rw[sizesN,okNs,cnt_cons,h x (by simp)]
   by_cases hk4:4000<k
   ·rw[if_pos hk4,if_neg (by omega),if_neg (by omega)]
   ·rw[if_neg hk4]
    by_cases hx:okN x (61 - l)=true∧cntN x≤4000
    ·rw[if_pos hx,ihr _ _ (by omega)]
     by_cases hr:okNs r (61 - l)=true∧k+(cntN x:Int)+(cntNs r:Int)≤4000
     ·rw[if_pos hr,if_pos ⟨by simp[hx.1,hr.1],by omega⟩];omega
     ·have hn:¬ ((okN x (61 - l) && okNs r (61 - l))=true∧k+((cntN x+cntNs r:Nat):Int)≤4000):=by
       rintro⟨h1,h2⟩
       simp only[Bool.and_eq_true]at h1
       exact hr ⟨h1.2,by omega⟩
      rw[if_neg hr,if_neg hn,if_pos (show k≤4000 by omega)]
      split <;> omega
    ·have hn:¬ ((okN x (61 - l) && okNs r (61 - l))=true∧k+((cntN x+cntNs r:Nat):Int)≤4000):=by
      rintro⟨h1,h2⟩
      simp only[Bool.and_eq_true]at h1
      exact hx ⟨h1.1,by omega⟩
     rw[if_neg hx,ihr _ _ (by omega),if_neg (show ¬ (okNs r (61 - l)=true∧k+4001+(cntNs r:Int)≤4000)by omega),if_neg (show ¬ k+4001≤4000 by omega),if_neg hn,if_pos (show k≤4000 by omega)]
     omega
 rw[sizeN,okN,cnt_mk]
 by_cases hb:60<l∨mostK k<(ks.length:Int)
 ·rw[if_pos hb,if_neg]
  rintro⟨h1,h2⟩
  simp only[Bool.and_eq_true,decide_eq_true_eq]at h1
  omega
 ·rw[if_neg hb,hs ks ih _ _ (by omega)]
  have a1:0<61 - l:=by omega
  have a2:(ks.length:Int)≤mostK k:=by omega
  have a3:61 - (l+1)=61 - l - 1:=by omega
  simp only[a1,a2,decide_true,Bool.true_and,a3]
  by_cases hr:okNs ks (61 - l - 1)=true∧1+(cntNs ks:Int)≤4000
  ·rw[if_pos hr,if_pos ⟨hr.1,by omega⟩];omega
  ·have hn:¬ (okNs ks (61 - l - 1)=true∧cntNs ks+1≤4000):=by
    rintro⟨h1,h2⟩
    exact hr ⟨h1,by omega⟩
   rw[if_neg hr,if_neg hn,if_pos (by decide)]
theorem check_eq(n:Nd):(if withinN n 4000 60<0 then 3 else firstG n)=checkN n:=by
 unfold checkN
 rw[within_eq,sizeN_eq,firstG_eq,show(61:Int) - 1=60 from rfl]
 by_cases h:okN n 60=true∧cntN n≤4000
 ·rw[if_pos (show okN n 60=true∧(cntN n:Int)≤4000 from⟨h.1,by omega⟩),if_pos h,if_neg (by omega),if_neg (by omega)]
 ·rw[if_neg (show ¬ (okN n 60=true∧(cntN n:Int)≤4000)from fun h'=>h ⟨h'.1,by omega⟩),if_neg h]
  rfl
end Go.Vg
namespace Go.Proofs.YtamednbojpnalaaGreatDoor
open Go Go.Vg Go.Proofs
theorem GCheckN(n:Nd)(hs:shortG n):VPure env 53 [.agg n.enc] (.int .i64 (checkN n)):=by
 rw[←check_eq];exact GCheck n hs
end Go.Proofs.YtamednbojpnalaaGreatDoor
