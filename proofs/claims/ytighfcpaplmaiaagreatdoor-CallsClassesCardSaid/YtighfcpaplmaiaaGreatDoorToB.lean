/- grammar.first and Check. -/
import Derived.Test.YtighfcpaplmaiaaGreatDoorTnX
set_option linter.unusedVariables false
set_option linter.unusedSimpArgs false
set_option maxRecDepth 20000
namespace Go.Vg
def nodeG(n:Nd):Int:=if !(knownB n.kind && kidsG n.kind n.kids && spelledG n.kind n.text && n.levels)then 7 else if !calledG n.kind n.text then 4 else if !gapsG n then 7 else 0
mutual
def firstG:Nd→Int
 | .mk k t g ks=>if nodeG (.mk k t g ks)=0 then firstGs ks else nodeG (.mk k t g ks)
def firstGs:List Nd→Int
 | []=>0
 | x::r=>if firstG x=0 then firstGs r else firstG x
end
theorem kidsG_len{k:Int}{ks:List Nd}(h:kidsG k ks=true)(h0:(shp k).first.length≠0→k≠14):(shp k).first.length≤ks.length:=by
 by_cases hz:(shp k).first.length=0
 ·omega
 ·have:=h0 hz
  simp[kidsG,this]at h
  omega
end Go.Vg
namespace Go.Proofs.YtighfcpaplmaiaaGreatDoor
open Go Go.Vg Go.Proofs
theorem levels_pre{k:Int}{ks:List Nd}(hk:1≤k∧k<27)(h:kidsG k ks=true):(k=24→2≤ks.length)∧(k=25∨k=21→1≤ks.length):=by
 refine⟨fun e=>?_,fun e=>?_⟩
 ·subst e;exact kidsG_len h (by decide)
 ·rcases e with rfl | rfl
  ·exact kidsG_len h (by decide)
  ·exact kidsG_len h (by decide)
theorem Gfirst:(n:Nd)→shortG n→VPure env 181 [.agg n.enc] (.int .i64 (firstG n)):=by
 refine Nd.all fun k t g ks ih hs=>?_
 have hnode:firstG (.mk k t g ks)=if nodeG (.mk k t g ks)=0 then firstGs ks else nodeG (.mk k t g ks):=by rw[firstG]
 have hng:nodeG (.mk k t g ks)=if !(knownB k && kidsG k ks && spelledG k t && (Nd.mk k t g ks).levels)then 7 else if !calledG k t then 4 else if !gapsG (.mk k t g ks)then 7 else 0:=rfl
 refine vpure_vc (fn:=Tryz.f181) Tryz.func181 rfl (by rw[Tryz.ntmps181];simp) (by simp -implicitDefEqProofs only[go_sem]) rfl ?_
 simp -implicitDefEqProofs only[go_sem,Tryz.f181]
 refine(Gknown k).calls rfl ?_
 rw[show(decide (1≤k) && decide (k<27))=knownB k from rfl]
 cases h1:knownB k
 ·simp -implicitDefEqProofs only[go_sem]
  rw[hnode,hng,h1];rfl
 have hk:1≤k∧k<27:=by simpa[knownB]using h1
 simp -implicitDefEqProofs only[go_sem]
 refine(Gkids k t g ks hk).calls (by simp -implicitDefEqProofs only[go_sem]) ?_
 cases h2:kidsG k ks
 ·simp -implicitDefEqProofs only[go_sem]
  rw[hnode,hng,h1,h2];rfl
 simp -implicitDefEqProofs only[go_sem]
 refine(Gspelled k t g ks hk).calls (by simp -implicitDefEqProofs only[go_sem]) ?_
 cases h3:spelledG k t
 ·simp -implicitDefEqProofs only[go_sem]
  rw[hnode,hng,h1,h2,h3];rfl
 simp -implicitDefEqProofs only[go_sem]
 refine(Glevels (.mk k t g ks) (levels_pre hk h2).1 (levels_pre hk h2).2).calls (by simp -implicitDefEqProofs only[go_sem]) ?_
 cases h4:(Nd.mk k t g ks).levels
 ·simp -implicitDefEqProofs only[go_sem]
  rw[hnode,hng,h1,h2,h3,h4];rfl
 simp -implicitDefEqProofs only[go_sem]
 refine(Gcalled k t g ks hk).calls (by simp -implicitDefEqProofs only[go_sem]) ?_
 cases h5:calledG k t
 ·simp -implicitDefEqProofs only[go_sem]
  rw[hnode,hng,h1,h2,h3,h4,h5];rfl
 simp -implicitDefEqProofs only[go_sem]
 refine(Ggaps (.mk k t g ks) hk (hs _ (by rw[nodes];exact List.mem_cons_self ..))).calls (by simp -implicitDefEqProofs only[go_sem]) ?_
 cases h6:gapsG (.mk k t g ks)
 ·simp -implicitDefEqProofs only[go_sem]
  rw[hnode,hng,h1,h2,h3,h4,h5,h6];rfl
 have hn0:nodeG (.mk k t g ks)=0:=by rw[hng,h1,h2,h3,h4,h5,h6];rfl
 rw[hnode,if_pos hn0]
 simp -implicitDefEqProofs only[go_sem]
 intro _ _
 refine snd_list (β:=Unit) ks (fun pre _=>⟨[(34,.int .i64 pre.length),(33,.int .i64 ks.length),(32,sl 66 (ks.map Nd.enc)),(2,.int .i64 0),(1,.ptr 0 0)],[VObj.cells (Nd.mk k t g ks).enc],[]⟩)
  (fun pre post _=>firstGs ks=firstGs post) () ?_ rfl ?_ ?_
 ·simp -implicitDefEqProofs only[go_sem]
  try rfl
 ·intro _ hi
  simp -implicitDefEqProofs only[go_sem]
  rw[hi];rfl
 ·intro pre x post _ hx hi
  have hpl:ks.length=pre.length+1+post.length:=by rw[hx];simp;omega
  have hgx:(ks.map Nd.enc).getD (pre.length:Int).toNat []=x.enc:=by rw[hx];simp[List.getD_eq_getElem?_getD]
  have hw:IntKind.i64.wrap (↑pre.length+1)=↑(pre.length+1):=wrap_next (by omega)
  have hlt:((pre.length:Int)<ks.length)=True:=by simp;omega
  have hm:x∈ks:=by rw[hx];simp
  rw[hi,firstGs]
  simp -implicitDefEqProofs only[go_sem,hgx,hlt]
  refine(ih x hm (shortG_kid hs hm)).calls (by simp -implicitDefEqProofs only[go_sem]) ?_
  simp -implicitDefEqProofs only[go_sem]
  refine⟨fun h=>?_,fun h=>⟨(),by rw[if_pos (by simpa using h)],hw⟩⟩
  rw[if_neg (by simpa using h)]
theorem GCheck(n:Nd)(hs:shortG n):VPure env 140 [.agg n.enc] (.int .i64 (if withinN n 4000 60<0 then 3 else firstG n)):=by
 refine vpure_vc (fn:=Tryz.f140) Tryz.func140 rfl (by rw[Tryz.ntmps140];simp) (by simp -implicitDefEqProofs only[go_sem]) rfl ?_
 simp -implicitDefEqProofs only[go_sem,Tryz.f140]
 refine(Gwithin n 4000 60 (by omega) (by omega) (by omega)).calls (by simp -implicitDefEqProofs only[go_sem]) ?_
 simp -implicitDefEqProofs only[go_sem]
 refine⟨fun h=>?_,fun h=>?_⟩
 ·rw[if_pos h]
 ·refine(Gfirst n hs).calls (by simp -implicitDefEqProofs only[go_sem]) ?_
  simp -implicitDefEqProofs only[go_sem]
  rw[if_neg h]
end Go.Proofs.YtighfcpaplmaiaaGreatDoor
set_option maxRecDepth 20000
namespace Go.Vg
open Go
theorem shp1:shp 1=⟨[],0,1,0,[],1⟩:=rfl
theorem shp2:shp 2=⟨[(3,0),(5,0),(6,0)],0,0,1,[],2⟩:=rfl
theorem shp3:shp 3=⟨[],4,0,0,[],2⟩:=rfl
theorem shp4:shp 4=⟨[(5,0)],0,0,1,[],1⟩:=rfl
theorem shp5:shp 5=⟨[],0,0,1,[],1⟩:=rfl
theorem shp6:shp 6=⟨[],0,2,0,[],2⟩:=rfl
theorem shp7:shp 7=⟨[(8,0)],2,0,1,[],4⟩:=rfl
theorem shp8:shp 8=⟨[],0,0,2,[],2⟩:=rfl
theorem shp9:shp 9=⟨[(0,3)],0,0,1,[],4⟩:=rfl
theorem shp10:shp 10=⟨[(0,3)],0,0,1,[],4⟩:=rfl
theorem shp11:shp 11=⟨[(0,3)],0,0,1,[],3⟩:=rfl
theorem shp12:shp 12=⟨[(0,3)],0,0,0,[],2⟩:=rfl
theorem shp13:shp 13=⟨[(0,3),(6,0),(14,0)],0,0,0,[],1⟩:=rfl
theorem shp14:shp 14=⟨[(6,0)],0,0,0,[],1⟩:=rfl
theorem shp15:shp 15=⟨[(0,3),(6,0)],0,0,0,[],1⟩:=rfl
theorem shp16:shp 16=⟨[(0,3)],0,0,0,[],1⟩:=rfl
theorem shp17:shp 17=⟨[],0,0,3,[],1⟩:=rfl
theorem shp18:shp 18=⟨[],0,0,4,[⟨#[116,114,117,101]⟩,⟨#[102,97,108,115,101]⟩],1⟩:=rfl
theorem shp19:shp 19=⟨[],0,0,1,[],1⟩:=rfl
theorem shp20:shp 20=⟨[],0,3,1,[],3⟩:=rfl
theorem shp21:shp 21=⟨[(0,3)],0,3,1,[],4⟩:=rfl
theorem shp22:shp 22=⟨[],0,0,1,[],4⟩:=rfl
theorem shp23:shp 23=⟨[],0,0,4,[⟨#[115,101,108,102]⟩],1⟩:=rfl
theorem shp24:shp 24=⟨[(0,3),(0,3)],0,0,4,[⟨#[124]⟩,⟨#[38]⟩,⟨#[61,61]⟩,⟨#[60]⟩,⟨#[43]⟩,⟨#[45]⟩,⟨#[42]⟩,⟨#[47]⟩],1⟩:=rfl
theorem shp25:shp 25=⟨[(0,3)],0,0,4,[⟨#[45]⟩,⟨#[33]⟩],1⟩:=rfl
theorem shp26:shp 26=⟨[(0,3)],0,0,0,[],2⟩:=rfl
theorem known_cases{k:Int}(h:knownB k=true):k=1∨k=2∨k=3∨k=4∨k=5∨k=6∨k=7∨k=8∨k=9∨k=10∨k=11∨k=12∨k=13∨k=14∨k=15∨k=16∨k=17∨k=18∨k=19∨k=20∨k=21∨k=22∨k=23∨k=24∨k=25∨k=26:=by
 simp[knownB]at h;omega
theorem least_len{k:Int}(h:knownB k=true)(h14:k≠14):leastK k=((shp k).first.length:Int):=by
 rcases known_cases h with rfl | rfl | rfl | rfl | rfl | rfl | rfl | rfl | rfl | rfl | rfl | rfl | rfl | rfl | rfl | rfl | rfl | rfl | rfl | rfl | rfl | rfl | rfl | rfl | rfl | rfl <;> first | rfl | exact absurd rfl h14
theorem pt_cases(i:Int)(h:0≤i):i=0∨i=1∨i=2∨3≤i:=by omega
theorem group_known(c:Int):groupK c=0∨(1≤c∧c<27):=by
 unfold groupK
 repeat' split
 all_goals omega
theorem fitsG_eq{k:Int}(h:knownB k=true)(i c:Int)(hi:0≤i):fitsG k i c=fitsK k i c:=by
 have hg:=group_known c
 rcases pt_cases i hi with rfl | rfl | rfl | h3
 rotate_right
 ·have n0:¬ i<0:=by omega
  have n1:¬ i<1:=by omega
  have n2:¬ i<2:=by omega
  have n3:¬ i<3:=by omega
  have m0:¬ i=0:=by omega
  have m1:¬ i=1:=by omega
  have m2:¬ i=2:=by omega
  have p0:0<i:=by omega
  rcases known_cases h with rfl | rfl | rfl | rfl | rfl | rfl | rfl | rfl | rfl | rfl | rfl | rfl | rfl | rfl | rfl | rfl | rfl | rfl | rfl | rfl | rfl | rfl | rfl | rfl | rfl | rfl
  all_goals(simp only[fitsG,ptAt,fitsK,shp1,shp2,shp3,shp4,shp5,shp6,shp7,shp8,shp9,shp10,shp11,shp12,shp13,shp14,shp15,shp16,shp17,shp18,shp19,shp20,shp21,shp22,shp23,shp24,shp25,shp26,List.length_cons,List.length_nil];rw[Bool.eq_iff_iff];simp[knownB,n0,n1,n2,n3,m0,m1,m2,p0,hi])
  all_goals omega
 all_goals
  rcases known_cases h with rfl | rfl | rfl | rfl | rfl | rfl | rfl | rfl | rfl | rfl | rfl | rfl | rfl | rfl | rfl | rfl | rfl | rfl | rfl | rfl | rfl | rfl | rfl | rfl | rfl | rfl
  all_goals(simp only[fitsG,ptAt,fitsK,shp1,shp2,shp3,shp4,shp5,shp6,shp7,shp8,shp9,shp10,shp11,shp12,shp13,shp14,shp15,shp16,shp17,shp18,shp19,shp20,shp21,shp22,shp23,shp24,shp25,shp26,List.length_cons,List.length_nil];rw[Bool.eq_iff_iff];simp[knownB])
  all_goals omega
theorem kidsFit_eq{k:Int}(h:knownB k=true):∀ (ks:List Nd) (i:Nat),kidsFit k ks i=fitsFrom k ks i
 | [],i=>rfl
 | x::r,i=>by
  rw[kidsFit,fitsFrom,fitsG_eq h _ _ (by omega),kidsFit_eq h r (i+1)]
  rfl
theorem spelled_eq{k:Int}(h:knownB k=true)(t:ByteArray):spelledG k t=(namedK k t || wordK k t):=by
 rcases known_cases h with rfl | rfl | rfl | rfl | rfl | rfl | rfl | rfl | rfl | rfl | rfl | rfl | rfl | rfl | rfl | rfl | rfl | rfl | rfl | rfl | rfl | rfl | rfl | rfl | rfl | rfl
 all_goals(simp only[spelledG,namedK,wordK,levelK,opLevel,shp1,shp2,shp3,shp4,shp5,shp6,shp7,shp8,shp9,shp10,shp11,shp12,shp13,shp14,shp15,shp16,shp17,shp18,shp19,shp20,shp21,shp22,shp23,shp24,shp25,shp26])
 all_goals(try(simp;done))
 all_goals(try(simp;grind))
theorem called_eq{k:Int}(h:knownB k=true)(t:ByteArray):calledG k t = !((decide (k=17) && !intB t) || (!decide (k=17) && namedK k t && !validName t)):=by
 rcases known_cases h with rfl | rfl | rfl | rfl | rfl | rfl | rfl | rfl | rfl | rfl | rfl | rfl | rfl | rfl | rfl | rfl | rfl | rfl | rfl | rfl | rfl | rfl | rfl | rfl | rfl | rfl
 all_goals(simp only[calledG,shp1,shp2,shp3,shp4,shp5,shp6,shp7,shp8,shp9,shp10,shp11,shp12,shp13,shp14,shp15,shp16,shp17,shp18,shp19,shp20,shp21,shp22,shp23,shp24,shp25,shp26])
 all_goals(simp[namedK])
theorem fitsFrom_get{k:Int}:∀ {ks:List Nd} {i:Int},fitsFrom k ks i=true→∀ (j:Nat) x,ks[j]? = some x→fitsK k (i+j) x.kind=true
 | [],i,h,j,x,hx=>by simp at hx
 | y::r,i,h,j,x,hx=>by
  rw[fitsFrom,Bool.and_eq_true]at h
  match j with
  | 0=>simp at hx;subst hx;simpa using h.1
  | j+1 =>
   have:=fitsFrom_get h.2 j x (by simpa using hx)
   rw[←this];congr 1;omega
theorem kids_eq{k:Int}(h:knownB k=true)(ks:List Nd):kidsG k ks=(!decide ((ks.length:Int)<leastK k) && fitsFrom k ks 0):=by
 have hF:=kidsFit_eq h ks 0
 have hfar:(shp k).rk=0∧(shp k).rg=0→(shp k).first.length<ks.length→fitsFrom k ks 0=false:=fun hr hl=>by
  cases hc:fitsFrom k ks 0 with
  | false=>rfl
  | true =>
   have:=fitsFrom_get hc (shp k).first.length _ (List.getElem?_eq_getElem hl)
   rw[Int.zero_add,←fitsG_eq h _ _ (by omega)]at this
   simp[fitsG,ptAt,hr]at this
   have hk:=this.1.2
   simp[knownB]at hk
   have:=this.2
   omega
 unfold kidsG
 rw[hF]
 by_cases h14:k=14
 ·subst h14
  have hl:leastK 14=0:=rfl
  rw[hl,show((0:Nat):Int)=0 from rfl]
  have hfar:=hfar ⟨rfl,rfl⟩
  have hf1:(shp 14).first.length=1:=rfl
  rw[hf1]at hfar ⊢
  have hr:((shp 14).rk=0∧(shp 14).rg=0)=True:=by simp[shp14]
  simp only[hr]
  rcases ks with _ | ⟨x,_ | ⟨y,r⟩⟩
  ·simp[fitsFrom]
  ·simp
  ·have:=hfar (by simp)
   simp[this]
 ·rw[least_len h h14]
  simp only[h14,decide_false,Bool.false_and,Bool.false_or]
  by_cases hl:ks.length<(shp k).first.length
  ·have:((ks.length:Int)<((shp k).first.length:Int)):=by omega
   simp[hl]
  ·have h':¬ ((ks.length:Int)<((shp k).first.length:Int)):=by omega
   simp only[hl,h',decide_false,Bool.false_or,Bool.not_false,Bool.true_and]
   by_cases hr:(shp k).rk=0∧(shp k).rg=0
   ·by_cases hl2:(shp k).first.length<ks.length
    ·simp[hfar hr hl2]
    ·simp[hl2]
   ·simp[hr]
theorem node_eq(n:Nd):nodeG n=n.node:=by
 obtain⟨k,t,g,ks⟩:=n
 have e1:(Nd.mk k t g ks).shape=(knownB k && kidsG k ks && spelledG k t && (Nd.mk k t g ks).levels):=by
  by_cases h:knownB k=true
  ·have hk:1≤k∧k<27:=by simpa[knownB]using h
   have h1:¬ k<1:=by omega
   have h2:¬ 26<k:=by omega
   simp only[Nd.shape,Nd.kind,Nd.kids,Nd.text,h1,h2,h,kids_eq h,spelled_eq h,decide_false,Bool.not_false,Bool.true_and,Bool.and_assoc]
   rfl
  ·have h':knownB k=false:=by simpa using h
   rw[h']
   have:¬ (1≤k∧k<27):=by simpa[knownB]using h
   simp only[Nd.shape,Nd.kind,Nd.kids,Nd.text,Bool.false_and]
   by_cases h1:k<1
   ·simp[h1]
   ·have:26<k:=by omega
    simp[this]
 have hng:nodeG (.mk k t g ks)=if !(knownB k && kidsG k ks && spelledG k t && (Nd.mk k t g ks).levels)then 7 else if !calledG k t then 4 else if !gapsG (.mk k t g ks)then 7 else 0:=rfl
 have hnn:(Nd.mk k t g ks).node=if !(Nd.mk k t g ks).shape then 7 else if(decide (k=17) && !intB t) || (!decide (k=17) && namedK k t && !validName t)then 4
  else if 0<g.length∧(g.length:Int)≠(Nd.mk k t g ks).own then 7 else if g.all triviaB then 0 else 7:=rfl
 rw[hng,hnn,e1]
 by_cases hs:(knownB k && kidsG k ks && spelledG k t && (Nd.mk k t g ks).levels)=true
 ·have hk:knownB k=true:=by simp[Bool.and_eq_true]at hs;exact hs.1.1.1
  rw[hs,called_eq hk]
  simp only[Bool.not_true,Bool.false_eq_true,if_false,Bool.not_not]
  congr 1
  by_cases hg:g.length=0
  ·have:g=[]:=List.eq_nil_of_length_eq_zero hg
   subst this
   simp[gapsG,Nd.gaps]
  ·have h0:0<g.length:=by omega
   have e:gapsG (.mk k t g ks)=(g.all triviaB && decide ((g.length:Int)=(Nd.mk k t g ks).own)):=by
    have:g≠[]:=by rintro rfl;simp at hg
    simp[gapsG,Nd.gaps,this]
    rfl
   rw[e]
   by_cases ho:(g.length:Int)=(Nd.mk k t g ks).own
   ·simp only[ho,decide_true,Bool.and_true,h0,true_and,ne_eq,not_true_eq_false,if_false]
    cases g.all triviaB <;> rfl
   ·simp[ho,h0]
 ·have:(knownB k && kidsG k ks && spelledG k t && (Nd.mk k t g ks).levels)=false:=by simpa using hs
  rw[this]
  rfl
theorem firstG_eq:∀ n:Nd,firstG n=firstN n:=by
 refine Nd.all fun k t g ks ih=>?_
 have hs:∀ l:List Nd,(∀ x∈l,firstG x=firstN x)→firstGs l=firstNs l:=by
  intro l
  induction l with
  | nil=>intro _;rfl
  | cons x r ihr =>
   intro h
   rw[firstGs,firstNs,h x (by simp),ihr fun y hy=>h y (by simp[hy])]
 rw[firstG,firstN,node_eq,hs ks ih]
mutual
def okN:Nd→Int→Bool
 | .mk k t g ks,d=>decide (0<d) && decide ((ks.length:Int)≤mostK k) && okNs ks (d - 1)
def okNs:List Nd→Int→Bool
 | [],_=>true
 | x::r,d=>okN x d && okNs r d
end
def cntN(n:Nd):Nat:=(nodes n).length
def cntNs(l:List Nd):Nat:=(nodesL l).length
theorem cnt_mk{k t g ks}:cntN (.mk k t g ks)=cntNs ks+1:=by simp[cntN,cntNs,nodes]
theorem cnt_cons{x:Nd}{r:List Nd}:cntNs (x::r)=cntN x+cntNs r:=by simp[cntN,cntNs,nodesL]
theorem cnt_pos(n:Nd):1≤cntN n:=by obtain⟨k,t,g,ks⟩:=n;rw[cnt_mk];omega
theorem within_eq:∀ (n:Nd) (l d:Int),withinN n l d=if okN n d=true∧(cntN n:Int)≤l then l - cntN n else -1:=by
 refine Nd.all fun k t g ks ih l d=>?_
 have hs:∀ (r:List Nd),(∀ x∈r,∀ (l d:Int),withinN x l d=if okN x d=true∧(cntN x:Int)≤l then l - cntN x else -1)→∀ (l d:Int),0≤l→withinNs r l d=if okNs r d=true∧(cntNs r:Int)≤l then l - cntNs r else -1:=by
  intro r
  induction r with
  | nil=>intro _ l d hl;simp[withinNs,okNs,cntNs,nodesL,hl]
  | cons x r ihr =>
   intro h l d hl
   have ihr:=ihr fun y hy=>h y (by simp[hy])
   rw[withinNs,h x (by simp),okNs,cnt_cons]
   by_cases hx:okN x d=true∧(cntN x:Int)≤l
   ·rw[if_pos hx,if_neg (by omega),ihr _ _ (by omega)]
    by_cases hr:okNs r d=true∧(cntNs r:Int)≤l - cntN x
    ·rw[if_pos hr,if_pos ⟨by simp[hx.1,hr.1],by omega⟩];omega
    ·rw[if_neg hr,if_neg]
     rintro⟨h1,h2⟩
     simp only[Bool.and_eq_true]at h1
     exact hr ⟨h1.2,by omega⟩
   ·rw[if_neg hx,if_pos (by omega),if_neg]
    rintro⟨h1,h2⟩
    simp only[Bool.and_eq_true]at h1
    exact hx ⟨h1.1,by omega⟩
 rw[withinN,okN,cnt_mk]
 by_cases hb:l≤0∨d≤0∨mostK k<(ks.length:Int)
 ·rw[if_pos hb,if_neg]
  rintro⟨h1,h2⟩
  simp only[Bool.and_eq_true,decide_eq_true_eq]at h1
  omega
 ·rw[if_neg hb,hs ks ih _ _ (by omega)]
  have a1:0<d:=by omega
  have a2:(ks.length:Int)≤mostK k:=by omega
  simp only[a1,a2,decide_true,Bool.true_and]
  by_cases hr:okNs ks (d - 1)=true∧(cntNs ks:Int)≤l - 1
  ·rw[if_pos hr,if_pos ⟨hr.1,by omega⟩];omega
  ·rw[if_neg hr,if_neg]
   rintro⟨h1,h2⟩
   exact hr ⟨h1,by omega⟩
theorem sizeN_eq:∀ (n:Nd) (l:Int),sizeN n l=if okN n (61 - l)=true∧cntN n≤4000 then(cntN n:Int)else 4001:=by
 refine Nd.all fun k t g ks ih l=>?_
 have hs:∀ (r:List Nd),(∀ x∈r,∀ (l:Int),sizeN x l=if okN x (61 - l)=true∧cntN x≤4000 then(cntN x:Int)else 4001)→∀ (k l:Int),1≤k→min (sizesN r k l) 4001=if okNs r (61 - l)=true∧k+(cntNs r:Int)≤4000 then k+(cntNs r:Int)else if k≤4000 then 4001 else min k 4001:=by
  intro r
  induction r with
  | nil =>
   intro _ k l hk
   simp only[sizesN,okNs,cntNs,nodesL,List.length_nil,true_and]
   by_cases h:k≤4000
   ·rw[if_pos (by omega)];omega
   ·rw[if_neg (by omega),if_neg h]
  | cons x r ihr =>
   intro h k l hk
   have ihr:=ihr fun y hy=>h y (by simp[hy])
   have hp:=cnt_pos x
   rw[sizesN,okNs,cnt_cons,h x (by simp)]
   by_cases hk4:4000<k
   ·rw[if_pos hk4,if_neg (by omega),if_neg (by omega)]
   ·rw[if_neg hk4]
    by_cases hx:okN x (61 - l)=true∧cntN x≤4000
    ·rw[if_pos hx,ihr _ _ (by omega)]
     by_cases hr:okNs r (61 - l)=true∧k+(cntN x:Int)+(cntNs r:Int)≤4000
     ·rw[if_pos hr,if_pos ⟨by simp[hx.1,hr.1],by omega⟩];omega
     ·have hn:¬ ((okN x (61 - l) && okNs r (61 - l))=true∧k+((cntN x+cntNs r:Nat):Int)≤4000):=by
       rintro⟨h1,h2⟩
       simp only[Bool.and_eq_true]at h1
       exact hr ⟨h1.2,by omega⟩
      rw[if_neg hr,if_neg hn,if_pos (show k≤4000 by omega)]
      split <;> omega
    ·have hn:¬ ((okN x (61 - l) && okNs r (61 - l))=true∧k+((cntN x+cntNs r:Nat):Int)≤4000):=by
      rintro⟨h1,h2⟩
      simp only[Bool.and_eq_true]at h1
      exact hx ⟨h1.1,by omega⟩
     rw[if_neg hx,ihr _ _ (by omega),if_neg (show ¬ (okNs r (61 - l)=true∧k+4001+(cntNs r:Int)≤4000)by omega),if_neg (show ¬ k+4001≤4000 by omega),if_neg hn,if_pos (show k≤4000 by omega)]
     omega
 rw[sizeN,okN,cnt_mk]
 by_cases hb:60<l∨mostK k<(ks.length:Int)
 ·rw[if_pos hb,if_neg]
  rintro⟨h1,h2⟩
  simp only[Bool.and_eq_true,decide_eq_true_eq]at h1
  omega
 ·rw[if_neg hb,hs ks ih _ _ (by omega)]
  have a1:0<61 - l:=by omega
  have a2:(ks.length:Int)≤mostK k:=by omega
  have a3:61 - (l+1)=61 - l - 1:=by omega
  simp only[a1,a2,decide_true,Bool.true_and,a3]
  by_cases hr:okNs ks (61 - l - 1)=true∧1+(cntNs ks:Int)≤4000
  ·rw[if_pos hr,if_pos ⟨hr.1,by omega⟩];omega
  ·have hn:¬ (okNs ks (61 - l - 1)=true∧cntNs ks+1≤4000):=by
    rintro⟨h1,h2⟩
    exact hr ⟨h1,by omega⟩
   rw[if_neg hr,if_neg hn,if_pos (by decide)]
theorem check_eq(n:Nd):(if withinN n 4000 60<0 then 3 else firstG n)=checkN n:=by
 unfold checkN
 rw[within_eq,sizeN_eq,firstG_eq,show(61:Int) - 1=60 from rfl]
 by_cases h:okN n 60=true∧cntN n≤4000
 ·rw[if_pos (show okN n 60=true∧(cntN n:Int)≤4000 from⟨h.1,by omega⟩),if_pos h,if_neg (by omega),if_neg (by omega)]
 ·rw[if_neg (show ¬ (okN n 60=true∧(cntN n:Int)≤4000)from fun h'=>h ⟨h'.1,by omega⟩),if_neg h]
  rfl
end Go.Vg
namespace Go.Proofs.YtighfcpaplmaiaaGreatDoor
open Go Go.Vg Go.Proofs
theorem GCheckN(n:Nd)(hs:shortG n):VPure env 140 [.agg n.enc] (.int .i64 (checkN n)):=by
 rw[←check_eq];exact GCheck n hs
end Go.Proofs.YtighfcpaplmaiaaGreatDoor
set_option maxRecDepth 20000
namespace Go.Vg
end Go.Vg
namespace Go.Proofs.YtighfcpaplmaiaaGreatDoor
open Go Go.Vg Go.Proofs
theorem Tsound(x:Un)(hs:shortG x.tree):VPure env 87 [.agg x.enc] (.bool (soundB x)):=by
 refine vpure_vc (fn:=Tryz.f87) Tryz.func87 rfl (by rw[Tryz.ntmps87];simp) (by simp -implicitDefEqProofs only[go_sem]) rfl ?_
 simp -implicitDefEqProofs only[go_sem,Tryz.f87]
 refine⟨fun hb=>⟨fun hk=>?_,fun hk=>by simp[soundB,hk]⟩,fun hb=>by simp_all [soundB]⟩
 refine(GCheckN x.tree hs).calls (by simp -implicitDefEqProofs only[go_sem]) ?_
 simp -implicitDefEqProofs only[go_sem]
 simp_all [soundB]
theorem rwe_pure(r:Rw):pureL r.enc=true:=by
 simp -implicitDefEqProofs only[Rw.enc,go_sem];exact kids_pure _
theorem rwe_share(r:Rw):List.map share1 r.enc=r.enc:=by simp -implicitDefEqProofs only[Rw.enc,go_sem]
theorem tab_get{tabs:List (List V)}{un:Nat}{x:List V}(h:tabs[un]? = some x):tabs.getD (un:Int).toNat []=x∧((un:Int)<tabs.length)=True:=by
 have:=(List.getElem?_eq_some_iff.1 h).1
 exact⟨by simp[List.getD_eq_getElem?_getD,h],by simp;exact this⟩
end Go.Proofs.YtighfcpaplmaiaaGreatDoor
set_option maxRecDepth 20000
namespace Go.Vg
def baseL:List Nd→Int→Nd×Int
 | [],_=>(Nd.zero,0)
 | x::r,k=>if x.kind=8 then(x,k)else baseL r (k+(nodes x).length)
theorem declT_of{k:Int}{t:ByteArray}{u m:Int}{x:Ar}{d:Dl}(h:declT k t u m x=some d):d.unit=u∧d.node=m∧d.name=t∧(d.kind=2→k=7)∧(d.kind=1∨d.kind=4→k=2):=by
 unfold declT at h
 repeat' split at h
 all_goals first | (cases h;done) | (cases h;simp;try omega)
def placed(n:Nd)(m:Nat)(d:Dl):Prop:=∃ j y,d.node=((m+j:Nat):Int)∧(nodes n)[j]? = some y∧d.name=y.text∧(d.kind=2→y.kind=7)∧(d.kind=1∨d.kind=4→y.kind=2)
theorem walkD_at:∀ (n:Nd) (u:Int) (m:Nat) (x:Ar) (d:Dl),d∈walkD n u m x→d.unit=u∧placed n m d:=by
 refine Nd.all fun k t g ks ih u m x d hd=>?_
 have hs:∀ (l:List Nd),(∀ y∈l,∀ (u:Int) (m:Nat) (x:Ar) (d:Dl),d∈walkD y u m x→d.unit=u∧placed y m d)→∀ (m:Nat) (x:Ar) (d:Dl),d∈walkDs l u m x →
   d.unit=u∧∃ j y,d.node=((m+j:Nat):Int)∧(nodesL l)[j]? = some y∧d.name=y.text∧(d.kind=2→y.kind=7)∧(d.kind=1∨d.kind=4→y.kind=2):=by
  intro l
  induction l with
  | nil=>intro _ m x d hd;simp[walkDs]at hd
  | cons z r ihr =>
   intro h m x d hd
   rw[walkDs,List.mem_append]at hd
   rcases hd with hd | hd
   ·obtain⟨h1,j,y,h2,h3,h4⟩:=h z (by simp) u m x d hd
    refine⟨h1,j,y,h2,?_,h4⟩
    rw[nodesL,List.getElem?_append_left (List.getElem?_eq_some_iff.1 h3).1];exact h3
   ·obtain⟨h1,j,y,h2,h3,h4⟩:=ihr (fun y hy=>h y (by simp[hy])) _ x d hd
    refine⟨h1,(nodes z).length+j,y,by rw[h2,Nat.add_assoc],?_,h4⟩
    rw[nodesL,List.getElem?_append_right (by omega)];simpa using h3
 rw[walkD,List.mem_append]at hd
 rcases hd with hd | hd
 ·cases hdt:declT k t u m x with
  | none=>rw[hdt]at hd;cases hd
  | some d' =>
   rw[hdt]at hd
   simp at hd
   subst hd
   obtain⟨h1,h2,h3,h4⟩:=declT_of hdt
   exact⟨h1,0,.mk k t g ks,by simpa using h2,by simp[nodes],h3,h4⟩
 ·obtain⟨h1,j,y,h2,h3,h4⟩:=hs ks ih _ _ d hd
  exact⟨h1,j+1,y,by rw[h2];congr 1;omega,by simpa[nodes]using h3,h4⟩
theorem declsU_at:∀ (u:List Un) (i:Nat) (d:Dl),d∈declsU u i→∃ un x,d.unit=((i+un:Nat):Int)∧u[un]? = some x∧x.broken=false∧placed x.tree 0 d
 | [],i,d,h=>by simp[declsU]at h
 | x::r,i,d,h=>by
  rw[declsU,List.mem_append]at h
  rcases h with h | h
  ·split at h
   ·cases h
   ·rename_i hb
    obtain⟨h1,h2⟩:=walkD_at x.tree i 0 Ar.none d h
    exact⟨0,x,by simpa using h1,rfl,by simpa using hb,h2⟩
  ·obtain⟨un,y,h1,h2,h3⟩:=declsU_at r (i+1) d h
   exact⟨un+1,y,by rw[h1];congr 1;omega,by simpa using h2,h3⟩
theorem nodes_le:∀ (n y:Nd),y∈nodes n→(nodes y).length≤(nodes n).length:=by
 refine Nd.all fun k t g ks ih y hy=>?_
 have hs:∀ (l:List Nd),(∀ z∈l,∀ y∈nodes z,(nodes y).length≤(nodes z).length)→∀ y∈nodesL l,(nodes y).length≤(nodesL l).length:=by
  intro l
  induction l with
  | nil=>intro _ y hy;simp[nodesL]at hy
  | cons z r ihr =>
   intro h y hy
   rw[nodesL,List.mem_append]at hy
   rw[nodesL,List.length_append]
   rcases hy with hy | hy
   ·have:=h z (by simp) y hy;omega
   ·have:=ihr (fun w hw=>h w (by simp[hw])) y hy;omega
 rw[nodes]at hy
 rcases List.mem_cons.1 hy with rfl | hy
 ·exact Nat.le_refl _
 ·have:=hs ks (fun z hz y hy=>ih z hz y hy) y hy
  rw[nodes_mk];omega
theorem kid_nodes{k t g}{ks:List Nd}{x:Nd}(hx:x∈ks):(nodes x).length≤(nodes (.mk k t g ks)).length:=by
 refine nodes_le _ _ (mem_kid hx ?_)
 obtain⟨a,b,c,d⟩:=x
 rw[nodes];simp
theorem kids_nodes:∀ ks:List Nd,ks.length≤(nodesL ks).length
 | []=>Nat.le_refl _
 | x::r=>by
  have:=kids_nodes r
  have h1:=cnt_pos x
  unfold cntN at h1
  rw[nodesL,List.length_append,List.length_cons];omega
theorem baseL_fst:∀ (l:List Nd) (a b:Int),(baseL l a).1=(baseL l b).1
 | [],_,_=>rfl
 | x::r,a,b=>by
  rw[baseL,baseL]
  split
  ·rfl
  ·exact baseL_fst r _ _
def btU(u:List Un)(d:Dl):ByteArray:=match u[d.unit.toNat]? with
 | some x=>match(nodes x.tree)[d.node.toNat]? with
  | some n=>(baseL n.kids 0).1.text
  | none=>⟨#[]⟩
 | none=>⟨#[]⟩
def mapB(B:List (ByteArray×ByteArray)):List (V×V):=B.map fun p=>(.str p.1,.str p.2)
def getB(B:List (ByteArray×ByteArray))(n:ByteArray):Option ByteArray:=(B.find? fun p=>decide (p.1=n)).map (·.2)
def supB(B:List (ByteArray×ByteArray))(cls:ByteArray):Nat→List ByteArray→ByteArray→List ByteArray×ByteArray
 | 0,out,next=>(out,next)
 | f+1,out,next=>if(decide (next=⟨#[]⟩) || !(getB B next).isSome || (cls::out).any fun x=>decide (x=next))=true then(out,next)else supB B cls f (out++[next]) ((getB B next).getD ⟨#[]⟩)
theorem findB(n:ByteArray):∀ (B:List (ByteArray×ByteArray)) (i:Nat),(∃ j v,findV .string (.str n) (mapB B) i=some (some (j,.str v))∧getB B n=some v)∨(findV .string (.str n) (mapB B) i=some none∧getB B n=none)
 | [],i => .inr ⟨rfl,rfl⟩
 | (a,b)::r,i=>by
  by_cases h:a=n
  ·subst h
   refine .inl ⟨i,b,?_,by simp[getB]⟩
   simp only[mapB,List.map_cons,findV,sameV]
   have:(a == a)=true:=(MapKept.bytes_beq a a).2 rfl
   rw[this]
  ·have h2:(n == a)=false:=by
    cases hc:(n == a)with
    | false=>rfl
    | true=>exact absurd ((MapKept.bytes_beq n a).1 hc).symm h
   have e:findV .string (.str n) (mapB ((a,b)::r)) i=findV .string (.str n) (mapB r) (i+1):=by
    simp only[mapB,List.map_cons,findV,sameV,h2]
   have e2:getB ((a,b)::r) n=getB r n:=by simp[getB,h]
   rw[e,e2]
   exact findB n r (i+1)
theorem getB_mem{B:List (ByteArray×ByteArray)}{n:ByteArray}(h:(getB B n).isSome=true):n∈B.map (·.1):=by
 unfold getB at h
 cases hf:B.find? fun p=>decide (p.1=n)with
 | none=>rw[hf]at h;cases h
 | some p =>
  have h1:=List.mem_of_find?_eq_some hf
  have h2:=List.find?_some hf
  exact List.mem_map.2 ⟨p,h1,by simpa using h2⟩
theorem pigeon{α:Type}[DecidableEq α]:∀ (l m:List α),l.Nodup→(∀ x∈l,x∈m)→l.length≤m.length
 | [],m,_,_=>Nat.zero_le _
 | x::l,m,hn,hm=>by
  have hx:=hm x (by simp)
  have h1:=pigeon l (m.erase x) (List.nodup_cons.1 hn).2 fun y hy=>by
   refine(List.mem_erase_of_ne ?_).2 (hm y (by simp[hy]))
   rintro rfl;exact(List.nodup_cons.1 hn).1 hy
  have h2:=List.length_erase_of_mem hx
  have h3:=List.length_pos_of_mem hx
  simp only[List.length_cons];omega
def seenM(l:List ByteArray):List (V×V):=l.map fun x=>(.str x,.bool true)
theorem findS(n:ByteArray):∀ (l:List ByteArray) (i:Nat),(∃ j,findV .string (.str n) (seenM l) i=some (some (j,.bool true))∧(l.any fun x=>decide (x=n))=true)∨(findV .string (.str n) (seenM l) i=some none∧(l.any fun x=>decide (x=n))=false)
 | [],i => .inr ⟨rfl,rfl⟩
 | a::r,i=>by
  by_cases h:a=n
  ·subst h
   refine .inl ⟨i,?_,by simp⟩
   simp only[seenM,List.map_cons,findV,sameV]
   have:(a == a)=true:=(MapKept.bytes_beq a a).2 rfl
   rw[this]
  ·have h2:(n == a)=false:=by
    cases hc:(n == a)with
    | false=>rfl
    | true=>exact absurd ((MapKept.bytes_beq n a).1 hc).symm h
   have e:findV .string (.str n) (seenM (a::r)) i=findV .string (.str n) (seenM r) (i+1):=by
    simp only[seenM,List.map_cons,findV,sameV,h2]
   have e2:((a::r).any fun x=>decide (x=n))=r.any fun x=>decide (x=n):=by simp[h]
   rw[e,e2]
   exact findS n r (i+1)
end Go.Vg
namespace Go.Proofs.YtighfcpaplmaiaaGreatDoor
open Go Go.Vg Go.Proofs
theorem look_B{B:List (ByteArray×ByteArray)}{n:ByteArray}{K:V→Prop}:vLookF env 9 (findV .string (.str n) (mapB B) 0) false K=K (.str ((getB B n).getD ⟨#[]⟩)):=by
 rcases findB n B 0 with⟨j,v,h1,h2⟩ | ⟨h1,h2⟩
 ·rw[h1,h2];simp -implicitDefEqProofs only[go_sem];rfl
 ·rw[h1,h2];simp -implicitDefEqProofs only[go_sem];rfl
theorem look_B2{B:List (ByteArray×ByteArray)}{n:ByteArray}{K:V→Prop}:vLookF env 9 (findV .string (.str n) (mapB B) 0) true K=K (.tuple [.str ((getB B n).getD ⟨#[]⟩),.bool (getB B n).isSome]):=by
 rcases findB n B 0 with⟨j,v,h1,h2⟩ | ⟨h1,h2⟩
 ·rw[h1,h2];simp -implicitDefEqProofs only[go_sem];rfl
 ·rw[h1,h2];simp -implicitDefEqProofs only[go_sem];rfl
theorem look_S{l:List ByteArray}{n:ByteArray}{K:V→Prop}:vLookF env 4 (findV .string (.str n) (seenM l) 0) false K=K (.bool (l.any fun x=>decide (x=n))):=by
 rcases findS n l 0 with⟨j,h1,h2⟩ | ⟨h1,h2⟩
 ·rw[h1,h2];simp -implicitDefEqProofs only[go_sem]
 ·rw[h1,h2];simp -implicitDefEqProofs only[go_sem];rfl
theorem set_S{l:List ByteArray}{n:ByteArray}{h:List VObj}{id:Nat}{L:List VObj→Prop}(hn:(l.any fun x=>decide (x=n))=false):vSetF h id (seenM l) (.str n) (.bool true) (findV .string (.str n) (seenM l) 0) L=L (h.set id (.map (seenM (l++[n])))):=by
 rcases findS n l 0 with⟨j,h1,h2⟩ | ⟨h1,h2⟩
 ·rw[h2]at hn;cases hn
 ·rw[h1];simp -implicitDefEqProofs only[go_sem];simp[seenM]
theorem Cbase(u:List Un)(hu:fitU u)(un nd:Nat)(x:Un)(n:Nd)(hx:u[un]? = some x)(hn:(nodes x.tree)[nd]? = some n)(hs:∀ k∈n.kids,(nodes k).length≤1000)(hks:n.kids.length≤1000):VPure env 97 [sl 70 (u.map Un.enc),.agg [.int .i64 un,.int .i64 nd]] (.tuple [.agg (baseL n.kids (nd+1)).1.enc,.int .i64 (baseL n.kids (nd+1)).2]):=by
 obtain⟨k,t,g,ks⟩:=n
 simp only[Nd.kids]at hs hks ⊢
 have hul:un<u.length:=(List.getElem?_eq_some_iff.1 hx).1
 have hxm:x∈u:=List.mem_of_getElem? hx
 have hnl:nd<(nodes x.tree).length:=(List.getElem?_eq_some_iff.1 hn).1
 have hnn:(nodes x.tree).length≤1000:=(hu.2 x hxm).1
 have hel:(u.map Un.enc).getD (un:Int).toNat []=x.enc:=un_getD (by simpa using hx)
 have hlt:((un:Int)<(u.length:Int))=True:=by simp;omega
 have hAt:=TAt x.tree (by omega) nd (by omega)
 rw[if_pos (by omega),Int.toNat_natCast,hn]at hAt
 refine vpure_vc (fn:=Tryz.f97) Tryz.func97 rfl (by rw[Tryz.ntmps97];simp) (by simp -implicitDefEqProofs only[go_sem];exact uns_pure _) (by simp -implicitDefEqProofs only[go_sem]) ?_
 simp -implicitDefEqProofs only[go_sem,Tryz.f97]
 refine snd_draw (cs:=[]) mixed (by kernel_rfl) ?_
 simp -implicitDefEqProofs only[go_sem,hel,hlt]
 refine vPC_of hAt (by simp -implicitDefEqProofs only[go_sem]) ?_
 simp -implicitDefEqProofs only[go_sem,Option.getD_some,Option.isSome]
 intro _ _
 refine snd_list (β:=Int) ks (fun pre kk=>⟨[(29,.int .i64 pre.length),(28,.int .i64 ks.length),(27,sl 66 (ks.map Nd.enc)),(8,.int .i64 kk),(5,.int .i64 0),(4,.ptr 1 0)],
   [.dead,.cells [.int .i64 0,.str ⟨#[]⟩,.slice .nil 0 [],.slice .nil 0 []],.cells (Nd.mk k t g ks).enc],[]⟩)
  (fun pre post kk=>baseL ks (nd+1)=baseL post kk∧0≤kk∧kk≤1001+pre.length * 1000) (nd+1) ?_ ⟨rfl,by omega,by simp;omega⟩ ?_ ?_
 ·have:IntKind.i64.wrap ((nd:Int)+1)=nd+1:=wrap_ok (by omega) (by omega)
  simp -implicitDefEqProofs only[go_sem,this]
  try rfl
 ·rintro kk ⟨hi,_,_⟩
  simp -implicitDefEqProofs only[go_sem]
  rw[hi];rfl
 ·rintro pre y post kk hy ⟨hi,b0,b1⟩
  have hpl:ks.length=pre.length+1+post.length:=by rw[hy];simp;omega
  have hgx:(ks.map Nd.enc).getD (pre.length:Int).toNat []=y.enc:=by rw[hy];simp[List.getD_eq_getElem?_getD]
  have hlt2:((pre.length:Int)<ks.length)=True:=by simp;omega
  have hym:y∈ks:=by rw[hy];simp
  have hyn:=hs y hym
  rw[hi,baseL]
  simp -implicitDefEqProofs only[go_sem,hgx,hlt2]
  refine⟨fun h8=>?_,fun h8=>?_⟩
  ·rw[if_pos h8]
  ·refine(TSize y (by omega)).calls (by simp -implicitDefEqProofs only[go_sem]) ?_
   simp -implicitDefEqProofs only[go_sem]
   exact⟨_,⟨by rw[if_neg h8],by omega,by omega⟩,wrap_next (by omega),wrap_ok (by omega) (by omega)⟩
theorem Csupers(B:List (ByteArray×ByteArray))(nm ds:V)(es:List (V×V))(a:Nat)(cls:ByteArray)(hB:B.length≤1000000)(hnm:nm.some? = true)(hds:ds.some? = true) :
  VCalls env 63 [.ptr 2 0,.str cls] [.map (mapB B),.map es,.cells [nm,.map 0,.map 1,ds]] [a] fun v h' a'=>∃ n z,v = .tuple [.slice (.arr 1) 9 ((supB B cls (B.length+1) [] ((getB B cls).getD ⟨#[]⟩)).1.map encTx),.str (supB B cls (B.length+1) [] ((getB B cls).getD ⟨#[]⟩)).2]∧h'=[.map (mapB B),.map es,.cells [nm,.map 0,.map 1,ds],z]∧a'=[a,n]:=by
 refine vcalls_vc (fn:=Tryz.f63) Tryz.func63 rfl (by rw[Tryz.ntmps63];simp) ?_
 simp -implicitDefEqProofs only[go_sem,Tryz.f63,look_B]
 generalize hgo:supB B cls (B.length+1) [] ((getB B cls).getD ⟨#[]⟩)=goal
 refine snd_for (α:=List ByteArray×ByteArray) (fun s=>⟨[(8,.str s.2),(7,.map 3),(6,.slice (.arr 1) 9 (s.1.map encTx)),(5,.str ⟨#[]⟩),(4,.slice .nil 0 []),(0,.ptr 2 0),(1,.str cls)],
   [.map (mapB B),.map es,.cells [nm,.map 0,.map 1,ds],.map (seenM (cls::s.1))],[a,s.1.length]⟩)
  (fun s=>supB B cls (B.length+1 - s.1.length) s.1 s.2=goal∧s.1.Nodup∧∀ x∈s.1,(getB B x).isSome=true) (fun s=>B.length+1 - s.1.length) ([],(getB B cls).getD ⟨#[]⟩) ?_ ⟨by simpa using hgo,by simp,by simp⟩ ?_
 ·simp -implicitDefEqProofs only[go_sem]
  rfl
 ·rintro⟨out,next⟩ ⟨i1,i2,i3⟩
  simp only at i1 i2 i3
  have hle:out.length≤B.length:=by
   have:=pigeon out (B.map (·.1)) i2 fun x hx=>getB_mem (i3 x hx)
   simpa using this
  obtain⟨f,hf⟩:∃ f,B.length+1 - out.length=f+1:=⟨B.length - out.length,by omega⟩
  rw[hf,supB]at i1
  have hstop:(decide (next=⟨#[]⟩) || !(getB B next).isSome || (cls::out).any fun x=>decide (x=next))=true→∃ n z,V.tuple [.slice (.arr 1) 9 (out.map encTx),.str next]=V.tuple [.slice (.arr 1) 9 (goal.1.map encTx),.str goal.2]∧[VObj.map (mapB B),VObj.map es,VObj.cells [nm,.map 0,.map 1,ds],VObj.map (seenM (cls::out))]=[.map (mapB B),.map es,.cells [nm,.map 0,.map 1,ds],z]∧[a,out.length]=[a,n]:=fun h=>by
   rw[if_pos h]at i1;rw[←i1];exact⟨_,_,rfl,rfl,rfl⟩
  simp -implicitDefEqProofs only[go_sem,look_B,look_B2,look_S]
  refine⟨fun h1=>⟨fun h2=>⟨fun h3=>hstop (by simp[h3]),fun h3=>?_⟩,fun h2=>hstop (by simp[h2])⟩,fun h1=>hstop (by simp[h1])⟩
  have hsm:(getB B next).isSome=true:=by simpa using h2
  have hc:¬ (decide (next=⟨#[]⟩) || !(getB B next).isSome || (cls::out).any fun x=>decide (x=next))=true:=by
   rw[h3,h2];simp[h1]
  rw[if_neg hc]at i1
  rw[set_S h3]
  simp -implicitDefEqProofs only[go_sem,look_B]
  have hno:next ∉ out:=fun hm=>by
   have:((cls::out).any fun x=>decide (x=next))=true:=by simp;exact .inr hm
   rw[h3]at this;cases this
  refine⟨by omega,(out++[next],(getB B next).getD ⟨#[]⟩),by simp;omega,⟨?_,?_,?_⟩,⟨rfl,by simp[encTx]⟩,rfl,by simp⟩
  ·have:B.length+1 - (out++[next]).length=f:=by simp;omega
   simp only[this];exact i1
  ·simp only[]
   rw[List.nodup_append]
   exact⟨i2,by simp,fun x hx y hy=>by simp at hy;subst hy;rintro rfl;exact hno hx⟩
  ·intro x hx
   rcases List.mem_append.1 hx with h | h
   ·exact i3 x h
   ·simp at h;subst h;exact hsm
end Go.Proofs.YtighfcpaplmaiaaGreatDoor
