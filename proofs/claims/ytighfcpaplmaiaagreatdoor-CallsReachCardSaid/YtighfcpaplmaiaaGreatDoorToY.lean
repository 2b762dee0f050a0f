/- The sample of the laws about calls. -/
import Derived.Test.YtighfcpaplmaiaaGreatDoorUeJ
import Derived.Test.YtighfcpaplmaiaaGreatDoorUaA
import Derived.Test.YtighfcpaplmaiaaGreatDoorVgOrd
import Derived.Test.YtighfcpaplmaiaaGreatDoorRows
set_option linter.unusedVariables false
set_option linter.unusedSimpArgs false
set_option maxRecDepth 20000
namespace Go.Vg
def lfN(k:Int)(t:ByteArray):Nd := .mk k t [] []
def fnN(name:ByteArray)(x:Nd):Nd := .mk 2 name [] [lfN 3 ⟨#[]⟩,lfN 5 ⟨#[105,110,116]⟩,.mk 6 ⟨#[]⟩ [] [.mk 12 ⟨#[]⟩ [] [x]]]
end Go.Vg
namespace Go.Proofs.YtighfcpaplmaiaaGreatDoor
open Go Go.Vg Go.Proofs
theorem Lleaf(k:Int)(t:ByteArray):VPure env 65 [.int .i64 k,.str t] (.agg (lfN k t).enc):=by
 refine vpure_vc (fn:=Tryz.f65) Tryz.func65 rfl (by rw[Tryz.ntmps65];simp) (by simp -implicitDefEqProofs only[go_sem]) (by simp -implicitDefEqProofs only[go_sem]) ?_
 simp -implicitDefEqProofs only[go_sem,Tryz.f65,lfN,enc_mk,List.map_nil]
 try rfl
theorem Lfunction(name:ByteArray)(x:Nd):VPure env 66 [.str name,.agg x.enc] (.agg (fnN name x).enc):=by
 refine vpure_vc (fn:=Tryz.f66) Tryz.func66 rfl (by rw[Tryz.ntmps66];simp) (by simp -implicitDefEqProofs only[go_sem]) (by simp -implicitDefEqProofs only[go_sem]) ?_
 simp -implicitDefEqProofs only[go_sem,Tryz.f66]
 refine snd_draw (cs:=[]) mixed (by kernel_rfl) ?_
 simp -implicitDefEqProofs only[go_sem]
 refine vPC_of (Lleaf 3 ⟨#[]⟩) (by simp -implicitDefEqProofs only[go_sem]) ?_
 simp -implicitDefEqProofs only[go_sem]
 refine vPC_of (Lleaf 5 ⟨#[105,110,116]⟩) (by simp -implicitDefEqProofs only[go_sem]) ?_
 simp -implicitDefEqProofs only[go_sem]
 simp only[fnN,enc_mk,List.map_cons,List.map_nil]
 try rfl
def clsN:Nd := .mk 7 ⟨#[65]⟩ [] [lfN 8 ⟨#[]⟩,fnN ⟨#[109]⟩ (lfN 20 ⟨#[102]⟩)]
def sndN:Nd := .mk 21 ⟨#[109]⟩ [] [lfN 22 ⟨#[65]⟩]
def sumN:Nd := .mk 24 ⟨#[43]⟩ [] [sndN,lfN 20 ⟨#[103]⟩]
def smpU:List Un:=[⟨⟨#[97]⟩,⟨#[]⟩,.mk 1 ⟨#[]⟩ [] [clsN,fnN ⟨#[102]⟩ (lfN 17 ⟨#[50]⟩),fnN ⟨#[103]⟩ sumN],false⟩]
theorem Lsample:VPure env 35 [] (sl 70 (smpU.map Un.enc)):=by
 refine vpure_vc (fn:=Tryz.f35) Tryz.func35 rfl (by rw[Tryz.ntmps35];simp) rfl (by simp -implicitDefEqProofs only[go_sem];exact uns_pure _) ?_
 simp -implicitDefEqProofs only[go_sem,Tryz.f35]
 refine(Lleaf 8 ⟨#[]⟩).calls (by simp -implicitDefEqProofs only[go_sem]) ?_
 simp -implicitDefEqProofs only[go_sem]
 refine(Lleaf 20 ⟨#[102]⟩).calls (by simp -implicitDefEqProofs only[go_sem]) ?_
 simp -implicitDefEqProofs only[go_sem]
 refine(Lfunction ⟨#[109]⟩ (lfN 20 ⟨#[102]⟩)).calls (by simp -implicitDefEqProofs only[go_sem]) ?_
 simp -implicitDefEqProofs only[go_sem]
 refine(Lleaf 22 ⟨#[65]⟩).calls (by simp -implicitDefEqProofs only[go_sem]) ?_
 simp -implicitDefEqProofs only[go_sem]
 refine snd_draw (cs:=[]) mixed (by kernel_rfl) ?_
 simp -implicitDefEqProofs only[go_sem]
 refine vPC_of (Lleaf 20 ⟨#[103]⟩) (by simp -implicitDefEqProofs only[go_sem]) ?_
 simp -implicitDefEqProofs only[go_sem]
 refine snd_draw (cs:=[]) mixed (by kernel_rfl) ?_
 simp -implicitDefEqProofs only[go_sem]
 refine vPC_of (Lleaf 17 ⟨#[50]⟩) (by simp -implicitDefEqProofs only[go_sem]) ?_
 simp -implicitDefEqProofs only[go_sem]
 refine vPC_of (Lfunction ⟨#[102]⟩ (lfN 17 ⟨#[50]⟩)) (by simp -implicitDefEqProofs only[go_sem]) ?_
 simp -implicitDefEqProofs only[go_sem]
 refine vPC_of (Lfunction ⟨#[103]⟩ sumN) (by simp -implicitDefEqProofs only[go_sem,sumN,sndN,enc_mk,List.map_cons,List.map_nil]) ?_
 simp -implicitDefEqProofs only[go_sem]
 simp only[smpU,clsN,Un.enc,enc_mk,List.map_cons,List.map_nil,List.cons_append,List.nil_append]
 try rfl
theorem R15Same(a b:List Ed):VPure env 14 [sl 38 (a.map Ed.enc),sl 38 (b.map Ed.enc)] (.bool (decide (a=b))):=by
 refine vpure_vc (fn:=Tryz.f14) Tryz.func14 rfl (by rw[Tryz.ntmps14];simp) (by simp -implicitDefEqProofs only[go_sem];try simp[eds_pure]) rfl ?_
 simp -implicitDefEqProofs only[go_sem,Tryz.f14]
 intro _ h1 _ h2
 refine⟨fun c=>?_,fun c=>?_⟩
 ·have:a≠b:=by rintro rfl;simp at c
  simp[this]
 ·have hl:a.length=b.length:=by simp at c;omega
  refine snd_list (β:=Unit) a (fun pre _=>⟨[(5,.int .i64 pre.length),(0,sl 38 (a.map Ed.enc)),(1,sl 38 (b.map Ed.enc))],[],[]⟩) (fun pre _ _=>∃ r,b=pre++r) () ?_ ⟨b,rfl⟩ ?_ ?_
  ·simp -implicitDefEqProofs only[go_sem]
   trivial
  ·rintro _ ⟨r,hr⟩
   simp -implicitDefEqProofs only[go_sem]
   have:r=[]:=List.eq_nil_of_length_eq_zero (by have:=congrArg List.length hr;simp at this;omega)
   subst this
   simp[hr]
  ·rintro pre x post _ rfl ⟨r,rfl⟩
   rcases r with _ | ⟨y,r⟩
   ·simp at hl
   ·simp -implicitDefEqProofs only[go_sem]
    intro _ hl
    refine snd_draw (cs:=[]) mixed (by kernel_rfl) ?_
    have hl2:((pre.length:Int)<((pre++y::r).length:Int))=True:=mid_lt
    have hfk:flatK Tryz.prog 38=some [0,0]:=by kernel_rfl
    simp -implicitDefEqProofs only[go_sem,Ed.enc,hl2,hfk]
    refine⟨fun c=>?_,fun c=>⟨(),⟨r,?_⟩,wrap_next (mid_len' hl (by decide))⟩⟩
    ·have hne:x≠y:=by rintro rfl;simp at c
     simp[hne]
    ·have hxy:x=y:=by
      obtain⟨x1,x2⟩:=x
      obtain⟨y1,y2⟩:=y
      simp only[Bool.not_eq_false',Bool.and_eq_true,decide_eq_true_eq]at c
      rw[c.1,c.2]
     rw[hxy];simp
theorem evChk:(chkU smpU).1=0:=by kernel_rfl
theorem evFit:fitsU smpU 3 160 6000=true:=by kernel_rfl
theorem evLen:(rwsU smpU 0).length=24:=by kernel_rfl
theorem evTof:tofU smpU 0 22=(⟨#[65]⟩,0):=by kernel_rfl
theorem evTgl:tgL smpU ⟨#[65]⟩ ⟨#[109]⟩=[⟨#[65,46,109]⟩]:=by kernel_rfl
def edW:List Ed:=[⟨⟨#[65,46,109]⟩,⟨#[102]⟩⟩,⟨⟨#[103]⟩,⟨#[65,46,109]⟩⟩,⟨⟨#[103]⟩,⟨#[103]⟩⟩]
theorem evTgt:tgtU smpU 0 21 21 ⟨#[109]⟩=[⟨#[65,46,109]⟩]:=by
 unfold tgtU
 rw[if_neg (by decide),if_pos rfl,show((21:Int)+1)=22 from rfl,evTof,if_pos rfl,evTgl]
 exact sortS_one _
theorem evR21:edRow smpU 0 (rwsU smpU 0) 21=[⟨⟨#[103]⟩,⟨#[65,46,109]⟩⟩]:=by
 have h1:(rwAt (rwsU smpU 0) 21).kind=21:=by kernel_rfl
 have h2:(rwAt (rwsU smpU 0) 21).text=⟨#[109]⟩:=by kernel_rfl
 have h3:arnd (rwsU smpU 0) 21=some ⟨#[103]⟩:=by kernel_rfl
 unfold edRow
 rw[h1,h2,h3,if_pos (.inr rfl)]
 show(tgtU smpU 0 21 21 ⟨#[109]⟩).map (Ed.mk ⟨#[103]⟩)=_
 rw[evTgt]
 rfl
theorem evR21':edRows smpU 0 (rwsU smpU 0) 21=[⟨⟨#[65,46,109]⟩,⟨#[102]⟩⟩]:=by kernel_rfl
theorem evR22:edRow smpU 0 (rwsU smpU 0) 22=[]:=by kernel_rfl
theorem evR23:edRow smpU 0 (rwsU smpU 0) 23=[⟨⟨#[103]⟩,⟨#[103]⟩⟩]:=by kernel_rfl
theorem evAll:edAll smpU smpU.length=edW:=by
 show edAll smpU 1=edW
 rw[edAll,edAll,evLen,edRows,edRows,edRows,evR21',evR21,evR22,evR23]
 rfl
theorem pairW:edW.Pairwise fun a b=>ltEd b a=false:=by
 unfold edW
 refine .cons (fun b hb=>?_) (.cons (fun b hb=>?_) (.cons (by simp) .nil))
 ·simp only[List.mem_cons,List.not_mem_nil,or_false]at hb
  rcases hb with rfl | rfl <;> kernel_rfl
 ·simp only[List.mem_cons,List.not_mem_nil,or_false]at hb
  subst hb;kernel_rfl
theorem evGraph:graphU smpU=edW:=by
 rw[graphU,if_pos evChk,evAll,show sortEd edW=edW from uniqEd (sortEd_perm edW) (sortEd_pair edW) pairW]
 kernel_rfl
theorem evFg:flwS edW ⟨#[103]⟩=[⟨#[65,46,109]⟩,⟨#[103]⟩,⟨#[102]⟩]:=by kernel_rfl
theorem evCal:calN smpU=[⟨#[65,46,109]⟩,⟨#[102]⟩,⟨#[103]⟩]:=by kernel_rfl
theorem evFm:flwS edW ⟨#[65,46,109]⟩=[⟨#[102]⟩]:=by kernel_rfl
theorem evFf:flwS edW ⟨#[102]⟩=[]:=by kernel_rfl
def rchW:List ByteArray:=[⟨#[65,46,109]⟩,⟨#[102]⟩,⟨#[103]⟩]
theorem ascW:Asc rchW:=by
 unfold rchW
 refine .cons (fun b hb=>?_) (.cons (fun b hb=>?_) (.cons (by simp) .nil))
 ·simp only[List.mem_cons,List.not_mem_nil,or_false]at hb
  rcases hb with rfl | rfl <;> kernel_rfl
 ·simp only[List.mem_cons,List.not_mem_nil,or_false]at hb
  subst hb;kernel_rfl
theorem evReach:sortS (flwS edW ⟨#[103]⟩)=rchW:=by
 refine asc_eq (sortS_ascN (flwS_facts edW _).1) ascW fun x=>?_
 rw[(sortS_perm _).mem_iff,evFg]
 simp only[rchW,List.mem_cons,List.not_mem_nil,or_false]
 constructor
 ·rintro(h | h | h) <;> simp[h]
 ·rintro(h | h | h) <;> simp[h]
theorem evRec:recS smpU edW=[⟨#[103]⟩]:=by
 obtain⟨h1,h2⟩:=recS_facts smpU edW
 refine asc_eq h1 (by exact .cons (by simp) .nil) fun x=>?_
 rw[h2 x,←(flwS_facts edW x).2.1,evCal]
 simp only[List.mem_cons,List.not_mem_nil,or_false]
 constructor
 ·rintro⟨_,rfl | rfl | rfl,h⟩
  ·rw[evFm]at h;exact absurd (List.mem_singleton.1 h) (by decide)
  ·rw[evFf]at h;cases h
  ·rfl
 ·rintro rfl
  exact⟨by unfold edW;simp,.inr (.inr rfl),by rw[evFg];simp⟩
theorem evT8:tgsU smpU 0 8=[⟨#[102]⟩]:=by kernel_rfl
theorem evT0:tgsU smpU 0 0=[]:=by kernel_rfl
theorem Lawake:VPure env 9 [] (.bool true):=by
 have hfo:=(fit_ok (m:=160) (Nat.le_refl _) evFit)
 have hG:=KGraphF (m:=160) (Nat.le_refl _) evFit
 rw[evGraph]at hG
 have hR:=KReach smpU edW (by decide) hG ⟨#[103]⟩
 rw[evReach]at hR
 have hC:=KRecursive smpU hfo.1 edW (by decide) hG
 rw[evRec]at hC
 have hT8:=KTargets smpU hfo.1 hfo.2 0 8 (by omega)
 rw[evT8]at hT8
 have hT0:=KTargets smpU hfo.1 hfo.2 0 0 (by omega)
 rw[evT0]at hT0
 refine vpure_vc (fn:=Tryz.f9) Tryz.func9 rfl (by rw[Tryz.ntmps9];simp) rfl rfl ?_
 simp -implicitDefEqProofs only[go_sem,Tryz.f9]
 refine Lsample.calls (by simp -implicitDefEqProofs only[go_sem]) ?_
 generalize smpU=su at *
 simp -implicitDefEqProofs only[go_sem]
 refine hG.calls (by simp -implicitDefEqProofs only[go_sem]) ?_
 simp -implicitDefEqProofs only[go_sem]
 refine(R15Same edW edW).calls (by simp -implicitDefEqProofs only[go_sem,edW,Ed.enc,List.map_cons,List.map_nil]) ?_
 have d1:decide (edW=edW)=true:=by simp
 simp -implicitDefEqProofs only[go_sem,d1]
 refine hR.calls (by simp -implicitDefEqProofs only[go_sem]) ?_
 simp -implicitDefEqProofs only[go_sem]
 refine(R03Strings rchW rchW).calls (by simp -implicitDefEqProofs only[go_sem,rchW,encTx,List.map_cons,List.map_nil]) ?_
 have d2:decide (rchW=rchW)=true:=by simp
 simp -implicitDefEqProofs only[go_sem,d2]
 refine hC.calls (by simp -implicitDefEqProofs only[go_sem]) ?_
 simp -implicitDefEqProofs only[go_sem]
 refine(R03Strings [⟨#[103]⟩] [⟨#[103]⟩]).calls (by simp -implicitDefEqProofs only[go_sem,encTx,List.map_cons,List.map_nil]) ?_
 have d3:decide ([(⟨#[103]⟩:ByteArray)]=[⟨#[103]⟩])=true:=by simp
 simp -implicitDefEqProofs only[go_sem,d3]
 refine hT8.calls (by simp -implicitDefEqProofs only[go_sem]) ?_
 simp -implicitDefEqProofs only[go_sem]
 refine(R03Strings [⟨#[102]⟩] [⟨#[102]⟩]).calls (by simp -implicitDefEqProofs only[go_sem,encTx,List.map_cons,List.map_nil]) ?_
 have d4:decide ([(⟨#[102]⟩:ByteArray)]=[⟨#[102]⟩])=true:=by simp
 simp -implicitDefEqProofs only[go_sem,d4]
 refine hT0.calls (by simp -implicitDefEqProofs only[go_sem]) ?_
 simp -implicitDefEqProofs only[go_sem]
 rfl
theorem CallsReach_law(u:List Un)(name:ByteArray):VPure env 6 [sl 70 (u.map Un.enc),.str name] (.bool true):=Lreach Lawake u name
end Go.Proofs.YtighfcpaplmaiaaGreatDoor
namespace Go.Vg
open Go.RowKit
theorem relW_startZ{E:Env}{W:World}(hg:∀ g cs,E.gl g=some cs→pureL cs=true∧RV E.P (startG W) [] (.fptr cs) (.pointer (some ⟨g,0,none⟩)))(hi:E.ini W):RelW E (startG W) [] [] ⟨W,allF W,[]⟩ W where
 newF:=fun b o v h _=>h
 glob:=hg
 below:=Below.refl _ _
 frz:=fun b o v h=>(allF_some h).1
 one:=fun b o v h=>(allF_some h).2
 obj:=fun id ob h=>by simp at h
 lenφ:=rfl
 vs:=Vecs.nil
 nod:=fun i j b h=>by simp[startG]at h
 sep:=fun id b o h=>by simp[startG]at h
 geφ:=fun id b h=>by simp[startG]at h
 lenρ:=rfl
 reg:=fun k b lo hi h=>by simp[startG]at h
 regd:=fun k k' b lo hi lo' hi' _ h=>by simp[startG]at h
 fre:=fun k b lo hi h=>by simp[startG]at h
 bld:=fun id t s b h=>by simp at h
 ini:=hi
theorem calls_trueZ{E:Env}{f:FuncId}{args:List V}{vals:Array Value}{W:World}(h:VPure E f args (.bool true))(hg:∀ g cs,E.gl g=some cs→pureL cs=true∧RV E.P (startG W) [] (.fptr cs) (.pointer (some ⟨g,0,none⟩)))(hi:E.ini W)(ha:Args E.P (startG W) [] args vals) :
  Calls E.P f vals W fun e W'=>e = .returned (.bool true)∧Below W.heap.size W W':=by
 have h3:=h.2.2 (startG W) ⟨W,allF W,[]⟩ W vals (relW_startZ (E:=E.alive) hg hi) ha
 refine h3.mono fun e W' hgo=>?_
 obtain⟨val,rfl,v,heap',arr',G',rfl,hx,hr,hv⟩:=hgo.alive
 cases hv
 exact⟨rfl,hr.below⟩
theorem startG_F{W:World}(b o:Nat)(v:Value)(hc:W.cell? ⟨b,o,none⟩=some v)(h1:v.oneCell'=true):(startG W).F b o=some v:=by
 simp only[startG,allF,hc,h1,if_true]
theorem glob_of_reads{P:Program}{W:World}{name:String}{d:DataW Unit}{g:Nat}{t:TypeId}(ty:Tz)(hcl:ty.closed=true)(hlv:∀ (G:Gh) F,ty.lv (fun _=>()) P W G false F)(hok:ty.ok P (.inl t)=true)
  (hg:P.globalNamed name=some g) (hty:(P.globals[g]?).map (·.type)=some t) (hw:(d.weights P t).all (· ≤ reachBytes)=true)
  (h:Lib.VarReads P W name d):RV P (startG W) [] (.fptr (ty.val d)) (.pointer (some ⟨g,0,none⟩)):=by
 obtain⟨g',t',cs,fuel,p,hg',ht',hvar,hd⟩:=h
 obtain rfl:=Option.some.inj (hg.symm.trans hg')
 obtain rfl:=Option.some.inj (hty.symm.trans ht')
 obtain⟨xs,h1,h2,h3,h4⟩:=(Tz.read (G:=startG W) startG_F ty (fuel+1) (hlv _ _)).1 t fuel cs.toList d p (by omega) hok hd hw
 have hx:=ty.val_of d xs hcl h1
 subst hx
 have hcell:∀ j:Nat,W.cell? ⟨g,j,none⟩=cs.toList[j]?:=by
  intro j
  unfold World.var? at hvar
  rw[hg,Option.bind_some]at hvar
  split at hvar
  ·rename_i cs' _ _ hh
   cases hvar
   simp only[World.cell?,hh]
   simp
  ·cases hvar
 refine .fptr _ g 0 (fun j hj=>?_) (fun j c v hc hv=>?_)
 ·have hj':j<cs.toList.length:=by omega
  have hv:=hcell j
  rw[List.getElem?_eq_getElem hj']at hv
  exact⟨_,startG_F _ _ _ (by rw[Nat.zero_add];exact hv) (h4 j _ _ (List.getElem?_eq_getElem hj) (List.getElem?_eq_getElem hj')).2⟩
 ·have:=(allF_some hv).1
  rw[Nat.zero_add,hcell]at this
  exact(h4 j c v hc this).1
theorem arg_slice{H:Type}{enc:TypeId×Value→H}{P:Program}{W:World}{T e:TypeId}{v:Value}{d:DataW H}{p:List MemPlace}{b:Nat}(ty:Tz)(hlv:∀ F,ty.lv enc P W (startG W) true F)(ht:P.underlying T=some (.slice e))(hok:(Tz.sl e ty).ok P (.inl T)=true)
  (hval:Value.okWide P W .any b T v) (h:DataW.Trod enc P W 0 (fun _=>true) true T v d p) (hw:(d.weights P T).all (· ≤ reachBytes)=true) :
  ∃ es:List (List V),(∀ el∈es,∃ di:DataW H,ty.sem di el)∧RV P (startG W) [] (sl e es) v:=by
 obtain⟨a0,len,cap,rfl⟩:=Go.WideShapes.okWide_slice ht hval
 obtain⟨fuel,h⟩:=h
 obtain⟨xs,⟨es,rfl,he1,he2⟩,h3,h4,h5⟩:=(Tz.read (G:=startG W) startG_F (.sl e ty) (fuel+1) (hlv _)).1 T fuel _ d p (by omega) hok h hw
 refine⟨es,fun el hel=>?_,(h5 0 _ _ rfl rfl).1⟩
 obtain⟨i,hi,rfl⟩:=List.getElem_of_mem hel
 exact⟨_,he2 i _ (List.getElem?_eq_getElem hi)⟩
end Go.Vg
set_option maxRecDepth 20000
namespace Go.Proofs.YtighfcpaplmaiaaGreatDoor
open Go Go.Vg Go.Proofs Go.RowKit
def isNd(xs:List V):Prop:=∃ n:Nd,xs=n.enc
def tyNd:Tz := .cons 3 (.int .i64) (.cons 9 .str (.cons 28 (.sl 9 .str) (.cons 64 (.sl 66 (.leaf 66 4 isNd)) .unit)))
def tyUn:Tz := .cons 9 .str (.cons 9 .str (.cons 66 (.leaf 66 4 isNd) (.cons 4 .bool .unit)))
def tyPt:Tz := .cons 3 (.int .i64) (.cons 3 (.int .i64) .unit)
def tyShp:Tz := .cons 254 (.sl 256 tyPt) (.cons 256 tyPt (.cons 3 (.int .i64) (.cons 28 (.sl 9 .str) (.cons 3 (.int .i64) .unit))))
def tyShps:Tz := .arr 258 27 tyShp
theorem tyNd_ok:tyNd.ok Tryz.prog (.inl 66)=true:=by kernel_rfl
theorem tyUns_ok:(Tz.sl 70 tyUn).ok Tryz.prog (.inl 22)=true:=by kernel_rfl
theorem tyShps_ok:tyShps.ok Tryz.prog (.inl 259)=true:=by kernel_rfl
theorem list_as{α β:Type}{f:α→β}{es:List β}(h:∀ el∈es,∃ a,el=f a):∃ l:List α,es=l.map f:=by
 induction es with
 | nil=>exact⟨[],rfl⟩
 | cons x r ih =>
  obtain⟨a,rfl⟩:=h x (by simp)
  obtain⟨l,rfl⟩:=ih fun el hel=>h el (by simp[hel])
  exact⟨a::l,rfl⟩
section
variable {H : Type} {d : DataW H} {xs : List V}
theorem semStrs{e:TypeId}(h:(Tz.sl e .str).sem d xs):∃ g:List ByteArray,xs=[sl e (g.map encTx)]:=by
 obtain⟨es,rfl,h1,h2⟩:=h
 obtain⟨l,rfl⟩:=list_as (f:=encTx) (es:=es) fun el hel=>by
  obtain⟨i,hi,rfl⟩:=List.getElem_of_mem hel
  obtain⟨s,hs,_⟩:=h2 i _ (List.getElem?_eq_getElem hi)
  exact⟨s,hs⟩
 exact⟨l,rfl⟩
theorem semNd(h:tyNd.sem d xs):isNd xs:=by
 obtain⟨_,_,rfl,⟨k,rfl,_⟩,_,_,rfl,⟨t,rfl,_⟩,_,_,rfl,hg,_,_,rfl,⟨es,rfl,h1,h2⟩,rfl⟩:=h
 obtain⟨g,rfl⟩:=semStrs hg
 obtain⟨l,rfl⟩:=list_as (f:=Nd.enc) (es:=es) fun el hel=>by
  obtain⟨i,hi,rfl⟩:=List.getElem_of_mem hel
  exact h2 i _ (List.getElem?_eq_getElem hi)
 exact⟨.mk k t g l,by rw[enc_mk];rfl⟩
theorem semUn(h:tyUn.sem d xs):∃ u:Un,xs=u.enc:=by
 obtain⟨_,_,rfl,⟨p,rfl,_⟩,_,_,rfl,⟨t,rfl,_⟩,_,_,rfl,⟨n,rfl⟩,_,_,rfl,⟨b,rfl,_⟩,rfl⟩:=h
 exact⟨⟨p,t,n,b⟩,by simp[Un.enc]⟩
end
theorem leafNd{H:Type}{enc:TypeId×Value→H}{w:World}{G:Gh}{held:Bool}(hG:∀ b o v,w.cell? ⟨b,o,none⟩=some v→v.oneCell'=true→G.F b o=some v):∀ F,LeafR enc Tryz.prog w G held F 66 4 isNd
 | 0=>fun fuel hF=>absurd hF (Nat.not_lt_zero _)
 | F+1=>fun fuel hF cs d ps ht hw=>by
  have ih:=leafNd (enc:=enc) (held:=held) hG F
  have hlv:tyNd.lv enc Tryz.prog w G held (F+1):=⟨trivial,trivial,trivial,fun f hf=>ih f (by omega),trivial⟩
  obtain⟨xs,h1,h2,h3,h4⟩:=(Tz.read hG tyNd (F+1) hlv).1 66 fuel cs d ps hF tyNd_ok ht hw
  exact⟨xs,semNd h1,h2,h3,h4⟩
theorem arg_units{H:Type}{enc:TypeId×Value→H}{W:World}{v:Value}{d:DataW H}{p:List MemPlace}{b:Nat}(ht:Tryz.prog.underlying 22=some (.slice 70))
  (hval:Value.okWide Tryz.prog W .any b 22 v) (h:DataW.Trod enc Tryz.prog W 0 (fun _=>true) true 22 v d p) (hw:(d.weights Tryz.prog 22).all (· ≤ reachBytes)=true) :
  ∃ u:List Un,RV Tryz.prog (startG W) [] (sl 70 (u.map Un.enc)) v:=by
 obtain⟨es,h1,h2⟩:=arg_slice tyUn (fun F=>⟨trivial,trivial,leafNd startG_F _,trivial,trivial⟩) ht tyUns_ok hval h hw
 obtain⟨l,rfl⟩:=list_as (f:=Un.enc) fun el hel=>by
  obtain⟨di,hdi⟩:=h1 el hel
  exact semUn hdi
 exact⟨l,h2⟩
theorem shapes_val:tyShps.val Rows.laid_treemerge_grammar_shapes (H:=Unit)=shapesC:=by kernel_rfl
theorem glob_shapes{W:World}(h:Lib.VarReads Tryz.prog W "treemerge/grammar.shapes" Rows.laid_treemerge_grammar_shapes):∀ g cs,env.gl g=some cs→pureL cs=true∧RV env.P (startG W) [] (.fptr cs) (.pointer (some ⟨g,0,none⟩)):=by
 intro g cs hg
 by_cases e:g=0
 ·subst e
  rw[env_shapes]at hg
  cases hg
  refine⟨by kernel_rfl,?_⟩
  have:=glob_of_reads (g:=0) (t:=259) tyShps rfl (fun G F=>⟨⟨trivial,trivial,trivial⟩,⟨trivial,trivial,trivial⟩,trivial,trivial,trivial,trivial⟩) tyShps_ok (by kernel_rfl) (by kernel_rfl) (by kernel_rfl) h
  rw[shapes_val]at this
  exact this
 ·simp[env,envD,e]at hg
end Go.Proofs.YtighfcpaplmaiaaGreatDoor
