/- The laws' bound, and how many edges there are within it. -/
import Derived.Test.YtighfcpaplmaiaaGreatDoorUeH
import Derived.Test.YtighfcpaplmaiaaGreatDoorUdJ
import Derived.Test.YtighfcpaplmaiaaGreatDoorUeD
set_option linter.unusedVariables false
set_option linter.unusedSimpArgs false
set_option maxRecDepth 20000
namespace Go.Proofs.YtighfcpaplmaiaaGreatDoor
open Go Go.Vg Go.Proofs
theorem fit_small{u:List Un}{m:Nat}(hm:m≤160)(h:fitsU u 3 m 6000=true):u.length≤3∧∀ x∈u,(nodes x.tree).length≤m:=by
 unfold fitsU at h
 simp only[Bool.and_eq_true,decide_eq_true_eq,List.all_eq_true]at h
 obtain⟨h1,h2⟩:=h
 refine⟨by omega,fun x hx=>?_⟩
 have h3:=(h2 x hx).1
 have:=left_count x.tree m 60 h3
 omega
theorem fit_ok{u:List Un}{m:Nat}(hm:m≤160)(h:fitsU u 3 m 6000=true):fitU u∧gapsU u:=by
 have hs:=fit_small hm h
 unfold fitsU at h
 simp only[Bool.and_eq_true,decide_eq_true_eq,List.all_eq_true]at h
 obtain⟨h1,h2⟩:=h
 refine⟨⟨by omega,fun x hx=>?_⟩,fun x hx=>?_⟩
 ·obtain⟨h3,h4⟩:=h2 x hx
  have:=hs.2 x hx
  exact⟨by omega,(fits_short (by omega) h4).1⟩
 ·obtain⟨h3,h4⟩:=h2 x hx
  exact(fits_short (by omega) h4).2
theorem declsU_small:∀ (u:List Un) i,(∀ x∈u,(nodes x.tree).length≤160)→(declsU u i).length≤u.length * 160
 | [],_,_=>by simp[declsU]
 | x::r,i,h=>by
  have h1:=declsU_small r (i+1) fun y hy=>h y (by simp[hy])
  have h2:=walkD_len x.tree i 0 Ar.none
  have h3:=h x (by simp)
  rw[declsU,List.length_append,List.length_cons]
  split
  ·simp;omega
  ·omega
theorem tgtU_len(u:List Un)(un nd kind:Int)(text:ByteArray):(tgtU u un nd kind text).length≤(declsU u 0).length+1:=by
 unfold tgtU
 split
 ·simp
 split
 ·split
  ·rw[sortS_len]
   refine Nat.le_trans (dedU_len _ []) ?_
   have h1:=basesL_len (btU u) (declsU u 0)
   have h4:=List.length_filter_le (subB (basesL (btU u) (declsU u 0)) (tofU u un (nd+1)).1) (basesL (btU u) (declsU u 0))
   have h5:(subU u (tofU u un (nd+1)).1).length≤(declsU u 0).length:=by
    unfold subU subL
    rw[sortS_len,List.length_map]
    omega
   have h6:=List.length_filterMap_le (fun x=>(lookU u x text).map qualM) ((tofU u un (nd+1)).1::subU u (tofU u un (nd+1)).1)
   rw[List.length_cons]at h6
   unfold tgL
   simp only[List.length_nil,Nat.zero_add]
   omega
  ·simp
 ·simp
theorem edRow_len(u:List Un)(un:Nat)(l:List Rw)(k:Nat):(edRow u un l k).length≤(declsU u 0).length+1:=by
 unfold edRow
 split
 ·split
  ·rw[List.length_map];exact tgtU_len ..
  ·simp
 ·simp
theorem edRows_len(u:List Un)(un:Nat)(l:List Rw):∀ k,(edRows u un l k).length≤k * ((declsU u 0).length+1)
 | 0=>by simp[edRows]
 | k+1=>by
  have h1:=edRows_len u un l k
  have h2:=edRow_len u un l k
  rw[edRows,List.length_append,Nat.succ_mul];omega
theorem edAll_len{u:List Un}(h:∀ x∈u,(nodes x.tree).length≤160):∀ n,(edAll u n).length≤n * (160 * ((declsU u 0).length+1))
 | 0=>by simp[edAll]
 | n+1=>by
  have h1:=edAll_len h n
  have h2:=edRows_len u n (rwsU u n) (rwsU u n).length
  have h3:(rwsU u n).length≤160:=by
   unfold rwsU
   cases hx:u[n]? with
   | none=>simp
   | some x =>
    simp only[Option.map_some,Option.getD_some]
    rw[rowsN_len]
    exact h x (List.mem_of_getElem? hx)
  have h4:=Nat.mul_le_mul_right ((declsU u 0).length+1) h3
  rw[edAll,List.length_append,Nat.succ_mul];omega
theorem fit_edges{u:List Un}{m:Nat}(hm:m≤160)(h:fitsU u 3 m 6000=true):(edAll u u.length).length≤1000000:=by
 obtain⟨h1,h2⟩:=fit_small hm h
 have h3:∀ x∈u,(nodes x.tree).length≤160:=fun x hx=>Nat.le_trans (h2 x hx) hm
 have h4:=declsU_small u 0 h3
 have h5:=edAll_len h3 u.length
 have h6:u.length * (160 * ((declsU u 0).length+1))≤3 * (160 * ((declsU u 0).length+1)):=Nat.mul_le_mul_right _ h1
 omega
theorem KGraphF{u:List Un}{m:Nat}(hm:m≤160)(h:fitsU u 3 m 6000=true):VPure env 15 [sl 70 (u.map Un.enc)] (sl 38 ((graphU u).map Ed.enc)) :=
 KGraph u (fit_ok hm h).1 (fit_ok hm h).2 (fit_edges hm h)
theorem graph_len{u:List Un}{m:Nat}(hm:m≤160)(h:fitsU u 3 m 6000=true):(graphU u).length≤1000000:=by
 have h1:=fit_edges hm h
 unfold graphU
 split
 ·have h2:=dedE_le (sortEd (edAll u u.length))
  have h3:=(sortEd_perm (edAll u u.length)).length_eq
  omega
 ·simp
def fitL(u:List Un):Bool:=fitsU u 3 160 6000 && decide ((classesL (declsU u 0):Int)≤20)
theorem Lfit(u:List Un):VPure env 10 [sl 70 (u.map Un.enc)] (.bool (fitL u)):=by
 refine vpure_vc (fn:=Tryz.f10) Tryz.func10 rfl (by rw[Tryz.ntmps10];simp) (by simp -implicitDefEqProofs only[go_sem];exact uns_pure _) rfl ?_
 simp -implicitDefEqProofs only[go_sem,Tryz.f10]
 refine(R12Fits u 3 160 6000 (by omega) (by omega)).calls (by simp -implicitDefEqProofs only[go_sem]) ?_
 simp -implicitDefEqProofs only[go_sem]
 unfold fitL
 cases hf:fitsU u 3 160 6000 with
 | false =>
  simp -implicitDefEqProofs only[go_sem]
 | true =>
  simp -implicitDefEqProofs only[go_sem]
  refine(R13Few u (fit_ok (m:=160) (Nat.le_refl _) hf).1 20 (by omega) (by omega)).calls (by simp -implicitDefEqProofs only[go_sem]) ?_
  simp -implicitDefEqProofs only[go_sem]
end Go.Proofs.YtighfcpaplmaiaaGreatDoor
set_option maxRecDepth 20000
namespace Go.Proofs.YtighfcpaplmaiaaGreatDoor
open Go Go.Vg Go.Proofs
theorem sortS_ascN{l:List ByteArray}(h:l.Nodup):Asc (sortS l):=mergeS_asc h
end Go.Proofs.YtighfcpaplmaiaaGreatDoor
set_option maxRecDepth 20000
namespace Go.Vg
def lfN(k:Int)(t:ByteArray):Nd := .mk k t [] []
def fnN(name:ByteArray)(x:Nd):Nd := .mk 2 name [] [lfN 3 ⟨#[]⟩,lfN 5 ⟨#[105,110,116]⟩,.mk 6 ⟨#[]⟩ [] [.mk 12 ⟨#[]⟩ [] [x]]]
end Go.Vg
namespace Go.Proofs.YtighfcpaplmaiaaGreatDoor
open Go Go.Vg Go.Proofs
theorem Lleaf(k:Int)(t:ByteArray):VPure env 65 [.int .i64 k,.str t] (.agg (lfN k t).enc):=by
 refine vpure_vc (fn:=Tryz.f65) Tryz.func65 rfl (by rw[Tryz.ntmps65];simp) (by simp -implicitDefEqProofs only[go_sem]) (by simp -implicitDefEqProofs only[go_sem]) ?_
 simp -implicitDefEqProofs only[go_sem,Tryz.f65,lfN,enc_mk,List.map_nil]
 try rfl
theorem Lfunction(name:ByteArray)(x:Nd):VPure env 66 [.str name,.agg x.enc] (.agg (fnN name x).enc):=by
 refine vpure_vc (fn:=Tryz.f66) Tryz.func66 rfl (by rw[Tryz.ntmps66];simp) (by simp -implicitDefEqProofs only[go_sem]) (by simp -implicitDefEqProofs only[go_sem]) ?_
 simp -implicitDefEqProofs only[go_sem,Tryz.f66]
 refine snd_draw (cs:=[]) mixed (by kernel_rfl) ?_
 simp -implicitDefEqProofs only[go_sem]
 refine vPC_of (Lleaf 3 ⟨#[]⟩) (by simp -implicitDefEqProofs only[go_sem]) ?_
 simp -implicitDefEqProofs only[go_sem]
 refine vPC_of (Lleaf 5 ⟨#[105,110,116]⟩) (by simp -implicitDefEqProofs only[go_sem]) ?_
 simp -implicitDefEqProofs only[go_sem]
 simp only[fnN,enc_mk,List.map_cons,List.map_nil]
 try rfl
def clsN:Nd := .mk 7 ⟨#[65]⟩ [] [lfN 8 ⟨#[]⟩,fnN ⟨#[109]⟩ (lfN 20 ⟨#[102]⟩)]
def sndN:Nd := .mk 21 ⟨#[109]⟩ [] [lfN 22 ⟨#[65]⟩]
def sumN:Nd := .mk 24 ⟨#[43]⟩ [] [sndN,lfN 20 ⟨#[103]⟩]
def smpU:List Un:=[⟨⟨#[97]⟩,⟨#[]⟩,.mk 1 ⟨#[]⟩ [] [clsN,fnN ⟨#[102]⟩ (lfN 17 ⟨#[50]⟩),fnN ⟨#[103]⟩ sumN],false⟩]
theorem Lsample:VPure env 35 [] (sl 70 (smpU.map Un.enc)):=by
 refine vpure_vc (fn:=Tryz.f35) Tryz.func35 rfl (by rw[Tryz.ntmps35];simp) rfl (by simp -implicitDefEqProofs only[go_sem];exact uns_pure _) ?_
 simp -implicitDefEqProofs only[go_sem,Tryz.f35]
 refine(Lleaf 8 ⟨#[]⟩).calls (by simp -implicitDefEqProofs only[go_sem]) ?_
 simp -implicitDefEqProofs only[go_sem]
 refine(Lleaf 20 ⟨#[102]⟩).calls (by simp -implicitDefEqProofs only[go_sem]) ?_
 simp -implicitDefEqProofs only[go_sem]
 refine(Lfunction ⟨#[109]⟩ (lfN 20 ⟨#[102]⟩)).calls (by simp -implicitDefEqProofs only[go_sem]) ?_
 simp -implicitDefEqProofs only[go_sem]
 refine(Lleaf 22 ⟨#[65]⟩).calls (by simp -implicitDefEqProofs only[go_sem]) ?_
 simp -implicitDefEqProofs only[go_sem]
 refine snd_draw (cs:=[]) mixed (by kernel_rfl) ?_
 simp -implicitDefEqProofs only[go_sem]
 refine vPC_of (Lleaf 20 ⟨#[103]⟩) (by simp -implicitDefEqProofs only[go_sem]) ?_
 simp -implicitDefEqProofs only[go_sem]
 refine snd_draw (cs:=[]) mixed (by kernel_rfl) ?_
 simp -implicitDefEqProofs only[go_sem]
 refine vPC_of (Lleaf 17 ⟨#[50]⟩) (by simp -implicitDefEqProofs only[go_sem]) ?_
 simp -implicitDefEqProofs only[go_sem]
 refine vPC_of (Lfunction ⟨#[102]⟩ (lfN 17 ⟨#[50]⟩)) (by simp -implicitDefEqProofs only[go_sem]) ?_
 simp -implicitDefEqProofs only[go_sem]
 refine vPC_of (Lfunction ⟨#[103]⟩ sumN) (by simp -implicitDefEqProofs only[go_sem,sumN,sndN,enc_mk,List.map_cons,List.map_nil]) ?_
 simp -implicitDefEqProofs only[go_sem]
 simp only[smpU,clsN,Un.enc,enc_mk,List.map_cons,List.map_nil,List.cons_append,List.nil_append]
 try rfl
theorem R15Same(a b:List Ed):VPure env 14 [sl 38 (a.map Ed.enc),sl 38 (b.map Ed.enc)] (.bool (decide (a=b))):=by
 refine vpure_vc (fn:=Tryz.f14) Tryz.func14 rfl (by rw[Tryz.ntmps14];simp) (by simp -implicitDefEqProofs only[go_sem];try simp[eds_pure]) rfl ?_
 simp -implicitDefEqProofs only[go_sem,Tryz.f14]
 intro _ h1 _ h2
 refine⟨fun c=>?_,fun c=>?_⟩
 ·have:a≠b:=by rintro rfl;simp at c
  simp[this]
 ·have hl:a.length=b.length:=by simp at c;omega
  refine snd_list (β:=Unit) a (fun pre _=>⟨[(5,.int .i64 pre.length),(0,sl 38 (a.map Ed.enc)),(1,sl 38 (b.map Ed.enc))],[],[]⟩) (fun pre _ _=>∃ r,b=pre++r) () ?_ ⟨b,rfl⟩ ?_ ?_
  ·simp -implicitDefEqProofs only[go_sem]
   trivial
  ·rintro _ ⟨r,hr⟩
   simp -implicitDefEqProofs only[go_sem]
   have:r=[]:=List.eq_nil_of_length_eq_zero (by have:=congrArg List.length hr;simp at this;omega)
   subst this
   simp[hr]
  ·rintro pre x post _ rfl ⟨r,rfl⟩
   rcases r with _ | ⟨y,r⟩
   ·simp at hl
   ·simp -implicitDefEqProofs only[go_sem]
    intro _ hl
    refine snd_draw (cs:=[]) mixed (by kernel_rfl) ?_
    have hl2:((pre.length:Int)<((pre++y::r).length:Int))=True:=mid_lt
    have hfk:flatK Tryz.prog 38=some [0,0]:=by kernel_rfl
    simp -implicitDefEqProofs only[go_sem,Ed.enc,hl2,hfk]
    refine⟨fun c=>?_,fun c=>⟨(),⟨r,?_⟩,wrap_next (mid_len' hl (by decide))⟩⟩
    ·have hne:x≠y:=by rintro rfl;simp at c
     simp[hne]
    ·have hxy:x=y:=by
      obtain⟨x1,x2⟩:=x
      obtain⟨y1,y2⟩:=y
      simp only[Bool.not_eq_false',Bool.and_eq_true,decide_eq_true_eq]at c
      rw[c.1,c.2]
     rw[hxy];simp
theorem evChk:(chkU smpU).1=0:=by kernel_rfl
theorem evFit:fitsU smpU 3 160 6000=true:=by kernel_rfl
theorem evLen:(rwsU smpU 0).length=24:=by kernel_rfl
theorem evTof:tofU smpU 0 22=(⟨#[65]⟩,0):=by kernel_rfl
theorem evTgl:tgL smpU ⟨#[65]⟩ ⟨#[109]⟩=[⟨#[65,46,109]⟩]:=by kernel_rfl
def edW:List Ed:=[⟨⟨#[65,46,109]⟩,⟨#[102]⟩⟩,⟨⟨#[103]⟩,⟨#[65,46,109]⟩⟩,⟨⟨#[103]⟩,⟨#[103]⟩⟩]
theorem evTgt:tgtU smpU 0 21 21 ⟨#[109]⟩=[⟨#[65,46,109]⟩]:=by
 unfold tgtU
 rw[if_neg (by decide),if_pos rfl,show((21:Int)+1)=22 from rfl,evTof,if_pos rfl,evTgl]
 exact sortS_one _
theorem evR21:edRow smpU 0 (rwsU smpU 0) 21=[⟨⟨#[103]⟩,⟨#[65,46,109]⟩⟩]:=by
 have h1:(rwAt (rwsU smpU 0) 21).kind=21:=by kernel_rfl
 have h2:(rwAt (rwsU smpU 0) 21).text=⟨#[109]⟩:=by kernel_rfl
 have h3:arnd (rwsU smpU 0) 21=some ⟨#[103]⟩:=by kernel_rfl
 unfold edRow
 rw[h1,h2,h3,if_pos (.inr rfl)]
 show(tgtU smpU 0 21 21 ⟨#[109]⟩).map (Ed.mk ⟨#[103]⟩)=_
 rw[evTgt]
 rfl
theorem evR21':edRows smpU 0 (rwsU smpU 0) 21=[⟨⟨#[65,46,109]⟩,⟨#[102]⟩⟩]:=by kernel_rfl
theorem evR22:edRow smpU 0 (rwsU smpU 0) 22=[]:=by kernel_rfl
theorem evR23:edRow smpU 0 (rwsU smpU 0) 23=[⟨⟨#[103]⟩,⟨#[103]⟩⟩]:=by kernel_rfl
theorem evAll:edAll smpU smpU.length=edW:=by
 show edAll smpU 1=edW
 rw[edAll,edAll,evLen,edRows,edRows,edRows,evR21',evR21,evR22,evR23]
 rfl
theorem pairW:edW.Pairwise fun a b=>ltEd b a=false:=by
 unfold edW
 refine .cons (fun b hb=>?_) (.cons (fun b hb=>?_) (.cons (by simp) .nil))
 ·simp only[List.mem_cons,List.not_mem_nil,or_false]at hb
  rcases hb with rfl | rfl <;> kernel_rfl
 ·simp only[List.mem_cons,List.not_mem_nil,or_false]at hb
  subst hb;kernel_rfl
theorem evGraph:graphU smpU=edW:=by
 rw[graphU,if_pos evChk,evAll,show sortEd edW=edW from uniqEd (sortEd_perm edW) (sortEd_pair edW) pairW]
 kernel_rfl
theorem evFg:flwS edW ⟨#[103]⟩=[⟨#[65,46,109]⟩,⟨#[103]⟩,⟨#[102]⟩]:=by kernel_rfl
theorem evCal:calN smpU=[⟨#[65,46,109]⟩,⟨#[102]⟩,⟨#[103]⟩]:=by kernel_rfl
theorem evFm:flwS edW ⟨#[65,46,109]⟩=[⟨#[102]⟩]:=by kernel_rfl
theorem evFf:flwS edW ⟨#[102]⟩=[]:=by kernel_rfl
def rchW:List ByteArray:=[⟨#[65,46,109]⟩,⟨#[102]⟩,⟨#[103]⟩]
theorem ascW:Asc rchW:=by
 unfold rchW
 refine .cons (fun b hb=>?_) (.cons (fun b hb=>?_) (.cons (by simp) .nil))
 ·simp only[List.mem_cons,List.not_mem_nil,or_false]at hb
  rcases hb with rfl | rfl <;> kernel_rfl
 ·simp only[List.mem_cons,List.not_mem_nil,or_false]at hb
  subst hb;kernel_rfl
theorem evReach:sortS (flwS edW ⟨#[103]⟩)=rchW:=by
 refine asc_eq (sortS_ascN (flwS_facts edW _).1) ascW fun x=>?_
 rw[(sortS_perm _).mem_iff,evFg]
 simp only[rchW,List.mem_cons,List.not_mem_nil,or_false]
 constructor
 ·rintro(h | h | h) <;> simp[h]
 ·rintro(h | h | h) <;> simp[h]
theorem evRec:recS smpU edW=[⟨#[103]⟩]:=by
 obtain⟨h1,h2⟩:=recS_facts smpU edW
 refine asc_eq h1 (by exact .cons (by simp) .nil) fun x=>?_
 rw[h2 x,←(flwS_facts edW x).2.1,evCal]
 simp only[List.mem_cons,List.not_mem_nil,or_false]
 constructor
 ·rintro⟨_,rfl | rfl | rfl,h⟩
  ·rw[evFm]at h;exact absurd (List.mem_singleton.1 h) (by decide)
  ·rw[evFf]at h;cases h
  ·rfl
 ·rintro rfl
  exact⟨by unfold edW;simp,.inr (.inr rfl),by rw[evFg];simp⟩
theorem evT8:tgsU smpU 0 8=[⟨#[102]⟩]:=by kernel_rfl
theorem evT0:tgsU smpU 0 0=[]:=by kernel_rfl
theorem Lawake:VPure env 9 [] (.bool true):=by
 have hfo:=(fit_ok (m:=160) (Nat.le_refl _) evFit)
 have hG:=KGraphF (m:=160) (Nat.le_refl _) evFit
 rw[evGraph]at hG
 have hR:=KReach smpU edW (by decide) hG ⟨#[103]⟩
 rw[evReach]at hR
 have hC:=KRecursive smpU hfo.1 edW (by decide) hG
 rw[evRec]at hC
 have hT8:=KTargets smpU hfo.1 hfo.2 0 8 (by omega)
 rw[evT8]at hT8
 have hT0:=KTargets smpU hfo.1 hfo.2 0 0 (by omega)
 rw[evT0]at hT0
 refine vpure_vc (fn:=Tryz.f9) Tryz.func9 rfl (by rw[Tryz.ntmps9];simp) rfl rfl ?_
 simp -implicitDefEqProofs only[go_sem,Tryz.f9]
 refine Lsample.calls (by simp -implicitDefEqProofs only[go_sem]) ?_
 generalize smpU=su at *
 simp -implicitDefEqProofs only[go_sem]
 refine hG.calls (by simp -implicitDefEqProofs only[go_sem]) ?_
 simp -implicitDefEqProofs only[go_sem]
 refine(R15Same edW edW).calls (by simp -implicitDefEqProofs only[go_sem,edW,Ed.enc,List.map_cons,List.map_nil]) ?_
 have d1:decide (edW=edW)=true:=by simp
 simp -implicitDefEqProofs only[go_sem,d1]
 refine hR.calls (by simp -implicitDefEqProofs only[go_sem]) ?_
 simp -implicitDefEqProofs only[go_sem]
 refine(R03Strings rchW rchW).calls (by simp -implicitDefEqProofs only[go_sem,rchW,encTx,List.map_cons,List.map_nil]) ?_
 have d2:decide (rchW=rchW)=true:=by simp
 simp -implicitDefEqProofs only[go_sem,d2]
 refine hC.calls (by simp -implicitDefEqProofs only[go_sem]) ?_
 simp -implicitDefEqProofs only[go_sem]
 refine(R03Strings [⟨#[103]⟩] [⟨#[103]⟩]).calls (by simp -implicitDefEqProofs only[go_sem,encTx,List.map_cons,List.map_nil]) ?_
 have d3:decide ([(⟨#[103]⟩:ByteArray)]=[⟨#[103]⟩])=true:=by simp
 simp -implicitDefEqProofs only[go_sem,d3]
 refine hT8.calls (by simp -implicitDefEqProofs only[go_sem]) ?_
 simp -implicitDefEqProofs only[go_sem]
 refine(R03Strings [⟨#[102]⟩] [⟨#[102]⟩]).calls (by simp -implicitDefEqProofs only[go_sem,encTx,List.map_cons,List.map_nil]) ?_
 have d4:decide ([(⟨#[102]⟩:ByteArray)]=[⟨#[102]⟩])=true:=by simp
 simp -implicitDefEqProofs only[go_sem,d4]
 refine hT0.calls (by simp -implicitDefEqProofs only[go_sem]) ?_
 simp -implicitDefEqProofs only[go_sem]
 rfl
end Go.Proofs.YtighfcpaplmaiaaGreatDoor
set_option maxRecDepth 20000
namespace Go.Proofs.YtighfcpaplmaiaaGreatDoor
open Go Go.Vg Go.Proofs
theorem R12Tables(u:List Un)(hu:fitU u):VPure env 25 [sl 70 (u.map Un.enc)] (sl 45 ((tabsU u).map encTab)):=by
 have hul:=hu.1
 refine vpure_vc (fn:=Tryz.f25) Tryz.func25 rfl (by rw[Tryz.ntmps25];simp) (by simp -implicitDefEqProofs only[go_sem];exact uns_pure _) (by simp -implicitDefEqProofs only[go_sem];exact tabs_pure _) ?_
 simp -implicitDefEqProofs only[go_sem,Tryz.f25]
 refine snd_list (β:=Unit) u (fun pre _=>⟨[(4,.int .i64 pre.length),(3,.slice (.arr 0) 45 ((tabsU pre).map encTab)),(0,sl 70 (u.map Un.enc))],[],[(tabsU pre).length]⟩)
  (fun _ _ _=>True) () ?_ trivial ?_ ?_
 ·simp -implicitDefEqProofs only[go_sem]
  exact⟨rfl,rfl⟩
 ·intro _ _
  simp -implicitDefEqProofs only[go_sem]
 ·rintro pre x post _ hx _
  have hpl:u.length=pre.length+1+post.length:=by rw[hx];simp;omega
  have hgx:(u.map Un.enc).getD (pre.length:Int).toNat []=x.enc:=by rw[hx];simp[List.getD_eq_getElem?_getD]
  have hlt:((pre.length:Int)<u.length)=True:=by simp;omega
  have hw:IntKind.i64.wrap (↑pre.length+1)=↑(pre.length+1):=wrap_next (by omega)
  have hxn:=(hu.2 x (by rw[hx];simp)).1
  have htl:(tabsU pre).length=pre.length:=by simp[tabsU]
  have hsn:(tabsU (pre++[x])).map encTab=(tabsU pre).map encTab++[encTab (if x.broken=true then []else rowsN x.tree (-1) 0)]:=by simp[tabsU]
  simp -implicitDefEqProofs only[go_sem,hgx,hlt]
  intro _ _
  refine⟨fun hb=>?_,fun hb=>⟨by omega,(),⟨hw,?_⟩,by simp[tabsU]⟩⟩
  ·refine(R06Rows x.tree (by omega)).calls (by simp -implicitDefEqProofs only[go_sem]) ?_
   simp -implicitDefEqProofs only[go_sem]
   refine⟨by omega,(),⟨hw,?_⟩,by simp[tabsU]⟩
   rw[hsn,if_neg (by simpa using hb)];rfl
  ·rw[hsn,if_pos (by simpa using hb)];rfl
theorem R11Function(l:List Rw)(i:Nat)(hi:i<l.length)(hr:rowsOK l)(hs:∀ r∈l,r.text.size≤1000000):VPure env 54 [sl 48 (l.map Rw.enc),.int .i64 i] (.str (qnR l i)):=by
 refine vpure_vc (fn:=Tryz.f54) Tryz.func54 rfl (by rw[Tryz.ntmps54];simp) (by simp -implicitDefEqProofs only[go_sem];exact rows_pure _) rfl ?_
 have hgi:=row_getDi hi
 have hpi:=hr.par i hi
 have hlt:((i:Int)<l.length)=True:=by simp;omega
 have hts:∀ j:Nat,j<l.length→(rwAt l j).text.size≤1000000:=fun j hj=>by
  have:=hs l[j] (List.getElem_mem hj)
  rw[show rwAt l j=l[j]by simp[rwAt,List.getD_eq_getElem?_getD,hj]]
  exact this
 simp -implicitDefEqProofs only[go_sem,Tryz.f54,hgi,hlt,Rw.enc]
 refine⟨fun hp0=>?_,fun hp0=>?_⟩
 ·obtain⟨p,hpe⟩:=Int.eq_ofNat_of_zero_le hp0
  have hpl:p<l.length:=by omega
  have hgp:=row_getDi hpl
  have hplt:((p:Int)<l.length)=True:=by simp;omega
  have hpp0:(0≤(p:Int))=True:=by simp
  have hq:qnR l i=if(rwAt l p).kind=7 then(rwAt l p).text++⟨#[46]⟩++(rwAt l i).text else(rwAt l i).text:=by
   unfold qnR;rw[hpe,Int.toNat_natCast];simp
  rw[hpe,hq]
  simp -implicitDefEqProofs only[go_sem,hgp,hplt,hpp0,hgi,hlt,Rw.enc]
  refine⟨fun h7=>?_,fun h7=>by rw[if_neg h7]⟩
  rw[if_pos h7]
  refine snd_draw (cs:=[]) mixed (by kernel_rfl) ?_
  simp -implicitDefEqProofs only[go_sem,hgp,hplt,hpp0,hgi,hlt,hpe,Rw.enc]
  have t1:=hts p hpl
  have t2:=hts i hi
  exact⟨(show(rwAt l p).text.size+1≤1152921504606846976 by omega),(show(rwAt l p).text.size+1+(rwAt l i).text.size≤1152921504606846976 by omega)⟩
 ·have hq:qnR l i=(rwAt l i).text:=by unfold qnR;rw[if_neg (fun h=>hp0 h.1)]
  rw[hq]
theorem R15Around(l:List Rw)(hr:rowsOK l)(i:Nat)(hi:i<l.length)(hs:∀ r∈l,r.text.size≤1000000):VPure env 26 [sl 48 (l.map Rw.enc),.int .i64 i] (.str ((arnd l i).getD ⟨#[]⟩)):=by
 refine vpure_vc (fn:=Tryz.f26) Tryz.func26 rfl (by rw[Tryz.ntmps26];simp) (by simp -implicitDefEqProofs only[go_sem];exact rows_pure _) rfl ?_
 simp -implicitDefEqProofs only[go_sem,Tryz.f26]
 refine snd_for (α:=Int×Nat) (fun b=>⟨[(5,.int .i64 b.1),(4,.str ⟨#[]⟩),(0,sl 48 (l.map Rw.enc))],[],[]⟩)
  (fun b => -1≤b.1∧b.1+1<b.2∧b.1<l.length∧fnAt l i=upF l b.2 b.1) (fun b=>(b.1+1).toNat) (i,l.length+1) ?_ ⟨by omega,by simp;omega,by simp;omega,rfl⟩ ?_
 ·simp -implicitDefEqProofs only[go_sem]
  try rfl
 ·rintro⟨k,f⟩ ⟨h1,h2,h3,h4⟩
  simp only at h1 h2 h3 h4 ⊢
  obtain⟨f,rfl⟩:∃ f',f=f'+1:=⟨f - 1,by omega⟩
  simp -implicitDefEqProofs only[go_sem]
  refine⟨fun hk=>?_,fun hk=>?_⟩
  ·obtain⟨k,rfl⟩:=Int.eq_ofNat_of_zero_le hk
   have hkl:k<l.length:=by omega
   have hgk:=row_getDi hkl
   have hklt:((k:Int)<l.length)=True:=by simp;omega
   have hk0:(0≤(k:Int))=True:=by simp
   have hpk:=hr.par k hkl
   rw[upF,if_neg (by omega),Int.toNat_natCast]at h4
   simp -implicitDefEqProofs only[go_sem,hgk,hklt,hk0,Rw.enc]
   refine⟨fun h2=>?_,fun h2=>?_⟩
   ·have h2':¬ (rwAt l k).kind=2:=by simpa using h2
    rw[if_neg h2']at h4
    exact⟨((rwAt l k).parent,f),by simp only;omega,⟨hpk.2,by simp only;omega,by simp only;omega,h4⟩,rfl⟩
   ·have h2':(rwAt l k).kind=2:=by simpa using h2
    rw[if_pos h2']at h4
    have har:arnd l i=some (qnR l k):=by rw[arnd,h4];rfl
    rw[har]
    refine⟨fun h=>by omega,fun _=>?_⟩
    refine(R11Function l k hkl hr hs).calls (by simp -implicitDefEqProofs only[go_sem]) ?_
    simp -implicitDefEqProofs only[go_sem]
    try rfl
  ·have hk':k<0:=by omega
   rw[upF,if_pos hk']at h4
   have:arnd l i=none:=by rw[arnd,h4];rfl
   rw[this]
   exact⟨fun _=>rfl,fun h=>absurd hk' h⟩
theorem LhasEdge(l:List Ed)(e:Ed):VPure env 27 [sl 38 (l.map Ed.enc),.agg e.enc] (.bool (l.any fun x=>decide (x=e))):=by
 refine vpure_vc (fn:=Tryz.f27) Tryz.func27 rfl (by rw[Tryz.ntmps27];simp) (by simp -implicitDefEqProofs only[go_sem,Ed.enc];exact eds_pure _) rfl ?_
 simp -implicitDefEqProofs only[go_sem,Tryz.f27]
 refine snd_list (β:=Unit) l (fun pre _=>⟨[(5,.int .i64 pre.length),(4,.bool false),(3,.ptr 0 0),(0,sl 38 (l.map Ed.enc))],[VObj.cells e.enc],[]⟩)
  (fun pre post _=>(l.any fun x=>decide (x=e))=post.any fun x=>decide (x=e)) () ?_ rfl ?_ ?_
 ·simp -implicitDefEqProofs only[go_sem]
  try rfl
 ·intro _ h
  simp -implicitDefEqProofs only[go_sem]
  rw[h]
  exact fun _ _=>rfl
 ·rintro pre x post _ hx h
  have hpl:l.length=pre.length+1+post.length:=by rw[hx];simp;omega
  have hgx:(l.map Ed.enc).getD (pre.length:Int).toNat []=x.enc:=by rw[hx];simp[List.getD_eq_getElem?_getD]
  have hlt:((pre.length:Int)<l.length)=True:=by simp;omega
  have hfk:flatK Tryz.prog 38=some [0,0]:=by kernel_rfl
  rw[List.any_cons]at h
  simp -implicitDefEqProofs only[go_sem,hgx,hlt,Ed.enc]
  intro _ _
  have hw:IntKind.i64.wrap (↑pre.length+1)=↑(pre.length+1):=wrap_next (by omega)
  refine snd_draw (cs:=[]) mixed (by kernel_rfl) ?_
  simp -implicitDefEqProofs only[go_sem,hgx,hlt,Ed.enc,hfk]
  have hxe:decide (x=e)=(decide (x.fr=e.fr) && decide (x.to=e.to)):=by
   obtain⟨a,b⟩:=x
   obtain⟨c,d⟩:=e
   rw[Bool.eq_iff_iff]
   simp
  rw[hxe]at h
  exact⟨fun c=>by rw[h,c];rfl,fun c=>⟨(),by rw[h,c];rfl,hw⟩⟩
end Go.Proofs.YtighfcpaplmaiaaGreatDoor
set_option maxRecDepth 20000
namespace Go.Vg
theorem upF_fuel{l:List Rw}(hr:rowsOK l):∀ (f g:Nat) (k:Int),k<l.length→k+1≤f→k+1≤g→upF l f k=upF l g k
 | 0,0,k,_,_,_=>rfl
 | 0,g+1,k,_,h,_=>by rw[upF,upF,if_pos (by omega)]
 | f+1,0,k,_,_,h=>by rw[upF,upF,if_pos (by omega)]
 | f+1,g+1,k,hk,h1,h2=>by
  rw[upF,upF]
  by_cases h0:k<0
  ·rw[if_pos h0,if_pos h0]
  ·rw[if_neg h0,if_neg h0]
   have hp:=hr.par k.toNat (by omega)
   rw[upF_fuel hr f g _ (by omega) (by omega) (by omega)]
theorem fnAt_step{l:List Rw}(hr:rowsOK l){i:Nat}(hi:i<l.length):fnAt l i=if(rwAt l i).kind=2 then some i else upF l (l.length+1) (rwAt l i).parent:=by
 have hp:=hr.par i hi
 unfold fnAt
 rw[upF,if_neg (by omega),Int.toNat_natCast,upF_fuel hr l.length (l.length+1) _ (by omega) (by omega) (by omega)]
theorem outer{l:List Rw}(hg:gramL l)(hc:∀ i<l.length,(rwAt l i).kind=9→∃ f,constR l f (kdAt l i 0)=true) :
  ∀ i,i<l.length→(fnAt l i).isSome=true∨(rwAt l i).kind=1∨(rwAt l i).kind=7∨(rwAt l i).kind=8∨(rwAt l i).kind=9∨∃ f,constR l f i=true:=by
 intro i
 induction i using Nat.strongRecOn with
 | _ i ih =>
  intro hi
  rcases Nat.eq_zero_or_pos i with rfl | h0
  ·exact .inr (.inl (hg.root hi))
  obtain⟨p,hp,hpi,j,hj,hk⟩:=hg.par i hi h0
  have hpl:p<l.length:=by omega
  have hst:=fnAt_step hg.ok hi
  rw[hp]at hst
  have hst':(rwAt l i).kind≠2→fnAt l i=fnAt l p:=fun h=>by rw[hst,if_neg h];rfl
  by_cases h2:(rwAt l i).kind=2
  ·rw[if_pos h2]at hst
   exact .inl (by rw[hst];rfl)
  have hf:=hg.fit p hpl j hj
  rw[hk]at hf
  rcases ih p hpi hpl with h | h | h | h | h | ⟨f,h⟩
  ·exact .inl (by rw[hst' h2];exact h)
  ·rw[h]at hf
   simp[fitsK,groupK]at hf
   omega
  ·rw[h]at hf
   simp[fitsK]at hf
   omega
  ·rw[h]at hf
   simp[fitsK]at hf
  ·have h9:=hc p hpl h
   rw[h]at hf
   simp[fitsK]at hf
   have:j=0:=by omega
   subst this
   rw[hk]at h9
   exact .inr (.inr (.inr (.inr (.inr h9))))
  ·cases f with
   | zero=>cases h
   | succ f =>
    rw[constR,Bool.and_eq_true,List.all_eq_true]at h
    have hm:i∈(rwAt l p).kids:=by
     have:=kdAt_get hj
     rw[hk]at this
     exact List.mem_of_getElem? this
    exact .inr (.inr (.inr (.inr (.inr ⟨f,h.2 i hm⟩))))
theorem call_fn{l:List Rw}(hg:gramL l)(hc:∀ i<l.length,(rwAt l i).kind=9→∃ f,constR l f (kdAt l i 0)=true){i:Nat}(hi:i<l.length)(hk:(rwAt l i).kind=20∨(rwAt l i).kind=21):(fnAt l i).isSome=true:=by
 rcases outer hg hc i hi with h | h | h | h | h | ⟨f,h⟩
 ·exact h
 ·omega
 ·omega
 ·omega
 ·omega
 ·cases f with
  | zero=>cases h
  | succ f =>
   rw[constR,Bool.and_eq_true,decide_eq_true_eq]at h
   omega
end Go.Vg
namespace Go.Proofs.YtighfcpaplmaiaaGreatDoor
open Go Go.Vg Go.Proofs
theorem dedE_asc:∀ (l a:List Ed),(l.Pairwise fun x y=>ltEd y x=false)→(a.Pairwise fun x y=>ltEd x y=true)→(∀ x∈a,∀ y∈l,ltEd y x=false)→(l.foldl dedA a).Pairwise fun x y=>ltEd x y=true
 | [],a,_,ha,_=>ha
 | s::c,a,hc,ha,hac=>by
  rw[List.foldl_cons]
  obtain⟨hc1,hc2⟩:=List.pairwise_cons.1 hc
  unfold dedA
  split
  ·exact dedE_asc c a hc2 ha fun x hx y hy=>hac x hx y (by simp[hy])
  ·rename_i hne
   have hlt:∀ x∈a,ltEd x s=true:=fun x hx=>by
    cases hl:ltEd x s with
    | true=>rfl
    | false =>
     have e:x=s:=ltEd_tri hl (hac x hx s (by simp))
     subst e
     exfalso
     have hn:a≠[]:=by intro h0;rw[h0]at hx;cases hx
     have hcl:=List.dropLast_concat_getLast hn
     have hlast:a.getLast? = some (a.getLast hn):=List.getLast?_eq_some_getLast hn
     rw[←hcl]at hx
     rcases List.mem_append.1 hx with h1 | h1
     ·have h2:ltEd x (a.getLast hn)=true:=by
       have h3:=ha
       rw[←hcl]at h3
       exact(List.pairwise_append.1 h3).2.2 x h1 _ (by simp)
      rw[hac _ (List.getLast_mem hn) x (by simp)]at h2
      cases h2
     ·simp only[List.mem_singleton]at h1
      rw[←h1]at hlast
      exact hne hlast
   refine dedE_asc c _ hc2 (List.pairwise_append.2 ⟨ha,by simp,fun x hx y hy=>?_⟩) fun x hx y hy=>?_
   ·simp only[List.mem_singleton]at hy
    subst hy
    exact hlt x hx
   ·rcases List.mem_append.1 hx with h1 | h1
    ·exact hac x h1 y (by simp[hy])
    ·simp only[List.mem_singleton]at h1
     subst h1
     exact hc1 y hy
theorem call_arnd{u:List Un}(hu:fitU u)(h0:(chkU u).1=0){un i:Nat}{l:List Rw}(hl:(tabsU u)[un]? = some l)(hi:i<l.length)(hk:(rwAt l i).kind=20∨(rwAt l i).kind=21):(arnd l i).isSome=true:=by
 have hc:=(chk_facts h0).const hl
 have hg:=(chkU_snd hu h0).gram l (List.mem_of_getElem? hl)
 rw[arnd,Option.isSome_map]
 exact call_fn hg hc hi hk
end Go.Proofs.YtighfcpaplmaiaaGreatDoor
namespace Go.Proofs.YtighfcpaplmaiaaGreatDoor
open Go Go.Vg Go.Proofs
theorem tgL_mem{u:List Un}{c t x:ByteArray}:x∈tgL u c t↔∃ y∈c::subU u c,∃ d,lookU u y t=some d∧qualM d=x:=by
 unfold tgL
 simp only[List.mem_filterMap,Option.map_eq_some_iff]
theorem tgtU_call{u:List Un}(h0:(chkU u).1=0){un i:Nat}{l:List Rw}(hl:(tabsU u)[un]? = some l)(hi:i<l.length){x:ByteArray}(hx:x∈tgtU u un i (rwAt l i).kind (rwAt l i).text):x∈calN u:=by
 have hc:=chk_facts h0
 unfold tgtU at hx
 split at hx
 ·rename_i hk
  simp only[List.mem_singleton]at hx
  subst hx
  obtain⟨d,hd⟩:=call_decl hc hl hi hk
  have hkey:=List.find?_some hd
  simp only[keyG,Bool.and_eq_true,decide_eq_true_eq]at hkey
  refine List.mem_filterMap.2 ⟨d,List.mem_of_find?_eq_some hd,?_⟩
  rw[callN,if_pos hkey.1.symm,hkey.2]
 split at hx
 ·split at hx
  ·rw[(sortS_perm _).mem_iff,dedU,(dedU_facts _ [] (by simp)).2]at hx
   rcases hx with hx | hx
   ·cases hx
   obtain⟨y,_,d,hd,rfl⟩:=tgL_mem.1 hx
   obtain⟨g1,g2,_⟩:=lookU_some hd
   refine List.mem_filterMap.2 ⟨d,g1,?_⟩
   rw[callN,if_neg (by omega),if_pos g2]
   rfl
  ·cases hx
 ·cases hx
theorem graph_to{u:List Un}(hu:fitU u){e:Ed}(h:e∈graphU u):e.to∈calN u:=by
 obtain⟨h0,un,x,i,hx,hi,he⟩:=graph_mem.1 h
 obtain⟨_,_,ht⟩:=edRow_mem.1 he
 have hl:=unit_tab (chkU_snd hu h0).br hx
 exact tgtU_call h0 hl hi ht
theorem graph_asc(u:List Un):(graphU u).Pairwise fun x y=>ltEd x y=true:=by
 unfold graphU
 split
 ·exact dedE_asc _ [] (sortEd_pair _) .nil (by simp)
 ·exact .nil
end Go.Proofs.YtighfcpaplmaiaaGreatDoor
