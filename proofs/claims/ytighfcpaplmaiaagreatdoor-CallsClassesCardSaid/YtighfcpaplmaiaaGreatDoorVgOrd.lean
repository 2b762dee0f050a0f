/- classes.Supers. -/
import Derived.Test.YtighfcpaplmaiaaGreatDoorToB
import Derived.Test.YtighfcpaplmaiaaGreatDoorTmI
import Derived.Lib.Join
import Derived.Shelf.GgSortFunc.Tiny
import Derived.Test.YtighfcpaplmaiaaGreatDoorVgK
set_option linter.unusedVariables false
set_option linter.unusedSimpArgs false
set_option maxRecDepth 20000
namespace Go.Vg
def addB(bt:Dl→ByteArray)(B:List (ByteArray×ByteArray))(d:Dl):List (ByteArray×ByteArray):=if d.kind=2∧(getB B d.name).isSome=false then B++[(d.name,bt d)]else B
def sameM(d e:Dl):Bool:=decide (d.owner=e.owner) && decide (d.name=e.name)
def addM(M:List Dl)(d:Dl):List Dl:=if d.kind=4∧(M.any (sameM d))=false then M++[d]else M
def basesL(bt:Dl→ByteArray)(l:List Dl):List (ByteArray×ByteArray):=l.foldl (addB bt) []
def methL(l:List Dl):List Dl:=l.foldl addM []
def mapM(M:List Dl):List (V×V):=M.map fun d=>(.agg [.str d.owner,.str d.name],.agg d.enc)
theorem basesL_snoc{bt:Dl→ByteArray}{l:List Dl}{d:Dl}:basesL bt (l++[d])=addB bt (basesL bt l) d:=by simp[basesL]
theorem methL_snoc{l:List Dl}{d:Dl}:methL (l++[d])=addM (methL l) d:=by simp[methL]
theorem basesL_len(bt:Dl→ByteArray)(l:List Dl):(basesL bt l).length≤l.length:=by
 have key:∀ (l:List Dl) (B:List (ByteArray×ByteArray)),(l.foldl (addB bt) B).length≤B.length+l.length:=by
  intro l
  induction l with
  | nil=>intro B;simp
  | cons x r ih =>
   intro B
   have:=ih (addB bt B x)
   have h2:(addB bt B x).length≤B.length+1:=by unfold addB;split <;> simp
   simp only[List.foldl_cons,List.length_cons];omega
 simpa[basesL]using key l []
theorem findM(d:Dl):∀ (M:List Dl) (i:Nat),(∃ j e,findA [0,0] [.str d.owner,.str d.name] (mapM M) i=some (some (j,.agg (Dl.enc e)))∧(M.any (sameM d))=true)∨(findA [0,0] [.str d.owner,.str d.name] (mapM M) i=some none∧(M.any (sameM d))=false)
 | [],i => .inr ⟨rfl,rfl⟩
 | e::r,i=>by
  have heq:eqL [V.str d.owner,V.str d.name] [V.str e.owner,V.str e.name]=some (sameM d e):=by
   simp only[eqL,eq1,Bool.and_true];rfl
  have h1:findA [0,0] [.str d.owner,.str d.name] (mapM (e::r)) i=if sameM d e=true then some (some (i,.agg e.enc))else findA [0,0] [.str d.owner,.str d.name] (mapM r) (i+1):=by
   simp only[mapM,List.map_cons,findA,heq]
   have hf:fits [0,0] [V.str d.owner,V.str d.name] [V.str e.owner,V.str e.name]=true:=rfl
   rw[if_pos hf]
   cases sameM d e <;> rfl
  rw[h1,List.any_cons]
  by_cases h:sameM d e=true
  ·exact .inl ⟨i,_,by rw[if_pos h],by rw[h];rfl⟩
  ·rw[if_neg h]
   have:sameM d e=false:=by simpa using h
   rw[this,Bool.false_or]
   exact findM d r (i+1)
def supU(u:List Un)(cls:ByteArray):List ByteArray:=(supB (basesL (btU u) (declsU u 0)) cls ((basesL (btU u) (declsU u 0)).length+1) [] ((getB (basesL (btU u) (declsU u 0)) cls).getD ⟨#[]⟩)).1
end Go.Vg
namespace Go.Proofs.YtighfcpaplmaiaaGreatDoor
open Go Go.Vg Go.Proofs
theorem set_B{B:List (ByteArray×ByteArray)}{n b:ByteArray}{h:List VObj}{id:Nat}{L:List VObj→Prop}(hn:(getB B n).isSome=false):vSetF h id (mapB B) (.str n) (.str b) (findV .string (.str n) (mapB B) 0) L=L (h.set id (.map (mapB (B++[(n,b)])))):=by
 rcases findB n B 0 with⟨j,v,h1,h2⟩ | ⟨h1,h2⟩
 ·rw[h2]at hn;cases hn
 ·rw[h1];simp -implicitDefEqProofs only[go_sem];simp[mapB]
theorem set_M{M:List Dl}{d:Dl}{h:List VObj}{id:Nat}{L:List VObj→Prop}(hn:(M.any (sameM d))=false):vSetF h id (mapM M) (.agg [.str d.owner,.str d.name]) (.agg d.enc) (findA [0,0] [.str d.owner,.str d.name] (mapM M) 0) L=L (h.set id (.map (mapM (M++[d])))):=by
 rcases findM d M 0 with⟨j,v,h1,h2⟩ | ⟨h1,h2⟩
 ·rw[h2]at hn;cases hn
 ·rw[h1];simp -implicitDefEqProofs only[go_sem];simp[mapM]
theorem ltP_B(k ka:Nat):∀ B:List (ByteArray×ByteArray),ltP k ka (mapB B)=true
 | []=>rfl
 | x::r=>by
  have:=ltP_B k ka r
  simp -implicitDefEqProofs only[mapB,List.map_cons,ltP,go_sem]at this ⊢
  simp[this,V.lt]
theorem ltP_M(k ka:Nat):∀ M:List Dl,ltP k ka (mapM M)=true
 | []=>rfl
 | x::r=>by
  have:=ltP_M k ka r
  have hx:(V.agg x.enc).lt k ka=true:=by simp[V.lt,Dl.enc,ltL]
  simp only[mapM,List.map_cons,ltP]at this ⊢
  rw[hx,this]
  simp[V.lt,ltL]
theorem lt_names(k ka:Nat):∀ B:List (ByteArray×ByteArray),ltLL k ka (B.map fun p=>[V.str p.1])=true
 | []=>rfl
 | x::r=>by simp only[List.map_cons,ltLL,lt_names k ka r];rfl
theorem zero_Dl:zeroVP Tryz.prog 54 = .agg Dl.zero.enc:=by kernel_rfl
theorem flat_method:flatK Tryz.prog 157=some [0,0]:=by kernel_rfl
theorem Cnew(u:List Un)(hu:fitU u):VCalls env 61 [sl 70 (u.map Un.enc)] [] [] fun v h a =>
  v = .ptr 2 0∧h=[.map (mapB (basesL (btU u) (declsU u 0))),.map (mapM (methL (declsU u 0))),.cells [.slice (.arr 0) 9 ((basesL (btU u) (declsU u 0)).map fun p=>[.str p.1]),.map 0,.map 1,sl 54 ((declsU u 0).map Dl.enc)]]∧a=[(basesL (btU u) (declsU u 0)).length]:=by
 have hD:=PDecls u hu
 rw[declsPU_eq]at hD
 have hdl:=declsU_len u 0 fun y hy=>(hu.2 y hy).1
 have hul:=hu.1
 have hat:∀ d∈declsU u 0,_:=fun d hd=>declsU_at u 0 d hd
 refine vcalls_vc (fn:=Tryz.f61) Tryz.func61 rfl (by rw[Tryz.ntmps61];simp) ?_
 simp -implicitDefEqProofs only[go_sem,Tryz.f61]
 refine hD.calls (by simp -implicitDefEqProofs only[go_sem]) ?_
 simp -implicitDefEqProofs only[go_sem]
 intro _ _
 generalize hdd:declsU u 0=dl at hat hdl ⊢
 have hdl2:dl.length≤1000000:=by omega
 refine snd_list (β:=Unit) dl (fun pre _=>⟨[(24,.int .i64 pre.length),(23,.int .i64 dl.length),(22,sl 54 (dl.map Dl.enc)),(3,.ptr 2 0),(0,sl 70 (u.map Un.enc))],
   [.map (mapB (basesL (btU u) pre)),.map (mapM (methL pre)),.cells [.slice (.arr 0) 9 ((basesL (btU u) pre).map fun p=>[.str p.1]),.map 0,.map 1,sl 54 (dl.map Dl.enc)]],[(basesL (btU u) pre).length]⟩)
  (fun _ _ _=>True) () ?_ trivial ?_ ?_
 ·simp -implicitDefEqProofs only[go_sem]
  exact⟨rfl,rfl,rfl,rfl⟩
 ·intro _ _
  simp -implicitDefEqProofs only[go_sem]
 ·rintro pre d post _ hx _
  have hpl:dl.length=pre.length+1+post.length:=by rw[hx];simp;omega
  have hgx:(dl.map Dl.enc).getD (pre.length:Int).toNat []=d.enc:=by rw[hx];simp[List.getD_eq_getElem?_getD]
  have hlt:((pre.length:Int)<dl.length)=True:=by simp;omega
  have hbl:=basesL_len (btU u) pre
  have hw:IntKind.i64.wrap (↑pre.length+1)=↑(pre.length+1):=wrap_next (by omega)
  obtain⟨un,x,e1,e2,e3,nd,n,e4,e5,e6,e7,e8⟩:=hat d (by rw[hx];simp)
  simp -implicitDefEqProofs only[go_sem,hgx,hlt]
  refine⟨fun h2=>?_,fun h2=>⟨fun h4=>?_,fun h4=>?_⟩⟩
  ·refine snd_draw (cs:=[]) mixed (by kernel_rfl) ?_
   simp -implicitDefEqProofs only[go_sem,look_B2]
   refine⟨fun hn=>?_,fun hn=>?_⟩
   ·have hn':(getB (basesL (btU u) pre) d.name).isSome=false:=by simpa using hn
    have hxm:x∈u:=List.mem_of_getElem? e2
    have hnm:n∈nodes x.tree:=List.mem_of_getElem? e5
    have hnl:=nodes_le x.tree n hnm
    have hxl:=(hu.2 x hxm).1
    have hbs:=Cbase u hu un nd x n e2 e5 (fun kk hk=>by
     obtain⟨k,t,g,ks⟩:=n
     have:=kid_nodes (k:=k) (t:=t) (g:=g) (ks:=ks) (x:=kk) hk;omega) (by
     obtain⟨k,t,g,ks⟩:=n
     have:=kids_nodes ks
     rw[nodes_mk]at hnl
     simp only[Nd.kids];omega)
    have hb:(baseL n.kids (nd+1)).1.text=btU u d:=by
     unfold btU
     rw[e1,e4]
     simp only[Nat.zero_add,Int.toNat_natCast,e2,e5]
     rw[baseL_fst n.kids (nd+1) 0]
    have hpa:basesL (btU u) (pre++[d])=basesL (btU u) pre++[(d.name,btU u d)]:=by
     rw[basesL_snoc,addB,if_pos ⟨h2,hn'⟩]
    have hpm:methL (pre++[d])=methL pre:=by
     rw[methL_snoc,addM,if_neg (by omega)]
    rw[e1,e4,Nat.zero_add,Nat.zero_add]
    refine hbs.calls (by simp -implicitDefEqProofs only[go_sem]) ?_
    generalize baseL n.kids (nd+1)=bb at hb ⊢
    obtain⟨⟨bk,bx,bg,bks⟩,bi⟩:=bb
    replace hb:bx=btU u d:=hb
    simp -implicitDefEqProofs only[go_sem,hb,set_B hn']
    refine snd_draw (cs:=[]) mixed (by kernel_rfl) ?_
    simp -implicitDefEqProofs only[go_sem,hb,set_B hn']
    refine snd_draw (cs:=[]) mixed (by kernel_rfl) ?_
    simp -implicitDefEqProofs only[go_sem,hb,set_B hn']
    rw[ltP_B,ltP_M,lt_names,ltLL_pure _ _ _ (dls_pure _),ltLL_pure _ _ _ (uns_pure _)]
    exact⟨by omega,(),hw,⟨by rw[hpa],by rw[hpm],by rw[hpa];simp⟩,by rw[hpa];simp,.inr ⟨rfl,rfl⟩⟩
   ·have hn':(getB (basesL (btU u) pre) d.name).isSome=true:=by simpa using hn
    have hpa:basesL (btU u) (pre++[d])=basesL (btU u) pre:=by
     rw[basesL_snoc,addB,if_neg (by rw[hn'];simp)]
    have hpm:methL (pre++[d])=methL pre:=by
     rw[methL_snoc,addM,if_neg (by omega)]
    rw[hpa,hpm,ltP_B,ltP_M,lt_names,ltLL_pure _ _ _ (dls_pure _),ltLL_pure _ _ _ (uns_pure _)]
    exact⟨(),hw,⟨rfl,rfl,rfl⟩,rfl,.inr ⟨rfl,rfl⟩⟩
  ·refine snd_draw (cs:=[]) mixed (by kernel_rfl) ?_
   simp -implicitDefEqProofs only[go_sem,flat_method]
   have hpa:basesL (btU u) (pre++[d])=basesL (btU u) pre:=by
    rw[basesL_snoc,addB,if_neg (by omega)]
   rcases findM d (methL pre) 0 with⟨j,v,q1,q2⟩ | ⟨q1,q2⟩
   ·have hpm:methL (pre++[d])=methL pre:=by
     rw[methL_snoc,addM,if_neg (by rw[q2];simp)]
    rw[q1]
    simp -implicitDefEqProofs only[go_sem]
    rw[hpa,hpm,ltP_B,ltP_M,lt_names,ltLL_pure _ _ _ (dls_pure _),ltLL_pure _ _ _ (uns_pure _)]
    exact⟨(),hw,⟨rfl,rfl,rfl⟩,rfl,.inr ⟨rfl,rfl⟩⟩
   ·have hpm:methL (pre++[d])=methL pre++[d]:=by
     rw[methL_snoc,addM,if_pos ⟨h4,q2⟩]
    rw[q1]
    simp -implicitDefEqProofs only[go_sem,zero_Dl]
    refine snd_draw (cs:=[]) mixed (by kernel_rfl) ?_
    simp -implicitDefEqProofs only[go_sem,flat_method,set_M q2]
    rw[ltP_B,ltP_M,lt_names,ltLL_pure _ _ _ (dls_pure _),ltLL_pure _ _ _ (uns_pure _)]
    exact⟨(),hw,⟨by rw[hpa],by rw[hpm],by rw[hpa]⟩,by rw[hpa],.inr ⟨rfl,rfl⟩⟩
  ·have hpa:basesL (btU u) (pre++[d])=basesL (btU u) pre:=by
    rw[basesL_snoc,addB,if_neg (by omega)]
   have hpm:methL (pre++[d])=methL pre:=by
    rw[methL_snoc,addM,if_neg (by omega)]
   rw[hpa,hpm,ltP_B,ltP_M,lt_names,ltLL_pure _ _ _ (dls_pure _),ltLL_pure _ _ _ (uns_pure _)]
   exact⟨(),hw,⟨rfl,rfl,rfl⟩,rfl,.inr ⟨rfl,rfl⟩⟩
theorem CSupers(u:List Un)(hu:fitU u)(cls:ByteArray):VPure env 33 [sl 70 (u.map Un.enc),.str cls] (sl 9 ((supU u cls).map encTx)):=by
 have hdl:=declsU_len u 0 fun y hy=>(hu.2 y hy).1
 have hul:=hu.1
 have hbl:=basesL_len (btU u) (declsU u 0)
 refine vpure_vc (fn:=Tryz.f33) Tryz.func33 rfl (by rw[Tryz.ntmps33];simp) (by simp -implicitDefEqProofs only[go_sem];exact uns_pure _) (by simp -implicitDefEqProofs only[go_sem]) ?_
 simp -implicitDefEqProofs only[go_sem,Tryz.f33]
 refine VCalls.mono (Cnew u hu) ?_
 rintro v h a ⟨rfl,rfl,rfl⟩
 simp -implicitDefEqProofs only[go_sem]
 refine VCalls.mono (Csupers (basesL (btU u) (declsU u 0)) _ _ _ _ cls (by omega) rfl rfl) ?_
 rintro v h a ⟨n,z,rfl,rfl,rfl⟩
 simp -implicitDefEqProofs only[go_sem]
 rfl
end Go.Proofs.YtighfcpaplmaiaaGreatDoor
namespace Go.Vg
theorem rows_root{k:Int}{t g}{ks:List Nd}{p:Int}{a:Nat}:rowsN (.mk k t g ks) p a=⟨p,k,t,g,kidsAt ks (a+1)⟩::rowsL ks a (a+1):=by rw[rowsN]
theorem split_at:∀ (n:Nd) (i:Nat) (y:Nd),(nodes n)[i]? = some y→∃ A B,nodes n=A++nodes y++B∧A.length=i∧∀ p a,∃ q A' B',rowsN n p a=A'++rowsN y q (a+i)++B'∧A'.length=i:=by
 refine Nd.all fun k t g ks ih i y hy=>?_
 have hs:∀ (l:List Nd),(∀ z∈l,∀ (i:Nat) (y:Nd),(nodes z)[i]? = some y→∃ A B,nodes z=A++nodes y++B∧A.length=i∧∀ p a,∃ q A' B',rowsN z p a=A'++rowsN y q (a+i)++B'∧A'.length=i)→∀ (i:Nat) (y:Nd),(nodesL l)[i]? = some y →
   ∃ A B,nodesL l=A++nodes y++B∧A.length=i∧∀ (p:Nat) a,∃ q A' B',rowsL l p a=A'++rowsN y q (a+i)++B'∧A'.length=i:=by
  intro l
  induction l with
  | nil=>intro _ i y hy;simp[nodesL]at hy
  | cons z r ihr =>
   intro h i y hy
   rw[nodesL]at hy
   by_cases hi:i<(nodes z).length
   ·rw[List.getElem?_append_left hi]at hy
    obtain⟨A,B,h1,h2,h3⟩:=h z (by simp) i y hy
    refine⟨A,B++nodesL r,by rw[nodesL,h1];simp,h2,fun p a=>?_⟩
    obtain⟨q,A',B',g1,g2⟩:=h3 p a
    exact⟨q,A',B'++rowsL r p (a+(nodes z).length),by rw[rowsL,g1];simp,g2⟩
   ·rw[List.getElem?_append_right (by omega)]at hy
    obtain⟨A,B,h1,h2,h3⟩:=ihr (fun w hw=>h w (by simp[hw])) _ y hy
    refine⟨nodes z++A,B,by rw[nodesL,h1];simp,by rw[List.length_append];omega,fun p a=>?_⟩
    obtain⟨q,A',B',g1,g2⟩:=h3 p (a+(nodes z).length)
    refine⟨q,rowsN z p a++A',B',?_,by rw[List.length_append,rowsN_len];omega⟩
    rw[rowsL,g1,show a+(nodes z).length+(i - (nodes z).length)=a+i by omega];simp
 rw[nodes]at hy
 cases i with
 | zero =>
  simp at hy
  subst hy
  exact⟨[],[],by simp,rfl,fun p a=>⟨p,[],[],by simp,rfl⟩⟩
 | succ i =>
  rw[List.getElem?_cons_succ]at hy
  obtain⟨A,B,h1,h2,h3⟩:=hs ks ih i y hy
  refine⟨.mk k t g ks::A,B,by rw[nodes,h1];simp,by simp[h2],fun p a=>?_⟩
  obtain⟨q,A',B',g1,g2⟩:=h3 a (a+1)
  refine⟨q,⟨p,k,t,g,kidsAt ks (a+1)⟩::A',B',?_,by simp[g2]⟩
  rw[rows_root,g1,show a+1+i=a+(i+1)by omega];simp
theorem row_at{n:Nd}{i:Nat}{k:Int}{t g}{ks:List Nd}(h:(nodes n)[i]? = some (.mk k t g ks)):∃ q,(rowsN n (-1) 0)[i]? = some ⟨q,k,t,g,kidsAt ks (i+1)⟩:=by
 obtain⟨A,B,h1,h2,h3⟩:=split_at n i _ h
 obtain⟨q,A',B',g1,g2⟩:=h3 (-1) 0
 refine⟨q,?_⟩
 rw[g1,rows_root,List.append_assoc,List.getElem?_append_right (by omega),g2,Nat.zero_add]
 simp
theorem rwAt_at{n:Nd}{i:Nat}{k:Int}{t g}{ks:List Nd}(h:(nodes n)[i]? = some (.mk k t g ks)):(rwAt (rowsN n (-1) 0) i).kind=k∧(rwAt (rowsN n (-1) 0) i).text=t∧(rwAt (rowsN n (-1) 0) i).kids=kidsAt ks (i+1):=by
 obtain⟨q,hq⟩:=row_at h
 simp[rwAt,List.getD_eq_getElem?_getD,hq]
theorem kidsL_at:∀ (ks:List Nd) (b j:Nat) (z:Nd),ks[j]? = some z→∃ o,(kidsAt ks b)[j]? = some (b+o)∧(nodesL ks)[o]? = some z
 | [],b,j,z,h=>by simp at h
 | x::r,b,j,z,h=>by
  cases j with
  | zero =>
   simp at h;subst h
   refine⟨0,by simp[kidsAt],?_⟩
   obtain⟨a1,a2,a3,a4⟩:=x
   simp[nodesL,nodes]
  | succ j =>
   obtain⟨o,h1,h2⟩:=kidsL_at r (b+(nodes x).length) j z (by simpa using h)
   refine⟨(nodes x).length+o,by rw[kidsAt,List.getElem?_cons_succ,h1,Nat.add_assoc],?_⟩
   rw[nodesL,List.getElem?_append_right (by omega)];simpa using h2
theorem kid_at{n:Nd}{i j:Nat}{k:Int}{t g}{ks:List Nd}{z:Nd}(h:(nodes n)[i]? = some (.mk k t g ks))(hz:ks[j]? = some z):∃ c,(kidsAt ks (i+1))[j]? = some c∧(nodes n)[c]? = some z:=by
 obtain⟨A,B,h1,h2,h3⟩:=split_at n i _ h
 obtain⟨o,g1,g2⟩:=kidsL_at ks (i+1) j z hz
 refine⟨i+1+o,g1,?_⟩
 have hol:=(List.getElem?_eq_some_iff.1 g2).1
 rw[h1,List.append_assoc,List.getElem?_append_right (by omega),nodes]
 rw[List.getElem?_append_left (by simp;omega),h2,show i+1+o - i=o+1 by omega,List.getElem?_cons_succ]
 exact g2
end Go.Vg
set_option maxRecDepth 20000
namespace Go.Vg
end Go.Vg
namespace Go.Proofs.YtighfcpaplmaiaaGreatDoor
open Go Go.Vg Go.Proofs
end Go.Proofs.YtighfcpaplmaiaaGreatDoor
set_option maxRecDepth 20000
namespace Go.Vg
end Go.Vg
namespace Go.Proofs.YtighfcpaplmaiaaGreatDoor
open Go Go.Vg Go.Proofs
end Go.Proofs.YtighfcpaplmaiaaGreatDoor
set_option maxRecDepth 20000
namespace Go.Vg
open Go
def fitsT(u:List Un)(a b:ByteArray):Bool:=decide (a=b) || (supU u a).any fun x=>decide (x=b)
def binOK(n:Nd):Prop:=∀ x∈nodes n,x.kind=24→0<opLevel x.text
theorem ba_append{a b:ByteArray}:(a++b).data.toList=a.data.toList++b.data.toList:=by simp
open Lib in
theorem decN_itoa(n:Nat):decN n=itoaB n:=by
 have:∀ n:Nat,(decN n).data.toList=decDigits n:=by
  intro n
  induction n using Nat.strongRecOn with
  | _ n ih =>
  have hs:∀ k:Nat,k<10→(strOf [48+(k:Int)]).data.toList=[UInt8.ofNat (48+k)]:=by
   intro k hk
   simp only[strOf,List.map_cons,List.map_nil]
   congr 1
  rw[decN,decDigits]
  split
  ·rename_i h
   rw[Nat.mod_eq_of_lt h]
   exact hs n h
  ·rw[ba_append,ih (n / 10) (by omega),hs (n % 10) (by omega)]
 apply ba_ext
 rw[this]
 simp[itoaB,itoa]
end Go.Vg
namespace Go.Proofs.YtighfcpaplmaiaaGreatDoor
open Go Go.Vg Go.Proofs
structure sgOK(u:List Un):Prop where
 fit:fitU u
 gaps:gapsU u
 ok:∀ o n d,findD (declsU (u.map Un.sound) 0) (kindOf o) o n=some d→declOK (u.map Un.sound) d
end Go.Proofs.YtighfcpaplmaiaaGreatDoor
set_option maxRecDepth 20000
namespace Go.Proofs.YtighfcpaplmaiaaGreatDoor
open Go Go.Vg Go.Proofs
end Go.Proofs.YtighfcpaplmaiaaGreatDoor
namespace Go.Vg
mutual
def bare:Nd→Nd
 | .mk k t _ ks => .mk k t [] (bares ks)
def bares:List Nd→List Nd
 | []=>[]
 | n::r=>bare n::bares r
end
end Go.Vg
namespace Go.Proofs.YtighfcpaplmaiaaGreatDoor
open Go Go.Vg Go.Proofs
end Go.Proofs.YtighfcpaplmaiaaGreatDoor
set_option maxRecDepth 20000
namespace Go.Proofs.YtighfcpaplmaiaaGreatDoor
open Go Go.Vg Go.Proofs
structure ndOK(n:Nd):Prop where
 sh:short n
 par:parOK n
 bin:binOK n
 len:n.kids.length≤1000000
 send:n.kind=21→1≤n.kids.length
theorem set_same{α:Type}{l:List α}{i:Nat}{x:α}(h:l[i]? = some x):l.set i x=l:=by
 apply List.ext_getElem?
 intro j
 by_cases hj:i=j
 ·subst hj
  rw[List.getElem?_set_self (List.getElem?_eq_some_iff.1 h).1,h]
 ·rw[List.getElem?_set_ne hj]
end Go.Proofs.YtighfcpaplmaiaaGreatDoor
set_option maxRecDepth 20000
namespace Go.Proofs.YtighfcpaplmaiaaGreatDoor
open Go Go.Vg Go.Proofs
end Go.Proofs.YtighfcpaplmaiaaGreatDoor
namespace Go.Vg
theorem left_count:∀ (n:Nd) (a l:Int),0≤left n a l→left n a l+(nodes n).length≤a:=by
 refine Nd.all fun k t g ks ih a l h=>?_
 have hs:∀ r:List Nd,(∀ x∈r,∀ a l:Int,0≤left x a l→left x a l+(nodes x).length≤a)→∀ a l:Int,0≤lefts r a l→lefts r a l+(nodesL r).length≤a:=by
  intro r
  induction r with
  | nil=>intro _ a l _;simp[lefts,nodesL]
  | cons x r ihr =>
   intro hx a l h
   rw[lefts]at h ⊢
   split at h
   ·omega
   ·rename_i hn
    rw[if_neg hn]
    have h1:=hx x (by simp) a l (by omega)
    have h2:=ihr (fun y hy=>hx y (by simp[hy])) _ l h
    rw[nodesL,List.length_append];omega
 rw[left]at h ⊢
 split at h
 ·omega
 ·rename_i hn
  rw[if_neg hn]
  have:=hs ks ih _ _ h
  rw[nodes_mk];omega
theorem weighG_all:∀ (g:List ByteArray) (b:Int),0≤weighG g b→∀ s∈g,(s.size:Int)≤b
 | [],b,h,s,hs=>by cases hs
 | x::r,b,h,s,hs=>by
  rw[weighG]at h
  split at h
  ·omega
  ·rcases List.mem_cons.1 hs with rfl | hs
   ·omega
   ·have:=weighG_all r _ h s hs;omega
def lightAt(y:Nd)(b:Int):Prop:=(y.text.size:Int)≤b∧∀ s∈y.gaps,(s.size:Int)≤b
theorem weigh_all:∀ (n:Nd) (b:Int),0≤weigh n b→∀ y∈nodes n,lightAt y b:=by
 refine Nd.all fun k t g ks ih b h y hy=>?_
 have hs:∀ r:List Nd,(∀ x∈r,∀ b:Int,0≤weigh x b→∀ y∈nodes x,lightAt y b)→∀ b:Int,0≤weighs r b→∀ y∈nodesL r,lightAt y b:=by
  intro r
  induction r with
  | nil=>intro _ b _ y hy;simp[nodesL]at hy
  | cons x r ihr =>
   intro hx b h y hy
   rw[weighs]at h
   split at h
   ·omega
   ·rename_i hn
    rw[nodesL,List.mem_append]at hy
    rcases hy with hy | hy
    ·exact hx x (by simp) b (by omega) y hy
    ·have h2:=ihr (fun z hz=>hx z (by simp[hz])) _ h y hy
     have h3:=weigh_le x b
     exact⟨by have:=h2.1;omega,fun s hs=>by have:=h2.2 s hs;omega⟩
 rw[weigh]at h
 split at h
 ·omega
 ·rename_i h1
  split at h
  ·omega
  ·rename_i h2
   have h3:=weighG_le g (b - t.size)
   rw[nodes]at hy
   rcases List.mem_cons.1 hy with rfl | hy
   ·refine⟨by show(t.size:Int)≤b;omega,fun s hs=>?_⟩
    have:=weighG_all g (b - t.size) (by omega) s hs
    omega
   ·have h4:=hs ks ih _ h y hy
    exact⟨by have:=h4.1;omega,fun s hs=>by have:=h4.2 s hs;omega⟩
theorem fits_short{n:Nd}{b:Int}(hb:b≤1000000)(h:0≤weigh n b):short n∧shortG n :=
 ⟨fun y hy=>by have:=(weigh_all n b h y hy).1;omega,fun y hy s hs=>by have:=(weigh_all n b h y hy).2 s hs;omega⟩
theorem self_mem(n:Nd):n∈nodes n:=by obtain⟨k,t,g,ks⟩:=n;rw[nodes];simp
theorem firstN_zero:∀ (n:Nd),firstN n=0→∀ y∈nodes n,y.node=0:=by
 refine Nd.all fun k t g ks ih h y hy=>?_
 rw[firstN]at h
 split at h
 ·rename_i h0
  rw[nodes]at hy
  rcases List.mem_cons.1 hy with rfl | hy
  ·exact h0
  ·have hs:∀ r:List Nd,(∀ x∈r,firstN x=0→∀ y∈nodes x,y.node=0)→firstNs r=0→∀ y∈nodesL r,y.node=0:=by
    intro r
    induction r with
    | nil=>intro _ _ y hy;simp[nodesL]at hy
    | cons x r ihr =>
     intro hx h y hy
     rw[firstNs]at h
     split at h
     ·rename_i hx0
      rw[nodesL,List.mem_append]at hy
      rcases hy with hy | hy
      ·exact hx x (by simp) hx0 y hy
      ·exact ihr (fun z hz=>hx z (by simp[hz])) h y hy
     ·rename_i hx0;exact absurd h hx0
   exact hs ks ih h y hy
 ·rename_i h0;exact absurd h h0
theorem node_shape{y:Nd}(h:y.node=0):y.shape=true:=by
 cases hs:y.shape with
 | true=>rfl
 | false =>
  unfold Nd.node at h
  rw[hs]at h
  simp at h
theorem check_nodes{n:Nd}(h:checkN n=0):∀ y∈nodes n,y.shape=true:=by
 unfold checkN at h
 split at h
 ·cases h
 ·exact fun y hy=>node_shape (firstN_zero n h y hy)
theorem shape_least{k:Int}{t g}{ks:List Nd}(h:(Nd.mk k t g ks).shape=true):leastK k≤ks.length∧fitsFrom k ks 0=true∧(namedK k t || wordK k t)=true:=by
 unfold Nd.shape at h
 simp only[Bool.and_eq_true]at h
 obtain⟨⟨⟨⟨⟨h1,h2⟩,h3⟩,h4⟩,h5⟩,h6⟩:=h
 rw[Bool.not_eq_true',decide_eq_false_iff_not]at h3
 exact⟨Int.not_lt.1 h3,h4,h5⟩
theorem kidsAt_mem{ks:List Nd}{b c:Nat}(h:c∈kidsAt ks b):∃ (j:Nat) (z:Nd),(kidsAt ks b)[j]? = some c∧ks[j]? = some z:=by
 obtain⟨j,hj,e⟩:=List.getElem_of_mem h
 have hl:j<ks.length:=by rw[kidsAt_len]at hj;exact hj
 exact⟨j,ks[j],by rw[List.getElem?_eq_getElem hj,e],List.getElem?_eq_getElem hl⟩
theorem sign_ok{n:Nd}(hc:checkN n=0)(hl:(nodes n).length≤1000){i:Nat}{y:Nd}(hy:(nodes n)[i]? = some y)(h2:y.kind=2):signOK (rowsN n (-1) 0) i:=by
 have hsh:=check_nodes hc
 have hyl:=(List.getElem?_eq_some_iff.1 hy).1
 have hrl:(rowsN n (-1) 0).length=(nodes n).length:=rowsN_len ..
 obtain⟨k,t,g,ks⟩:=y
 replace h2:k=2:=h2
 subst h2
 obtain⟨s1,s2,_⟩:=shape_least (hsh _ (List.mem_of_getElem? hy))
 have s1':3≤ks.length:=by simp[leastK]at s1;omega
 obtain⟨a1,a2,a3⟩:=rwAt_at hy
 have hk0:ks[0]? = some ks[0]:=List.getElem?_eq_getElem (by omega)
 have hk1:ks[1]? = some ks[1]:=List.getElem?_eq_getElem (by omega)
 obtain⟨c0,b1,b2⟩:=kid_at hy hk0
 obtain⟨c1,b3,b4⟩:=kid_at hy hk1
 have e0:kdAt (rowsN n (-1) 0) i 0=c0:=by
  show(rwAt (rowsN n (-1) 0) i).kids.getD 0 0=c0
  rw[a3,List.getD_eq_getElem?_getD,b1];rfl
 have e1:kdAt (rowsN n (-1) 0) i 1=c1:=by
  show(rwAt (rowsN n (-1) 0) i).kids.getD 1 0=c1
  rw[a3,List.getD_eq_getElem?_getD,b3];rfl
 have f0:=fitsFrom_get s2 0 _ hk0
 generalize hp:ks[0]=p at b2 f0
 obtain⟨pk,pt,pg,pks⟩:=p
 have hpk:pk=3:=by
  have:fitsK 2 (0+((0:Nat):Int)) pk=true:=f0
  simpa[fitsK]using this
 subst hpk
 obtain⟨p1,p2,p3⟩:=rwAt_at b2
 have hpm:=List.mem_of_getElem? b2
 obtain⟨_,q2,_⟩:=shape_least (hsh _ hpm)
 have hpl:pks.length≤1000:=by
  have h1:=kids_nodes pks
  have h2:=nodes_le _ _ hpm
  rw[nodes_mk]at h2;omega
 refine⟨by omega,by omega,by rw[a3,kidsAt_len];omega,?_,?_,?_,?_⟩
 ·rw[e0,hrl];exact(List.getElem?_eq_some_iff.1 b2).1
 ·rw[e1,hrl];exact(List.getElem?_eq_some_iff.1 b4).1
 ·rw[e0,p3,kidsAt_len];omega
 ·rw[e0,p3]
  intro c hcm
  obtain⟨j,z,j1,j2⟩:=kidsAt_mem hcm
  obtain⟨c',j3,j4⟩:=kid_at b2 j2
  have:c'=c:=by rw[j1]at j3;simpa using j3.symm
  subst this
  have fz:=fitsFrom_get q2 j z j2
  obtain⟨zk,zt,zg,zks⟩:=z
  have hzk:zk=4:=by
   have:fitsK 3 (0+(j:Int)) zk=true:=fz
   unfold fitsK at this
   rw[if_neg (by omega)]at this
   simpa using this
  subst hzk
  obtain⟨r1,_⟩:=shape_least (hsh _ (List.mem_of_getElem? j4))
  have r1':1≤zks.length:=by simp[leastK]at r1;omega
  obtain⟨z1,z2,z3⟩:=rwAt_at j4
  obtain⟨d,w1,w2⟩:=kid_at j4 (List.getElem?_eq_getElem (show 0<zks.length by omega))
  refine⟨by rw[hrl];exact(List.getElem?_eq_some_iff.1 j4).1,by rw[z3,kidsAt_len];omega,?_⟩
  have:kdAt (rowsN n (-1) 0) c' 0=d:=by
   show(rwAt (rowsN n (-1) 0) c').kids.getD 0 0=d
   rw[z3,List.getD_eq_getElem?_getD,w1];rfl
  rw[this,hrl];exact(List.getElem?_eq_some_iff.1 w2).1
end Go.Vg
namespace Go.Vg
def Dl.off(d:Dl)(u:Int):Dl:={ d with unit:=u }
theorem declT_off(k:Int)(t:ByteArray)(u m:Int)(x:Ar):declT k t u m x=(declT k t 0 m x).map (Dl.off · u):=by
 unfold declT
 repeat' split
 all_goals rfl
theorem walkD_off:∀ (n:Nd) (u:Int) (m:Nat) (x:Ar),walkD n u m x=(walkD n 0 m x).map (Dl.off · u):=by
 refine Nd.all fun k t g ks ih u m x=>?_
 have hs:∀ l:List Nd,(∀ y∈l,∀ (u:Int) (m:Nat) (x:Ar),walkD y u m x=(walkD y 0 m x).map (Dl.off · u))→∀ (m:Nat) (x:Ar),walkDs l u m x=(walkDs l 0 m x).map (Dl.off · u):=by
  intro l
  induction l with
  | nil=>intro _ m x;rfl
  | cons y r ihr =>
   intro h m x
   rw[walkDs,walkDs,List.map_append,h y (by simp),ihr fun z hz=>h z (by simp[hz])]
 rw[walkD,walkD,List.map_append,hs ks ih,declT_off]
 congr 1
 cases declT k t 0 (↑m) x <;> rfl
def declsI:List Un→Nat→List (Dl×Un)
 | [],_=>[]
 | x::r,i=>(if x.broken=true then []else(walkD x.tree i 0 Ar.none).map fun d=>(d,x))++declsI r (i+1)
def declsX:List Un→List (Dl×Un)
 | []=>[]
 | x::r=>(if x.broken=true then []else(walkD x.tree 0 0 Ar.none).map fun d=>(d,x))++declsX r
theorem declsI_U:∀ (u:List Un) (i:Nat),declsU u i=(declsI u i).map (·.1)
 | [],_=>rfl
 | x::r,i=>by
  rw[declsU,declsI,List.map_append,←declsI_U r]
  congr 1
  split
  ·rfl
  ·rw[List.map_map];exact(List.map_id _).symm
theorem declsI_X:∀ (u:List Un) (i:Nat),declsX u=(declsI u i).map fun p=>(p.1.off 0,p.2)
 | [],_=>rfl
 | x::r,i=>by
  rw[declsX,declsI,List.map_append,←declsI_X r]
  congr 1
  split
  ·rfl
  ·rw[walkD_off x.tree i,List.map_map,List.map_map]
   have:∀ d∈walkD x.tree 0 0 Ar.none,d.off 0=d:=fun d hd=>by
    have:=(walkD_at x.tree 0 0 Ar.none d hd).1
    unfold Dl.off;rw[←this]
   apply List.map_congr_left
   intro d hd
   show((d,x):Dl×Un)=((d.off (i:Int)).off 0,x)
   rw[show(d.off (i:Int)).off 0=d.off 0 from rfl,this d hd]
theorem declsI_get:∀ (u:List Un) (i:Nat) (p:Dl×Un),p∈declsI u i→∃ j,p.1.unit=((i+j:Nat):Int)∧u[j]? = some p.2
 | [],i,p,h=>by simp[declsI]at h
 | x::r,i,p,h=>by
  rw[declsI,List.mem_append]at h
  rcases h with h | h
  ·split at h
   ·cases h
   ·obtain⟨d,hd,rfl⟩:=List.mem_map.1 h
    exact⟨0,(walkD_at x.tree i 0 Ar.none d hd).1,rfl⟩
  ·obtain⟨j,h1,h2⟩:=declsI_get r (i+1) p h
   exact⟨j+1,by rw[h1];congr 1;omega,by simpa using h2⟩
def isD(kind:Int)(owner name:ByteArray)(d:Dl):Bool:=decide (d.kind=kind) && decide (d.owner=owner) && decide (d.name=name)
theorem find_map'{α β:Type}(f:α→β)(p:β→Bool):∀ l:List α,(l.map f).find? p=(l.find? fun a=>p (f a)).map f
 | []=>rfl
 | a::r=>by
  rw[List.map_cons,List.find?_cons,List.find?_cons]
  cases p (f a)with
  | true=>rfl
  | false=>exact find_map' f p r
def btX(p:Dl×Un):ByteArray:=match(nodes p.2.tree)[p.1.node.toNat]? with
 | some n=>(baseL n.kids 0).1.text
 | none=>⟨#[]⟩
def addX(B:List (ByteArray×ByteArray))(p:Dl×Un):List (ByteArray×ByteArray):=if p.1.kind=2∧(getB B p.1.name).isSome=false then B++[(p.1.name,btX p)]else B
theorem bases_X(u:List Un):basesL (btU u) (declsU u 0)=(declsX u).foldl addX []:=by
 have key:∀ (l:List (Dl×Un)),(∀ p∈l,p∈declsI u 0)→∀ B,(l.map (·.1)).foldl (addB (btU u)) B=(l.map fun p=>((p.1.off 0,p.2):Dl×Un)).foldl addX B:=by
  intro l
  induction l with
  | nil=>intro _ B;rfl
  | cons p r ih =>
   intro h B
   rw[List.map_cons,List.map_cons,List.foldl_cons,List.foldl_cons,ih fun q hq=>h q (by simp[hq])]
   congr 1
   obtain⟨j,h1,h2⟩:=declsI_get u 0 p (h p (by simp))
   have hb:btU u p.1=btX (p.1.off 0,p.2):=by
    unfold btU
    rw[h1,Nat.zero_add,Int.toNat_natCast,h2]
    rfl
   unfold addB addX
   rw[hb];rfl
 rw[basesL,declsI_U,declsI_X u 0]
 exact key _ (fun p hp=>hp) []
theorem supU_X{u v:List Un}(h:declsX u=declsX v)(c:ByteArray):supU u c=supU v c:=by
 unfold supU
 rw[bases_X,bases_X,h]
theorem sound_sound(x:Un):x.sound.sound=x.sound:=by
 unfold Un.sound
 by_cases h:soundB x=true
 ·rw[if_pos h,if_pos h]
 ·rw[if_neg h,if_neg (by simp[soundB])]
theorem soundX:∀ u:List Un,declsX (u.map Un.sound)=declsX (u.filter soundB)
 | []=>rfl
 | x::r=>by
  rw[List.map_cons,declsX,soundX r]
  by_cases h:soundB x=true
  ·have e:x.sound=x:=by rw[Un.sound,if_pos h]
   rw[e,List.filter_cons_of_pos h,declsX]
  ·have e:x.sound.broken=true:=by rw[Un.sound,if_neg h]
   rw[if_pos e,List.filter_cons_of_neg h,List.nil_append]
theorem sound_fix{x:Un}(h:soundB x=true):x.sound=x:=by rw[Un.sound,if_pos h]
end Go.Vg
namespace Go.Proofs.YtighfcpaplmaiaaGreatDoor
open Go Go.Vg Go.Proofs
theorem ofU_X(u:List Un)(kind:Int)(owner name:ByteArray):ofU u kind owner name=((declsX u).find? fun p=>isD kind owner name p.1).map fun p=>signR (rowsN p.2.tree (-1) 0) p.1.node.toNat:=by
 unfold ofU findD
 rw[declsI_U,declsI_X u 0,find_map',find_map']
 have e:((declsI u 0).find? fun a=>isD kind owner name (a.1.off 0,a.2).1)=(declsI u 0).find? fun a=>decide (a.1.kind=kind) && decide (a.1.owner=owner) && decide (a.1.name=name):=rfl
 rw[e]
 cases hf:(declsI u 0).find? fun a=>decide (a.1.kind=kind) && decide (a.1.owner=owner) && decide (a.1.name=name)with
 | none=>rfl
 | some p =>
  obtain⟨j,h1,h2⟩:=declsI_get u 0 p (List.mem_of_find?_eq_some hf)
  simp only[Option.map_some,Option.bind_some,h1,Nat.zero_add,Int.toNat_natCast,h2]
  rfl
theorem sigU_X{u v:List Un}(h:declsX (u.map Un.sound)=declsX (v.map Un.sound))(o n:ByteArray):sigU u o n=sigU v o n:=by
 unfold sigU
 rw[ofU_X,ofU_X,h]
theorem sounds_fix(u:List Un):(u.map Un.sound).map Un.sound=u.map Un.sound:=by
 rw[List.map_map];exact List.map_congr_left fun x _=>sound_sound x
theorem filter_fix(u:List Un):(u.filter soundB).map Un.sound=u.filter soundB:=by
 have:∀ x∈u.filter soundB,x.sound=x:=fun x hx=>sound_fix (List.mem_filter.1 hx).2
 calc (u.filter soundB).map Un.sound=(u.filter soundB).map id:=List.map_congr_left this
  _=_:=List.map_id _
theorem both(u:List Un):(∀ o n,sigU (u.map Un.sound) o n=sigU (u.filter soundB) o n)∧(∀ a b,fitsT (u.map Un.sound) a b=fitsT (u.filter soundB) a b):=by
 refine⟨fun o n=>sigU_X ?_ o n,fun a b=>?_⟩
 ·rw[sounds_fix,filter_fix,soundX]
 ·unfold fitsT
  rw[supU_X (soundX u)]
end Go.Proofs.YtighfcpaplmaiaaGreatDoor
set_option maxRecDepth 20000
namespace Go.Proofs.YtighfcpaplmaiaaGreatDoor
open Go Go.Vg Go.Proofs Go.Shelf Go.RowKit
end Go.Proofs.YtighfcpaplmaiaaGreatDoor
namespace Go.Vg
def joinC(l:List ByteArray):ByteArray:=⟨(Lib.join (l.map fun x=>x.data.toList) [44,32]).toArray⟩
end Go.Vg
namespace Go.Proofs.YtighfcpaplmaiaaGreatDoor
open Go Go.Vg Go.Proofs Go.Shelf Go.RowKit
theorem hjl{xs:List ByteArray}(hs:(joinC xs).size≤2000000000000):(Lib.join (xs.map fun x=>x.data.toList) (⟨#[44,32]⟩:ByteArray).data.toList).length≤140737488355328:=by
 have h:=hs
 unfold joinC at h
 have h2:(Lib.join (xs.map fun x=>x.data.toList) [44,32]).length≤2000000000000:=by simpa[ByteArray.size]using h
 show(Lib.join (xs.map fun x=>x.data.toList) [44,32]).length≤_
 omega
structure Cb where
 name:ByteArray
 sign:ByteArray
 path:ByteArray
def Cb.enc(x:Cb):List V:=[.str x.name,.str x.sign,.str x.path]
theorem cbs_pure:∀ l:List Cb,pureLL (l.map Cb.enc)=true
 | []=>rfl
 | n::r=>by show(pureL _ && pureLL (r.map Cb.enc))=true;rw[cbs_pure r];rfl
attribute [go_sem] cbs_pure
@[go_sem] theorem vMkD_sl{e t:TypeId}{u:V}{M:V→Prop}:vMkD (some (.slice e)) t u M=M (.iface t u):=rfl
structure Ch where
 name:ByteArray
 path:ByteArray
 was:ByteArray
 now:ByteArray
def Ch.enc(x:Ch):List V:=[.str x.name,.str x.path,.str x.was,.str x.now]
theorem chs_pure:∀ l:List Ch,pureLL (l.map Ch.enc)=true
 | []=>rfl
 | n::r=>by show(pureL _ && pureLL (r.map Ch.enc))=true;rw[chs_pure r];rfl
attribute [go_sem] chs_pure
end Go.Proofs.YtighfcpaplmaiaaGreatDoor
namespace Go.Vg
theorem bl_cons(a b:UInt8)(x y:List UInt8):Op.bytesLess (a::x) (b::y)=(decide (a.toNat<b.toNat) || (decide (a.toNat=b.toNat) && Op.bytesLess x y)):=by
 have e:(a == b)=decide (a.toNat=b.toNat):=by rw[Bool.eq_iff_iff];simp[UInt8.toNat_inj]
 rw[Op.bytesLess,e]
 simp[UInt8.lt_iff_toNat_lt]
theorem bl_irrefl:∀ l:List UInt8,Op.bytesLess l l=false
 | []=>rfl
 | a::x=>by rw[bl_cons,bl_irrefl x];simp
theorem bl_trans:∀ x y z:List UInt8,Op.bytesLess x y=true→Op.bytesLess y z=true→Op.bytesLess x z=true
 | [],[],_,h,_=>by cases h
 | _::_,[],_,h,_=>by cases h
 | [],_::_,[],_,h=>by cases h
 | [],_::_,_::_,_,_=>rfl
 | _::_,_::_,[],_,h=>by cases h
 | a::x,b::y,c::z,h1,h2=>by
  have ih:=bl_trans x y z
  rw[bl_cons]at h1 h2 ⊢
  simp only[Bool.or_eq_true,Bool.and_eq_true,decide_eq_true_eq]at h1 h2 ⊢
  rcases h1 with h1 | ⟨h1,h1'⟩ <;> rcases h2 with h2 | ⟨h2,h2'⟩
  ·exact .inl (by omega)
  ·exact .inl (by omega)
  ·exact .inl (by omega)
  ·exact .inr ⟨by omega,ih h1' h2'⟩
theorem bl_tri:∀ x y:List UInt8,Op.bytesLess x y=false→Op.bytesLess y x=false→x=y
 | [],[],_,_=>rfl
 | [],_::_,h,_=>by cases h
 | _::_,[],_,h=>by cases h
 | a::x,b::y,h1,h2=>by
  rw[bl_cons]at h1 h2
  simp only[Bool.or_eq_false_iff,Bool.and_eq_false_iff,decide_eq_false_iff_not]at h1 h2
  obtain⟨h1,h1'⟩:=h1
  obtain⟨h2,h2'⟩:=h2
  have e:a.toNat=b.toNat:=by omega
  have e1:a=b:=UInt8.toNat_inj.1 e
  have e2:x=y:=bl_tri x y (by rcases h1' with h | h;omega;exact h) (by rcases h2' with h | h;omega;exact h)
  rw[e1,e2]
def ltB(a b:ByteArray):Bool:=Op.bytesLess a.toList b.toList
theorem ltB_irrefl(a:ByteArray):ltB a a=false:=bl_irrefl _
theorem ltB_trans{a b c:ByteArray}(h1:ltB a b=true)(h2:ltB b c=true):ltB a c=true:=bl_trans _ _ _ h1 h2
theorem toList_inj{a b:ByteArray}(h:a.toList=b.toList):a=b:=by
 have e:(a.toList == b.toList)=true:=by rw[h];simp
 rw[toList_beq]at e
 simpa using e
theorem ltB_tri{a b:ByteArray}(h1:ltB a b=false)(h2:ltB b a=false):a=b:=toList_inj (bl_tri _ _ h1 h2)
end Go.Vg
