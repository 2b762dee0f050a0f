/- classes.Supers. -/
import Derived.Test.YtamednbojpnalaaGreatDoorToB
import Derived.Test.YtamednbojpnalaaGreatDoorTmC
set_option linter.unusedVariables false
set_option linter.unusedSimpArgs false
set_option maxRecDepth 20000
namespace Go.Vg
def addB(bt:Dl→ByteArray)(B:List (ByteArray×ByteArray))(d:Dl):List (ByteArray×ByteArray):=if d.kind=2∧(getB B d.name).isSome=false then B++[(d.name,bt d)]else B
def sameM(d e:Dl):Bool:=decide (d.owner=e.owner) && decide (d.name=e.name)
def addM(M:List Dl)(d:Dl):List Dl:=if d.kind=4∧(M.any (sameM d))=false then M++[d]else M
def basesL(bt:Dl→ByteArray)(l:List Dl):List (ByteArray×ByteArray):=l.foldl (addB bt) []
def methL(l:List Dl):List Dl:=l.foldl addM []
def mapM(M:List Dl):List (V×V):=M.map fun d=>(.agg [.str d.owner,.str d.name],.agg d.enc)
theorem basesL_snoc{bt:Dl→ByteArray}{l:List Dl}{d:Dl}:basesL bt (l++[d])=addB bt (basesL bt l) d:=by simp[basesL]
theorem methL_snoc{l:List Dl}{d:Dl}:methL (l++[d])=addM (methL l) d:=by simp[methL]
theorem basesL_len(bt:Dl→ByteArray)(l:List Dl):(basesL bt l).length≤l.length:=by
 have key:∀ (l:List Dl) (B:List (ByteArray×ByteArray)),(l.foldl (addB bt) B).length≤B.length+l.length:=by
  intro l
  induction l with
  | nil=>intro B;simp
  | cons x r ih =>
   intro B
   have:=ih (addB bt B x)
   have h2:(addB bt B x).length≤B.length+1:=by unfold addB;split <;> simp
   simp only[List.foldl_cons,List.length_cons];omega
 simpa[basesL]using key l []
theorem findM(d:Dl):∀ (M:List Dl) (i:Nat),(∃ j e,findA [0,0] [.str d.owner,.str d.name] (mapM M) i=some (some (j,.agg (Dl.enc e)))∧(M.any (sameM d))=true)∨(findA [0,0] [.str d.owner,.str d.name] (mapM M) i=some none∧(M.any (sameM d))=false)
 | [],i => .inr ⟨rfl,rfl⟩
 | e::r,i=>by
  have heq:eqL [V.str d.owner,V.str d.name] [V.str e.owner,V.str e.name]=some (sameM d e):=by
   simp only[eqL,eq1,Bool.and_true];rfl
  have h1:findA [0,0] [.str d.owner,.str d.name] (mapM (e::r)) i=if sameM d e=true then some (some (i,.agg e.enc))else findA [0,0] [.str d.owner,.str d.name] (mapM r) (i+1):=by
   simp only[mapM,List.map_cons,findA,heq]
   have hf:fits [0,0] [V.str d.owner,V.str d.name] [V.str e.owner,V.str e.name]=true:=rfl
   rw[if_pos hf]
   cases sameM d e <;> rfl
  rw[h1,List.any_cons]
  by_cases h:sameM d e=true
  ·exact .inl ⟨i,_,by rw[if_pos h],by rw[h];rfl⟩
  ·rw[if_neg h]
   have:sameM d e=false:=by simpa using h
   rw[this,Bool.false_or]
   exact findM d r (i+1)
def supU(u:List Un)(cls:ByteArray):List ByteArray:=(supB (basesL (btU u) (declsU u 0)) cls ((basesL (btU u) (declsU u 0)).length+1) [] ((getB (basesL (btU u) (declsU u 0)) cls).getD ⟨#[]⟩)).1
end Go.Vg
namespace Go.Proofs.YtamednbojpnalaaGreatDoor
open Go Go.Vg Go.Proofs
theorem set_B{B:List (ByteArray×ByteArray)}{n b:ByteArray}{h:List VObj}{id:Nat}{L:List VObj→Prop}(hn:(getB B n).isSome=false):vSetF h id (mapB B) (.str n) (.str b) (findV .string (.str n) (mapB B) 0) L=L (h.set id (.map (mapB (B++[(n,b)])))):=by
 rcases findB n B 0 with⟨j,v,h1,h2⟩ | ⟨h1,h2⟩
 ·rw[h2]at hn;cases hn
 ·rw[h1];simp -implicitDefEqProofs only[go_sem];simp[mapB]
theorem set_M{M:List Dl}{d:Dl}{h:List VObj}{id:Nat}{L:List VObj→Prop}(hn:(M.any (sameM d))=false):vSetF h id (mapM M) (.agg [.str d.owner,.str d.name]) (.agg d.enc) (findA [0,0] [.str d.owner,.str d.name] (mapM M) 0) L=L (h.set id (.map (mapM (M++[d])))):=by
 rcases findM d M 0 with⟨j,v,h1,h2⟩ | ⟨h1,h2⟩
 ·rw[h2]at hn;cases hn
 ·rw[h1];simp -implicitDefEqProofs only[go_sem];simp[mapM]
theorem ltP_B(k ka:Nat):∀ B:List (ByteArray×ByteArray),ltP k ka (mapB B)=true
 | []=>rfl
 | x::r=>by
  have:=ltP_B k ka r
  simp -implicitDefEqProofs only[mapB,List.map_cons,ltP,go_sem]at this ⊢
  simp[this,V.lt]
theorem ltP_M(k ka:Nat):∀ M:List Dl,ltP k ka (mapM M)=true
 | []=>rfl
 | x::r=>by
  have:=ltP_M k ka r
  have hx:(V.agg x.enc).lt k ka=true:=by simp[V.lt,Dl.enc,ltL]
  simp only[mapM,List.map_cons,ltP]at this ⊢
  rw[hx,this]
  simp[V.lt,ltL]
theorem lt_names(k ka:Nat):∀ B:List (ByteArray×ByteArray),ltLL k ka (B.map fun p=>[V.str p.1])=true
 | []=>rfl
 | x::r=>by simp only[List.map_cons,ltLL,lt_names k ka r];rfl
theorem zero_Dl:zeroVP Tryz.prog 61 = .agg Dl.zero.enc:=by kernel_rfl
theorem flat_method:flatK Tryz.prog 194=some [0,0]:=by kernel_rfl
theorem Cnew(u:List Un)(hu:fitU u):VCalls env 100 [sl 34 (u.map Un.enc)] [] [] fun v h a =>
  v = .ptr 2 0∧h=[.map (mapB (basesL (btU u) (declsU u 0))),.map (mapM (methL (declsU u 0))),.cells [.slice (.arr 0) 9 ((basesL (btU u) (declsU u 0)).map fun p=>[.str p.1]),.map 0,.map 1,sl 61 ((declsU u 0).map Dl.enc)]]∧a=[(basesL (btU u) (declsU u 0)).length]:=by
 have hD:=PDecls u hu
 rw[declsPU_eq]at hD
 have hdl:=declsU_len u 0 fun y hy=>(hu.2 y hy).1
 have hul:=hu.1
 have hat:∀ d∈declsU u 0,_:=fun d hd=>declsU_at u 0 d hd
 refine vcalls_vc (fn:=Tryz.f100) Tryz.func100 rfl (by rw[Tryz.ntmps100];simp) ?_
 simp -implicitDefEqProofs only[go_sem,Tryz.f100]
 refine hD.calls (by simp -implicitDefEqProofs only[go_sem]) ?_
 simp -implicitDefEqProofs only[go_sem]
 intro _ _
 generalize hdd:declsU u 0=dl at hat hdl ⊢
 have hdl2:dl.length≤1000000:=by omega
 refine snd_list (β:=Unit) dl (fun pre _=>⟨[(24,.int .i64 pre.length),(23,.int .i64 dl.length),(22,sl 61 (dl.map Dl.enc)),(3,.ptr 2 0),(0,sl 34 (u.map Un.enc))],
   [.map (mapB (basesL (btU u) pre)),.map (mapM (methL pre)),.cells [.slice (.arr 0) 9 ((basesL (btU u) pre).map fun p=>[.str p.1]),.map 0,.map 1,sl 61 (dl.map Dl.enc)]],[(basesL (btU u) pre).length]⟩)
  (fun _ _ _=>True) () ?_ trivial ?_ ?_
 ·simp -implicitDefEqProofs only[go_sem]
  exact⟨rfl,rfl,rfl,rfl⟩
 ·intro _ _
  simp -implicitDefEqProofs only[go_sem]
 ·rintro pre d post _ hx _
  have hpl:dl.length=pre.length+1+post.length:=by rw[hx];simp;omega
  have hgx:(dl.map Dl.enc).getD (pre.length:Int).toNat []=d.enc:=by rw[hx];simp[List.getD_eq_getElem?_getD]
  have hlt:((pre.length:Int)<dl.length)=True:=by simp;omega
  have hbl:=basesL_len (btU u) pre
  have hw:IntKind.i64.wrap (↑pre.length+1)=↑(pre.length+1):=wrap_next (by omega)
  obtain⟨un,x,e1,e2,e3,nd,n,e4,e5,e6,e7,e8⟩:=hat d (by rw[hx];simp)
  simp -implicitDefEqProofs only[go_sem,hgx,hlt]
  refine⟨fun h2=>?_,fun h2=>⟨fun h4=>?_,fun h4=>?_⟩⟩
  ·refine snd_draw (cs:=[]) mixed (by kernel_rfl) ?_
   simp -implicitDefEqProofs only[go_sem,look_B2]
   refine⟨fun hn=>?_,fun hn=>?_⟩
   ·have hn':(getB (basesL (btU u) pre) d.name).isSome=false:=by simpa using hn
    have hxm:x∈u:=List.mem_of_getElem? e2
    have hnm:n∈nodes x.tree:=List.mem_of_getElem? e5
    have hnl:=nodes_le x.tree n hnm
    have hxl:=(hu.2 x hxm).1
    have hbs:=Cbase u hu un nd x n e2 e5 (fun kk hk=>by
     obtain⟨k,t,g,ks⟩:=n
     have:=kid_nodes (k:=k) (t:=t) (g:=g) (ks:=ks) (x:=kk) hk;omega) (by
     obtain⟨k,t,g,ks⟩:=n
     have:=kids_nodes ks
     rw[nodes_mk]at hnl
     simp only[Nd.kids];omega)
    have hb:(baseL n.kids (nd+1)).1.text=btU u d:=by
     unfold btU
     rw[e1,e4]
     simp only[Nat.zero_add,Int.toNat_natCast,e2,e5]
     rw[baseL_fst n.kids (nd+1) 0]
    have hpa:basesL (btU u) (pre++[d])=basesL (btU u) pre++[(d.name,btU u d)]:=by
     rw[basesL_snoc,addB,if_pos ⟨h2,hn'⟩]
    have hpm:methL (pre++[d])=methL pre:=by
     rw[methL_snoc,addM,if_neg (by omega)]
    rw[e1,e4,Nat.zero_add,Nat.zero_add]
    refine hbs.calls (by simp -implicitDefEqProofs only[go_sem]) ?_
    generalize baseL n.kids (nd+1)=bb at hb ⊢
    obtain⟨⟨bk,bx,bg,bks⟩,bi⟩:=bb
    replace hb:bx=btU u d:=hb
    simp -implicitDefEqProofs only[go_sem,hb,set_B hn']
    refine snd_draw (cs:=[]) mixed (by kernel_rfl) ?_
    simp -implicitDefEqProofs only[go_sem,hb,set_B hn']
    refine snd_draw (cs:=[]) mixed (by kernel_rfl) ?_
    simp -implicitDefEqProofs only[go_sem,hb,set_B hn']
    rw[ltP_B,ltP_M,lt_names,ltLL_pure _ _ _ (dls_pure _),ltLL_pure _ _ _ (uns_pure _)]
    exact⟨by omega,(),hw,⟨by rw[hpa],by rw[hpm],by rw[hpa];simp⟩,by rw[hpa];simp,.inr ⟨rfl,rfl⟩⟩
   ·have hn':(getB (basesL (btU u) pre) d.name).isSome=true:=by simpa using hn
    have hpa:basesL (btU u) (pre++[d])=basesL (btU u) pre:=by
     rw[basesL_snoc,addB,if_neg (by rw[hn'];simp)]
    have hpm:methL (pre++[d])=methL pre:=by
     rw[methL_snoc,addM,if_neg (by omega)]
    rw[hpa,hpm,ltP_B,ltP_M,lt_names,ltLL_pure _ _ _ (dls_pure _),ltLL_pure _ _ _ (uns_pure _)]
    exact⟨(),hw,⟨rfl,rfl,rfl⟩,rfl,.inr ⟨rfl,rfl⟩⟩
  ·refine snd_draw (cs:=[]) mixed (by kernel_rfl) ?_
   simp -implicitDefEqProofs only[go_sem,flat_method]
   have hpa:basesL (btU u) (pre++[d])=basesL (btU u) pre:=by
    rw[basesL_snoc,addB,if_neg (by omega)]
   rcases findM d (methL pre) 0 with⟨j,v,q1,q2⟩ | ⟨q1,q2⟩
   ·have hpm:methL (pre++[d])=methL pre:=by
     rw[methL_snoc,addM,if_neg (by rw[q2];simp)]
    rw[q1]
    simp -implicitDefEqProofs only[go_sem]
    rw[hpa,hpm,ltP_B,ltP_M,lt_names,ltLL_pure _ _ _ (dls_pure _),ltLL_pure _ _ _ (uns_pure _)]
    exact⟨(),hw,⟨rfl,rfl,rfl⟩,rfl,.inr ⟨rfl,rfl⟩⟩
   ·have hpm:methL (pre++[d])=methL pre++[d]:=by
     rw[methL_snoc,addM,if_pos ⟨h4,q2⟩]
    rw[q1]
    simp -implicitDefEqProofs only[go_sem,zero_Dl]
    refine snd_draw (cs:=[]) mixed (by kernel_rfl) ?_
    simp -implicitDefEqProofs only[go_sem,flat_method,set_M q2]
    rw[ltP_B,ltP_M,lt_names,ltLL_pure _ _ _ (dls_pure _),ltLL_pure _ _ _ (uns_pure _)]
    exact⟨(),hw,⟨by rw[hpa],by rw[hpm],by rw[hpa]⟩,by rw[hpa],.inr ⟨rfl,rfl⟩⟩
  ·have hpa:basesL (btU u) (pre++[d])=basesL (btU u) pre:=by
    rw[basesL_snoc,addB,if_neg (by omega)]
   have hpm:methL (pre++[d])=methL pre:=by
    rw[methL_snoc,addM,if_neg (by omega)]
   rw[hpa,hpm,ltP_B,ltP_M,lt_names,ltLL_pure _ _ _ (dls_pure _),ltLL_pure _ _ _ (uns_pure _)]
   exact⟨(),hw,⟨rfl,rfl,rfl⟩,rfl,.inr ⟨rfl,rfl⟩⟩
theorem CSupers(u:List Un)(hu:fitU u)(cls:ByteArray):VPure env 87 [sl 34 (u.map Un.enc),.str cls] (sl 9 ((supU u cls).map encTx)):=by
 have hdl:=declsU_len u 0 fun y hy=>(hu.2 y hy).1
 have hul:=hu.1
 have hbl:=basesL_len (btU u) (declsU u 0)
 refine vpure_vc (fn:=Tryz.f87) Tryz.func87 rfl (by rw[Tryz.ntmps87];simp) (by simp -implicitDefEqProofs only[go_sem];exact uns_pure _) (by simp -implicitDefEqProofs only[go_sem]) ?_
 simp -implicitDefEqProofs only[go_sem,Tryz.f87]
 refine VCalls.mono (Cnew u hu) ?_
 rintro v h a ⟨rfl,rfl,rfl⟩
 simp -implicitDefEqProofs only[go_sem]
 refine VCalls.mono (Csupers (basesL (btU u) (declsU u 0)) _ _ _ _ cls (by omega) rfl rfl) ?_
 rintro v h a ⟨n,z,rfl,rfl,rfl⟩
 simp -implicitDefEqProofs only[go_sem]
 rfl
theorem TFits(u:List Un)(hu:fitU u)(a b:ByteArray):VPure env 59 [sl 34 (u.map Un.enc),.str a,.str b] (.bool (decide (a=b) || (supU u a).any fun x=>decide (x=b))):=by
 refine vpure_vc (fn:=Tryz.f59) Tryz.func59 rfl (by rw[Tryz.ntmps59];simp) (by simp -implicitDefEqProofs only[go_sem];exact uns_pure _) rfl ?_
 simp -implicitDefEqProofs only[go_sem,Tryz.f59]
 refine⟨fun h=>by simp[h],fun h=>?_⟩
 refine(CSupers u hu a).calls (by simp -implicitDefEqProofs only[go_sem]) ?_
 simp -implicitDefEqProofs only[go_sem]
 intro b1 b2
 generalize supU u a=l at b1 b2 ⊢
 refine snd_list (β:=Unit) l (fun pre _=>⟨[(16,.int .i64 pre.length),(15,.int .i64 l.length),(14,sl 9 (l.map encTx)),(6,.bool false),(2,.str b)],[],[]⟩) (fun pre post _=>(l.any fun x=>decide (x=b))=post.any fun x=>decide (x=b)) () ?_ rfl ?_ ?_
 ·simp -implicitDefEqProofs only[go_sem]
  try rfl
 ·intro _ hi
  simp -implicitDefEqProofs only[go_sem]
  rw[hi];simp[h]
 ·intro pre x post _ hx hi
  have hpl:l.length=pre.length+1+post.length:=by rw[hx];simp;omega
  have hgx:(l.map encTx).getD (pre.length:Int).toNat []=[V.str x]:=by rw[hx];simp[List.getD_eq_getElem?_getD,encTx]
  have hw:IntKind.i64.wrap (↑pre.length+1)=↑(pre.length+1):=wrap_next (by omega)
  have hlt:((pre.length:Int)<l.length)=True:=by simp;omega
  simp -implicitDefEqProofs only[go_sem,hgx,hlt]
  refine⟨fun hb=>by rw[hi];simp[hb],fun hb=>⟨(),by rw[hi];simp[hb],hw⟩⟩
end Go.Proofs.YtamednbojpnalaaGreatDoor
namespace Go.Vg
theorem rows_root{k:Int}{t g}{ks:List Nd}{p:Int}{a:Nat}:rowsN (.mk k t g ks) p a=⟨p,k,t,g,kidsAt ks (a+1)⟩::rowsL ks a (a+1):=by rw[rowsN]
theorem split_at:∀ (n:Nd) (i:Nat) (y:Nd),(nodes n)[i]? = some y→∃ A B,nodes n=A++nodes y++B∧A.length=i∧∀ p a,∃ q A' B',rowsN n p a=A'++rowsN y q (a+i)++B'∧A'.length=i:=by
 refine Nd.all fun k t g ks ih i y hy=>?_
 have hs:∀ (l:List Nd),(∀ z∈l,∀ (i:Nat) (y:Nd),(nodes z)[i]? = some y→∃ A B,nodes z=A++nodes y++B∧A.length=i∧∀ p a,∃ q A' B',rowsN z p a=A'++rowsN y q (a+i)++B'∧A'.length=i)→∀ (i:Nat) (y:Nd),(nodesL l)[i]? = some y →
   ∃ A B,nodesL l=A++nodes y++B∧A.length=i∧∀ (p:Nat) a,∃ q A' B',rowsL l p a=A'++rowsN y q (a+i)++B'∧A'.length=i:=by
  intro l
  induction l with
  | nil=>intro _ i y hy;simp[nodesL]at hy
  | cons z r ihr =>
   intro h i y hy
   rw[nodesL]at hy
   by_cases hi:i<(nodes z).length
   ·rw[List.getElem?_append_left hi]at hy
    obtain⟨A,B,h1,h2,h3⟩:=h z (by simp) i y hy
    refine⟨A,B++nodesL r,by rw[nodesL,h1];simp,h2,fun p a=>?_⟩
    obtain⟨q,A',B',g1,g2⟩:=h3 p a
    exact⟨q,A',B'++rowsL r p (a+(nodes z).length),by rw[rowsL,g1];simp,g2⟩
   ·rw[List.getElem?_append_right (by omega)]at hy
    obtain⟨A,B,h1,h2,h3⟩:=ihr (fun w hw=>h w (by simp[hw])) _ y hy
    refine⟨nodes z++A,B,by rw[nodesL,h1];simp,by rw[List.length_append];omega,fun p a=>?_⟩
    obtain⟨q,A',B',g1,g2⟩:=h3 p (a+(nodes z).length)
    refine⟨q,rowsN z p a++A',B',?_,by rw[List.length_append,rowsN_len];omega⟩
    rw[rowsL,g1,show a+(nodes z).length+(i - (nodes z).length)=a+i by omega];simp
 rw[nodes]at hy
 cases i with
 | zero =>
  simp at hy
  subst hy
  exact⟨[],[],by simp,rfl,fun p a=>⟨p,[],[],by simp,rfl⟩⟩
 | succ i =>
  rw[List.getElem?_cons_succ]at hy
  obtain⟨A,B,h1,h2,h3⟩:=hs ks ih i y hy
  refine⟨.mk k t g ks::A,B,by rw[nodes,h1];simp,by simp[h2],fun p a=>?_⟩
  obtain⟨q,A',B',g1,g2⟩:=h3 a (a+1)
  refine⟨q,⟨p,k,t,g,kidsAt ks (a+1)⟩::A',B',?_,by simp[g2]⟩
  rw[rows_root,g1,show a+1+i=a+(i+1)by omega];simp
theorem row_at{n:Nd}{i:Nat}{k:Int}{t g}{ks:List Nd}(h:(nodes n)[i]? = some (.mk k t g ks)):∃ q,(rowsN n (-1) 0)[i]? = some ⟨q,k,t,g,kidsAt ks (i+1)⟩:=by
 obtain⟨A,B,h1,h2,h3⟩:=split_at n i _ h
 obtain⟨q,A',B',g1,g2⟩:=h3 (-1) 0
 refine⟨q,?_⟩
 rw[g1,rows_root,List.append_assoc,List.getElem?_append_right (by omega),g2,Nat.zero_add]
 simp
theorem rwAt_at{n:Nd}{i:Nat}{k:Int}{t g}{ks:List Nd}(h:(nodes n)[i]? = some (.mk k t g ks)):(rwAt (rowsN n (-1) 0) i).kind=k∧(rwAt (rowsN n (-1) 0) i).text=t∧(rwAt (rowsN n (-1) 0) i).kids=kidsAt ks (i+1):=by
 obtain⟨q,hq⟩:=row_at h
 simp[rwAt,List.getD_eq_getElem?_getD,hq]
theorem kidsL_at:∀ (ks:List Nd) (b j:Nat) (z:Nd),ks[j]? = some z→∃ o,(kidsAt ks b)[j]? = some (b+o)∧(nodesL ks)[o]? = some z
 | [],b,j,z,h=>by simp at h
 | x::r,b,j,z,h=>by
  cases j with
  | zero =>
   simp at h;subst h
   refine⟨0,by simp[kidsAt],?_⟩
   obtain⟨a1,a2,a3,a4⟩:=x
   simp[nodesL,nodes]
  | succ j =>
   obtain⟨o,h1,h2⟩:=kidsL_at r (b+(nodes x).length) j z (by simpa using h)
   refine⟨(nodes x).length+o,by rw[kidsAt,List.getElem?_cons_succ,h1,Nat.add_assoc],?_⟩
   rw[nodesL,List.getElem?_append_right (by omega)];simpa using h2
theorem kid_at{n:Nd}{i j:Nat}{k:Int}{t g}{ks:List Nd}{z:Nd}(h:(nodes n)[i]? = some (.mk k t g ks))(hz:ks[j]? = some z):∃ c,(kidsAt ks (i+1))[j]? = some c∧(nodes n)[c]? = some z:=by
 obtain⟨A,B,h1,h2,h3⟩:=split_at n i _ h
 obtain⟨o,g1,g2⟩:=kidsL_at ks (i+1) j z hz
 refine⟨i+1+o,g1,?_⟩
 have hol:=(List.getElem?_eq_some_iff.1 g2).1
 rw[h1,List.append_assoc,List.getElem?_append_right (by omega),nodes]
 rw[List.getElem?_append_left (by simp;omega),h2,show i+1+o - i=o+1 by omega,List.getElem?_cons_succ]
 exact g2
end Go.Vg
set_option maxRecDepth 20000
namespace Go.Vg
end Go.Vg
namespace Go.Proofs.YtamednbojpnalaaGreatDoor
open Go Go.Vg Go.Proofs
end Go.Proofs.YtamednbojpnalaaGreatDoor
set_option maxRecDepth 20000
namespace Go.Vg
end Go.Vg
namespace Go.Proofs.YtamednbojpnalaaGreatDoor
open Go Go.Vg Go.Proofs
end Go.Proofs.YtamednbojpnalaaGreatDoor
set_option maxRecDepth 20000
namespace Go.Vg
open Go
def fitsT(u:List Un)(a b:ByteArray):Bool:=decide (a=b) || (supU u a).any fun x=>decide (x=b)
def argT(u:List Un):Nat→List Nd→List ByteArray→ByteArray
 | i,x::ks,p::ps=>if plainT x≠⟨#[]⟩∧fitsT u (plainT x) p=false then⟨#[97,114,103,117,109,101,110,116,32]⟩++decN (i+1)++⟨#[32,105,115,32]⟩++plainT x++⟨#[44,32,110,101,101,100,115,32]⟩++p else argT u (i+1) ks ps
 | _,_,_=>⟨#[]⟩
def hasT(a b:Nat):ByteArray:=⟨#[104,97,115,32]⟩++decN a++⟨#[32,97,114,103,117,109,101,110,116,115,44,32,110,101,101,100,115,32]⟩++decN b
def binOK(n:Nd):Prop:=∀ x∈nodes n,x.kind=24→0<opLevel x.text
theorem binOK_kid{k t g}{ks:List Nd}{x:Nd}(h:binOK (.mk k t g ks))(hx:x∈ks):binOK x:=fun y hy=>h y (mem_kid hx hy)
theorem contains_op{t:ByteArray}(h:0<opLevel t):Lib.contains [43,45,42,47] t.data.toList=decide (t=⟨#[43]⟩∨t=⟨#[45]⟩∨t=⟨#[42]⟩∨t=⟨#[47]⟩):=by
 have:t=⟨#[124]⟩∨t=⟨#[38]⟩∨t=⟨#[61,61]⟩∨t=⟨#[60]⟩∨t=⟨#[43]⟩∨t=⟨#[45]⟩∨t=⟨#[42]⟩∨t=⟨#[47]⟩:=by
  unfold opLevel at h
  repeat' split at h
  all_goals first | omega | (simp_all;done) | (rename_i h1;rcases h1 with h1 | h1 <;> simp[h1])
 rcases this with rfl | rfl | rfl | rfl | rfl | rfl | rfl | rfl <;> decide +kernel
theorem ba_append{a b:ByteArray}:(a++b).data.toList=a.data.toList++b.data.toList:=by simp
open Lib in
theorem decN_itoa(n:Nat):decN n=itoaB n:=by
 have:∀ n:Nat,(decN n).data.toList=decDigits n:=by
  intro n
  induction n using Nat.strongRecOn with
  | _ n ih =>
  have hs:∀ k:Nat,k<10→(strOf [48+(k:Int)]).data.toList=[UInt8.ofNat (48+k)]:=by
   intro k hk
   simp only[strOf,List.map_cons,List.map_nil]
   congr 1
  rw[decN,decDigits]
  split
  ·rename_i h
   rw[Nat.mod_eq_of_lt h]
   exact hs n h
  ·rw[ba_append,ih (n / 10) (by omega),hs (n % 10) (by omega)]
 apply ba_ext
 rw[this]
 simp[itoaB,itoa]
end Go.Vg
namespace Go.Proofs.YtamednbojpnalaaGreatDoor
open Go Go.Vg Go.Proofs
structure sgOK(u:List Un):Prop where
 fit:fitU u
 gaps:gapsU u
 ok:∀ o n d,findD (declsU (u.map Un.sound) 0) (kindOf o) o n=some d→declOK (u.map Un.sound) d
def callT(u:List Un)(n:Nd):ByteArray:=match sigU u ⟨#[]⟩ n.text with
 | none=>⟨#[]⟩
 | some s=>if n.kids.length=s.params.length then argT u 0 n.kids s.params else hasT n.kids.length s.params.length
def sentK(u:List Un)(n:Nat)(d:Dl):Bool:=match sigU u d.owner d.name with
 | none=>false
 | some s=>decide (s.params.length+1=n)
def sendK(u:List Un)(ms:List Dl)(t:ByteArray)(n:Nat):ByteArray:=if(ms.any fun d=>decide (d.name=t) && sentK u n d)=true then⟨#[]⟩else if(ms.any fun d=>decide (d.name=t))=true then⟨#[104,97,115,32]⟩++decN (n - 1)++⟨#[32,97,114,103,117,109,101,110,116,115]⟩else⟨#[105,115,32,110,111,32,109,101,116,104,111,100]⟩
def sendT(u:List Un)(ms:List Dl)(n:Nd):ByteArray:=sendK u ms n.text n.kids.length
theorem rw_short{n:Nd}(h:short n)(i:Nat):(rwAt (rowsN n (-1) 0) i).text.size≤1000000:=by
 unfold rwAt
 rw[List.getD_eq_getElem?_getD]
 cases hr:(rowsN n (-1) 0)[i]? with
 | none=>exact Nat.zero_le _
 | some r =>
  have h1:r.text∈(rowsN n (-1) 0).map Rw.text:=List.mem_map_of_mem (List.mem_of_getElem? hr)
  rw[rowsN_text]at h1
  obtain⟨y,hy,e⟩:=List.mem_map.1 h1
  show r.text.size≤_
  rw[←e];exact h y hy
theorem sig_short{u:List Un}(h:sgOK u){o n:ByteArray}{s:Sg}(hs:sigU u o n=some s):(∀ p∈s.params,p.size≤1000000)∧s.params.length≤1000000:=by
 unfold sigU ofU at hs
 cases hf:findD (declsU (u.map Un.sound) 0) (kindOf o) o n with
 | none=>rw[hf]at hs;cases hs
 | some d =>
  obtain⟨a1,a2,x,hx,hso⟩:=h.ok o n d hf
  rw[hf]at hs
  simp only[Option.bind_some,hx,Option.map_some,Option.some.injEq]at hs
  subst hs
  have hxm:x∈u.map Un.sound:=List.mem_of_getElem? hx
  have hsh:=((fit_sound h.fit).2 x hxm).2
  refine⟨fun p hp=>?_,?_⟩
  ·simp only[signR,parsR]at hp
   obtain⟨k,hk,rfl⟩:=List.mem_map.1 hp
   exact rw_short hsh _
  ·simp only[signR,parsR,List.length_map]
   exact hso.2.2.2.2.2.1
theorem ItoaN(n:Nat)(hn:n<1000000000):VPure env 57 [.int .i64 n] (.str (decN n)):=by
 have hsz:=decN_size n 9 hn
 have h:=Itoa n (by omega) (by omega) (by rw[←decN_itoa];omega)
 rw[←decN_itoa]at h;exact h
theorem plain_short:∀ n:Nd,short n→(plainT n).size≤1000000:=by
 refine Nd.all fun k t g ks ih hs=>?_
 have ht:=short_text hs
 have h1:sInt.size≤1000000:=by decide
 have h2:sBool.size≤1000000:=by decide
 have h3:(⟨#[]⟩:ByteArray).size≤1000000:=by decide
 rw[plainT.eq_def]
 simp only
 repeat' split
 all_goals first | assumption | exact ih _ (by simp) (short_kid hs (by simp))
theorem Splain:(n:Nd)→parOK n→binOK n→VPure env 58 [.agg n.enc] (.str (plainT n)):=by
 refine Nd.all fun k t g ks ih hp hb=>?_
 refine vpure_vc (fn:=Tryz.f58) Tryz.func58 rfl (by rw[Tryz.ntmps58];simp) (by simp -implicitDefEqProofs only[go_sem]) (by simp -implicitDefEqProofs only[go_sem]) ?_
 simp -implicitDefEqProofs only[go_sem,Tryz.f58]
 rw[plainT.eq_def]
 simp only
 unfold sInt sBool
 refine⟨fun h1=>by rw[if_pos h1],fun h1=>?_⟩
 rw[if_neg h1]
 refine⟨fun h2=>by rw[if_pos h2],fun h2=>?_⟩
 rw[if_neg h2]
 refine⟨fun h3=>by rw[if_pos h3],fun h3=>?_⟩
 rw[if_neg h3]
 refine⟨fun h4=>?_,fun h4=>?_⟩
 ·rw[if_pos h4]
  cases ks with
  | nil=>exact absurd rfl (hp (.mk k t g []) (by rw[nodes];exact List.mem_cons_self ..) h4)
  | cons x r =>
   refine⟨by simp,by simp[enc_len],?_⟩
   have e:List.take 4 ((List.map Nd.enc (x::r)).getD 0 [])=x.enc:=by simp[List.getD_eq_getElem?_getD,enc_take]
   rw[e]
   refine(ih x (by simp) (parOK_kid hp (by simp)) (binOK_kid hb (by simp))).calls (by simp -implicitDefEqProofs only[go_sem]) ?_
   simp -implicitDefEqProofs only[go_sem]
 rw[if_neg h4]
 refine⟨fun h5=>?_,fun h5=>?_⟩
 ·rw[if_pos h5]
  have hop:0<opLevel t:=hb (.mk k t g ks) (by rw[nodes];exact List.mem_cons_self ..) h5
  refine(Contains ⟨#[43,45,42,47]⟩ t (by decide)).calls (by simp -implicitDefEqProofs only[go_sem]) ?_
  rw[show(⟨#[43,45,42,47]⟩:ByteArray).data.toList=[43,45,42,47]from rfl,contains_op hop]
  simp -implicitDefEqProofs only[go_sem]
  exact⟨fun c=>by rw[if_pos c],fun c=>by rw[if_neg c]⟩
 rw[if_neg h5]
 refine⟨fun h6=>?_,fun h6=>by rw[if_neg h6]⟩
 rw[if_pos h6]
 exact⟨fun c=>by rw[if_pos c],fun c=>by rw[if_neg c]⟩
theorem Scall(u:List Un)(hu:sgOK u)(n:Nd)(hs:short n)(hp:parOK n)(hb:binOK n)(hl:n.kids.length≤1000000):VPure env 33 [sl 34 (u.map Un.enc),.agg n.enc] (.str (callT u n)):=by
 obtain⟨k,t,g,ks⟩:=n
 have hS:=Tsig u hu.fit hu.gaps ⟨#[]⟩ t (hu.ok _ _)
 refine vpure_vc (fn:=Tryz.f33) Tryz.func33 rfl (by rw[Tryz.ntmps33];simp) (by simp -implicitDefEqProofs only[go_sem];exact uns_pure _) (by simp -implicitDefEqProofs only[go_sem]) ?_
 simp -implicitDefEqProofs only[go_sem,Tryz.f33]
 refine hS.calls (by simp -implicitDefEqProofs only[go_sem]) ?_
 have hct:callT u (.mk k t g ks)=match sigU u ⟨#[]⟩ t with
  | none=>⟨#[]⟩
  | some s=>if ks.length=s.params.length then argT u 0 ks s.params else hasT ks.length s.params.length:=rfl
 rw[hct]
 cases hsg:sigU u ⟨#[]⟩ t with
 | none =>
  simp -implicitDefEqProofs only[go_sem,encSig]
 | some s =>
  obtain⟨hs1,hs2⟩:=sig_short hu hsg
  simp -implicitDefEqProofs only[go_sem,encSig,Sg.enc]
  intro _ _ _ _
  refine⟨fun hne=>?_,fun he _ _=>?_⟩
  ·have hne':¬ ks.length=s.params.length:=by simp at hne;omega
   simp only[if_neg hne']
   have hz1:=decN_size ks.length 9 (by simp only[Nd.kids]at hl;omega)
   have hz2:=decN_size s.params.length 9 (by omega)
   have hk1:(⟨#[104,97,115,32]⟩:ByteArray).size=4:=rfl
   have hk2:(⟨#[32,97,114,103,117,109,101,110,116,115,44,32,110,101,101,100,115,32]⟩:ByteArray).size=18:=rfl
   refine snd_draw (cs:=[]) mixed (by kernel_rfl) ?_
   simp -implicitDefEqProofs only[go_sem]
   refine vPC_of (ItoaN ks.length (by simp only[Nd.kids]at hl;omega)) (by simp -implicitDefEqProofs only[go_sem]) ?_
   simp -implicitDefEqProofs only[go_sem]
   refine⟨by simp;omega,by simp;omega,?_⟩
   refine vPC_of (ItoaN s.params.length (by omega)) (by simp -implicitDefEqProofs only[go_sem]) ?_
   simp -implicitDefEqProofs only[go_sem]
   exact⟨by simp;omega,rfl⟩
  ·have he':ks.length=s.params.length:=by simp at he;omega
   simp only[if_pos he']
   generalize hA:argT u 0 ks s.params=A
   refine snd_list (β:=Unit) ks (fun pre _=>⟨[(40,.int .i64 pre.length),(39,.int .i64 ks.length),(38,sl 32 (ks.map Nd.enc)),(5,.ptr 1 0),(0,sl 34 (u.map Un.enc))],[.dead,.cells [sl 9 (s.params.map encTx),.str s.result]],[]⟩)
    (fun pre post _=>A=argT u pre.length post (s.params.drop pre.length)) () ?_ hA.symm ?_ ?_
   ·simp -implicitDefEqProofs only[go_sem]
    try rfl
   ·intro _ hi
    simp -implicitDefEqProofs only[go_sem]
    rw[hi];rfl
   ·intro pre x post _ hx hi
    have hpl:ks.length=pre.length+1+post.length:=by rw[hx];simp;omega
    have hgx:(ks.map Nd.enc).getD (pre.length:Int).toNat []=x.enc:=by rw[hx];simp[List.getD_eq_getElem?_getD]
    have hw:IntKind.i64.wrap (↑pre.length+1)=↑(pre.length+1):=wrap_next (by omega)
    have hlt:((pre.length:Int)<ks.length)=True:=by simp;omega
    have hxm:x∈ks:=by rw[hx];simp
    have hpp:pre.length<s.params.length:=by omega
    have hdr:s.params.drop pre.length=s.params[pre.length]::s.params.drop (pre.length+1):=List.drop_eq_getElem_cons hpp
    have hps:=hs1 _ (List.getElem_mem hpp)
    have hgp:(s.params.map encTx).getD (pre.length:Int).toNat []=[.str s.params[pre.length]]:=by simp[List.getD_eq_getElem?_getD,hpp,encTx]
    have hltp:((pre.length:Int)<s.params.length)=True:=by simp;omega
    rw[hdr,argT]at hi
    generalize s.params[pre.length]=p at hi hps hgp
    have hts:=plain_short x (short_kid hs hxm)
    simp -implicitDefEqProofs only[go_sem,hgx,hlt]
    refine(Splain x (parOK_kid hp hxm) (binOK_kid hb hxm)).calls (by simp -implicitDefEqProofs only[go_sem]) ?_
    simp -implicitDefEqProofs only[go_sem]
    generalize plainT x=pt at hts hi ⊢
    refine⟨fun h1=>⟨by omega,?_⟩,fun h1=>⟨(),?_,hw,.inr (ltLL_pure _ _ _ (uns_pure _))⟩⟩
    rotate_left
    ·have:pt=⟨#[]⟩:=by simpa using h1
     rw[hi,if_neg (by simp[this])]
    have h1':¬ pt=⟨#[]⟩:=by simpa using h1
    rw[hgp]
    simp -implicitDefEqProofs only[go_sem]
    refine(TFits u hu.fit pt p).calls (by simp -implicitDefEqProofs only[go_sem]) ?_
    rw[show(decide (pt=p) || (supU u pt).any fun x=>decide (x=p))=fitsT u pt p from rfl]
    simp -implicitDefEqProofs only[go_sem]
    refine⟨fun h2=>?_,fun h2=>⟨(),?_,hw,.inr (ltLL_pure _ _ _ (uns_pure _))⟩⟩
    rotate_left
    ·have h2':fitsT u pt p=true:=by simpa using h2
     rw[hi,if_neg (by rw[h2'];simp)]
    have h2':fitsT u pt p=false:=by simpa using h2
    rw[if_pos ⟨h1',h2'⟩]at hi
    have hz1:=decN_size (pre.length+1) 9 (by simp only[Nd.kids]at hl;omega)
    have hk1:(⟨#[97,114,103,117,109,101,110,116,32]⟩:ByteArray).size=9:=rfl
    have hk2:(⟨#[32,105,115,32]⟩:ByteArray).size=4:=rfl
    have hk3:(⟨#[44,32,110,101,101,100,115,32]⟩:ByteArray).size=8:=rfl
    rw[hi]
    refine snd_draw (cs:=[]) mixed (by kernel_rfl) ?_
    simp -implicitDefEqProofs only[go_sem,hgp,hltp,hw]
    refine vPC_of (ItoaN (pre.length+1) (by simp only[Nd.kids]at hl;omega)) (by simp -implicitDefEqProofs only[go_sem]) ?_
    simp -implicitDefEqProofs only[go_sem,hgp,hltp,hw]
    refine⟨?_,?_,?_,?_,?_⟩ <;> (simp;omega)
end Go.Proofs.YtamednbojpnalaaGreatDoor
set_option maxRecDepth 20000
namespace Go.Proofs.YtamednbojpnalaaGreatDoor
open Go Go.Vg Go.Proofs
theorem Ssend(u:List Un)(hu:sgOK u)(ms:List Dl)(n:Nd)(hk0:1≤n.kids.length)(hl:n.kids.length≤1000000):VPure env 34 [sl 34 (u.map Un.enc),sl 61 (ms.map Dl.enc),.agg n.enc] (.str (sendT u ms n)):=by
 obtain⟨k,t,g,ks⟩:=n
 simp only[Nd.kids]at hk0 hl
 rw[show sendT u ms (.mk k t g ks)=sendK u ms t ks.length from rfl]
 refine vpure_vc (fn:=Tryz.f34) Tryz.func34 rfl (by rw[Tryz.ntmps34];simp) (by simp -implicitDefEqProofs only[go_sem];simp only[uns_pure,dls_pure];rfl) (by simp -implicitDefEqProofs only[go_sem]) ?_
 simp -implicitDefEqProofs only[go_sem,Tryz.f34]
 intro _ _
 generalize hst:sendK u ms t ks.length=A
 rw[sendK]at hst
 refine snd_list (β:=Bool) ms (fun pre b=>⟨[(14,.int .i64 pre.length),(13,.int .i64 ms.length),(12,sl 61 (ms.map Dl.enc)),(7,.bool b),(5,.ptr 0 0),(0,sl 34 (u.map Un.enc))],[.cells (Nd.mk k t g ks).enc],[]⟩)
  (fun pre post b=>b=(pre.any fun d=>decide (d.name=t))∧(pre.any fun d=>decide (d.name=t) && sentK u ks.length d)=false) false ?_ ⟨rfl,rfl⟩ ?_ ?_
 ·simp -implicitDefEqProofs only[go_sem]
  try rfl
 ·rintro b ⟨h1,h2⟩
  rw[h2,if_neg (by simp),←h1]at hst
  have hwk:IntKind.i64.wrap ((ks.length:Int) - 1)=((ks.length - 1:Nat):Int):=by rw[wrap_ok (by omega) (by omega)];omega
  have hz1:=decN_size (ks.length - 1) 9 (by omega)
  simp -implicitDefEqProofs only[go_sem,hwk]
  refine⟨fun hb=>?_,fun hb _ _=>?_⟩
  ·have hb':b=false:=by simpa using hb
   rw[hb',if_neg (by simp)]at hst;rw[←hst]
  ·have hb':b=true:=by simpa using hb
   rw[hb',if_pos rfl]at hst
   refine(ItoaN (ks.length - 1) (by omega)).calls (by simp -implicitDefEqProofs only[go_sem]) ?_
   simp -implicitDefEqProofs only[go_sem]
   exact⟨by simp;omega,by simp;omega,by rw[←hst]⟩
 ·rintro pre d post b hx ⟨h1,h2⟩
  have hpl:ms.length=pre.length+1+post.length:=by rw[hx];simp;omega
  have hgx:(ms.map Dl.enc).getD (pre.length:Int).toNat []=d.enc:=by rw[hx];simp[List.getD_eq_getElem?_getD]
  have hw:IntKind.i64.wrap (↑pre.length+1)=↑(pre.length+1):=wrap_next (by omega)
  have hlt:((pre.length:Int)<ms.length)=True:=by simp;omega
  have hlp:(ltLL 1 0 (List.map Dl.enc ms) && ltLL 1 0 (List.map Un.enc u))=true:=by
   rw[ltLL_pure _ _ _ (dls_pure _),ltLL_pure _ _ _ (uns_pure _)];rfl
  have hS:=Tsig u hu.fit hu.gaps d.owner d.name (hu.ok _ _)
  simp -implicitDefEqProofs only[go_sem,hgx,hlt]
  refine⟨fun hn=>⟨b,⟨?_,?_⟩,⟨hw,rfl⟩,.inr hlp⟩,fun hn=>?_⟩
  ·have hn':¬ d.name=t:=by simpa using hn
   rw[h1];simp[hn']
  ·have hn':¬ d.name=t:=by simpa using hn
   simp only[List.any_append,h2,List.any_cons,List.any_nil,hn',decide_false,Bool.false_and,Bool.or_false]
  have hn':d.name=t:=by simpa using hn
  refine hS.calls (by simp -implicitDefEqProofs only[go_sem]) ?_
  have hok:sentK u ks.length d=match sigU u d.owner d.name with
   | none=>false
   | some s=>decide (s.params.length+1=ks.length):=rfl
  have hp1:((pre++[d]).any fun d=>decide (d.name=t))=true:=by simp[hn']
  cases hsg:sigU u d.owner d.name with
  | none =>
   rw[hsg]at hok
   simp only at hok
   simp -implicitDefEqProofs only[go_sem,encSig]
   refine⟨true,⟨hp1.symm,?_⟩,⟨hw,rfl⟩,.inr hlp⟩
   simp only[List.any_append,h2,List.any_cons,List.any_nil,hok,Bool.and_false,Bool.or_false]
  | some s =>
   rw[hsg]at hok
   simp only at hok
   have hwk:IntKind.i64.wrap ((ks.length:Int) - 1)=((ks.length - 1:Nat):Int):=by rw[wrap_ok (by omega) (by omega)];omega
   simp -implicitDefEqProofs only[go_sem,encSig,Sg.enc,hwk]
   intro _ _ _ _
   refine⟨fun he=>?_,fun he=>⟨true,⟨hp1.symm,?_⟩,⟨hw,rfl⟩,.inr hlp⟩⟩
   ·have he':s.params.length+1=ks.length:=by omega
    rw[←hst,if_pos]
    rw[hx,List.any_append,List.any_cons,hok]
    simp[hn',he']
   ·have he':¬ s.params.length+1=ks.length:=by omega
    simp only[List.any_append,h2,List.any_cons,List.any_nil,hok,he',decide_false,Bool.and_false,Bool.or_false]
end Go.Proofs.YtamednbojpnalaaGreatDoor
namespace Go.Vg
mutual
def bare:Nd→Nd
 | .mk k t _ ks => .mk k t [] (bares ks)
def bares:List Nd→List Nd
 | []=>[]
 | n::r=>bare n::bares r
end
theorem bares_map:∀ l,bares l=l.map bare
 | []=>rfl
 | n::r=>by rw[bares,bares_map r];rfl
end Go.Vg
namespace Go.Proofs.YtamednbojpnalaaGreatDoor
open Go Go.Vg Go.Proofs
theorem bare_ok:(nd:Nd)→VPure env 31 [.agg nd.enc] (.agg (bare nd).enc):=by
 refine Nd.all fun k t g ks ih=>?_
 refine vpure_vc (fn:=Tryz.f31) Tryz.func31 rfl (by rw[Tryz.ntmps31];simp) (by simp -implicitDefEqProofs only[go_sem]) (by simp -implicitDefEqProofs only[go_sem]) ?_
 simp -implicitDefEqProofs only[go_sem,Tryz.f31]
 intro hb hl
 refine snd_list (β:=Unit) ks (fun pre _=>⟨[(14,.int .i64 pre.length),(13,.int .i64 ks.length),(12,sl 32 (ks.map Nd.enc)),(3,.ptr 2 0),(2,.ptr 1 0)],
   [.dead,.cells [.int .i64 0,.str ⟨#[]⟩,.slice .nil 0 [],.slice .nil 0 []],.cells [.int .i64 k,.str t,.slice .nil 0 [],.slice (.arr 0) 32 ((bares pre).map Nd.enc)]],[pre.length]⟩)
  (fun _ _ _=>True) () ?_ trivial ?_ ?_
 ·simp -implicitDefEqProofs only[go_sem]
  exact⟨rfl,rfl⟩
 ·intro _ _
  simp -implicitDefEqProofs only[go_sem,bare]
 ·rintro pre x post _ rfl _
  have hp:=mid_len hl
  have hlen:(bares pre).length=pre.length:=by rw[bares_map,List.length_map]
  simp -implicitDefEqProofs only[go_sem]
  refine snd_draw (cs:=[]) mixed (by kernel_rfl) ?_
  simp -implicitDefEqProofs only[go_sem]
  refine vPC_of (ih x mem_mid) (by simp -implicitDefEqProofs only[go_sem]) ?_
  simp -implicitDefEqProofs only[go_sem,hlen]
  refine⟨by simp at hb;omega,(),wrap_next (by omega),?_⟩
  simp -implicitDefEqProofs only[bares_map,go_sem]
end Go.Proofs.YtamednbojpnalaaGreatDoor
