/- Declarations for which there is an earlier one. -/
import Derived.Test.YtamednbojpnalaaGreatDoorUbE
import Derived.Test.YtamednbojpnalaaGreatDoorTnF
import Derived.Test.YtamednbojpnalaaGreatDoorVgO
import Derived.Test.YtamednbojpnalaaGreatDoorVgW
set_option linter.unusedVariables false
set_option linter.unusedSimpArgs false
set_option maxRecDepth 20000
set_option maxHeartbeats 20000000
namespace Go.Vg
structure Pk where
 kind:Int
 un:Int
 par:Int
 name:ByteArray
 deriving DecidableEq
def Pk.enc(k:Pk):List V:=[.int .i64 k.kind,.int .i64 k.un,.int .i64 k.par,.str k.name]
def mapP(l:List Pk):List (V×V):=l.map fun k=>(.agg k.enc,.bool true)
def eqP(a b:Pk):Bool:=decide (a.kind=b.kind) && (decide (a.un=b.un) && (decide (a.par=b.par) && decide (a.name=b.name)))
theorem eqP_iff{a b:Pk}:eqP a b=true↔a=b:=by
 unfold eqP
 cases a;cases b
 simp
theorem findP(k:Pk):∀ (l:List Pk) (i:Nat),(∃ j,findA [1,1,1,0] k.enc (mapP l) i=some (some (i+j,.bool true))∧l[j]? = some k∧(l.any fun x=>decide (x=k))=true)∨(findA [1,1,1,0] k.enc (mapP l) i=some none∧(l.any fun x=>decide (x=k))=false)
 | [],i => .inr ⟨rfl,rfl⟩
 | e::r,i=>by
  have heq:eqL k.enc e.enc=some (eqP k e):=by
   simp only[Pk.enc,eqL,eq1,Bool.and_true];rfl
  have h1:findA [1,1,1,0] k.enc (mapP (e::r)) i=if eqP k e=true then some (some (i,.bool true))else findA [1,1,1,0] k.enc (mapP r) (i+1):=by
   simp only[mapP,List.map_cons,findA,heq]
   have hf:fits [1,1,1,0] k.enc e.enc=true:=rfl
   rw[if_pos hf]
   cases eqP k e <;> rfl
  rw[h1,List.any_cons]
  by_cases h:eqP k e=true
  ·have:=eqP_iff.1 h
   subst this
   exact .inl ⟨0,by rw[if_pos h];rfl,rfl,by simp⟩
  ·rw[if_neg h]
   have hne:¬ e=k:=fun he=>h (eqP_iff.2 he.symm)
   rw[decide_eq_false hne,Bool.false_or]
   rcases findP k r (i+1)with⟨j,g1,g2,g3⟩ | ⟨g1,g2⟩
   ·exact .inl ⟨j+1,by rw[g1,show i+1+j=i+(j+1)by omega],by simpa using g2,g3⟩
   ·exact .inr ⟨g1,g2⟩
def keyP(tb:List (List Rw))(d:Dl):Pk:=if d.kind=5∨d.kind=6∨d.kind=4 then⟨d.kind,d.unit,(rwAt (tb.getD d.unit.toNat []) d.node.toNat).parent,d.name⟩else⟨d.kind,0,0,d.name⟩
def addP(tb:List (List Rw))(p:List Pk×List Dl)(d:Dl):List Pk×List Dl:=if(p.1.any fun x=>decide (x=keyP tb d))=true then(p.1,p.2++[d])else(p.1++[keyP tb d],p.2)
def dblL(tb:List (List Rw))(l:List Dl):List Pk×List Dl:=l.foldl (addP tb) ([],[])
theorem dblL_snoc(tb:List (List Rw))(l:List Dl)(d:Dl):dblL tb (l++[d])=addP tb (dblL tb l) d:=by simp[dblL]
theorem dblL_len(tb:List (List Rw))(l:List Dl):(dblL tb l).2.length≤l.length:=by
 have key:∀ (l:List Dl) (p:List Pk×List Dl),(l.foldl (addP tb) p).2.length≤p.2.length+l.length:=by
  intro l
  induction l with
  | nil=>intro p;simp
  | cons d r ih =>
   intro p
   have h1:=ih (addP tb p d)
   have h2:(addP tb p d).2.length≤p.2.length+1:=by unfold addP;split <;> simp
   rw[List.foldl_cons,List.length_cons];omega
 have:=key l ([],[])
 simpa[dblL]using this
end Go.Vg
namespace Go.Proofs.YtamednbojpnalaaGreatDoor
open Go Go.Vg Go.Proofs
theorem flat_place:flatK Tryz.prog 163=some [1,1,1,0]:=by kernel_rfl
theorem refs_pure:∀ l:List Dl,pureLL (l.map refE)=true
 | []=>rfl
 | n::r=>by show(pureL _ && pureLL (r.map refE))=true;rw[refs_pure r];rfl
theorem look_P{l:List Pk}{k:Pk}{K:V→Prop}:vLookF env 4 (findA [1,1,1,0] [.int .i64 k.kind,.int .i64 k.un,.int .i64 k.par,.str k.name] (mapP l) 0) false K=K (.bool (l.any fun x=>decide (x=k))):=by
 have e:[V.int .i64 k.kind,.int .i64 k.un,.int .i64 k.par,.str k.name]=k.enc:=rfl
 rw[e]
 rcases findP k l 0 with⟨j,h1,_,h2⟩ | ⟨h1,h2⟩
 ·rw[h1,h2];simp -implicitDefEqProofs only[go_sem]
 ·rw[h1,h2];simp -implicitDefEqProofs only[go_sem];rfl
theorem set_P{l:List Pk}{k:Pk}{h:List VObj}{id:Nat}{L:List VObj→Prop}:vSetF h id (mapP l) (.agg [.int .i64 k.kind,.int .i64 k.un,.int .i64 k.par,.str k.name]) (.bool true) (findA [1,1,1,0] [.int .i64 k.kind,.int .i64 k.un,.int .i64 k.par,.str k.name] (mapP l) 0) L=L (h.set id (.map (mapP (if(l.any fun x=>decide (x=k))=true then l else l++[k])))):=by
 have e:[V.int .i64 k.kind,.int .i64 k.un,.int .i64 k.par,.str k.name]=k.enc:=rfl
 rw[e]
 rcases findP k l 0 with⟨j,h1,h2,h3⟩ | ⟨h1,h2⟩
 ·rw[h1,if_pos h3,Nat.zero_add]
  simp -implicitDefEqProofs only[go_sem]
  have:(mapP l).set j (.agg k.enc,.bool true)=mapP l:=set_same (by rw[mapP,List.getElem?_map,h2];rfl)
  rw[this]
 ·rw[h1,if_neg (by rw[h2];simp)];simp -implicitDefEqProofs only[go_sem];simp[mapP]
theorem ltP_P(k ka:Nat):∀ l:List Pk,ltP k ka (mapP l)=true
 | []=>rfl
 | x::r=>by
  have:=ltP_P k ka r
  have hx:(V.agg x.enc).lt k ka=true:=by simp[V.lt,Pk.enc,ltL]
  simp only[mapP,List.map_cons,ltP]at this ⊢
  rw[hx,this]
  simp[V.lt]
def wkD:Wk := .one 0 (.one 1 (.one 2 (.one 3 (.one 4 (.one 5 (.one 7 (.one 8 (.one 12 (.one 13 (.one 18 (.br 6 (.br 9 (.one 10 (.br 11 (.br 14 (.one 15 (.one 16 (.br 17 (.one 19 (.one 20 (.one 21 (.stop)))) (.br 19 (.one 17 (.one 20 (.one 21 (.stop)))) (.stop))))) (.br 19 (.one 14 (.one 15 (.one 16 (.one 17 (.one 20 (.one 21 (.stop))))))) (.stop))) (.br 14 (.br 11 (.one 15 (.one 16 (.br 17 (.one 19 (.one 20 (.one 21 (.stop)))) (.br 19 (.one 17 (.one 20 (.one 21 (.stop)))) (.stop))))) (.br 19 (.one 11 (.one 15 (.one 16 (.one 17 (.one 20 (.one 21 (.stop))))))) (.stop))) (.br 19 (.one 11 (.one 14 (.one 15 (.one 16 (.one 17 (.one 20 (.one 21 (.stop)))))))) (.stop))))) (.br 14 (.br 9 (.one 10 (.br 11 (.one 15 (.one 16 (.br 17 (.one 19 (.one 20 (.one 21 (.stop)))) (.br 19 (.one 17 (.one 20 (.one 21 (.stop)))) (.stop))))) (.br 19 (.one 11 (.one 15 (.one 16 (.one 17 (.one 20 (.one 21 (.stop))))))) (.stop)))) (.br 19 (.one 9 (.one 10 (.one 11 (.one 15 (.one 16 (.one 17 (.one 20 (.one 21 (.stop))))))))) (.stop))) (.br 19 (.one 9 (.one 10 (.one 11 (.one 14 (.one 15 (.one 16 (.one 17 (.one 20 (.one 21 (.stop)))))))))) (.stop)))) (.br 9 (.br 6 (.one 10 (.br 11 (.br 14 (.one 15 (.one 16 (.br 17 (.one 19 (.one 20 (.one 21 (.stop)))) (.br 19 (.one 17 (.one 20 (.one 21 (.stop)))) (.stop))))) (.br 19 (.one 14 (.one 15 (.one 16 (.one 17 (.one 20 (.one 21 (.stop))))))) (.stop))) (.br 14 (.br 11 (.one 15 (.one 16 (.br 17 (.one 19 (.one 20 (.one 21 (.stop)))) (.br 19 (.one 17 (.one 20 (.one 21 (.stop)))) (.stop))))) (.br 19 (.one 11 (.one 15 (.one 16 (.one 17 (.one 20 (.one 21 (.stop))))))) (.stop))) (.br 19 (.one 11 (.one 14 (.one 15 (.one 16 (.one 17 (.one 20 (.one 21 (.stop)))))))) (.stop))))) (.br 14 (.br 6 (.one 10 (.br 11 (.one 15 (.one 16 (.br 17 (.one 19 (.one 20 (.one 21 (.stop)))) (.br 19 (.one 17 (.one 20 (.one 21 (.stop)))) (.stop))))) (.br 19 (.one 11 (.one 15 (.one 16 (.one 17 (.one 20 (.one 21 (.stop))))))) (.stop)))) (.br 19 (.one 6 (.one 10 (.one 11 (.one 15 (.one 16 (.one 17 (.one 20 (.one 21 (.stop))))))))) (.stop))) (.br 19 (.one 6 (.one 10 (.one 11 (.one 14 (.one 15 (.one 16 (.one 17 (.one 20 (.one 21 (.stop)))))))))) (.stop)))) (.br 14 (.br 6 (.br 9 (.one 10 (.br 11 (.one 15 (.one 16 (.br 17 (.one 19 (.one 20 (.one 21 (.stop)))) (.br 19 (.one 17 (.one 20 (.one 21 (.stop)))) (.stop))))) (.br 19 (.one 11 (.one 15 (.one 16 (.one 17 (.one 20 (.one 21 (.stop))))))) (.stop)))) (.br 19 (.one 9 (.one 10 (.one 11 (.one 15 (.one 16 (.one 17 (.one 20 (.one 21 (.stop))))))))) (.stop))) (.br 9 (.br 6 (.one 10 (.br 11 (.one 15 (.one 16 (.br 17 (.one 19 (.one 20 (.one 21 (.stop)))) (.br 19 (.one 17 (.one 20 (.one 21 (.stop)))) (.stop))))) (.br 19 (.one 11 (.one 15 (.one 16 (.one 17 (.one 20 (.one 21 (.stop))))))) (.stop)))) (.br 19 (.one 6 (.one 10 (.one 11 (.one 15 (.one 16 (.one 17 (.one 20 (.one 21 (.stop))))))))) (.stop))) (.br 19 (.one 6 (.one 9 (.one 10 (.one 11 (.one 15 (.one 16 (.one 17 (.one 20 (.one 21 (.stop)))))))))) (.stop)))) (.br 19 (.one 6 (.one 9 (.one 10 (.one 11 (.one 14 (.one 15 (.one 16 (.one 17 (.one 20 (.one 21 (.stop))))))))))) (.stop)))))))))))))))
theorem SDoubles(u:List Un)(hu:fitU u):VPure env 78 [sl 34 (u.map Un.enc)] (sl 50 ((dblL (tabsU u) (declsU u 0)).2.map refE)):=by
 have hdl:=declsU_len u 0 fun y hy=>(hu.2 y hy).1
 have hul:=hu.1
 refine vpure_vc (fn:=Tryz.f78) Tryz.func78 rfl (by rw[Tryz.ntmps78];simp) (by simp -implicitDefEqProofs only[go_sem];exact uns_pure _) (by simp -implicitDefEqProofs only[go_sem];exact refs_pure _) ?_
 simp -implicitDefEqProofs only[go_sem,Tryz.f78]
 refine VCalls.mono (SFnew u hu) ?_
 rintro v h' a' ⟨rfl,rfl,rfl⟩
 simp -implicitDefEqProofs only[go_sem]
 intro _ _
 generalize hDD:declsU u 0=dl at hdl ⊢
 refine snd_list (β:=Unit) dl (fun pre _=>⟨[(17,.int .i64 pre.length),(16,.int .i64 dl.length),(15,sl 61 (dl.map Dl.enc)),(5,.slice (.arr 1) 50 ((dblL (tabsU u) pre).2.map refE)),(4,.map 2),(3,.ptr 1 0),(2,.slice .nil 0 [])],
   [.map (mapG (globL dl)),.cells [.slice (.arr 0) 80 ((tabsU u).map encTab),.map 0,sl 61 (dl.map Dl.enc)],.map (mapP (dblL (tabsU u) pre).1)],[u.length,(dblL (tabsU u) pre).2.length]⟩) (fun _ _ _=>True) () ?_ trivial ?_ ?_
 ·simp -implicitDefEqProofs only[go_sem]
  exact⟨⟨rfl,rfl⟩,rfl⟩
 ·intro _ _
  simp -implicitDefEqProofs only[go_sem]
 ·rintro pre d post _ hx _
  have hpl:dl.length=pre.length+1+post.length:=by rw[hx];simp;omega
  have hgx:(dl.map Dl.enc).getD (pre.length:Int).toNat []=d.enc:=by rw[hx];simp[List.getD_eq_getElem?_getD]
  have hw:IntKind.i64.wrap (↑pre.length+1)=↑(pre.length+1):=wrap_next (by omega)
  have hlt:((pre.length:Int)<dl.length)=True:=by simp;omega
  have hsn:=dblL_snoc (tabsU u) pre d
  have hml:=dblL_len (tabsU u) pre
  obtain⟨un,x,e1,e2,e3,nd,y,e4,e5,e6,e7,e8⟩:=declsU_at u 0 d (by rw[hDD,hx];simp)
  rw[Nat.zero_add]at e1 e4
  have htt:(tabsU u)[un]? = some (rowsN x.tree (-1) 0):=by unfold tabsU;rw[List.getElem?_map,e2];simp[e3]
  have htg:(tabsU u).getD d.unit.toNat []=rowsN x.tree (-1) 0:=by rw[e1,Int.toNat_natCast,List.getD_eq_getElem?_getD,htt];rfl
  have hll:nd<(rowsN x.tree (-1) 0).length:=by rw[rowsN_len];exact(List.getElem?_eq_some_iff.1 e5).1
  generalize rowsN x.tree (-1) 0=l at htt htg hll
  have htu:((tabsU u).map encTab).getD d.unit.toNat []=encTab l:=by rw[e1,Int.toNat_natCast,List.getD_eq_getElem?_getD,List.getElem?_map,htt];rfl
  have hu0:(0≤d.unit)=True:=by simp[e1]
  have hu1:(d.unit<((tabsU u).length:Int))=True:=by
   have:=(List.getElem?_eq_some_iff.1 htt).1
   simp[e1];omega
  have hndl:nd<l.length:=hll
  have hrg:(l.map Rw.enc).getD d.node.toNat []=(rwAt l nd).enc:=by rw[e4,Int.toNat_natCast];exact row_getD hndl
  have hn0:(0≤d.node)=True:=by simp[e4]
  have hn1:(d.node<(l.length:Int))=True:=by simp[e4];omega
  by_cases h5:d.kind=5
  ·have hkp:keyP (tabsU u) d=(⟨5,d.unit,(rwAt l nd).parent,d.name⟩:Pk):=by
    unfold keyP
    rw[if_pos (by omega),h5,htg,e4,Int.toNat_natCast]
   have hlk:=@look_P (dblL (tabsU u) pre).1 (⟨5,d.unit,(rwAt l nd).parent,d.name⟩:Pk)
   have hst:=fun h id L=>@set_P (dblL (tabsU u) pre).1 (⟨5,d.unit,(rwAt l nd).parent,d.name⟩:Pk) h id L
   simp only at hlk hst
   simp -implicitDefEqProofs only[go_sem,hgx,hlt,h5]
   refine snd_walk (cs:=[]) wkD mixed (by kernel_rfl) ?_
   simp -implicitDefEqProofs only[go_sem,wkD,hgx,htu,hu0,hu1,encTab,hrg,hn0,hn1,Rw.enc,flat_place,hlk,hst,h5]
   have hq:∀ m,ltLL 3 2 ((m:List Dl).map refE)=true:=fun m=>ltLL_pure _ _ _ (refs_pure m)
   have ht1:=ltLL_pure 3 2 _ (tabs_pure (tabsU u))
   have ht2:=ltLL_pure 3 2 _ (dls_pure dl)
   generalize dblL (tabsU u) pre=p at hsn hml ⊢
   refine⟨fun ha=>?_,fun ha=>?_⟩
   ·have hp:addP (tabsU u) p d=(p.1,p.2++[d]):=by rw[addP,hkp,if_pos ha]
    rw[hsn,hp,if_pos ha,ltP_G,ltP_P,ht1,ht2,hq]
    exact⟨by omega,(),⟨hw,by simp[refE]⟩,rfl,by simp,.inr ⟨rfl,rfl⟩⟩
   ·have hne:¬ (p.1.any fun x=>decide (x=(⟨5,d.unit,(rwAt l nd).parent,d.name⟩:Pk)))=true:=by rw[ha];simp
    have hp:addP (tabsU u) p d=(p.1++[(⟨5,d.unit,(rwAt l nd).parent,d.name⟩:Pk)],p.2):=by rw[addP,hkp,if_neg hne]
    rw[hsn,hp,if_neg hne,ltP_G,ltP_P,ht1,ht2,hq]
    exact⟨(),⟨hw,rfl⟩,rfl,rfl,.inr ⟨rfl,rfl⟩⟩
  by_cases h6:d.kind=6
  ·have hkp:keyP (tabsU u) d=(⟨6,d.unit,(rwAt l nd).parent,d.name⟩:Pk):=by
    unfold keyP
    rw[if_pos (by omega),h6,htg,e4,Int.toNat_natCast]
   have hlk:=@look_P (dblL (tabsU u) pre).1 (⟨6,d.unit,(rwAt l nd).parent,d.name⟩:Pk)
   have hst:=fun h id L=>@set_P (dblL (tabsU u) pre).1 (⟨6,d.unit,(rwAt l nd).parent,d.name⟩:Pk) h id L
   simp only at hlk hst
   simp -implicitDefEqProofs only[go_sem,hgx,hlt,h5,h6]
   refine snd_walk (cs:=[]) wkD mixed (by kernel_rfl) ?_
   simp -implicitDefEqProofs only[go_sem,wkD,hgx,htu,hu0,hu1,encTab,hrg,hn0,hn1,Rw.enc,flat_place,hlk,hst,h5,h6]
   have hq:∀ m,ltLL 3 2 ((m:List Dl).map refE)=true:=fun m=>ltLL_pure _ _ _ (refs_pure m)
   have ht1:=ltLL_pure 3 2 _ (tabs_pure (tabsU u))
   have ht2:=ltLL_pure 3 2 _ (dls_pure dl)
   generalize dblL (tabsU u) pre=p at hsn hml ⊢
   refine⟨fun ha=>?_,fun ha=>?_⟩
   ·have hp:addP (tabsU u) p d=(p.1,p.2++[d]):=by rw[addP,hkp,if_pos ha]
    rw[hsn,hp,if_pos ha,ltP_G,ltP_P,ht1,ht2,hq]
    exact⟨by omega,(),⟨hw,by simp[refE]⟩,rfl,by simp,.inr ⟨rfl,rfl⟩⟩
   ·have hne:¬ (p.1.any fun x=>decide (x=(⟨6,d.unit,(rwAt l nd).parent,d.name⟩:Pk)))=true:=by rw[ha];simp
    have hp:addP (tabsU u) p d=(p.1++[(⟨6,d.unit,(rwAt l nd).parent,d.name⟩:Pk)],p.2):=by rw[addP,hkp,if_neg hne]
    rw[hsn,hp,if_neg hne,ltP_G,ltP_P,ht1,ht2,hq]
    exact⟨(),⟨hw,rfl⟩,rfl,rfl,.inr ⟨rfl,rfl⟩⟩
  by_cases h4:d.kind=4
  ·have hkp:keyP (tabsU u) d=(⟨4,d.unit,(rwAt l nd).parent,d.name⟩:Pk):=by
    unfold keyP
    rw[if_pos (by omega),h4,htg,e4,Int.toNat_natCast]
   have hlk:=@look_P (dblL (tabsU u) pre).1 (⟨4,d.unit,(rwAt l nd).parent,d.name⟩:Pk)
   have hst:=fun h id L=>@set_P (dblL (tabsU u) pre).1 (⟨4,d.unit,(rwAt l nd).parent,d.name⟩:Pk) h id L
   simp only at hlk hst
   simp -implicitDefEqProofs only[go_sem,hgx,hlt,h5,h6,h4]
   refine snd_walk (cs:=[]) wkD mixed (by kernel_rfl) ?_
   simp -implicitDefEqProofs only[go_sem,wkD,hgx,htu,hu0,hu1,encTab,hrg,hn0,hn1,Rw.enc,flat_place,hlk,hst,h5,h6,h4]
   have hq:∀ m,ltLL 3 2 ((m:List Dl).map refE)=true:=fun m=>ltLL_pure _ _ _ (refs_pure m)
   have ht1:=ltLL_pure 3 2 _ (tabs_pure (tabsU u))
   have ht2:=ltLL_pure 3 2 _ (dls_pure dl)
   generalize dblL (tabsU u) pre=p at hsn hml ⊢
   refine⟨fun ha=>?_,fun ha=>?_⟩
   ·have hp:addP (tabsU u) p d=(p.1,p.2++[d]):=by rw[addP,hkp,if_pos ha]
    rw[hsn,hp,if_pos ha,ltP_G,ltP_P,ht1,ht2,hq]
    exact⟨by omega,(),⟨hw,by simp[refE]⟩,rfl,by simp,.inr ⟨rfl,rfl⟩⟩
   ·have hne:¬ (p.1.any fun x=>decide (x=(⟨4,d.unit,(rwAt l nd).parent,d.name⟩:Pk)))=true:=by rw[ha];simp
    have hp:addP (tabsU u) p d=(p.1++[(⟨4,d.unit,(rwAt l nd).parent,d.name⟩:Pk)],p.2):=by rw[addP,hkp,if_neg hne]
    rw[hsn,hp,if_neg hne,ltP_G,ltP_P,ht1,ht2,hq]
    exact⟨(),⟨hw,rfl⟩,rfl,rfl,.inr ⟨rfl,rfl⟩⟩
  have hkp:keyP (tabsU u) d=⟨d.kind,0,0,d.name⟩:=by simp[keyP,h5,h6,h4]
  have hlk:=@look_P (dblL (tabsU u) pre).1 ⟨d.kind,0,0,d.name⟩
  have hst:=fun h id L=>@set_P (dblL (tabsU u) pre).1 ⟨d.kind,0,0,d.name⟩ h id L
  simp only at hlk hst
  simp -implicitDefEqProofs only[go_sem,hgx,hlt,h5,h6,h4,flat_place,hlk,hst]
  have hq:∀ m,ltLL 3 2 ((m:List Dl).map refE)=true:=fun m=>ltLL_pure _ _ _ (refs_pure m)
  have ht1:=ltLL_pure 3 2 _ (tabs_pure (tabsU u))
  have ht2:=ltLL_pure 3 2 _ (dls_pure dl)
  generalize dblL (tabsU u) pre=p at hsn hml ⊢
  refine⟨fun ha=>?_,fun ha=>?_⟩
  ·have hp:addP (tabsU u) p d=(p.1,p.2++[d]):=by rw[addP,hkp,if_pos ha]
   rw[hsn,hp,if_pos ha,ltP_G,ltP_P,ht1,ht2,hq]
   exact⟨by omega,(),⟨hw,by simp[refE]⟩,rfl,by simp,.inr ⟨rfl,rfl⟩⟩
  ·have hne:¬ (p.1.any fun x=>decide (x=(⟨d.kind,0,0,d.name⟩:Pk)))=true:=by rw[ha];simp
   have hp:addP (tabsU u) p d=(p.1++[(⟨d.kind,0,0,d.name⟩:Pk)],p.2):=by rw[addP,hkp,if_neg hne]
   rw[hsn,hp,if_neg hne,ltP_G,ltP_P,ht1,ht2,hq]
   exact⟨(),⟨hw,rfl⟩,rfl,rfl,.inr ⟨rfl,rfl⟩⟩
end Go.Proofs.YtamednbojpnalaaGreatDoor
set_option maxRecDepth 20000
namespace Go.Proofs.YtamednbojpnalaaGreatDoor
open Go Go.Vg Go.Proofs
theorem TsameSign(s t:Sg):VPure env 148 [.agg s.enc,.agg t.enc] (.bool (decide (s.params=t.params) && decide (s.result=t.result))):=by
 refine vpure_vc (fn:=Tryz.f148) Tryz.func148 rfl (by rw[Tryz.ntmps148];simp) (by simp -implicitDefEqProofs only[go_sem,Sg.enc]) (by simp -implicitDefEqProofs only[go_sem]) ?_
 simp -implicitDefEqProofs only[go_sem,Tryz.f148,Sg.enc]
 refine⟨fun hr _ _ _ _=>⟨fun hl=>?_,fun hl _ _=>?_⟩,fun hr=>?_⟩
 ·have:¬ s.params.length=t.params.length:=by simp at hl;omega
  have:¬ s.params=t.params:=fun e=>this (by rw[e])
  simp[this]
 ·have hl':s.params.length=t.params.length:=by simp at hl;omega
  have hr':s.result=t.result:=by simpa using hr
  refine snd_list (β:=Unit) s.params (fun pre _=>⟨[(23,.int .i64 pre.length),(22,.int .i64 s.params.length),(21,sl 9 (s.params.map encTx)),(4,.bool false),(3,.ptr 1 0),(2,.ptr 0 0)],[.cells [sl 9 (s.params.map encTx),.str s.result],.cells [sl 9 (t.params.map encTx),.str t.result]],[]⟩) (fun pre _ _=>t.params.take pre.length=pre) () ?_ rfl ?_ ?_
  ·simp -implicitDefEqProofs only[go_sem]
   try rfl
  ·intro _ hi
   rw[hl',List.take_length]at hi
   simp -implicitDefEqProofs only[go_sem]
   rw[hi,hr']
   simp
  ·rintro pre x post _ hx hi
   have hpl:s.params.length=pre.length+1+post.length:=by rw[hx];simp;omega
   have hgx:(s.params.map encTx).getD (pre.length:Int).toNat []=encTx x:=by rw[hx];simp[List.getD_eq_getElem?_getD]
   have hyl:pre.length<t.params.length:=by omega
   have hgy:(t.params.map encTx).getD (pre.length:Int).toNat []=encTx t.params[pre.length]:=by simp[List.getD_eq_getElem?_getD,List.getElem?_eq_getElem hyl]
   have hsn:t.params.take (pre.length+1)=pre++[t.params[pre.length]]:=by rw[List.take_succ_eq_append_getElem hyl,hi]
   generalize t.params[pre.length]=y at hgy hsn
   have hw:IntKind.i64.wrap (↑pre.length+1)=↑(pre.length+1):=wrap_next (by omega)
   have hlt:((pre.length:Int)<s.params.length)=True:=by simp;omega
   have hlt2:((pre.length:Int)<t.params.length)=True:=by simp;omega
   simp -implicitDefEqProofs only[go_sem,hgx,hgy,hlt,hlt2,encTx]
   refine snd_draw (cs:=[]) mixed (by kernel_rfl) ?_
   simp -implicitDefEqProofs only[go_sem,hgx,hgy,hlt,hlt2,encTx]
   refine⟨fun h=>?_,fun h=>?_⟩
   ·have hne:¬ x=y:=by simpa using h
    have:¬ s.params=t.params:=by
     intro e
     have h1:s.params.take (pre.length+1)=pre++[x]:=by
      rw[hx,List.take_append,List.take_of_length_le (by omega)]
      simp
     rw[e,hsn]at h1
     exact hne (by simpa using h1.symm)
    simp[this]
   ·have he:x=y:=by simpa using h
    subst he
    exact⟨(),hsn,hw⟩
 ·have:¬ s.result=t.result:=by simpa using hr
  simp[this]
theorem Toperator(r:Rw):VPure env 202 [.agg r.enc] (.str (if r.text=⟨#[43]⟩∨r.text=⟨#[45]⟩∨r.text=⟨#[42]⟩∨r.text=⟨#[47]⟩then⟨#[105,110,116]⟩else⟨#[98,111,111,108]⟩)):=by
 refine vpure_vc (fn:=Tryz.f202) Tryz.func202 rfl (by rw[Tryz.ntmps202];simp) (by simp -implicitDefEqProofs only[go_sem];have h:=rows_pure [r];simp only[List.map_cons,List.map_nil,pureLL,Bool.and_true]at h;exact h) (by simp -implicitDefEqProofs only[go_sem]) ?_
 simp -implicitDefEqProofs only[go_sem,Tryz.f202]
 by_cases h1:r.text=⟨#[43]⟩
 ·simp[h1]
 by_cases h2:r.text=⟨#[45]⟩
 ·simp[h2]
 by_cases h3:r.text=⟨#[42]⟩
 ·simp[h3]
 by_cases h4:r.text=⟨#[47]⟩
 ·simp[h4]
 simp[h1,h2,h3,h4]
end Go.Proofs.YtamednbojpnalaaGreatDoor
namespace Go.Vg
section
variable {κ β : Type} [DecidableEq κ]
def getM(M:List (κ×β))(k:κ):Option β:=match M with
 | []=>none
 | p::r=>if k=p.1 then some p.2 else getM r k
def setM(M:List (κ×β))(k:κ)(v:β):List (κ×β):=match M with
 | []=>[(k,v)]
 | p::r=>if k=p.1 then(k,v)::r else p::setM r k v
theorem get_set(M:List (κ×β))(k:κ)(v:β)(k':κ):getM (setM M k v) k'=if k'=k then some v else getM M k':=by
 induction M with
 | nil=>simp[setM,getM]
 | cons p r ih =>
  rw[setM]
  by_cases h:k=p.1
  ·rw[if_pos h,getM]
   by_cases h':k'=k
   ·rw[if_pos h',if_pos h']
   ·rw[if_neg h',if_neg h',getM,if_neg fun e=>h' (e.trans h.symm)]
  ·rw[if_neg h,getM,ih]
   by_cases h':k'=p.1
   ·rw[if_pos h',if_neg (fun e=>h (e.symm.trans h')),getM,if_pos h']
   ·rw[if_neg h',getM,if_neg h']
def Memo(f:κ→β)(M:List (κ×β)):Prop:=∀ k v,getM M k=some v→v=f k
theorem Memo.nil{f:κ→β}:Memo f []:=fun k v h=>by simp[getM]at h
theorem Memo.set{f:κ→β}{M:List (κ×β)}(h:Memo f M)(k:κ):Memo f (setM M k (f k)):=fun k' v hv=>by
 rw[get_set]at hv
 split at hv
 ·rename_i e;cases hv;rw[e]
 ·exact h k' v hv
variable (ke : κ → V) (ve : β → V)
def encM(M:List (κ×β)):List (V×V):=M.map fun p=>(ke p.1,ve p.2)
end
theorem ltP_enc{κ β:Type}[DecidableEq κ]{ke:κ→V}{ve:β→V}(h1:∀ k,(ke k).pure=true)(h2:∀ v,(ve v).pure=true)(k ka:Nat):∀ M:List (κ×β),ltP k ka (encM ke ve M)=true
 | []=>rfl
 | p::r=>by
  have:=ltP_enc h1 h2 k ka r
  show((ke p.1).lt k ka && (ve p.2).lt k ka && ltP k ka (encM ke ve r))=true
  rw[this,V.lt_pure k ka _ (h1 _),V.lt_pure k ka _ (h2 _)];rfl
structure KeyA{κ:Type}[DecidableEq κ](ks:List Nat)(kl:κ→List V):Prop where
 fit:∀ a b,fits ks (kl a) (kl b)=true
 eq:∀ a b,eqL (kl a) (kl b)=some (decide (a=b))
theorem find_A{κ β:Type}[DecidableEq κ]{ks:List Nat}{kl:κ→List V}{ve:β→V}(hk:KeyA ks kl)(k:κ):∀ (M:List (κ×β)) (i:Nat),
  (∃ j v,findA ks (kl k) (encM (fun a => .agg (kl a)) ve M) i=some (some (i+j,ve v))∧getM M k=some v∧∀ v',(encM (fun a => .agg (kl a)) ve M).set j (.agg (kl k),ve v')=encM (fun a => .agg (kl a)) ve (setM M k v')) ∨
  (findA ks (kl k) (encM (fun a => .agg (kl a)) ve M) i=some none∧getM M k=none∧∀ v',encM (fun a => .agg (kl a)) ve M++[(.agg (kl k),ve v')]=encM (fun a => .agg (kl a)) ve (setM M k v'))
 | [],i => .inr ⟨rfl,rfl,fun _=>rfl⟩
 | p::r,i=>by
  have h1:findA ks (kl k) (encM (fun a => .agg (kl a)) ve (p::r)) i=if k=p.1 then some (some (i,ve p.2))else findA ks (kl k) (encM (fun a => .agg (kl a)) ve r) (i+1):=by
   simp only[encM,List.map_cons,findA,hk.eq,hk.fit,if_true]
   by_cases h:k=p.1
   ·rw[decide_eq_true h,if_pos h]
   ·rw[decide_eq_false h,if_neg h]
  rw[h1]
  by_cases h:k=p.1
  ·refine .inl ⟨0,p.2,by rw[if_pos h];rfl,by rw[getM,if_pos h],fun v'=>?_⟩
   rw[setM,if_pos h];rfl
  ·rw[if_neg h,getM,if_neg h]
   rcases find_A hk k r (i+1)with⟨j,v,g1,g2,g3⟩ | ⟨g1,g2,g3⟩
   ·refine .inl ⟨j+1,v,by rw[g1];congr 3;omega,g2,fun v'=>?_⟩
    rw[setM,if_neg h]
    show _::(encM (fun a => .agg (kl a)) ve r).set j _=_::encM (fun a => .agg (kl a)) ve _
    rw[g3]
   ·refine .inr ⟨g1,g2,fun v'=>?_⟩
    rw[setM,if_neg h]
    show _::(encM (fun a => .agg (kl a)) ve r++_)=_::encM (fun a => .agg (kl a)) ve _
    rw[g3]
theorem find_S{β:Type}{ve:β→V}(k:ByteArray):∀ (M:List (ByteArray×β)) (i:Nat),
  (∃ j v,findV .string (.str k) (encM .str ve M) i=some (some (i+j,ve v))∧getM M k=some v∧∀ v',(encM .str ve M).set j (.str k,ve v')=encM .str ve (setM M k v')) ∨
  (findV .string (.str k) (encM .str ve M) i=some none∧getM M k=none∧∀ v',encM .str ve M++[(.str k,ve v')]=encM .str ve (setM M k v'))
 | [],i => .inr ⟨rfl,rfl,fun _=>rfl⟩
 | p::r,i=>by
  have h1:findV .string (.str k) (encM .str ve (p::r)) i=if k=p.1 then some (some (i,ve p.2))else findV .string (.str k) (encM .str ve r) (i+1):=by
   have hs:sameV .string (.str k) (.str p.1)=some (decide (k=p.1)):=by
    unfold sameV
    simp only[Option.some.injEq]
    rw[Bool.eq_iff_iff,MapKept.bytes_beq,decide_eq_true_iff]
   simp only[encM,List.map_cons,findV,hs]
   by_cases h:k=p.1
   ·rw[decide_eq_true h,if_pos h]
   ·rw[decide_eq_false h,if_neg h]
  rw[h1]
  by_cases h:k=p.1
  ·refine .inl ⟨0,p.2,by rw[if_pos h];rfl,by rw[getM,if_pos h],fun v'=>?_⟩
   rw[setM,if_pos h];rfl
  ·rw[if_neg h,getM,if_neg h]
   rcases find_S k r (i+1)with⟨j,v,g1,g2,g3⟩ | ⟨g1,g2,g3⟩
   ·refine .inl ⟨j+1,v,by rw[g1];congr 3;omega,g2,fun v'=>?_⟩
    rw[setM,if_neg h]
    show _::(encM .str ve r).set j _=_::encM .str ve _
    rw[g3]
   ·refine .inr ⟨g1,g2,fun v'=>?_⟩
    rw[setM,if_neg h]
    show _::(encM .str ve r++_)=_::encM .str ve _
    rw[g3]
section
variable {E : Env} {et : TypeId} {β : Type} {ve : β → V} {z : V}
theorem lookA_M{κ:Type}[DecidableEq κ]{ks:List Nat}{kl:κ→List V}(hk:KeyA ks kl){M:List (κ×β)}{k:κ}{K:V→Prop}(hz:zeroVP E.P et=z)(hz0:zeroOKP E.P et=true) :
  vLookF E et (findA ks (kl k) (encM (fun a => .agg (kl a)) ve M) 0) true K=K (.tuple [((getM M k).map ve).getD z,.bool (getM M k).isSome]):=by
 rcases find_A (ve:=ve) hk k M 0 with⟨j,v,g1,g2,g3⟩ | ⟨g1,g2,g3⟩
 ·rw[g1,g2];rfl
 ·rw[g1,g2];simp only[vLookF_miss,hz,hz0,true_and];rfl
theorem lookA_M1{κ:Type}[DecidableEq κ]{ks:List Nat}{kl:κ→List V}(hk:KeyA ks kl){M:List (κ×β)}{k:κ}{K:V→Prop}(hz:zeroVP E.P et=z)(hz0:zeroOKP E.P et=true) :
  vLookF E et (findA ks (kl k) (encM (fun a => .agg (kl a)) ve M) 0) false K=K (((getM M k).map ve).getD z):=by
 rcases find_A (ve:=ve) hk k M 0 with⟨j,v,g1,g2,g3⟩ | ⟨g1,g2,g3⟩
 ·rw[g1,g2];rfl
 ·rw[g1,g2];simp only[vLookF_miss1,hz,hz0,true_and];rfl
theorem setA_M{κ:Type}[DecidableEq κ]{ks:List Nat}{kl:κ→List V}(hk:KeyA ks kl){M:List (κ×β)}{k:κ}{v:β}{h:List VObj}{id:Nat}{L:List VObj→Prop} :
  vSetF h id (encM (fun a => .agg (kl a)) ve M) (.agg (kl k)) (ve v) (findA ks (kl k) (encM (fun a => .agg (kl a)) ve M) 0) L=L (h.set id (.map (encM (fun a => .agg (kl a)) ve (setM M k v)))):=by
 rcases find_A (ve:=ve) hk k M 0 with⟨j,v',g1,g2,g3⟩ | ⟨g1,g2,g3⟩
 ·rw[g1,vSetF_hit,Nat.zero_add,g3]
 ·rw[g1,vSetF_miss,g3]
theorem lookS_M{M:List (ByteArray×β)}{k:ByteArray}{K:V→Prop}(hz:zeroVP E.P et=z)(hz0:zeroOKP E.P et=true) :
  vLookF E et (findV .string (.str k) (encM .str ve M) 0) true K=K (.tuple [((getM M k).map ve).getD z,.bool (getM M k).isSome]):=by
 rcases find_S (ve:=ve) k M 0 with⟨j,v,g1,g2,g3⟩ | ⟨g1,g2,g3⟩
 ·rw[g1,g2];rfl
 ·rw[g1,g2];simp only[vLookF_miss,hz,hz0,true_and];rfl
theorem setS_M{M:List (ByteArray×β)}{k:ByteArray}{v:β}{h:List VObj}{id:Nat}{L:List VObj→Prop} :
  vSetF h id (encM .str ve M) (.str k) (ve v) (findV .string (.str k) (encM .str ve M) 0) L=L (h.set id (.map (encM .str ve (setM M k v)))):=by
 rcases find_S (ve:=ve) k M 0 with⟨j,v',g1,g2,g3⟩ | ⟨g1,g2,g3⟩
 ·rw[g1,vSetF_hit,Nat.zero_add,g3]
 ·rw[g1,vSetF_miss,g3]
end
end Go.Vg
set_option maxRecDepth 20000
namespace Go.Vg
def keyR(k:Int×Int):List V:=[.int .i64 k.1,.int .i64 k.2]
theorem keyR_ok:KeyA [1,1] keyR:=by
 refine⟨fun a b=>rfl,fun a b=>?_⟩
 obtain⟨a1,a2⟩:=a
 obtain⟨b1,b2⟩:=b
 simp only[keyR,eqL,eq1,if_true,Bool.and_true,Option.some.injEq]
 rw[Bool.eq_iff_iff]
 simp
abbrev encD(M:List ((Int×Int)×(Int×Int))):List (V×V):=encM (fun a => .agg (keyR a)) (fun a => .agg (keyR a)) M
end Go.Vg
namespace Go.Proofs.YtamednbojpnalaaGreatDoor
open Go Go.Vg Go.Proofs
def addD(M:List ((Int×Int)×(Int×Int)))(x:Us):List ((Int×Int)×(Int×Int)):=match x.to with
 | some d=>setM M (x.un,x.nd) d
 | none=>M
def dmapL(l:List Us):List ((Int×Int)×(Int×Int)):=l.foldl addD []
def unbL(l:List Us):List Us:=l.filter fun x=>x.to.isNone
def atE(x:Us):List V:=[.int .i64 x.un,.int .i64 x.nd]
theorem tabsU_snoc{pre:List Un}{x:Un}(hb:x.broken=false):tabsU (pre++[x])=tabsU pre++[rowsN x.tree (-1) 0]:=by simp[tabsU,hb]
def ckV(u:List Un)(tb:List (List Rw))(ub:List Us):List V:=[sl 34 (u.map Un.enc),.slice (.arr 0) 80 (tb.map encTab),.map 0,.slice (.arr 1) 50 (ub.map atE),.map 1,.map 2,.map 3]
theorem ats_pure:∀ l:List Us,pureLL (l.map atE)=true
 | []=>rfl
 | n::r=>by show(pureL _ && pureLL (r.map atE))=true;rw[ats_pure r];rfl
theorem ltP_D(k ka:Nat)(M:List ((Int×Int)×(Int×Int))):ltP k ka (encD M)=true:=ltP_enc (fun _=>rfl) (fun _=>rfl) k ka M
theorem flat_Ref:flatK Tryz.prog 50=some [1,1]:=by kernel_rfl
theorem setD_M{M:List ((Int×Int)×(Int×Int))}{a b c d:Int}{h:List VObj}{id:Nat}{L:List VObj→Prop}:vSetF h id (encD M) (.agg [.int .i64 a,.int .i64 b]) (.agg [.int .i64 c,.int .i64 d]) (findA [1,1] [.int .i64 a,.int .i64 b] (encD M) 0) L=L (h.set id (.map (encD (setM M (a,b) (c,d))))) :=
 setA_M (ve:=fun a => .agg (keyR a)) keyR_ok (k:=(a,b)) (v:=(c,d))
theorem Tnew(u:List Un)(hu:fitU u)(hb:∀ x∈u,x.broken=false):VCalls env 75 [sl 34 (u.map Un.enc)] [] [] fun v h a => 
  v = .ptr 4 0∧h=[.map (encD (dmapL (usesL (globL (declsU u 0)) (tabsU u) 0))),.map [],.map [],.map [],.cells (ckV u (tabsU u) (unbL (usesL (globL (declsU u 0)) (tabsU u) 0)))]∧a=[u.length,(unbL (usesL (globL (declsU u 0)) (tabsU u) 0)).length]:=by
 have hU:=SUses u hu (tabs_ok hu)
 have hUl:=usesL_len (M:=globL (declsU u 0)) (tabsU u) 0 fun l hl=>(tabs_ok hu l hl).len
 have htl0:(tabsU u).length=u.length:=by simp[tabsU]
 have hul:=hu.1
 have hfit:=hu.2
 refine vcalls_vc (fn:=Tryz.f75) Tryz.func75 rfl (by rw[Tryz.ntmps75];simp) ?_
 simp -implicitDefEqProofs only[go_sem,Tryz.f75]
 intro _ _
 refine snd_list (β:=Unit) u (fun pre _=>⟨[(17,.int .i64 pre.length),(16,.int .i64 u.length),(15,sl 34 (u.map Un.enc)),(3,.ptr 4 0),(0,sl 34 (u.map Un.enc))],
   [.map [],.map [],.map [],.map [],.cells [sl 34 (u.map Un.enc),.slice (.arr 0) 80 ((tabsU pre).map encTab),.map 0,.slice .nil 0 [],.map 1,.map 2,.map 3]],[pre.length]⟩) (fun _ _ _=>True) () ?_ trivial ?_ ?_
 ·simp -implicitDefEqProofs only[go_sem]
  exact⟨rfl,rfl⟩
 ·intro _ _
  simp -implicitDefEqProofs only[go_sem]
  refine hU.calls (by simp -implicitDefEqProofs only[go_sem]) ?_
  simp -implicitDefEqProofs only[go_sem]
  intro _ _
  generalize usesL (globL (declsU u 0)) (tabsU u) 0=us at hUl ⊢
  refine snd_list (β:=Unit) us (fun pre _=>⟨[(37,.int .i64 pre.length),(36,.int .i64 us.length),(35,sl 155 (us.map Us.enc)),(3,.ptr 4 0)],
   [.map (encD (dmapL pre)),.map [],.map [],.map [],.cells (ckV u (tabsU u) (unbL pre))],[u.length,(unbL pre).length]⟩) (fun _ _ _=>True) () ?_ trivial ?_ ?_
  ·simp -implicitDefEqProofs only[go_sem,ckV]
   exact⟨rfl,rfl,rfl⟩
  ·intro _ _
   simp -implicitDefEqProofs only[go_sem,ckV]
  ·rintro pre x post _ hx _
   have hpl:us.length=pre.length+1+post.length:=by rw[hx];simp;omega
   have hgx:(us.map Us.enc).getD (pre.length:Int).toNat []=x.enc:=by rw[hx];simp[List.getD_eq_getElem?_getD]
   have hw:IntKind.i64.wrap (↑pre.length+1)=↑(pre.length+1):=wrap_next (by omega)
   have hlt:((pre.length:Int)<us.length)=True:=by simp;omega
   have hdl:dmapL (pre++[x])=addD (dmapL pre) x:=by simp[dmapL]
   have hbl:unbL (pre++[x])=unbL pre++if x.to.isNone then [x]else []:=by simp[unbL,List.filter_append,List.filter_cons]
   have hubl:(unbL pre).length≤pre.length:=List.length_filter_le _ _
   obtain⟨un,nd,to⟩:=x
   have htp:=ltLL_pure 5 2 _ (tabs_pure (tabsU u))
   have hup:=ltLL_pure 5 2 _ (uns_pure u)
   simp -implicitDefEqProofs only[go_sem,hgx,hlt,ckV,Us.enc]
   cases to with
   | none =>
    refine⟨fun h=>(by cases h),fun _=>?_⟩
    refine snd_draw (cs:=[]) mixed (by kernel_rfl) ?_
    simp -implicitDefEqProofs only[go_sem]
    have hbl':unbL (pre++[⟨un,nd,none⟩])=unbL pre++[⟨un,nd,none⟩]:=hbl
    rw[hdl,hbl',ltP_D,htp,hup,ltLL_pure _ _ _ (ats_pure _),ltLL_pure _ _ _ (uss_pure _)]
    exact⟨by omega,(),hw,⟨rfl,by simp[atE]⟩,by simp,.inr ⟨rfl,rfl⟩⟩
   | some d =>
    obtain⟨d1,d2⟩:=d
    refine⟨fun _=>?_,fun h=>(by cases h)⟩
    refine snd_draw (cs:=[]) mixed (by kernel_rfl) ?_
    simp -implicitDefEqProofs only[go_sem,flat_Ref,setD_M]
    have hbl':unbL (pre++[⟨un,nd,some (d1,d2)⟩])=unbL pre:=by rw[hbl];simp
    rw[hdl,hbl',ltP_D,htp,hup,ltLL_pure _ _ _ (ats_pure _),ltLL_pure _ _ _ (uss_pure _)]
    exact⟨(),hw,⟨rfl,rfl⟩,rfl,.inr ⟨rfl,rfl⟩⟩
 ·rintro pre x post _ hx _
  have hpl:u.length=pre.length+1+post.length:=by rw[hx];simp;omega
  have hgx:(u.map Un.enc).getD (pre.length:Int).toNat []=x.enc:=by rw[hx];simp[List.getD_eq_getElem?_getD]
  have hw:IntKind.i64.wrap (↑pre.length+1)=↑(pre.length+1):=wrap_next (by omega)
  have hlt:((pre.length:Int)<u.length)=True:=by simp;omega
  have hxn:=(hfit x (by rw[hx];simp)).1
  have hR:=TRows x.tree (by omega)
  have htl:(tabsU pre).length=pre.length:=by simp[tabsU]
  have hts:=tabsU_snoc (pre:=pre) (hb x (by rw[hx];simp))
  simp -implicitDefEqProofs only[go_sem,hgx,hlt]
  refine snd_draw (cs:=[]) mixed (by kernel_rfl) ?_
  simp -implicitDefEqProofs only[go_sem]
  refine vPC_of hR (by simp -implicitDefEqProofs only[go_sem]) ?_
  simp -implicitDefEqProofs only[go_sem]
  rw[hts,List.map_append]
  have hp:=tabs_pure (tabsU pre++[rowsN x.tree (-1) 0])
  rw[List.map_append]at hp
  have h1:=ltLL_pure 5 1 _ hp
  have h2:ltLL 5 1 (List.map encTab (tabsU pre)++List.map encTab [rowsN x.tree (-1) 0])=true:=h1
  rw[h2,ltLL_pure _ _ _ (uns_pure _)]
  exact⟨by omega,by rw[htl],(),hw,rfl,htl,.inr ⟨rfl,rfl⟩⟩
end Go.Proofs.YtamednbojpnalaaGreatDoor
namespace Go.Vg
theorem VCalls.freezeR{E:Env}{f:FuncId}{args:List V}{heap:List VObj}{arr:List Nat}{K:Cont}
  (hc:VCalls E f args heap arr fun v h a=>∃ id cs,v = .ptr id 0∧h[id]? = some (.cells cs)∧cs.all V.cell=true∧K (.fptr (cs.map share1)) (h.set id .dead) a):VCalls E f args heap arr K:=by
 intro G w0 w vals hr hargs
 refine(hc G w0 w vals hr hargs).mono fun e w' hg=>hg.imp (fun⟨val,he,v,heap',arr',G',⟨id,cs,hv,hh,hcc,hk⟩,hx,hr',hrv⟩=>?_) id
 subst hv
 obtain⟨G2,b,hb,hx2,hr2,hφ,hcs⟩:=hr'.freezeO hh hcc
 refine⟨val,he,_,_,_,G2,hk,hx.trans hx2,hr2,?_⟩
 cases hrv with
 | ptr _ _ b' hb' =>
  rw[hb]at hb'
  cases hb'
  refine .fptr _ b 0 (fun j hj=>?_) fun j c v hc hv=>?_
  ·rw[List.length_map]at hj
   obtain⟨u,hu,_⟩:=hcs j _ (List.getElem?_eq_getElem hj)
   exact⟨u,by rw[Nat.zero_add];exact hu⟩
  ·rw[List.getElem?_map]at hc
   obtain⟨c',hc',rfl⟩:=Option.map_eq_some_iff.1 hc
   obtain⟨u,hu,hru⟩:=hcs j c' hc'
   rw[Nat.zero_add,hu]at hv
   cases hv
   exact hru.share1
end Go.Vg
