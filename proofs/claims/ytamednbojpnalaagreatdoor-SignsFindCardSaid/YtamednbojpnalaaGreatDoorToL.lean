/- Mismatches. -/
import Derived.Test.YtamednbojpnalaaGreatDoorTst
set_option linter.unusedVariables false
set_option linter.unusedSimpArgs false
set_option maxRecDepth 20000
namespace Go.Proofs.YtamednbojpnalaaGreatDoor
open Go Go.Vg Go.Proofs
def textT(u:List Un)(ms:List Dl)(n:Nd):ByteArray:=if n.kind=20 then callT u n else if n.kind=21 then sendT u ms n else⟨#[]⟩
def fiN(u:List Un)(ms:List Dl)(path:ByteArray)(n:Nd):List Fi:=if textT u ms n=⟨#[]⟩then []else [⟨4,path,n.text,textT u ms n⟩]
structure ndOK(n:Nd):Prop where
 sh:short n
 par:parOK n
 bin:binOK n
 len:n.kids.length≤1000000
 send:n.kind=21→1≤n.kids.length
theorem set_same{α:Type}{l:List α}{i:Nat}{x:α}(h:l[i]? = some x):l.set i x=l:=by
 apply List.ext_getElem?
 intro j
 by_cases hj:i=j
 ·subst hj
  rw[List.getElem?_set_self (List.getElem?_eq_some_iff.1 h).1,h]
 ·rw[List.getElem?_set_ne hj]
theorem fiN_len{u:List Un}{ms:List Dl}{p:ByteArray}{n:Nd}:(fiN u ms p n).length≤1:=by unfold fiN;split <;> simp
theorem Sclos(u:List Un)(hu:sgOK u)(ms:List Dl)(p:ByteArray)(xs:List V)(fs:List Fi)(n:Nd)(hn:ndOK n)(h:List VObj)(a:List Nat)(hfl:fs.length≤1000000)(g0:h[0]? = some (.cells [sl 34 (u.map Un.enc)]))(g1:h[1]? = some (.cells [.slice (.arr 0) 61 (ms.map Dl.enc)]))
  (g2:h[2]? = some (.cells [.slice (.arr 1) 42 (fs.map Fi.enc)])) (g3:h[3]? = some (.cells (.str p::xs))) (ga:a[1]? = some fs.length) :
  VCalls env 32 [.agg n.enc,.ptr 0 0,.ptr 1 0,.ptr 2 0,.ptr 3 0] h a fun v h' a'=>v = .tuple []∧(∃ z,h'=h.set 2 (.cells [.slice (.arr 1) 42 ((fs++fiN u ms p n).map Fi.enc)])++z)∧a'=a.set 1 (fs++fiN u ms p n).length:=by
 have hC:=Scall u hu n hn.sh hn.par hn.bin hn.len
 have hS:=fun h1=>Ssend u hu ms n h1 hn.len
 have hsend:=hn.send
 have hl2:2<h.length:=(List.getElem?_eq_some_iff.1 g2).1
 have hl1:1<a.length:=(List.getElem?_eq_some_iff.1 ga).1
 obtain⟨k,t,g,ks⟩:=n
 simp only[Nd.kind,Nd.kids]at hsend
 have htx:textT u ms (.mk k t g ks)=if k=20 then callT u (.mk k t g ks)else if k=21 then sendT u ms (.mk k t g ks)else⟨#[]⟩:=rfl
 have hfi:fiN u ms p (.mk k t g ks)=if textT u ms (.mk k t g ks)=⟨#[]⟩then []else [⟨4,p,t,textT u ms (.mk k t g ks)⟩]:=rfl
 generalize fiN u ms p (.mk k t g ks)=fi at hfi ⊢
 refine vcalls_vc (fn:=Tryz.f32) Tryz.func32 rfl (by rw[Tryz.ntmps32];simp) ?_
 simp -implicitDefEqProofs only[go_sem,Tryz.f32,hp_get g0,hp_get g1,hp_get g2,hp_get g3]
 have hnil:fi=[]→h=h.set 2 (.cells [.slice (.arr 1) 42 ((fs++fi).map Fi.enc)])∧a=a.set 1 (fs++fi).length:=fun e=>by
  subst e
  rw[List.append_nil]
  exact⟨(set_same g2).symm,(set_same ga).symm⟩
 have hone:∀ tx,tx≠⟨#[]⟩→textT u ms (.mk k t g ks)=tx→fi=[⟨4,p,t,tx⟩]:=fun tx h1 h2=>by
  rw[hfi,h2,if_neg h1]
 have hzero:textT u ms (.mk k t g ks)=⟨#[]⟩→fi=[]:=fun h2=>by
  rw[hfi,h2,if_pos rfl]
 refine⟨fun h20=>?_,fun h20=>⟨fun h21=>?_,fun h21=>?_⟩⟩
 ·rw[if_pos h20]at htx
  refine hC.calls (by simp -implicitDefEqProofs only[go_sem]) ?_
  simp -implicitDefEqProofs only[go_sem,hp_get g0,hp_get g1,hp_get g2,hp_get g3]
  refine⟨fun hc=>?_,fun hc=>?_⟩
  ·have e:=hone _ (by simpa using hc) htx
   refine⟨by omega,ga,⟨[.cells (Nd.mk k t g ks).enc],?_⟩,by rw[e];simp⟩
   rw[e,List.set_append_left _ _ hl2]
   simp -implicitDefEqProofs only[go_sem]
   simp[Fi.enc]
  ·obtain⟨e1,e2⟩:=hnil (hzero (by rw[htx];simpa using hc))
   exact⟨⟨_,by rw[←e1]⟩,e2⟩
 ·rw[if_neg h20,if_pos h21]at htx
  refine(hS (hsend h21)).calls (by simp -implicitDefEqProofs only[go_sem]) ?_
  simp -implicitDefEqProofs only[go_sem,hp_get g0,hp_get g1,hp_get g2,hp_get g3]
  refine⟨fun hc=>?_,fun hc=>?_⟩
  ·have e:=hone _ (by simpa using hc) htx
   refine⟨by omega,ga,⟨[.cells (Nd.mk k t g ks).enc],?_⟩,by rw[e];simp⟩
   rw[e,List.set_append_left _ _ hl2]
   simp -implicitDefEqProofs only[go_sem]
   simp[Fi.enc]
  ·obtain⟨e1,e2⟩:=hnil (hzero (by rw[htx];simpa using hc))
   exact⟨⟨_,by rw[←e1]⟩,e2⟩
 ·rw[if_neg h20,if_neg h21]at htx
  obtain⟨e1,e2⟩:=hnil (hzero htx)
  exact⟨⟨_,by rw[←e1]⟩,e2⟩
def misN(u:List Un)(ms:List Dl)(p:ByteArray)(n:Nd):List Fi:=(nodes n).flatMap (fiN u ms p)
def misL(u:List Un)(ms:List Dl)(p:ByteArray)(l:List Nd):List Fi:=(nodesL l).flatMap (fiN u ms p)
theorem mis_len{u:List Un}{ms:List Dl}{p:ByteArray}:∀ l:List Nd,(l.flatMap (fiN u ms p)).length≤l.length
 | []=>by simp
 | x::r=>by
  have:=mis_len (u:=u) (ms:=ms) (p:=p) r
  have:=@fiN_len u ms p x
  simp only[List.flatMap_cons,List.length_append,List.length_cons];omega
theorem Swalk(u:List Un)(hu:sgOK u)(ms:List Dl)(p:ByteArray)(xs:List V):(n:Nd)→(∀ y∈nodes n,ndOK y)→∀ (fs:List Fi) (h:List VObj) (a:List Nat) (hfl:fs.length+(nodes n).length≤1000000) (g0:h[0]? = some (.cells [sl 34 (u.map Un.enc)])) (g1:h[1]? = some (.cells [.slice (.arr 0) 61 (ms.map Dl.enc)]))
  (g2:h[2]? = some (.cells [.slice (.arr 1) 42 (fs.map Fi.enc)])) (g3:h[3]? = some (.cells (.str p::xs))) (ga:a[1]? = some fs.length),
  VCalls env 30 [.agg n.enc,.func 32 [.ptr 0 0,.ptr 1 0,.ptr 2 0,.ptr 3 0]] h a fun v h' a'=>v = .tuple []∧(∃ z,h'=h.set 2 (.cells [.slice (.arr 1) 42 ((fs++misN u ms p n).map Fi.enc)])++z)∧a'=a.set 1 (fs++misN u ms p n).length:=by
 refine Nd.all fun k t g ks ih hok fs h a hfl g0 g1 g2 g3 ga=>?_
 have hl2:2<h.length:=(List.getElem?_eq_some_iff.1 g2).1
 have hl3:3<h.length:=(List.getElem?_eq_some_iff.1 g3).1
 have hl1:1<a.length:=(List.getElem?_eq_some_iff.1 ga).1
 have hmn:misN u ms p (.mk k t g ks)=fiN u ms p (.mk k t g ks)++misL u ms p ks:=by simp[misN,misL,nodes]
 have hn0:ndOK (.mk k t g ks):=hok _ (by rw[nodes];simp)
 rw[nodes_mk]at hfl
 refine vcalls_vc (fn:=Tryz.f30) Tryz.func30 rfl (by rw[Tryz.ntmps30];simp) ?_
 simp -implicitDefEqProofs only[go_sem,Tryz.f30]
 have hcl:=Sclos u hu ms p xs fs (.mk k t g ks) hn0 (h++[.cells (Nd.mk k t g ks).enc]) a (by omega) (hp_get g0) (hp_get g1) (hp_get g2) (hp_get g3) ga
 simp only[enc_mk]at hcl
 refine VCalls.mono hcl ?_
 rintro v h' a' ⟨rfl,⟨z,rfl⟩,rfl⟩
 have hfl1:=@fiN_len u ms p (.mk k t g ks)
 generalize fiN u ms p (.mk k t g ks)=fi at hmn hfl1 ⊢
 rw[hp_set hl2,List.append_assoc]
 simp -implicitDefEqProofs only[go_sem,hp_at,hp_at']
 intro _ _
 rw[hmn]
 refine snd_list (β:=List VObj) ks (fun pre hh=>⟨[(12,.int .i64 pre.length),(11,.int .i64 ks.length),(10,sl 32 (ks.map Nd.enc)),(1,.func 32 [.ptr 0 0,.ptr 1 0,.ptr 2 0,.ptr 3 0])],
   hh,a.set 1 (fs++(fi++misL u ms p pre)).length⟩) (fun pre _ hh=>∃ z,hh=h.set 2 (.cells [.slice (.arr 1) 42 ((fs++(fi++misL u ms p pre)).map Fi.enc)])++z)
   (h.set 2 (.cells [.slice (.arr 1) 42 ((fs++fi).map Fi.enc)])++(.cells (Nd.mk k t g ks).enc::z)) ?_ ⟨.cells (Nd.mk k t g ks).enc::z,by rw[show misL u ms p []=[]from rfl,List.append_nil]⟩ ?_ ?_
 ·have e0:misL u ms p []=[]:=rfl
  rw[e0,List.append_nil]
  simp -implicitDefEqProofs only[go_sem]
  exact⟨rfl,by rw[hp_len];omega⟩
 ·rintro hh ⟨z,rfl⟩
  simp -implicitDefEqProofs only[go_sem]
  exact⟨_,rfl⟩
 ·rintro pre x post hh hx ⟨z,hz⟩
  have hpl:ks.length=pre.length+1+post.length:=by rw[hx];simp;omega
  have hgx:(ks.map Nd.enc).getD (pre.length:Int).toNat []=x.enc:=by rw[hx];simp[List.getD_eq_getElem?_getD]
  have hw:IntKind.i64.wrap (↑pre.length+1)=↑(pre.length+1):=wrap_next (by omega)
  have hlt:((pre.length:Int)<ks.length)=True:=by simp;omega
  have hxm:x∈ks:=by rw[hx];simp
  have hnl:(nodesL ks).length=(nodesL pre).length+(nodes x).length+(nodesL post).length:=by rw[hx,nodesL_app,nodesL];simp;omega
  have hml:(misL u ms p pre).length≤(nodesL pre).length:=mis_len _
  simp -implicitDefEqProofs only[go_sem,hgx,hlt]
  have hfs:(fs++(fi++misL u ms p pre)).length+(nodes x).length≤1000000:=by
   simp only[List.length_append];omega
  have gp:∀ (j:Nat) v,j≠2→h[j]? = some v→(hh++[VObj.cells x.enc])[j]? = some v:=fun j v hj hv=>by
   have hjl:=(List.getElem?_eq_some_iff.1 hv).1
   rw[hz,List.append_assoc,List.getElem?_append_left (by simpa using hjl),List.getElem?_set_ne (Ne.symm hj)];exact hv
  have g2':(hh++[VObj.cells x.enc])[2]? = some (.cells [.slice (.arr 1) 42 ((fs++(fi++misL u ms p pre)).map Fi.enc)]):=by
   rw[hz,List.append_assoc,List.getElem?_append_left (by simpa using hl2),List.getElem?_set_self hl2]
  refine VCalls.mono (ih x hxm (fun y hy=>hok y (mem_kid hxm hy)) (fs++(fi++misL u ms p pre)) _ _ hfs (gp 0 _ (by decide) g0) (gp 1 _ (by decide) g1) g2' (gp 3 _ (by decide) g3) (List.getElem?_set_self hl1)) ?_
  rintro v h' a' ⟨rfl,⟨z',rfl⟩,rfl⟩
  have hms:misL u ms p (pre++[x])=misL u ms p pre++misN u ms p x:=by
   simp[misL,misN,nodesL_snoc]
  have hfe:(fs++(fi++misL u ms p pre))++misN u ms p x=fs++(fi++misL u ms p (pre++[x])):=by rw[hms];simp
  rw[hfe,List.set_set]
  simp -implicitDefEqProofs only[go_sem]
  refine⟨_,⟨z++([.cells x.enc]++z'),?_⟩,hw,tellH_refl,?_,.inl (by simp)⟩
  ·rw[hz,List.append_assoc (h.set 2 _),hp_sets hl2];simp
  ·rw[hz];simp;omega
def misU(u:List Un)(ms:List Dl):List Un→List Fi
 | []=>[]
 | x::r=>(if x.broken=true then []else misN u ms x.path (bare x.tree))++misU u ms r
theorem misU_snoc{u:List Un}{ms:List Dl}{x:Un}:∀ l:List Un,misU u ms (l++[x])=misU u ms l++(if x.broken=true then []else misN u ms x.path (bare x.tree))
 | []=>by simp[misU]
 | y::r=>by simp only[List.cons_append,misU,misU_snoc r,List.append_assoc]
theorem misU_len{u:List Un}{ms:List Dl}:∀ l:List Un,(∀ x∈l,(nodes (bare x.tree)).length≤1000)→(misU u ms l).length≤l.length * 1000
 | [],_=>by simp[misU]
 | x::r,h=>by
  have h1:=misU_len (u:=u) (ms:=ms) r fun y hy=>h y (by simp[hy])
  have h2:=h x (by simp)
  have h3:(misN u ms x.path (bare x.tree)).length≤(nodes (bare x.tree)).length:=mis_len _
  rw[misU,List.length_append,List.length_cons]
  split
  ·simp;omega
  ·omega
def methU(u:List Un):List Dl:=(declsU u 0).filter fun d=>decide (d.kind=4)
theorem Smis(u:List Un)(hu:sgOK u)(hv:sgOK (u.map Un.sound))(hn:∀ x∈u.map Un.sound,x.broken=false→∀ y∈nodes (bare x.tree),ndOK y)(hbl:∀ x∈u.map Un.sound,(nodes (bare x.tree)).length≤1000) :
  VPure env 11 [sl 34 (u.map Un.enc)] (sl 42 ((misU (u.map Un.sound) (methU (u.map Un.sound)) (u.map Un.sound)).map Fi.enc)):=by
 have hD:=PDecls (u.map Un.sound) hv.fit
 rw[declsPU_eq]at hD
 have hdl:=declsU_len (u.map Un.sound) 0 fun y hy=>(hv.fit.2 y hy).1
 have hul:=hv.fit.1
 refine vpure_vc (fn:=Tryz.f11) Tryz.func11 rfl (by rw[Tryz.ntmps11];simp) (by simp -implicitDefEqProofs only[go_sem];exact uns_pure _) (by simp -implicitDefEqProofs only[go_sem];exact fis_pure _) ?_
 simp -implicitDefEqProofs only[go_sem,Tryz.f11]
 refine(Ssound u hu.gaps hu.fit.1).calls (by simp -implicitDefEqProofs only[go_sem]) ?_
 simp -implicitDefEqProofs only[go_sem]
 refine hD.calls (by simp -implicitDefEqProofs only[go_sem]) ?_
 simp -implicitDefEqProofs only[go_sem]
 unfold methU
 generalize hvv:u.map Un.sound=v at hv hn hbl hdl hul ⊢
 generalize declsU v 0=dl at hdl ⊢
 intro _ _
 refine snd_list (β:=Unit) dl (fun pre _=>⟨[(15,.int .i64 pre.length),(14,.int .i64 dl.length),(13,sl 61 (dl.map Dl.enc)),(4,.ptr 1 0),(3,.ptr 0 0),(2,.slice .nil 0 [])],
   [.cells [sl 34 (v.map Un.enc)],.cells [.slice (.arr 0) 61 ((pre.filter fun d=>decide (d.kind=4)).map Dl.enc)]],[(pre.filter fun d=>decide (d.kind=4)).length]⟩) (fun _ _ _=>True) () ?_ trivial ?_ ?_
 ·simp -implicitDefEqProofs only[go_sem]
  exact⟨rfl,rfl⟩
 ·intro _ _
  simp -implicitDefEqProofs only[go_sem]
  intro _ _
  generalize(dl.filter fun d=>decide (d.kind=4))=ms
  refine snd_list (β:=Unit) v (fun pre _=>⟨[(29,.int .i64 pre.length),(28,.int .i64 v.length),(27,sl 34 (v.map Un.enc)),(7,.ptr 2 0),(4,.ptr 1 0),(3,.ptr 0 0),(2,.slice .nil 0 [])],
   [.cells [sl 34 (v.map Un.enc)],.cells [.slice (.arr 0) 61 (ms.map Dl.enc)],.cells [.slice (.arr 1) 42 ((misU v ms pre).map Fi.enc)]],[ms.length,(misU v ms pre).length]⟩) (fun _ _ _=>True) () ?_ trivial ?_ ?_
  ·simp -implicitDefEqProofs only[go_sem]
   exact⟨rfl,rfl⟩
  ·intro _ _
   simp -implicitDefEqProofs only[go_sem]
  ·rintro pre x post _ hx _
   have hpl:v.length=pre.length+1+post.length:=by rw[hx];simp;omega
   have hgx:(v.map Un.enc).getD (pre.length:Int).toNat []=x.enc:=by rw[hx];simp[List.getD_eq_getElem?_getD]
   have hw:IntKind.i64.wrap (↑pre.length+1)=↑(pre.length+1):=wrap_next (by omega)
   have hlt:((pre.length:Int)<v.length)=True:=by simp;omega
   have hxm:x∈v:=by rw[hx];simp
   have hml:=misU_len (u:=v) (ms:=ms) pre fun y hy=>hbl y (by rw[hx];simp[hy])
   have hbx:=hbl x hxm
   simp -implicitDefEqProofs only[go_sem,hgx,hlt]
   refine⟨fun hb=>?_,fun hb=>?_⟩
   ·have hsn:=@misU_snoc v ms x pre
    rw[if_pos hb,List.append_nil]at hsn
    rw[hsn]
    exact⟨(),hw,rfl,rfl,.inr ⟨by rw[ltLL_pure _ _ _ (uns_pure _),ltLL_pure _ _ _ (dls_pure _),ltLL_pure _ _ _ (fis_pure _)];rfl,ltLL_pure _ _ _ (uns_pure _)⟩⟩
   ·have hsn:=@misU_snoc v ms x pre
    rw[if_neg (by rw[hb];simp)]at hsn
    refine(bare_ok x.tree).calls (by simp -implicitDefEqProofs only[go_sem]) ?_
    simp -implicitDefEqProofs only[go_sem]
    refine VCalls.mono (Swalk v hv ms x.path (.str x.text::(x.tree.enc++[.bool x.broken])) (bare x.tree) (hn x hxm hb) (misU v ms pre) _ _ (by omega) rfl rfl rfl rfl rfl) ?_
    rintro v' h' a' ⟨rfl,⟨z,rfl⟩,rfl⟩
    rw[←hsn]
    simp -implicitDefEqProofs only[go_sem]
    exact⟨(),hw,.inr ⟨by rw[ltLL_pure _ _ _ (uns_pure _),ltLL_pure _ _ _ (dls_pure _),ltLL_pure _ _ _ (fis_pure _)];rfl,ltLL_pure _ _ _ (uns_pure _)⟩⟩
 ·rintro pre d post _ hx _
  have hpl:dl.length=pre.length+1+post.length:=by rw[hx];simp;omega
  have hgx:(dl.map Dl.enc).getD (pre.length:Int).toNat []=d.enc:=by rw[hx];simp[List.getD_eq_getElem?_getD]
  have hw:IntKind.i64.wrap (↑pre.length+1)=↑(pre.length+1):=wrap_next (by omega)
  have hlt:((pre.length:Int)<dl.length)=True:=by simp;omega
  have hml:(pre.filter fun d=>decide (d.kind=4)).length≤pre.length:=List.length_filter_le ..
  simp -implicitDefEqProofs only[go_sem,hgx,hlt]
  have hlp:ltLL 2 1 (List.map Un.enc v)=true∧ltLL 2 1 (List.map Dl.enc ((pre++[d]).filter fun d=>decide (d.kind=4)))=true∧ltLL 2 1 (List.map Dl.enc dl)=true:=⟨ltLL_pure _ _ _ (uns_pure _),ltLL_pure _ _ _ (dls_pure _),ltLL_pure _ _ _ (dls_pure _)⟩
  rw[hlp.1,hlp.2.1,hlp.2.2]
  refine⟨fun h4=>⟨by omega,(),hw,by simp[h4],by simp[h4],.inr ⟨rfl,rfl⟩⟩,fun h4=>⟨(),hw,by simp[h4],by simp[h4],.inr ⟨rfl,rfl⟩⟩⟩
end Go.Proofs.YtamednbojpnalaaGreatDoor
set_option maxRecDepth 20000
namespace Go.Proofs.YtamednbojpnalaaGreatDoor
open Go Go.Vg Go.Proofs
def misR(s:List Un)(ms:List Dl):List Un→List Fi
 | []=>[]
 | x::r=>misN s ms x.path x.tree++misR s ms r
theorem R40Same(a b:List Fi):VPure env 10 [sl 42 (a.map Fi.enc),sl 42 (b.map Fi.enc)] (.bool (decide (a=b))):=by
 refine vpure_vc (fn:=Tryz.f10) Tryz.func10 rfl (by rw[Tryz.ntmps10];simp) (by simp -implicitDefEqProofs only[go_sem];simp only[fis_pure];rfl) rfl ?_
 simp -implicitDefEqProofs only[go_sem,Tryz.f10]
 intro _ _ _ _
 refine⟨fun h=>?_,fun h=>?_⟩
 ·have:a≠b:=by rintro rfl;simp at h
  simp[this]
 have hl:a.length=b.length:=by simp at h;omega
 refine snd_list (β:=Unit) (a.zip b) (fun pre _=>⟨[(5,.int .i64 pre.length),(4,.bool false),(0,sl 42 (a.map Fi.enc)),(1,sl 42 (b.map Fi.enc))],[],[]⟩) (fun pre _ _=>∀ p∈pre,p.1=p.2) () ?_ (by simp) ?_ ?_
 ·simp -implicitDefEqProofs only[go_sem]
  try rfl
 ·intro _ hi
  have hzl:(a.zip b).length=a.length:=by simp[hl]
  simp -implicitDefEqProofs only[go_sem,hzl]
  intro _ _
  have:a=b:=by
   apply List.ext_getElem?
   intro i
   rcases Nat.lt_or_ge i a.length with h1 | h1
   ·have h2:i<b.length:=by omega
    have hm:(a[i],b[i])∈a.zip b:=by
     have:(a.zip b)[i]? = some (a[i],b[i]):=List.getElem?_zip_eq_some.2 ⟨List.getElem?_eq_getElem h1,List.getElem?_eq_getElem h2⟩
     exact List.mem_of_getElem? this
    rw[List.getElem?_eq_getElem h1,List.getElem?_eq_getElem h2]
    exact congrArg some (hi _ hm)
   ·rw[List.getElem?_eq_none h1,List.getElem?_eq_none (by omega)]
  simp[this]
 ·rintro pre ⟨x,y⟩ post _ hx hi
  have hzl:(a.zip b).length=a.length:=by simp[hl]
  have hpl:a.length=pre.length+1+post.length:=by rw[←hzl,hx];simp;omega
  have hax:a[pre.length]? = some x∧b[pre.length]? = some y:=by
   have:(a.zip b)[pre.length]? = some (x,y):=by rw[hx];simp
   exact List.getElem?_zip_eq_some.1 this
  have hga:(a.map Fi.enc).getD (pre.length:Int).toNat []=x.enc:=by simp[List.getD_eq_getElem?_getD,hax.1]
  have hgb:(b.map Fi.enc).getD (pre.length:Int).toNat []=y.enc:=by simp[List.getD_eq_getElem?_getD,hax.2]
  have hw:IntKind.i64.wrap (↑pre.length+1)=↑(pre.length+1):=wrap_next (by omega)
  have hlt:((pre.length:Int)<a.length)=True:=by simp;omega
  have hltb:((pre.length:Int)<b.length)=True:=by simp;omega
  simp -implicitDefEqProofs only[go_sem,hga,hgb,hlt,hltb]
  intro _ _
  refine snd_draw (cs:=[]) mixed (by kernel_rfl) ?_
  simp -implicitDefEqProofs only[go_sem,hga,hgb,hlt,hltb]
  have hfl:flatK Tryz.prog 42=some [1,0,0,0]:=by kernel_rfl
  have heq:Vg.eqL x.enc y.enc=some (decide (x=y)):=by
   obtain⟨x1,x2,x3,x4⟩:=x
   obtain⟨y1,y2,y3,y4⟩:=y
   simp only[Fi.enc,Vg.eqL,eq1,if_true,Fi.mk.injEq]
   congr 1
   rw[Bool.eq_iff_iff];simp
  refine⟨by rw[hfl];rfl,?_⟩
  rw[heq]
  simp -implicitDefEqProofs only[go_sem]
  refine⟨fun hne=>?_,fun he=>⟨(),?_,hw⟩⟩
  ·have hne':¬ x=y:=by simpa using hne
   have:a≠b:=by rintro rfl;rw[hax.1]at hax;exact hne' (by simpa using hax.2)
   simp[this]
  ·have he':x=y:=by simpa using he
   intro p hp
   rcases List.mem_append.1 hp with h | h
   ·exact hi p h
   ·simp at h;rw[h];exact he'
end Go.Proofs.YtamednbojpnalaaGreatDoor
namespace Go.Vg
theorem left_count:∀ (n:Nd) (a l:Int),0≤left n a l→left n a l+(nodes n).length≤a:=by
 refine Nd.all fun k t g ks ih a l h=>?_
 have hs:∀ r:List Nd,(∀ x∈r,∀ a l:Int,0≤left x a l→left x a l+(nodes x).length≤a)→∀ a l:Int,0≤lefts r a l→lefts r a l+(nodesL r).length≤a:=by
  intro r
  induction r with
  | nil=>intro _ a l _;simp[lefts,nodesL]
  | cons x r ihr =>
   intro hx a l h
   rw[lefts]at h ⊢
   split at h
   ·omega
   ·rename_i hn
    rw[if_neg hn]
    have h1:=hx x (by simp) a l (by omega)
    have h2:=ihr (fun y hy=>hx y (by simp[hy])) _ l h
    rw[nodesL,List.length_append];omega
 rw[left]at h ⊢
 split at h
 ·omega
 ·rename_i hn
  rw[if_neg hn]
  have:=hs ks ih _ _ h
  rw[nodes_mk];omega
theorem weighG_all:∀ (g:List ByteArray) (b:Int),0≤weighG g b→∀ s∈g,(s.size:Int)≤b
 | [],b,h,s,hs=>by cases hs
 | x::r,b,h,s,hs=>by
  rw[weighG]at h
  split at h
  ·omega
  ·rcases List.mem_cons.1 hs with rfl | hs
   ·omega
   ·have:=weighG_all r _ h s hs;omega
def lightAt(y:Nd)(b:Int):Prop:=(y.text.size:Int)≤b∧∀ s∈y.gaps,(s.size:Int)≤b
theorem weigh_all:∀ (n:Nd) (b:Int),0≤weigh n b→∀ y∈nodes n,lightAt y b:=by
 refine Nd.all fun k t g ks ih b h y hy=>?_
 have hs:∀ r:List Nd,(∀ x∈r,∀ b:Int,0≤weigh x b→∀ y∈nodes x,lightAt y b)→∀ b:Int,0≤weighs r b→∀ y∈nodesL r,lightAt y b:=by
  intro r
  induction r with
  | nil=>intro _ b _ y hy;simp[nodesL]at hy
  | cons x r ihr =>
   intro hx b h y hy
   rw[weighs]at h
   split at h
   ·omega
   ·rename_i hn
    rw[nodesL,List.mem_append]at hy
    rcases hy with hy | hy
    ·exact hx x (by simp) b (by omega) y hy
    ·have h2:=ihr (fun z hz=>hx z (by simp[hz])) _ h y hy
     have h3:=weigh_le x b
     exact⟨by have:=h2.1;omega,fun s hs=>by have:=h2.2 s hs;omega⟩
 rw[weigh]at h
 split at h
 ·omega
 ·rename_i h1
  split at h
  ·omega
  ·rename_i h2
   have h3:=weighG_le g (b - t.size)
   rw[nodes]at hy
   rcases List.mem_cons.1 hy with rfl | hy
   ·refine⟨by show(t.size:Int)≤b;omega,fun s hs=>?_⟩
    have:=weighG_all g (b - t.size) (by omega) s hs
    omega
   ·have h4:=hs ks ih _ h y hy
    exact⟨by have:=h4.1;omega,fun s hs=>by have:=h4.2 s hs;omega⟩
theorem fits_short{n:Nd}{b:Int}(hb:b≤1000000)(h:0≤weigh n b):short n∧shortG n :=
 ⟨fun y hy=>by have:=(weigh_all n b h y hy).1;omega,fun y hy s hs=>by have:=(weigh_all n b h y hy).2 s hs;omega⟩
theorem nodes_trans:∀ (n y:Nd),y∈nodes n→∀ z∈nodes y,z∈nodes n:=by
 intro n y hy z hz
 obtain⟨i,hi,e⟩:=List.getElem_of_mem hy
 obtain⟨A,B,h1,_⟩:=split_at n i y (by rw[List.getElem?_eq_getElem hi,e])
 rw[h1];simp[hz]
theorem self_mem(n:Nd):n∈nodes n:=by obtain⟨k,t,g,ks⟩:=n;rw[nodes];simp
theorem firstN_zero:∀ (n:Nd),firstN n=0→∀ y∈nodes n,y.node=0:=by
 refine Nd.all fun k t g ks ih h y hy=>?_
 rw[firstN]at h
 split at h
 ·rename_i h0
  rw[nodes]at hy
  rcases List.mem_cons.1 hy with rfl | hy
  ·exact h0
  ·have hs:∀ r:List Nd,(∀ x∈r,firstN x=0→∀ y∈nodes x,y.node=0)→firstNs r=0→∀ y∈nodesL r,y.node=0:=by
    intro r
    induction r with
    | nil=>intro _ _ y hy;simp[nodesL]at hy
    | cons x r ihr =>
     intro hx h y hy
     rw[firstNs]at h
     split at h
     ·rename_i hx0
      rw[nodesL,List.mem_append]at hy
      rcases hy with hy | hy
      ·exact hx x (by simp) hx0 y hy
      ·exact ihr (fun z hz=>hx z (by simp[hz])) h y hy
     ·rename_i hx0;exact absurd h hx0
   exact hs ks ih h y hy
 ·rename_i h0;exact absurd h h0
theorem node_shape{y:Nd}(h:y.node=0):y.shape=true:=by
 cases hs:y.shape with
 | true=>rfl
 | false =>
  unfold Nd.node at h
  rw[hs]at h
  simp at h
theorem check_nodes{n:Nd}(h:checkN n=0):∀ y∈nodes n,y.shape=true:=by
 unfold checkN at h
 split at h
 ·cases h
 ·exact fun y hy=>node_shape (firstN_zero n h y hy)
theorem shape_least{k:Int}{t g}{ks:List Nd}(h:(Nd.mk k t g ks).shape=true):leastK k≤ks.length∧fitsFrom k ks 0=true∧(namedK k t || wordK k t)=true:=by
 unfold Nd.shape at h
 simp only[Bool.and_eq_true]at h
 obtain⟨⟨⟨⟨⟨h1,h2⟩,h3⟩,h4⟩,h5⟩,h6⟩:=h
 rw[Bool.not_eq_true',decide_eq_false_iff_not]at h3
 exact⟨Int.not_lt.1 h3,h4,h5⟩
theorem sound_nd{n:Nd}(hc:checkN n=0)(hs:short n)(hl:(nodes n).length≤1000):(∀ y∈nodes n,parOK y∧binOK y∧short y∧y.kids.length≤1000000∧(y.kind=21→1≤y.kids.length)):=by
 have hsh:=check_nodes hc
 intro y hy
 refine⟨fun z hz h26=>?_,fun z hz h24=>?_,fun z hz=>hs z (nodes_trans n y hy z hz),?_,fun h21=>?_⟩
 ·have:=hsh z (nodes_trans n y hy z hz)
  obtain⟨k,t,g,ks⟩:=z
  obtain⟨h1,_⟩:=shape_least this
  replace h26:k=26:=h26
  subst h26
  show ks≠[]
  rintro rfl
  simp[leastK]at h1
 ·have:=hsh z (nodes_trans n y hy z hz)
  obtain⟨k,t,g,ks⟩:=z
  obtain⟨_,_,h1⟩:=shape_least this
  replace h24:k=24:=h24
  subst h24
  show 0<opLevel t
  simpa[namedK,wordK,levelK]using h1
 ·obtain⟨k,t,g,ks⟩:=y
  have h1:=kids_nodes ks
  have h2:=nodes_le _ _ hy
  rw[nodes_mk]at h2
  show ks.length≤_;omega
 ·have:=hsh y hy
  obtain⟨k,t,g,ks⟩:=y
  obtain⟨h1,_⟩:=shape_least this
  replace h21:k=21:=h21
  subst h21
  show 1≤ks.length
  simp[leastK]at h1;omega
theorem kidsAt_mem{ks:List Nd}{b c:Nat}(h:c∈kidsAt ks b):∃ (j:Nat) (z:Nd),(kidsAt ks b)[j]? = some c∧ks[j]? = some z:=by
 obtain⟨j,hj,e⟩:=List.getElem_of_mem h
 have hl:j<ks.length:=by rw[kidsAt_len]at hj;exact hj
 exact⟨j,ks[j],by rw[List.getElem?_eq_getElem hj,e],List.getElem?_eq_getElem hl⟩
theorem sign_ok{n:Nd}(hc:checkN n=0)(hl:(nodes n).length≤1000){i:Nat}{y:Nd}(hy:(nodes n)[i]? = some y)(h2:y.kind=2):signOK (rowsN n (-1) 0) i:=by
 have hsh:=check_nodes hc
 have hyl:=(List.getElem?_eq_some_iff.1 hy).1
 have hrl:(rowsN n (-1) 0).length=(nodes n).length:=rowsN_len ..
 obtain⟨k,t,g,ks⟩:=y
 replace h2:k=2:=h2
 subst h2
 obtain⟨s1,s2,_⟩:=shape_least (hsh _ (List.mem_of_getElem? hy))
 have s1':3≤ks.length:=by simp[leastK]at s1;omega
 obtain⟨a1,a2,a3⟩:=rwAt_at hy
 have hk0:ks[0]? = some ks[0]:=List.getElem?_eq_getElem (by omega)
 have hk1:ks[1]? = some ks[1]:=List.getElem?_eq_getElem (by omega)
 obtain⟨c0,b1,b2⟩:=kid_at hy hk0
 obtain⟨c1,b3,b4⟩:=kid_at hy hk1
 have e0:kdAt (rowsN n (-1) 0) i 0=c0:=by
  show(rwAt (rowsN n (-1) 0) i).kids.getD 0 0=c0
  rw[a3,List.getD_eq_getElem?_getD,b1];rfl
 have e1:kdAt (rowsN n (-1) 0) i 1=c1:=by
  show(rwAt (rowsN n (-1) 0) i).kids.getD 1 0=c1
  rw[a3,List.getD_eq_getElem?_getD,b3];rfl
 have f0:=fitsFrom_get s2 0 _ hk0
 generalize hp:ks[0]=p at b2 f0
 obtain⟨pk,pt,pg,pks⟩:=p
 have hpk:pk=3:=by
  have:fitsK 2 (0+((0:Nat):Int)) pk=true:=f0
  simpa[fitsK]using this
 subst hpk
 obtain⟨p1,p2,p3⟩:=rwAt_at b2
 have hpm:=List.mem_of_getElem? b2
 obtain⟨_,q2,_⟩:=shape_least (hsh _ hpm)
 have hpl:pks.length≤1000:=by
  have h1:=kids_nodes pks
  have h2:=nodes_le _ _ hpm
  rw[nodes_mk]at h2;omega
 refine⟨by omega,by omega,by rw[a3,kidsAt_len];omega,?_,?_,?_,?_⟩
 ·rw[e0,hrl];exact(List.getElem?_eq_some_iff.1 b2).1
 ·rw[e1,hrl];exact(List.getElem?_eq_some_iff.1 b4).1
 ·rw[e0,p3,kidsAt_len];omega
 ·rw[e0,p3]
  intro c hcm
  obtain⟨j,z,j1,j2⟩:=kidsAt_mem hcm
  obtain⟨c',j3,j4⟩:=kid_at b2 j2
  have:c'=c:=by rw[j1]at j3;simpa using j3.symm
  subst this
  have fz:=fitsFrom_get q2 j z j2
  obtain⟨zk,zt,zg,zks⟩:=z
  have hzk:zk=4:=by
   have:fitsK 3 (0+(j:Int)) zk=true:=fz
   unfold fitsK at this
   rw[if_neg (by omega)]at this
   simpa using this
  subst hzk
  obtain⟨r1,_⟩:=shape_least (hsh _ (List.mem_of_getElem? j4))
  have r1':1≤zks.length:=by simp[leastK]at r1;omega
  obtain⟨z1,z2,z3⟩:=rwAt_at j4
  obtain⟨d,w1,w2⟩:=kid_at j4 (List.getElem?_eq_getElem (show 0<zks.length by omega))
  refine⟨by rw[hrl];exact(List.getElem?_eq_some_iff.1 j4).1,by rw[z3,kidsAt_len];omega,?_⟩
  have:kdAt (rowsN n (-1) 0) c' 0=d:=by
   show(rwAt (rowsN n (-1) 0) c').kids.getD 0 0=d
   rw[z3,List.getD_eq_getElem?_getD,w1];rfl
  rw[this,hrl];exact(List.getElem?_eq_some_iff.1 w2).1
end Go.Vg
namespace Go.Vg
def Dl.off(d:Dl)(u:Int):Dl:={ d with unit:=u }
theorem declT_off(k:Int)(t:ByteArray)(u m:Int)(x:Ar):declT k t u m x=(declT k t 0 m x).map (Dl.off · u):=by
 unfold declT
 repeat' split
 all_goals rfl
theorem walkD_off:∀ (n:Nd) (u:Int) (m:Nat) (x:Ar),walkD n u m x=(walkD n 0 m x).map (Dl.off · u):=by
 refine Nd.all fun k t g ks ih u m x=>?_
 have hs:∀ l:List Nd,(∀ y∈l,∀ (u:Int) (m:Nat) (x:Ar),walkD y u m x=(walkD y 0 m x).map (Dl.off · u))→∀ (m:Nat) (x:Ar),walkDs l u m x=(walkDs l 0 m x).map (Dl.off · u):=by
  intro l
  induction l with
  | nil=>intro _ m x;rfl
  | cons y r ihr =>
   intro h m x
   rw[walkDs,walkDs,List.map_append,h y (by simp),ihr fun z hz=>h z (by simp[hz])]
 rw[walkD,walkD,List.map_append,hs ks ih,declT_off]
 congr 1
 cases declT k t 0 (↑m) x <;> rfl
def declsI:List Un→Nat→List (Dl×Un)
 | [],_=>[]
 | x::r,i=>(if x.broken=true then []else(walkD x.tree i 0 Ar.none).map fun d=>(d,x))++declsI r (i+1)
def declsX:List Un→List (Dl×Un)
 | []=>[]
 | x::r=>(if x.broken=true then []else(walkD x.tree 0 0 Ar.none).map fun d=>(d,x))++declsX r
theorem declsI_U:∀ (u:List Un) (i:Nat),declsU u i=(declsI u i).map (·.1)
 | [],_=>rfl
 | x::r,i=>by
  rw[declsU,declsI,List.map_append,←declsI_U r]
  congr 1
  split
  ·rfl
  ·rw[List.map_map];exact(List.map_id _).symm
theorem declsI_X:∀ (u:List Un) (i:Nat),declsX u=(declsI u i).map fun p=>(p.1.off 0,p.2)
 | [],_=>rfl
 | x::r,i=>by
  rw[declsX,declsI,List.map_append,←declsI_X r]
  congr 1
  split
  ·rfl
  ·rw[walkD_off x.tree i,List.map_map,List.map_map]
   have:∀ d∈walkD x.tree 0 0 Ar.none,d.off 0=d:=fun d hd=>by
    have:=(walkD_at x.tree 0 0 Ar.none d hd).1
    unfold Dl.off;rw[←this]
   apply List.map_congr_left
   intro d hd
   show((d,x):Dl×Un)=((d.off (i:Int)).off 0,x)
   rw[show(d.off (i:Int)).off 0=d.off 0 from rfl,this d hd]
theorem declsI_get:∀ (u:List Un) (i:Nat) (p:Dl×Un),p∈declsI u i→∃ j,p.1.unit=((i+j:Nat):Int)∧u[j]? = some p.2
 | [],i,p,h=>by simp[declsI]at h
 | x::r,i,p,h=>by
  rw[declsI,List.mem_append]at h
  rcases h with h | h
  ·split at h
   ·cases h
   ·obtain⟨d,hd,rfl⟩:=List.mem_map.1 h
    exact⟨0,(walkD_at x.tree i 0 Ar.none d hd).1,rfl⟩
  ·obtain⟨j,h1,h2⟩:=declsI_get r (i+1) p h
   exact⟨j+1,by rw[h1];congr 1;omega,by simpa using h2⟩
def isD(kind:Int)(owner name:ByteArray)(d:Dl):Bool:=decide (d.kind=kind) && decide (d.owner=owner) && decide (d.name=name)
theorem find_map'{α β:Type}(f:α→β)(p:β→Bool):∀ l:List α,(l.map f).find? p=(l.find? fun a=>p (f a)).map f
 | []=>rfl
 | a::r=>by
  rw[List.map_cons,List.find?_cons,List.find?_cons]
  cases p (f a)with
  | true=>rfl
  | false=>exact find_map' f p r
def btX(p:Dl×Un):ByteArray:=match(nodes p.2.tree)[p.1.node.toNat]? with
 | some n=>(baseL n.kids 0).1.text
 | none=>⟨#[]⟩
def addX(B:List (ByteArray×ByteArray))(p:Dl×Un):List (ByteArray×ByteArray):=if p.1.kind=2∧(getB B p.1.name).isSome=false then B++[(p.1.name,btX p)]else B
theorem bases_X(u:List Un):basesL (btU u) (declsU u 0)=(declsX u).foldl addX []:=by
 have key:∀ (l:List (Dl×Un)),(∀ p∈l,p∈declsI u 0)→∀ B,(l.map (·.1)).foldl (addB (btU u)) B=(l.map fun p=>((p.1.off 0,p.2):Dl×Un)).foldl addX B:=by
  intro l
  induction l with
  | nil=>intro _ B;rfl
  | cons p r ih =>
   intro h B
   rw[List.map_cons,List.map_cons,List.foldl_cons,List.foldl_cons,ih fun q hq=>h q (by simp[hq])]
   congr 1
   obtain⟨j,h1,h2⟩:=declsI_get u 0 p (h p (by simp))
   have hb:btU u p.1=btX (p.1.off 0,p.2):=by
    unfold btU
    rw[h1,Nat.zero_add,Int.toNat_natCast,h2]
    rfl
   unfold addB addX
   rw[hb];rfl
 rw[basesL,declsI_U,declsI_X u 0]
 exact key _ (fun p hp=>hp) []
theorem supU_X{u v:List Un}(h:declsX u=declsX v)(c:ByteArray):supU u c=supU v c:=by
 unfold supU
 rw[bases_X,bases_X,h]
theorem sound_sound(x:Un):x.sound.sound=x.sound:=by
 unfold Un.sound
 by_cases h:soundB x=true
 ·rw[if_pos h,if_pos h]
 ·rw[if_neg h,if_neg (by simp[soundB])]
theorem soundX:∀ u:List Un,declsX (u.map Un.sound)=declsX (u.filter soundB)
 | []=>rfl
 | x::r=>by
  rw[List.map_cons,declsX,soundX r]
  by_cases h:soundB x=true
  ·have e:x.sound=x:=by rw[Un.sound,if_pos h]
   rw[e,List.filter_cons_of_pos h,declsX]
  ·have e:x.sound.broken=true:=by rw[Un.sound,if_neg h]
   rw[if_pos e,List.filter_cons_of_neg h,List.nil_append]
theorem sound_fix{x:Un}(h:soundB x=true):x.sound=x:=by rw[Un.sound,if_pos h]
end Go.Vg
namespace Go.Proofs.YtamednbojpnalaaGreatDoor
open Go Go.Vg Go.Proofs
theorem ofU_X(u:List Un)(kind:Int)(owner name:ByteArray):ofU u kind owner name=((declsX u).find? fun p=>isD kind owner name p.1).map fun p=>signR (rowsN p.2.tree (-1) 0) p.1.node.toNat:=by
 unfold ofU findD
 rw[declsI_U,declsI_X u 0,find_map',find_map']
 have e:((declsI u 0).find? fun a=>isD kind owner name (a.1.off 0,a.2).1)=(declsI u 0).find? fun a=>decide (a.1.kind=kind) && decide (a.1.owner=owner) && decide (a.1.name=name):=rfl
 rw[e]
 cases hf:(declsI u 0).find? fun a=>decide (a.1.kind=kind) && decide (a.1.owner=owner) && decide (a.1.name=name)with
 | none=>rfl
 | some p =>
  obtain⟨j,h1,h2⟩:=declsI_get u 0 p (List.mem_of_find?_eq_some hf)
  simp only[Option.map_some,Option.bind_some,h1,Nat.zero_add,Int.toNat_natCast,h2]
  rfl
theorem sigU_X{u v:List Un}(h:declsX (u.map Un.sound)=declsX (v.map Un.sound))(o n:ByteArray):sigU u o n=sigU v o n:=by
 unfold sigU
 rw[ofU_X,ofU_X,h]
theorem sounds_fix(u:List Un):(u.map Un.sound).map Un.sound=u.map Un.sound:=by
 rw[List.map_map];exact List.map_congr_left fun x _=>sound_sound x
theorem filter_fix(u:List Un):(u.filter soundB).map Un.sound=u.filter soundB:=by
 have:∀ x∈u.filter soundB,x.sound=x:=fun x hx=>sound_fix (List.mem_filter.1 hx).2
 calc (u.filter soundB).map Un.sound=(u.filter soundB).map id:=List.map_congr_left this
  _=_:=List.map_id _
theorem both(u:List Un):(∀ o n,sigU (u.map Un.sound) o n=sigU (u.filter soundB) o n)∧(∀ a b,fitsT (u.map Un.sound) a b=fitsT (u.filter soundB) a b):=by
 refine⟨fun o n=>sigU_X ?_ o n,fun a b=>?_⟩
 ·rw[sounds_fix,filter_fix,soundX]
 ·unfold fitsT
  rw[supU_X (soundX u)]
theorem meth_any{u v:List Un}(h:declsX u=declsX v)(f:Dl→Bool)(hf:∀ d,f (d.off 0)=f d):(methU u).any f=(methU v).any f:=by
 have key:∀ w:List Un,(methU w).any f=(declsX w).any fun p=>decide (p.1.kind=4) && f p.1:=fun w=>by
  unfold methU
  rw[List.any_filter,declsI_U,declsI_X w 0,List.any_map,List.any_map]
  congr 1
  funext p
  show _=(decide ((p.1.off 0).kind=4) && f (p.1.off 0))
  rw[hf];rfl
 rw[key,key,h]
theorem send_X(u:List Un)(t:ByteArray)(n:Nat):sendK (u.map Un.sound) (methU (u.map Un.sound)) t n=sendK (u.filter soundB) (methU (u.filter soundB)) t n:=by
 have hk:∀ d,sentK (u.map Un.sound) n d=sentK (u.filter soundB) n d:=fun d=>by
  unfold sentK;rw[(both u).1]
 have e1:((methU (u.map Un.sound)).any fun d=>decide (d.name=t) && sentK (u.map Un.sound) n d)=(methU (u.filter soundB)).any fun d=>decide (d.name=t) && sentK (u.filter soundB) n d:=by
  simp only[hk]
  exact meth_any (soundX u) _ fun d=>rfl
 have e2:((methU (u.map Un.sound)).any fun d=>decide (d.name=t))=(methU (u.filter soundB)).any fun d=>decide (d.name=t):=meth_any (soundX u) _ fun d=>rfl
 unfold sendK
 rw[e1,e2]
theorem plain_bare:∀ n:Nd,plainT (bare n)=plainT n:=by
 refine Nd.all fun k t g ks ih=>?_
 rw[bare,plainT.eq_def,plainT.eq_def (.mk k t g ks)]
 cases ks with
 | nil=>rfl
 | cons x r =>
  have h:=ih x (by simp)
  simp only[bares]
  rw[h]
theorem bares_len(ks:List Nd):(bares ks).length=ks.length:=by rw[bares_map,List.length_map]
theorem arg_X(u:List Un):∀ (ks:List Nd) (ps:List ByteArray) (i:Nat),argT (u.map Un.sound) i (bares ks) ps=argT (u.filter soundB) i ks ps
 | [],ps,i=>by rw[bares,argT.eq_def,argT.eq_def]
 | x::ks,[],i=>by rw[bares,argT.eq_def,argT.eq_def]
 | x::ks,p::ps,i=>by
  rw[bares,argT,argT,plain_bare,(both u).2,arg_X u ks ps (i+1)]
theorem call_X(u:List Un)(n:Nd):callT (u.map Un.sound) (bare n)=callT (u.filter soundB) n:=by
 obtain⟨k,t,g,ks⟩:=n
 show(match sigU (u.map Un.sound) ⟨#[]⟩ t with
  | none=>(⟨#[]⟩:ByteArray)
  | some s=>if(bares ks).length=s.params.length then argT (u.map Un.sound) 0 (bares ks) s.params else hasT (bares ks).length s.params.length)=match sigU (u.filter soundB) ⟨#[]⟩ t with
  | none=>⟨#[]⟩
  | some s=>if ks.length=s.params.length then argT (u.filter soundB) 0 ks s.params else hasT ks.length s.params.length
 rw[(both u).1,bares_len]
 cases sigU (u.filter soundB) ⟨#[]⟩ t with
 | none=>rfl
 | some s=>simp only[arg_X]
theorem text_X(u:List Un)(n:Nd):textT (u.map Un.sound) (methU (u.map Un.sound)) (bare n)=textT (u.filter soundB) (methU (u.filter soundB)) n:=by
 have hk:(bare n).kind=n.kind:=by obtain⟨k,t,g,ks⟩:=n;rfl
 have hs:sendT (u.map Un.sound) (methU (u.map Un.sound)) (bare n)=sendT (u.filter soundB) (methU (u.filter soundB)) n:=by
  obtain⟨k,t,g,ks⟩:=n
  show sendK _ _ t (bares ks).length=sendK _ _ t ks.length
  rw[bares_len,send_X]
 unfold textT
 rw[hk,call_X,hs]
theorem fiN_X(u:List Un)(p:ByteArray)(n:Nd):fiN (u.map Un.sound) (methU (u.map Un.sound)) p (bare n)=fiN (u.filter soundB) (methU (u.filter soundB)) p n:=by
 have ht:(bare n).text=n.text:=by obtain⟨k,t,g,ks⟩:=n;rfl
 unfold fiN
 rw[text_X,ht]
theorem nodes_bare:∀ n:Nd,nodes (bare n)=(nodes n).map bare:=by
 refine Nd.all fun k t g ks ih=>?_
 have hs:∀ l:List Nd,(∀ x∈l,nodes (bare x)=(nodes x).map bare)→nodesL (bares l)=(nodesL l).map bare:=by
  intro l
  induction l with
  | nil=>intro _;rfl
  | cons x r ihr =>
   intro h
   rw[bares,nodesL,nodesL,List.map_append,h x (by simp),ihr fun y hy=>h y (by simp[hy])]
 rw[bare,nodes,nodes,List.map_cons,bare,hs ks ih]
theorem misN_X(u:List Un)(p:ByteArray)(n:Nd):misN (u.map Un.sound) (methU (u.map Un.sound)) p (bare n)=misN (u.filter soundB) (methU (u.filter soundB)) p n:=by
 unfold misN
 rw[nodes_bare,List.flatMap_map]
 simp only[fiN_X]
theorem mis_X(u:List Un):misU (u.map Un.sound) (methU (u.map Un.sound)) (u.map Un.sound)=misR (u.filter soundB) (methU (u.filter soundB)) (u.filter soundB):=by
 have key:∀ w:List Un,misU (u.map Un.sound) (methU (u.map Un.sound)) (w.map Un.sound)=misR (u.filter soundB) (methU (u.filter soundB)) (w.filter soundB):=by
  intro w
  induction w with
  | nil=>rfl
  | cons x r ih =>
   rw[List.map_cons,misU,ih]
   by_cases h:soundB x=true
   ·have hb:¬ x.broken=true:=by
     intro hb;simp[soundB,hb]at h
    rw[sound_fix h,if_neg hb,List.filter_cons_of_pos h,misR,misN_X]
   ·have e:x.sound.broken=true:=by rw[Un.sound,if_neg h]
    rw[if_pos e,List.filter_cons_of_neg h,List.nil_append]
 exact key u
theorem sg_of{u:List Un}(hu:fitU u)(hg:gapsU u):sgOK u:=by
 refine⟨hu,hg,fun o n d hd=>?_⟩
 have hm:d∈declsU (u.map Un.sound) 0:=List.mem_of_find?_eq_some hd
 have hk:d.kind=kindOf o:=by
  have:=List.find?_some hd
  simp at this;exact this.1.1
 obtain⟨un,x,e1,e2,e3,nd,y,e4,e5,e6,e7,e8⟩:=declsU_at (u.map Un.sound) 0 d hm
 rw[Nat.zero_add]at e1 e4
 have hxm:x∈u.map Un.sound:=List.mem_of_getElem? e2
 obtain⟨x0,hx0,rfl⟩:=List.mem_map.1 hxm
 have hs:soundB x0=true:=by
  cases hc:soundB x0 with
  | true=>rfl
  | false=>rw[Un.sound,hc]at e3;cases e3
 rw[sound_fix hs]at e2 e5
 have hck:checkN x0.tree=0:=by
  simp[soundB]at hs;exact hs.2
 refine⟨by rw[e1];omega,by rw[e4];omega,x0,by rw[e1,Int.toNat_natCast];exact e2,?_⟩
 rw[e4,Int.toNat_natCast]
 refine sign_ok hck (hu.2 x0 hx0).1 e5 (e8 ?_)
 rw[hk];unfold kindOf;split <;> simp
theorem gaps_sound{u:List Un}(hg:gapsU u):gapsU (u.map Un.sound):=by
 intro x hx
 obtain⟨y,hy,rfl⟩:=List.mem_map.1 hx
 rw[Un.sound]
 split
 ·exact hg y hy
 ·intro z hz s hs
  simp[Nd.zero,nodes,nodesL]at hz
  subst hz
  simp[Nd.gaps]at hs
theorem nd_bare{y:Nd}(h:parOK y∧binOK y∧short y∧y.kids.length≤1000000∧(y.kind=21→1≤y.kids.length)):ndOK (bare y):=by
 obtain⟨h1,h2,h3,h4,h5⟩:=h
 have hm:∀ z∈nodes (bare y),∃ w∈nodes y,z=bare w:=fun z hz=>by
  rw[nodes_bare]at hz
  obtain⟨w,hw,rfl⟩:=List.mem_map.1 hz
  exact⟨w,hw,rfl⟩
 have bk:∀ w:Nd,(bare w).kind=w.kind:=fun w=>by obtain⟨k,t,g,ks⟩:=w;rfl
 have bt:∀ w:Nd,(bare w).text=w.text:=fun w=>by obtain⟨k,t,g,ks⟩:=w;rfl
 have bks:∀ w:Nd,(bare w).kids.length=w.kids.length:=fun w=>by obtain⟨k,t,g,ks⟩:=w;exact bares_len ks
 refine⟨fun z hz=>?_,fun z hz hk=>?_,fun z hz hk=>?_,by rw[bks];exact h4,fun h=>by rw[bks];exact h5 (by rw[←bk];exact h)⟩
 ·obtain⟨w,hw,rfl⟩:=hm z hz
  rw[bt];exact h3 w hw
 ·obtain⟨w,hw,rfl⟩:=hm z hz
  rw[bk]at hk
  have:=h1 w hw hk
  intro e
  have:(bare w).kids.length=0:=by rw[e];rfl
  rw[bks]at this
  exact h1 w hw hk (List.eq_nil_of_length_eq_zero this)
 ·obtain⟨w,hw,rfl⟩:=hm z hz
  rw[bk]at hk
  rw[bt];exact h2 w hw hk
theorem Smismatches(u:List Un)(hu:fitU u)(hg:gapsU u):VPure env 11 [sl 34 (u.map Un.enc)] (sl 42 ((misR (u.filter soundB) (methU (u.filter soundB)) (u.filter soundB)).map Fi.enc)):=by
 have hfs:=fit_sound hu
 rw[←mis_X]
 refine Smis u (sg_of hu hg) (sg_of hfs (gaps_sound hg)) (fun x hx hb y hy=>?_) fun x hx=>?_
 ·obtain⟨x0,hx0,rfl⟩:=List.mem_map.1 hx
  have hs:soundB x0=true:=by
   cases hc:soundB x0 with
   | true=>rfl
   | false=>rw[Un.sound,hc]at hb;cases hb
  rw[sound_fix hs]at hy
  have hck:checkN x0.tree=0:=by simp[soundB]at hs;exact hs.2
  rw[nodes_bare]at hy
  obtain⟨w,hw,rfl⟩:=List.mem_map.1 hy
  exact nd_bare (sound_nd hck (hu.2 x0 hx0).2 (hu.2 x0 hx0).1 w hw)
 ·rw[nodes_bare,List.length_map];exact(hfs.2 x hx).1
end Go.Proofs.YtamednbojpnalaaGreatDoor
