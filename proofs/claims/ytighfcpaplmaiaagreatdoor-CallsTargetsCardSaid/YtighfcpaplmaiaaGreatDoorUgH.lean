import Derived.Test.YtighfcpaplmaiaaGreatDoorUgE
set_option linter.unusedVariables false
set_option linter.unusedSimpArgs false
set_option maxRecDepth 20000
namespace Go.Vg
def d5j(tb:List (List Rw))(d:Dl):Int:=(b0j (tb.getD d.unit.toNat []) d.node.toNat).parent
def c4R(tb:List (List Rw))(a b:Dl):Bool:=decide (a.kind=b.kind) && (decide (a.name=b.name) && (decide (b.kind=1∨b.kind=2∨b.kind=3) || (decide (a.unit=b.unit) && decide (d5j tb a=d5j tb b))))
def b4Y(tb:List (List Rw)):List Dl→List Dl→List Dl
 | _,[]=>[]
 | p,d::r=>(if(p.any fun e=>c4R tb e d)=true then [d]else [])++b4Y tb (p++[d]) r
theorem c1A(tb:List (List Rw))(x:Dl):∀ (l p:List Dl),b4Y tb p (l++[x])=b4Y tb p l++(if((p++l).any fun e=>c4R tb e x)=true then [x]else [])
 | [],p=>by simp[b4Y]
 | d::r,p=>by
  rw[g8X,b4Y,b4Y,c1A tb x r,g9t]
  simp
theorem c3b(tb:List (List Rw)):∀ (l p:List Dl),(b4Y tb p l).length≤l.length
 | [],p=>by simp[b4Y]
 | d::r,p=>by
  have:=c3b tb r (p++[d])
  rw[b4Y,g9d,g9k]
  split
  ·simp;omega
  ·simp;omega
def d7q(d:Dl):List V:=[.int .i64 d.unit,.int .i64 d.node]
theorem c4u:∀ l:List Dl,b0R (l.map d7q)=true
 | []=>rfl
 | x::r=>by show(b1a (d7q x) && b0R (r.map d7q))=true;rw[c4u r];rfl
theorem d8l{tb:List (List Rw)}{a b:Dl}(ha:1≤a.kind∧a.kind≤6)(hb:1≤b.kind∧b.kind≤6):(a.kind=b.kind∧a.name=b.name∧((b.kind=1∨b.kind=2∨b.kind=3)∨(a.unit=b.unit∧d5j tb a=d5j tb b)))↔c0v tb a=c0v tb b:=by
 have e1:∀ d:Dl,(d.kind=5∨d.kind=6∨d.kind=4)→c0v tb d=⟨d.kind,d.unit,d5j tb d,d.name⟩:=fun d h=>if_pos h
 have e2:∀ d:Dl,¬ (d.kind=5∨d.kind=6∨d.kind=4)→c0v tb d=⟨d.kind,0,0,d.name⟩:=fun d h=>if_neg h
 by_cases h1:a.kind=5∨a.kind=6∨a.kind=4
 ·rw[e1 a h1]
  by_cases h2:b.kind=5∨b.kind=6∨b.kind=4
  ·rw[e1 b h2]
   constructor
   ·rintro⟨g1,g2,g3 | ⟨g3,g4⟩⟩
    ·omega
    ·rw[g1,g2,g3,g4]
   ·intro h
    injection h with g1 g2 g3 g4
    exact⟨g1,g4,.inr ⟨g2,g3⟩⟩
  ·rw[e2 b h2]
   constructor
   ·rintro⟨g1,_⟩;omega
   ·intro h
    injection h with g1 g2 g3 g4
    omega
 ·rw[e2 a h1]
  by_cases h2:b.kind=5∨b.kind=6∨b.kind=4
  ·rw[e1 b h2]
   constructor
   ·rintro⟨g1,_⟩;omega
   ·intro h
    injection h with g1 g2 g3 g4
    omega
  ·rw[e2 b h2]
   constructor
   ·rintro⟨g1,g2,_⟩;rw[g1,g2]
   ·intro h
    injection h with g1 g2 g3 g4
    exact⟨g1,g4,.inl (by omega)⟩
theorem d0V{tb:List (List Rw)}{a b:Dl}(ha:1≤a.kind∧a.kind≤6)(hb:1≤b.kind∧b.kind≤6):c4R tb a b=decide (c0v tb a=c0v tb b):=by
 rw[h0g]
 simp only[c4R,g9g,h0p,g9h]
 exact d8l ha hb
theorem d0z{tb:List (List Rw)}:∀ (l p:List Dl) (q:List Pk×List Dl),(∀ d∈l,1≤d.kind∧d.kind≤6)→(∀ d∈p,1≤d.kind∧d.kind≤6)→(∀ k,k∈q.1↔∃ d∈p,c0v tb d=k)→(l.foldl (b7I tb) q).2=q.2++b4Y tb p l
 | [],p,q,_,_,_=>by simp[b4Y]
 | d::r,p,q,hl,hp,hq=>by
  have hd:=hl d (by simp)
  have hany:(p.any fun e=>c4R tb e d)=(q.1.any fun x=>decide (x=c0v tb d)):=by
   rw[h0g,g9W,g9W]
   constructor
   ·rintro⟨e,he,h⟩
    rw[d0V (hp e he) hd]at h
    exact⟨c0v tb e,(hq _).2 ⟨e,he,rfl⟩,h⟩
   ·rintro⟨k,hk,h⟩
    obtain⟨e,he,rfl⟩:=(hq k).1 hk
    exact⟨e,he,by rw[d0V (hp e he) hd];exact h⟩
  rw[g9G,b4Y,hany]
  have hp':∀ e∈p++[d],1≤e.kind∧e.kind≤6:=fun e he=>by
   rcases g9A.1 he with he | he
   ·exact hp e he
   ·simp only[g9N]at he;subst he;exact hd
  have hl':∀ e∈r,1≤e.kind∧e.kind≤6:=fun e he=>hl e (by simp[he])
  by_cases hc:(q.1.any fun x=>decide (x=c0v tb d))=true
  ·have ha:b7I tb q d=(q.1,q.2++[d]):=by rw[b7I,if_pos hc]
   rw[ha,if_pos hc,d0z r (p++[d]) _ hl' hp' ?_]
   ·simp
   ·intro k
    rw[hq k]
    constructor
    ·rintro⟨e,he,h⟩
     exact⟨e,by simp[he],h⟩
    ·rintro⟨e,he,h⟩
     rcases g9A.1 he with he | he
     ·exact⟨e,he,h⟩
     ·simp only[g9N]at he
      subst he
      rw[g9W]at hc
      obtain⟨k',hk',h'⟩:=hc
      have:k'=k:=by rw[←h];simpa using h'
      subst this
      exact(hq _).1 hk'
  ·have ha:b7I tb q d=(q.1++[c0v tb d],q.2):=by rw[b7I,if_neg hc]
   rw[ha,if_neg hc,d0z r (p++[d]) _ hl' hp' ?_]
   ·simp
   ·intro k
    simp only[g9A,g9N,hq k]
    constructor
    ·rintro(⟨e,he,h⟩ | rfl)
     ·exact⟨e,.inl he,h⟩
     ·exact⟨d,.inr rfl,rfl⟩
    ·rintro⟨e,he | rfl,h⟩
     ·exact .inl ⟨e,he,h⟩
     ·exact .inr h.symm
end Go.Vg
namespace Go.Proofs.YtighfcpaplmaiaaGreatDoor
open Go Go.Vg Go.Proofs
theorem c1y{u:List Un}{d:Dl}(hd:d∈b0f u 0):∃ (un nd:Nat) (l:List Rw),d.unit=(un:Int)∧d.node=(nd:Int)∧(b0e u)[un]? = some l∧nd<l.length∧1≤d.kind∧d.kind≤6:=by
 obtain⟨un,x,j,y,a,h1,h2,h3,h4⟩:=b4z u 0 d hd
 obtain⟨g1,g2,g3,g4⟩:=c1l h4
 have hlen:(b0z x.tree (-1) 0).length=(b0o x.tree).length:=b0N ..
 have hj:=(g8Y.1 h3).1
 refine⟨un,j,b0z x.tree (-1) 0,by simpa using g1,g2,?_,by omega,by omega,by omega⟩
 unfold b0e
 rw[g9q,h1,g9z,if_neg (by rw[h2];simp)]
theorem d1j(tb:List (List Rw))(a b:Dl)(ha:∃ (un nd:Nat) (l:List Rw),a.unit=(un:Int)∧a.node=(nd:Int)∧tb[un]? = some l∧nd<l.length)(hb:∃ (un nd:Nat) (l:List Rw),b.unit=(un:Int)∧b.node=(nd:Int)∧tb[un]? = some l∧nd<l.length) :
  b0u env 161 [sl 45 (tb.map b0q),.agg a.enc,.agg b.enc] (.bool (c4R tb a b)):=by
 obtain⟨un,nd,l,a1,a2,a3,a4⟩:=ha
 obtain⟨un',nd',l',b1,b2,b3,b4⟩:=hb
 obtain⟨ak,ao,an,au,ad⟩:=a
 obtain⟨bk,bo,bn,bu,bd⟩:=b
 simp only at a1 a2 b1 b2
 subst a1 a2 b1 b2
 have hg1:(tb.map b0q).getD ((un:Int)).toNat []=b0q l:=by rw[g8Z,g9q,g9j,a3];rfl
 have hg2:(tb.map b0q).getD ((un':Int)).toNat []=b0q l':=by rw[g8Z,g9q,g9j,b3];rfl
 have hl1:((un:Int)<tb.length)=True:=by have:=(g8Y.1 a3).1;simp;omega
 have hl2:((un':Int)<tb.length)=True:=by have:=(g8Y.1 b3).1;simp;omega
 have h01:(0≤(un:Int))=True:=by simp
 have h02:(0≤(un':Int))=True:=by simp
 have hr1:=b0F a4
 have hr2:=b0F b4
 have hn1:((nd:Int)<l.length)=True:=by simp;omega
 have hn2:((nd':Int)<l'.length)=True:=by simp;omega
 have h03:(0≤(nd:Int))=True:=by simp
 have h04:(0≤(nd':Int))=True:=by simp
 refine b0i (fn:=Tryz.f161) Tryz.func161 rfl (by rw[Tryz.ntmps161];simp) (by simp -implicitDefEqProofs only[go_sem,Dl.enc];exact b1e _) rfl ?_
 have hp1:d5j tb ⟨ak,ao,an,un,nd⟩=(b0j l nd).parent:=by unfold d5j;rw[g9j,g9j,g8Z,a3];rfl
 have hp2:d5j tb ⟨bk,bo,bn,un',nd'⟩=(b0j l' nd').parent:=by unfold d5j;rw[g9j,g9j,g8Z,b3];rfl
 have hd:c4R tb ⟨ak,ao,an,un,nd⟩ ⟨bk,bo,bn,un',nd'⟩=(decide (ak=bk) && (decide (an=bn) && (decide (bk=1∨bk=2∨bk=3) || (decide ((un:Int)=un') && decide ((b0j l nd).parent=(b0j l' nd').parent))))):=by rw[c4R,hp1,hp2]
 rw[hd]
 simp -implicitDefEqProofs only[go_sem,Tryz.f161,Dl.enc]
 refine⟨fun g1=>⟨fun g2=>?_,fun g2=>⟨fun k1=>⟨fun k2=>⟨fun k3=>?_,fun k3=>?_⟩,fun k2=>?_⟩,fun k1=>?_⟩⟩,fun g1=>?_⟩
 ·have e2:¬ an=bn:=by simpa using g2
  rw[g9v e2];simp
 ·have e1:ak=bk:=by simpa using g1
  have e2:an=bn:=by simpa using g2
  simp[e1,e2,k3]
 ·have e1:ak=bk:=by simpa using g1
  have e2:an=bn:=by simpa using g2
  have hk:¬ (bk=1∨bk=2∨bk=3):=by omega
  rw[g9D e1,g9D e2,g9v hk,g9O,g9O,g9U]
  refine b0h (cs:=[]) b0v (by kernel_rfl) ?_
  by_cases hu:un=un'
  ·have hui:((un:Int)=un')=True:=by simp[hu]
   simp -implicitDefEqProofs only[go_sem,hg1,hg2,hl1,hl2,h01,h02,hr1,hr2,hn1,hn2,h03,h04,b0q,Rw.enc,Dl.enc,hui]
  ·have hui:((un:Int)=un')=False:=by simp;omega
   simp -implicitDefEqProofs only[go_sem,hg1,hg2,hl1,hl2,h01,h02,hr1,hr2,hn1,hn2,h03,h04,b0q,Rw.enc,Dl.enc,hui]
 ·have e1:ak=bk:=by simpa using g1
  have e2:an=bn:=by simpa using g2
  simp[e1,e2,k2]
 ·have e1:ak=bk:=by simpa using g1
  have e2:an=bn:=by simpa using g2
  simp[e1,e2,k1]
 ·have e1:¬ ak=bk:=by simpa using g1
  rw[g9v e1];simp
theorem c8A(u:List Un)(hu:b2T u):b0u env 102 [sl 70 (u.map Un.enc)] (sl 24 ((b4Y (b0e u) [] (b0f u 0)).map d7q)):=by
 have hdl:=b0L u 0 fun y hy=>(hu.2 y hy).1
 have hul:=hu.1
 have hD:=b6P u hu
 have hTb:=c3V u hu
 have hpl:=fun d=>@c1y u d
 have hdb:=fun(a b:Dl) (ha:a∈b0f u 0) (hb:b∈b0f u 0)=>d1j (b0e u) a b (by obtain⟨x,y,z,a1,a2,a3,a4,_⟩:=hpl a ha;exact⟨x,y,z,a1,a2,a3,a4⟩) (by obtain⟨x,y,z,a1,a2,a3,a4,_⟩:=hpl b hb;exact⟨x,y,z,a1,a2,a3,a4⟩)
 have hdl2:=fun p=>c3b (b0e u) p []
 have hsn:=fun x p=>c1A (b0e u) x p []
 refine b0i (fn:=Tryz.f102) Tryz.func102 rfl (by rw[Tryz.ntmps102];simp) (by simp -implicitDefEqProofs only[go_sem];exact b0x _) (by simp -implicitDefEqProofs only[go_sem];exact c4u _) ?_
 simp -implicitDefEqProofs only[go_sem,Tryz.f102]
 refine hTb.calls (by simp -implicitDefEqProofs only[go_sem]) ?_
 simp -implicitDefEqProofs only[go_sem]
 refine hD.calls (by simp -implicitDefEqProofs only[go_sem]) ?_
 clear hpl hD hTb
 generalize b0f u 0=dl at hdl hdb ⊢
 generalize b0e u=tb at hdb hdl2 hsn ⊢
 simp -implicitDefEqProofs only[go_sem]
 refine b0n (β:=Unit) dl (fun pre _=>⟨[(6,.int .i64 pre.length),(5,.slice (.arr 0) 24 ((b4Y tb [] pre).map d7q)),(4,sl 54 (dl.map Dl.enc)),(3,sl 45 (tb.map b0q))],[],[(b4Y tb [] pre).length]⟩)
  (fun _ _ _=>True) () ?_ trivial ?_ ?_
 ·simp -implicitDefEqProofs only[go_sem]
  exact⟨rfl,rfl⟩
 ·intro _ _
  simp -implicitDefEqProofs only[go_sem]
 ·rintro pre d post _ hx _
  have hpl:dl.length=pre.length+1+post.length:=by rw[hx];simp;omega
  have hgx:(dl.map Dl.enc).getD (pre.length:Int).toNat []=d.enc:=by rw[hx];simp[g8Z]
  have hlt:((pre.length:Int)<dl.length)=True:=by simp;omega
  have hw:IntKind.i64.wrap (↑pre.length+1)=↑(pre.length+1):=b0g (by omega)
  have hs:=hsn d pre
  rw[g9M]at hs
  have hol:=hdl2 pre
  simp -implicitDefEqProofs only[go_sem,hgx,hlt,Dl.enc]
  intro _ _
  have hpm:∀ e∈pre,b0u env 161 [sl 45 (tb.map b0q),.agg e.enc,.agg d.enc] (.bool (c4R tb e d)):=fun e he=>hdb e d (by rw[hx];simp[he]) (by rw[hx];simp)
  have hPg:∀ (k:Nat) e,pre[k]? = some e→(dl.map Dl.enc).getD ((k:Nat):Int).toNat []=e.enc:=fun k e h=>by
   have hk:=(g8Y.1 h).1
   rw[hx]
   simp only[g9j,g9I,g8Z]
   rw[g9a (by simpa using hk),g9q,h];rfl
  refine b0n (β:=Unit) pre (fun q _=>⟨[(8,.int .i64 q.length),(7,.bool (q.any fun e=>c4R tb e d)),(6,.int .i64 pre.length),(5,.slice (.arr 0) 24 ((b4Y tb [] pre).map d7q)),(4,sl 54 (dl.map Dl.enc)),(3,sl 45 (tb.map b0q))],[],[(b4Y tb [] pre).length]⟩)
   (fun _ _ _=>True) () ?_ trivial ?_ ?_
  ·simp -implicitDefEqProofs only[go_sem,List.any_nil]
   rfl
  ·intro _ _
   have hno:((pre.length:Int)<pre.length)=False:=by simp
   simp -implicitDefEqProofs only[go_sem,hgx,hlt,hno,Dl.enc]
   rw[hs]
   refine⟨fun h=>?_,fun h=>?_⟩
   ·rw[if_pos h]
    exact⟨by omega,(),⟨hw,by simp[d7q]⟩,by simp⟩
   ·rw[if_neg (by rw[h];simp),g9B]
    exact⟨(),⟨hw,rfl⟩,rfl⟩
  ·rintro q e post2 _ hx2 _
   have hpl2:pre.length=q.length+1+post2.length:=by rw[hx2];simp;omega
   have hge:=hPg q.length e (by rw[hx2];simp)
   have hle:((q.length:Int)<dl.length)=True:=by simp;omega
   have hlp:((q.length:Int)<pre.length)=True:=by simp;omega
   have hw2:IntKind.i64.wrap (↑q.length+1)=↑(q.length+1):=b0g (by omega)
   have hany:((q++[e]).any fun e=>c4R tb e d)=((q.any fun e=>c4R tb e d) || c4R tb e d):=by simp
   have hpe:=hpm e (by rw[hx2];simp)
   generalize c4R tb e d=dd at hpe hany
   generalize(q.any fun e=>c4R tb e d)=aa at hany ⊢
   obtain⟨ek,eo,en,eu,ed⟩:=e
   obtain⟨dk,do',dn,du,dd'⟩:=d
   simp only[Dl.enc]at hge hgx hpe
   simp -implicitDefEqProofs only[go_sem,hgx,hlt,hge,hle,hlp]
   refine b0h (cs:=[]) b0v (by kernel_rfl) ?_
   cases aa with
   | true =>
    simp -implicitDefEqProofs only[go_sem,hgx,hlt,hge,hle,hlp]
    exact⟨(),hw2,by rw[hany];rfl⟩
   | false =>
    simp -implicitDefEqProofs only[go_sem,hgx,hlt,hge,hle,hlp]
    refine b0B hpe (by simp -implicitDefEqProofs only[go_sem]) ?_
    simp -implicitDefEqProofs only[go_sem]
    exact⟨(),hw2,by rw[hany];rfl⟩
theorem d9V(u:List Un):(b8c (b0e u) (b0f u 0)).2=b4Y (b0e u) [] (b0f u 0):=by
 have:=d0z (tb:=b0e u) (b0f u 0) [] ([],[]) (fun d hd=>by obtain⟨_,_,_,_,_,_,_,h⟩:=c1y hd;exact h) (by simp) (by simp)
 simpa[b8c]using this
end Go.Proofs.YtighfcpaplmaiaaGreatDoor
namespace Go.Vg
theorem c3v:∀ (ks:List Nd) (b:Nat),∀ c∈b0H ks b,b≤c
 | [],_,c,h=>by cases h
 | x::r,b,c,h=>by
  rw[b0H]at h
  rcases g9y.1 h with rfl | h
  ·exact g9m _
  ·have:=c3v r _ c h
   omega
theorem c0P:∀ (ks:List Nd) (b:Nat),(b0H ks b).Pairwise (· < ·)
 | [],_ => .nil
 | x::r,b=>by
  rw[b0H]
  refine .cons (fun c hc=>?_) (c0P r _)
  have:=c3v r _ c hc
  have:=c4n x
  omega
theorem c3O{k:Nat}:∀ (ks:List Nat),ks.Pairwise (· < ·)→k∈ks→b2u k ks=ks.filter fun c=>decide (c<k)
 | [],_,h=>by cases h
 | x::r,hp,h=>by
  obtain⟨h1,h2⟩:=h0s.1 hp
  unfold b2u
  rw[List.takeWhile_cons]
  by_cases hx:x=k
  ·subst hx
   have hr:r.filter (fun c=>decide (c<x))=[]:=by
    rw[List.filter_eq_nil_iff]
    intro c hc
    have:=h1 c hc
    simp;omega
   simp[hr]
  ·have hk:k∈r:=(g9y.1 h).resolve_left fun e=>hx e.symm
   have hlt:=h1 k hk
   have:=c3O r h2 hk
   unfold b2u at this
   rw[if_pos (by simp[hx]),this,List.filter_cons,if_pos (by simpa using hlt)]
theorem d2j{α:Type}{p:α→Bool}:∀ (l:List α),(l.flatMap fun c=>if p c=true then [c]else [])=l.filter p
 | []=>rfl
 | x::r=>by
  rw[List.flatMap_cons,d2j r,List.filter_cons]
  cases p x <;> simp
theorem c8N{l:List Rw}{p k:Nat}(ha:(b0j l p).kids.Pairwise (· < ·))(hk:k∈(b0j l p).kids):b6F l p k=c3w l p k:=by
 unfold b6F c3w
 rw[c3O _ ha hk]
 generalize(b0j l p).kids=ks
 by_cases h6:(b0j l p).kind=6
 ·rw[if_pos h6,if_neg (by omega),g9B]
  have:∀ c,b2g l p k c=if decide ((b0j l c).kind=10)=true then [c]else []:=fun c=>by
   unfold b2g
   have e2:(if(b0j l p).kind=2∧(b0j l k).kind=6∧(b0j l c).kind=3 then(b0j l c).kids.filter fun q=>decide ((b0j l q).kind=4)else [])=[]:=if_neg (by omega)
   rw[e2,g9B]
   by_cases h:(b0j l c).kind=10
   ·rw[if_pos ⟨h6,h⟩,if_pos (by simpa using h)]
   ·rw[if_neg (fun g=>h g.2),if_neg (by simpa using h)]
  rw[show b2g l p k=fun c=>if decide ((b0j l c).kind=10)=true then [c]else []from funext this,d2j,List.filter_filter]
  congr 1
  funext c
  unfold c7I
  rw[Bool.and_comm]
 ·rw[if_neg h6,g9M]
  by_cases h2:(b0j l p).kind=2∧(b0j l k).kind=6
  ·rw[if_pos h2]
   induction ks with
   | nil=>rfl
   | cons c r ih =>
    rw[List.flatMap_cons,ih,List.filter_cons]
    by_cases hc:c<k
    ·rw[if_pos (by simpa using hc),List.flatMap_cons]
     congr 1
     unfold b2g
     rw[if_neg (fun g=>h6 g.1),g9M]
     by_cases h3:(b0j l c).kind=3
     ·rw[if_pos ⟨h2.1,h2.2,h3⟩]
      congr 1
      funext q
      unfold b8a
      simp[hc,h3]
     ·rw[if_neg (fun g=>h3 g.2.2)]
      rw[List.filter_eq_nil_iff]
      intro q _
      simp[b8a,h3]
    ·rw[if_neg (by simpa using hc)]
     have:(b0j l c).kids.filter (b8a l k c)=[]:=by
      rw[List.filter_eq_nil_iff]
      intro q _
      simp[b8a,hc]
     rw[this,g9M]
  ·rw[if_neg h2]
   symm
   rw[List.flatMap_eq_nil_iff]
   intro c _
   unfold b2g
   rw[if_neg (fun g=>h6 g.1),if_neg (fun g=>h2 ⟨g.1,g.2.1⟩)]
   rfl
theorem d7z{l:List Rw}(hg:gramL l)(ha:∀ p<l.length,(b0j l p).kids.Pairwise (· < ·)):∀ (f k:Nat),k<l.length→c8U l f k=b7r l f k
 | 0,_,_=>rfl
 | f+1,k,hk=>by
  rw[c8U,b7r]
  by_cases h0:(b0j l k).parent<0
  ·rw[if_pos h0,if_pos h0]
  ·rw[if_neg h0,if_neg h0]
   have hp1:=(hg.ok.par k hk).1
   obtain⟨p,hp,hpk,j,hj,hkk⟩:=hg.par k hk (by omega)
   rw[hp,g9j,d7z hg ha f p (by omega)]
   have hm:k∈(b0j l p).kids:=by
    have:=b3Y hj
    rw[hkk]at this
    exact g9f this
   rw[c8N (ha p (by omega)) hm]
theorem f0O(k:Int)(t:ByteArray):(b6I k t).2 = !decide (c0s k t=0)∧(c0s k t≠0→(b6I k t).1=(if c0s k t=6 then 3 else c0s k t)):=by
 unfold b6I c0s
 by_cases h1:k=19∨k=11
 ·simp[h1]
 rw[if_neg h1,if_neg h1]
 by_cases h2:k=20
 ·simp[h2]
 rw[if_neg h2,if_neg h2]
 by_cases h3:k=22
 ·simp[h3]
 rw[if_neg h3,if_neg h3]
 by_cases h4:k=5
 ·rw[if_pos h4,if_pos h4]
  by_cases h:t=⟨#[105,110,116]⟩
  ·simp[h]
  ·by_cases h':t=⟨#[98,111,111,108]⟩
   ·simp[h']
   ·simp[h,h']
 rw[if_neg h4,if_neg h4]
 by_cases h5:k=8
 ·rw[if_pos h5,if_pos h5]
  by_cases h:t=⟨#[]⟩
  ·simp[h]
  ·simp[h]
 rw[if_neg h5,if_neg h5]
 simp
end Go.Vg
namespace Go.Proofs.YtighfcpaplmaiaaGreatDoor
open Go Go.Vg Go.Proofs
theorem SndU.asc{u:List Un}(h:SndU u){un:Nat}{l:List Rw}(hl:(b0e u)[un]? = some l):∀ p<l.length,(b0j l p).kids.Pairwise (· < ·):=by
 obtain⟨x,hx,rfl⟩:=b2R h.br hl
 intro p hp
 obtain⟨k,t,g,ks,e1,e2,e3,e4⟩:=b1L hp
 rw[e4]
 exact c0P ks _
theorem d3Z{u:List Un}(h:SndU u){un i:Nat}{l:List Rw}(hl:(b0e u)[un]? = some l)(hi:i<l.length):b7Y l (b0f u 0) un i=b5r l (b1Y (b0f u 0)) un i:=by
 obtain⟨g1,g2⟩:=f0O (b0j l i).kind (b0j l i).text
 unfold b7Y b5r
 rw[g1]
 by_cases h0:c0s (b0j l i).kind (b0j l i).text=0
 ·rw[if_pos h0,g9D h0,if_neg (by simp)]
 ·rw[if_neg h0,g9v h0,if_pos (by simp)]
  congr 2
  have hv:=d7z (h.gram l (g9f hl)) (h.asc hl) (i+1) i hi
  unfold d9e c2T
  rw[if_neg h0,hv,g2 h0,b9q]
  by_cases h6:c0s (b0j l i).kind (b0j l i).text=6
  ·rw[if_pos h6,f2S,if_pos h6]
   simp[h6]
  ·rw[if_neg h6,if_neg (fun g=>h6 g.1),f2S,if_neg h6,if_neg]
   rintro⟨h3,_⟩
   have:∀ k t,c0s k t≠3:=fun k t=>by
    unfold c0s
    repeat' split
    all_goals omega
   exact this _ _ h3
theorem c7d{u:List Un}(h:SndU u){un:Nat}{l:List Rw}(hl:(b0e u)[un]? = some l):∀ n,n≤l.length→b4c l (b0f u 0) un n=(List.range n).flatMap (b5r l (b1Y (b0f u 0)) un)
 | 0,_=>by simp[b4c]
 | n+1,hn=>by rw[b4c,c7d h hl n (by omega),d3Z h hl (by omega),List.range_succ,List.flatMap_append];simp
theorem c6M{u:List Un}(h:SndU u):b2Y (b0e u) (b0f u 0) (b0e u).length=b4o u:=by
 have key:∀ n,n≤(b0e u).length→b2Y (b0e u) (b0f u 0) n=b2J (b1Y (b0f u 0)) ((b0e u).take n) 0:=by
  intro n
  induction n with
  | zero=>intro _;simp[b2Y,b2J]
  | succ n ih =>
   intro hn
   have hl:(b0e u)[n]? = some (b0e u)[n]:=g9b (by omega)
   have hg:(b0e u).getD n []=(b0e u)[n]:=by rw[g8Z,hl];rfl
   rw[b2Y,ih (by omega),hg,c7d h hl _ (g9m _),List.take_add_one,hl]
   show _=b2J _ (_++[_]) 0
   rw[b7C,List.length_take,g9s,Nat.min_eq_left (by omega)]
   rfl
 have:=key _ (g9m _)
 rw[List.take_length]at this
 exact this
end Go.Proofs.YtighfcpaplmaiaaGreatDoor
namespace Go.Vg
def f0T(l:List Rw)(i:Nat):ByteArray:=match d3p l i with
 | some p=>if 0≤(b0j l p).parent∧(b0j l (b0j l p).parent.toNat).kind=7 then(b0j l (b0j l p).parent.toNat).text else⟨#[]⟩
 | none=>⟨#[]⟩
def f4o(k:Int)(t:ByteArray):ByteArray:=if k=17 then⟨#[105,110,116]⟩else if k=18 then⟨#[98,111,111,108]⟩else if k=22 then t else if k=24 then opT t else if k=25 then(if t=⟨#[45]⟩then⟨#[105,110,116]⟩else⟨#[98,111,111,108]⟩)else⟨#[]⟩
end Go.Vg
namespace Go.Proofs.YtighfcpaplmaiaaGreatDoor
open Go Go.Vg Go.Proofs
abbrev BU(u:List Un):List (ByteArray×ByteArray):=b0D (btU u) (b0f u 0)
structure PreU(u:List Un):Prop where
 snd:SndU u
 cls:(b3p u (b0f u 0)).1=0
 nm:b0P (nmP u) (b0e u) 0=none
 unb:b6s (b4o u)=[]
theorem c3B{u:List Un}(h:(b3p u (b0f u 0)).1=0):(b0f u 0).find? (b4a u (BU u))=none∧(b0f u 0).find? (b3z (BU u))=none:=by
 unfold b3p at h
 split at h
 ·cases h
 split at h
 ·cases h
 rename_i h2
 split at h
 ·cases h
 rename_i h3
 exact⟨h2,h3⟩
theorem b8s{u:List Un}{n:ByteArray}(h:(b1B (BU u) n).isSome=true):∃ d∈b0f u 0,d.kind=2∧d.name=n∧b1B (BU u) n=some (btU u d):=by
 rw[b1R,Option.isSome_map]at h
 obtain⟨d,hd⟩:=g9E.1 h
 have h1:=List.find?_some hd
 simp only[b4u,g9g,g9h]at h1
 exact⟨d,g9V hd,h1.1,h1.2,by rw[b1R,hd];rfl⟩
theorem d5q{u:List Un}(hS:SndU u){n:ByteArray}(h:(b1B (BU u) n).isSome=true):n≠⟨#[]⟩:=by
 obtain⟨d,hd,hk,rfl,_⟩:=b8s h
 obtain⟨un,nd,l,q1,q2,q3,q4,q5,q6⟩:=hS.decl hd
 rw[q5]
 exact b6B hS q3 q4 (by omega)
theorem d1B{u:List Un}(h:(b3p u (b0f u 0)).1=0)(n:ByteArray):nxB (BU u) n=⟨#[]⟩∨(b1B (BU u) (nxB (BU u) n)).isSome=true:=by
 cases hg:b1B (BU u) n with
 | none=>exact .inl (by rw[nxB,hg];rfl)
 | some b =>
  have hb:nxB (BU u) n=b:=by rw[nxB,hg];rfl
  rw[hb]
  obtain⟨d,hd,hk,rfl,he⟩:=b8s (by rw[hg];rfl:(b1B (BU u) n).isSome=true)
  rw[hg]at he
  cases he
  have h1:=List.find?_eq_none.1 (c3B h).1 d hd
  simp only[b4a,hk,decide_true,g9O,g9g,Bool.not_eq_true',h0l,not_and,Bool.not_eq_false]at h1
  by_cases hb0:btU u d=⟨#[]⟩
  ·exact .inl hb0
  ·exact .inr (h1 hb0)
theorem b6R{B:List (ByteArray×ByteArray)}:∀ (a:List ByteArray) {n x:ByteArray} {r:List ByteArray},b4B B n (a++x::r)=b4B B (nxB B x) r
 | [],_,_,_=>rfl
 | y::a,_,_,_=>by rw[g8X,b4B,b6R a]
theorem c0a{u:List Un}(hS:SndU u)(h:(b3p u (b0f u 0)).1=0)(s:ByteArray):∃ p,(b3D (BU u) s).1=p∧c2X (BU u) (nxB (BU u) s) p∧p.length≤(BU u).length∧b4B (BU u) (nxB (BU u) s) p=⟨#[]⟩:=by
 obtain⟨p,h1,h2,h3,h4,h5,h6⟩:=c2P (BU u) s
 refine⟨p,h1,h2,h4,?_⟩
 generalize hm:b4B (BU u) (nxB (BU u) s) p=m at h6
 have hor:m=⟨#[]⟩∨(b1B (BU u) m).isSome=true:=by
  rcases List.eq_nil_or_concat p with hp | ⟨a,x,hp⟩
  ·subst hp
   rw[←hm]
   exact d1B h s
  ·rw[List.concat_eq_append]at hp
   rw[hp,b6R]at hm
   rw[←hm]
   exact d1B h x
 rcases hor with hor | hor
 ·exact hor
 exfalso
 have hne:=d5q hS hor
 have hst:b2D (BU u) m=false:=by simp[b2D,hne,hor]
 have hin:m∈s::p:=h6.resolve_left (by rw[hst];simp)
 have hring:c1Y (BU u) m ((BU u).length+1) (nxB (BU u) m)=true:=by
  rcases g9y.1 hin with rfl | hin
  ·exact c1R hst p _ _ h2 (h0o.1 h3).1 hm (by omega)
  ·obtain⟨a,b,rfl⟩:=List.append_of_mem hin
   obtain⟨g1,_⟩:=b5I a h2
   rw[b6R]at hm
   obtain⟨_,n2⟩:=h0o.1 h3
   obtain⟨_,n3,_⟩:=h0q.1 n2
   refine c1R hst b _ _ g1 (h0o.1 n3).1 hm ?_
   simp only[g9d,g9k]at h4;omega
 rw[d6W _ hst (by omega)]at hring
 obtain⟨d,hd,hk,hn,_⟩:=b8s hor
 have h7:=List.find?_eq_none.1 (c3B h).2 d hd
 rw[b3z,hn,g9D hk]at h7
 simp only[g9h]at hring
 rw[hring]at h7
 simp[hne]at h7
def b6f(u:List Un):List V:=[sl 70 (u.map Un.enc),sl 45 ((b0e u).map b0q),sl 163 ((b4o u).map Us.enc),sl 54 ((b0f u 0).map Dl.enc)]
theorem b1p(u:List Un):b1a (b6f u)=true:=by
 simp -implicitDefEqProofs only[b6f,go_sem,b0x,b1e,b2B,b0G]
theorem d0k(u:List Un)(hS:SndU u):b0u env 39 [sl 70 (u.map Un.enc)] (.agg (b6f u)):=by
 have hu:=hS.fit
 have hul:=hu.1
 have hD:=b6P u hu
 have hU:=d1f u hu
 rw[c6M hS]at hU
 refine b0i (fn:=Tryz.f39) Tryz.func39 rfl (by rw[Tryz.ntmps39];simp) (by simp -implicitDefEqProofs only[go_sem];exact b0x _) (by simp -implicitDefEqProofs only[go_sem];exact b1p _) ?_
 simp -implicitDefEqProofs only[go_sem,Tryz.f39]
 refine hU.calls (by simp -implicitDefEqProofs only[go_sem]) ?_
 simp -implicitDefEqProofs only[go_sem]
 refine hD.calls (by simp -implicitDefEqProofs only[go_sem]) ?_
 have hbr:=hS.br
 have hts:∀ (p:List Un) (x:Un),x.broken=false→b0e (p++[x])=b0e p++[b0z x.tree (-1) 0]:=fun p x h=>c1t h
 have hup:=b2B (b4o u)
 have hdp:=b0G (b0f u 0)
 have hwc:b6f u=[sl 70 (u.map Un.enc),sl 45 ((b0e u).map b0q),sl 163 ((b4o u).map Us.enc),sl 54 ((b0f u 0).map Dl.enc)]:=rfl
 rw[hwc]
 generalize(b4o u).map Us.enc=US at hup ⊢
 generalize(b0f u 0).map Dl.enc=DS at hdp ⊢
 simp -implicitDefEqProofs only[go_sem]
 refine b0n (β:=Unit) u (fun pre _=>⟨[(4,.int .i64 pre.length),(3,.ptr 1 0),(2,.ptr 0 0),(0,sl 70 (u.map Un.enc))],[.cells [.slice .nil 0 [],.slice .nil 0 [],.slice .nil 0 [],.slice .nil 0 []],.cells [sl 70 (u.map Un.enc),.slice (.arr 0) 45 ((b0e pre).map b0q),sl 163 US,sl 54 DS]],[(b0e pre).length]⟩)
  (fun _ _ _=>True) () ?_ trivial ?_ ?_
 ·simp -implicitDefEqProofs only[go_sem]
  exact⟨rfl,rfl⟩
 ·intro _ _
  simp -implicitDefEqProofs only[go_sem]
 ·rintro pre x post _ hx _
  have hpl:u.length=pre.length+1+post.length:=by rw[hx];simp;omega
  have hgx:(u.map Un.enc).getD (pre.length:Int).toNat []=x.enc:=by rw[hx];simp[g8Z]
  have hlt:((pre.length:Int)<u.length)=True:=by simp;omega
  have hw:IntKind.i64.wrap (↑pre.length+1)=↑(pre.length+1):=b0g (by omega)
  have hxm:x∈u:=by rw[hx];simp
  have hxn:=(hu.2 x hxm).1
  have htl:(b0e pre).length=pre.length:=by simp[b0e]
  have hsn:=hts pre x (hbr x hxm)
  simp -implicitDefEqProofs only[go_sem,hgx,hlt]
  intro _ _
  refine b0h (cs:=[]) b0v (by kernel_rfl) ?_
  simp -implicitDefEqProofs only[go_sem,hgx,hlt]
  refine b0B (c5V x.tree (by omega)) (by simp -implicitDefEqProofs only[go_sem]) ?_
  simp -implicitDefEqProofs only[go_sem,hgx,hlt]
  rw[hsn]
  exact⟨by omega,(),hw,by simp[b0q],by simp⟩
theorem d0q{u:List Un}(hS:SndU u){un i:Nat}{l:List Rw}(hl:(b0e u)[un]? = some l)(hi:i<l.length):((b4o u).find? fun x=>decide (x.un=un∧x.nd=i)).bind (·.to)=b1s (b2q u) ((un:Int),(i:Int)):=by
 cases hf:(b4o u).find? fun x=>decide (x.un=un∧x.nd=i)with
 | some x =>
  have h1:=List.find?_some hf
  simp only[g9h]at h1
  obtain⟨un',i',l',g1,g2,g3,g4⟩:=b9L _ _ (g9V hf)
  subst g4
  simp only[g9s]at h1 g1
  obtain⟨rfl,rfl⟩:=h1
  rw[hl]at g1
  cases g1
  show c2T _ _ _ _ _=_
  rw[g9s]
  cases hg:b1s (b2q u) ((un':Int),(i':Int))with
  | some d=>exact(b8E hl hg).2
  | none =>
   cases hr:c2T l (b1Y (b0f u 0)) un' i' (b6I (b0j l i').kind (b0j l i').text).1 with
   | none=>rfl
   | some d =>
    exfalso
    have hm:=b5D (M:=b1Y (b0f u 0)) (b0e u) 0 un' i' l hl hi g3
    rw[g9s,hr]at hm
    have:=b9k (k:=((un':Int),(i':Int))) _ [] (.inl ⟨_,hm,rfl,rfl⟩)
    rw[show b1s ((b2J (b1Y (b0f u 0)) (b0e u) 0).foldl d6l []) ((un':Int),(i':Int))=b1s (b2q u) ((un':Int),(i':Int))from rfl,hg]at this
    cases this
 | none =>
  cases hg:b1s (b2q u) ((un:Int),(i:Int))with
  | none=>rfl
  | some d =>
   exfalso
   obtain⟨h1,_⟩:=b8E hl hg
   have hm:=b5D (M:=b1Y (b0f u 0)) (b0e u) 0 un i l hl hi h1
   rw[g9s]at hm
   have:=List.find?_eq_none.1 hf _ hm
   simp at this
def f5L:Wk := .one 0 (.one 1 (.one 2 (.one 3 (.one 4 (.one 5 (.one 6 (.one 8 (.br 7 (.one 9 (.one 10 (.br 11 (.one 12 (.one 13 (.stop))) (.br 12 (.one 11 (.one 13 (.stop))) (.stop))))) (.br 12 (.one 7 (.one 9 (.one 10 (.one 11 (.one 13 (.stop)))))) (.stop))))))))))
theorem b5T(u:List Un)(hS:SndU u){un i:Nat}{l:List Rw}(hl:(b0e u)[un]? = some l)(hi:i<l.length):b0u env 109 [.agg (b6f u),.agg [.int .i64 un,.int .i64 i]] (c0R (b1s (b2q u) ((un:Int),(i:Int)))):=by
 rw[←d0q hS hl hi]
 refine b0i (fn:=Tryz.f109) Tryz.func109 rfl (by rw[Tryz.ntmps109];simp) (by simp -implicitDefEqProofs only[go_sem];exact b1p _) (by simp -implicitDefEqProofs only[go_sem,c0R]) ?_
 generalize hL:b4o u=L
 have hLp:=b2B L
 simp -implicitDefEqProofs only[go_sem,Tryz.f109,b6f,hL]
 refine b0n (β:=Unit) L (fun pre _=>⟨[(6,.int .i64 pre.length),(5,.bool false),(4,.ptr 2 0),(3,.ptr 1 0),(2,.ptr 0 0)],[.cells [.junk,.junk,sl 163 (L.map Us.enc),.junk],.cells [.int .i64 un,.int .i64 i],.cells [.int .i64 0,.int .i64 0]],[]⟩)
  (fun pre post _=>((L.find? fun x=>decide (x.un=un∧x.nd=i)).bind (·.to))=(post.find? fun x=>decide (x.un=un∧x.nd=i)).bind (·.to)) () ?_ rfl ?_ ?_
 ·simp -implicitDefEqProofs only[go_sem]
  rfl
 ·intro _ h
  rw[h]
  simp -implicitDefEqProofs only[go_sem]
  exact fun _ _=>rfl
 ·rintro pre x post _ hx h
  have hpl:L.length=pre.length+1+post.length:=by rw[hx];simp;omega
  have hgx:(L.map Us.enc).getD (pre.length:Int).toNat []=x.enc:=by rw[hx];simp[g8Z]
  have hlt:((pre.length:Int)<L.length)=True:=by simp;omega
  rw[g9S]at h
  simp -implicitDefEqProofs only[go_sem,hgx,hlt,Us.enc]
  intro _ _
  have hw:IntKind.i64.wrap (↑pre.length+1)=↑(pre.length+1):=b0g (by omega)
  have hfk:b3f Tryz.prog 24=some [1,1]:=by kernel_rfl
  refine b0h (cs:=[]) b0v (by kernel_rfl) ?_
  simp -implicitDefEqProofs only[go_sem,hgx,hlt,Us.enc,hfk]
  have hcc:(decide ((x.un:Int)=un) && decide ((x.nd:Int)=i))=decide (x.un=un∧x.nd=i):=by
   rw[h0g]
   simp only[g9g,g9h]
   omega
  rw[hcc]
  refine⟨fun hc=>?_,fun hc=>⟨(),?_,hw⟩⟩
  ·rw[hc]at h
   have h2:((L.find? fun x=>decide (x.un=un∧x.nd=i)).bind fun x=>x.to)=x.to:=h
   rw[h2]
   refine b1g (cs:=[]) f5L b0v (by kernel_rfl) ?_
   simp -implicitDefEqProofs only[go_sem,f5L,hgx,hlt,Us.enc,hfk,c0R]
  ·rw[hc]at h
   exact h
theorem c9B(u:List Un)(hu:b2T u)(k:Int)(o n:ByteArray):b0u env 171 [.agg (b6f u),.int .i64 k,.str o,.str n] (b2s (c4I (b0f u 0) k o n)):=by
 have hdl:=b0L u 0 fun y hy=>(hu.2 y hy).1
 have hul:=hu.1
 refine b0i (fn:=Tryz.f171) Tryz.func171 rfl (by rw[Tryz.ntmps171];simp) (by simp -implicitDefEqProofs only[go_sem];exact b1p _) (by simp -implicitDefEqProofs only[go_sem,b2s]) ?_
 have hwc:b6f u=[sl 70 (u.map Un.enc),sl 45 ((b0e u).map b0q),sl 163 ((b4o u).map Us.enc),sl 54 ((b0f u 0).map Dl.enc)]:=rfl
 rw[hwc]
 unfold c4I
 generalize b0f u 0=dl at hdl ⊢
 simp -implicitDefEqProofs only[go_sem,Tryz.f171]
 refine b0n (β:=Unit) dl (fun pre _=>⟨[(10,.int .i64 pre.length),(9,.bool false),(8,.ptr 1 0),(4,.ptr 0 0),(1,.int .i64 k),(2,.str o),(3,.str n)],[.cells [.junk,.junk,.junk,sl 54 (dl.map Dl.enc)],.cells Dl.zero.enc],[]⟩)
  (fun pre post _=>(dl.find? fun d=>decide (d.kind=k) && decide (d.owner=o) && decide (d.name=n))=post.find? fun d=>decide (d.kind=k) && decide (d.owner=o) && decide (d.name=n)) () ?_ rfl ?_ ?_
 ·simp -implicitDefEqProofs only[go_sem,Dl.zero,Dl.enc]
  rfl
 ·intro _ h
  rw[h,List.find?_nil]
  simp -implicitDefEqProofs only[go_sem,b2s,Dl.zero,Dl.enc]
  exact fun _ _=>rfl
 ·rintro pre d post _ hx h
  have hpl:dl.length=pre.length+1+post.length:=by rw[hx];simp;omega
  have hgx:(dl.map Dl.enc).getD (pre.length:Int).toNat []=d.enc:=by rw[hx];simp[g8Z]
  have hlt:((pre.length:Int)<dl.length)=True:=by simp;omega
  have hw:IntKind.i64.wrap (↑pre.length+1)=↑(pre.length+1):=b0g (by omega)
  rw[g9S]at h
  simp -implicitDefEqProofs only[go_sem,hgx,hlt,Dl.enc,Dl.zero]
  refine fun _ _=>⟨fun g1=>⟨fun g2=>⟨fun g3=>?_,fun g3=>⟨(),?_,hw⟩⟩,fun g2=>⟨(),?_,hw⟩⟩,fun g1=>⟨(),?_,hw⟩⟩
  ·rw[h,g9D g1,g9D g2,g9D g3];rfl
  ·rw[h,g9v g3,Bool.and_false]
  ·rw[h,g9v g2,Bool.and_false,g9Q]
  ·rw[h,g9v g1,g9Q,g9Q]
end Go.Proofs.YtighfcpaplmaiaaGreatDoor
