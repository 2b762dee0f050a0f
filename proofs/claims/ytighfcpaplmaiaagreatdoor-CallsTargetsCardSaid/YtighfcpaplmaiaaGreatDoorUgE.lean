import Derived.Test.YtighfcpaplmaiaaGreatDoorUgB
import Derived.Test.YtighfcpaplmaiaaGreatDoorUeN
set_option linter.unusedVariables false
set_option linter.unusedSimpArgs false
set_option maxRecDepth 20000
namespace Go.Vg
def d9U(d e:Dl):Bool:=decide (e.kind=d.kind) && (decide (e.name=d.name) && (decide (d.kind=2) || decide (e.owner=d.owner)))
def d7L(p:List Dl)(d:Dl):Bool:=c0z d && p.any (d9U d)
def d7k:List Dl→List Dl→Option Dl
 | _,[]=>none
 | p,d::r=>if d7L p d=true then some d else d7k (p++[d]) r
theorem d7w(h:Dl→Prop)(hk:∀ d,h d→d.kind=2→d.owner=⟨#[]⟩):∀ (l p:List Dl),(∀ d∈p,h d)→(∀ d∈l,h d)→d7k p l=b1V (p.filter c0z) l
 | [],p,_,_=>rfl
 | d::r,p,hp,hl=>by
  have hd:=hl d (by simp)
  rw[d7k,b1V]
  have ih:=d7w h hk r (p++[d]) (fun x hx=>by
   rcases g9A.1 hx with hx | hx
   ·exact hp x hx
   ·simp only[g9N]at hx;subst hx;exact hd) (fun x hx=>hl x (by simp[hx]))
  rw[List.filter_append]at ih
  by_cases hc:c0z d=true
  ·have hf:[d].filter c0z=[d]:=by simp[hc]
   rw[hf]at ih
   have he:p.any (d9U d)=(p.filter c0z).any (b5n d):=by
    rw[List.any_filter]
    rw[h0g,g9W,g9W]
    constructor
    ·rintro⟨x,hx,hs⟩
     refine⟨x,hx,?_⟩
     simp only[d9U,g9g,g9h,h0p]at hs
     obtain⟨h1,h2,h3⟩:=hs
     have ho:d.owner=x.owner:=by
      rcases h3 with h3 | h3
      ·rw[hk d hd h3,hk x (hp x hx) (by omega)]
      ·exact h3.symm
     have hcx:c0z x=true:=by
      simp only[c0z,h0p,g9h]at hc ⊢;omega
     simp[hcx,b5n,h1,h2,ho]
    ·rintro⟨x,hx,hs⟩
     refine⟨x,hx,?_⟩
     simp only[b5n,g9g,g9h]at hs
     obtain⟨_,h1,h2,h3⟩:=hs
     simp[d9U,h1,h2,h3]
   rw[if_pos hc,d7L,hc,g9O,he]
   split
   ·rfl
   ·exact ih
  ·have hf:[d].filter c0z=[]:=by simp[hc]
   rw[hf,g9B]at ih
   have hcf:c0z d=false:=by simpa using hc
   rw[if_neg hc,d7L,hcf,g9Q,if_neg (by simp)]
   exact ih
theorem c3Z(B:List (ByteArray×ByteArray)):∀ (f:Nat) (n:ByteArray),c1Y B ⟨#[]⟩ f n=false
 | 0,_=>rfl
 | f+1,n=>by
  rw[c1Y]
  split
  ·rfl
  ·rename_i h
   rw[if_neg (by rintro rfl;exact h (by simp[b2D]))]
   exact c3Z B f _
end Go.Vg
namespace Go.Proofs.YtighfcpaplmaiaaGreatDoor
open Go Go.Vg Go.Proofs
theorem c8l(dl:List Dl)(i:Nat)(d:Dl)(hd:dl[i]? = some d)(hl:dl.length≤1000000):b0u env 159 [sl 54 (dl.map Dl.enc),.int .i64 i] (.bool (d7L (dl.take i) d)):=by
 have hil:=(g8Y.1 hd).1
 refine b0i (fn:=Tryz.f159) Tryz.func159 rfl (by rw[Tryz.ntmps159];simp) (by simp -implicitDefEqProofs only[go_sem];exact b0G _) rfl ?_
 have hgd:(dl.map Dl.enc).getD ((i:Nat):Int).toNat []=d.enc:=by simp[g8Z,hd]
 have hlt:((i:Int)<dl.length)=True:=by simp;omega
 have hi0:(0≤(i:Int))=True:=by simp
 obtain⟨P,hP⟩:∃ P,P=dl.take i:=⟨_,rfl⟩
 have hPl:P.length=i:=by rw[hP,List.length_take];omega
 have hPg:∀ (k:Nat) x,P[k]? = some x→(dl.map Dl.enc).getD ((k:Nat):Int).toNat []=x.enc:=fun k x h=>by
  have hk:=(g8Y.1 h).1
  rw[hP,List.getElem?_take_of_lt (by omega)]at h
  simp[g8Z,h]
 rw[←hP]
 simp -implicitDefEqProofs only[go_sem,Tryz.f159,hgd,hlt,hi0,Dl.enc]
 refine⟨fun h2=>⟨fun h4=>?_,fun h4=>?_⟩,fun h2=>?_⟩
 ·have:d7L P d=false:=by
   simp at h2 h4
   simp[d7L,c0z,h2,h4]
  rw[this]
 all_goals
  have hcm:c0z d=true:=by
   simp only[c0z,h0p,g9h]
   first | exact .inr (by simpa using h4) | exact .inl (by simpa using h2)
  rw[d7L,hcm,g9O]
  refine b0n (β:=Unit) P (fun pre _=>⟨[(5,.int .i64 pre.length),(4,.bool false),(0,sl 54 (dl.map Dl.enc)),(1,.int .i64 i)],[],[]⟩)
   (fun pre post _=>P.any (d9U d)=post.any (d9U d)) () ?_ rfl ?_ ?_
  ·simp -implicitDefEqProofs only[go_sem]
   rfl
  ·intro _ h
   have hnl:((P.length:Int)<i)=False:=by simp;omega
   rw[h]
   simp -implicitDefEqProofs only[go_sem,hnl]
   try rfl
  ·rintro pre x post _ hx h
   have hpl:P.length=pre.length+1+post.length:=by rw[hx];simp;omega
   have hgx:=hPg pre.length x (by rw[hx];simp)
   have hlk:((pre.length:Int)<i)=True:=by simp;omega
   have hlx:((pre.length:Int)<dl.length)=True:=by simp;omega
   have hw:IntKind.i64.wrap (↑pre.length+1)=↑(pre.length+1):=b0g (by omega)
   rw[List.any_cons]at h
   have hm:d9U d x=(decide (x.kind=d.kind) && (decide (x.name=d.name) && (decide (d.kind=2) || decide (x.owner=d.owner)))):=rfl
   simp -implicitDefEqProofs only[go_sem,hgx,hlk,hlx,hgd,hlt,hi0,Dl.enc]
   refine b0h (cs:=[]) b0v (by kernel_rfl) ?_
   simp -implicitDefEqProofs only[go_sem,hgx,hlk,hlx,hgd,hlt,hi0,Dl.enc]
   rw[hm]at h
   refine⟨fun g1=>⟨fun g2=>⟨fun g3=>⟨fun g4=>?_,fun g4=>⟨(),?_,hw⟩⟩,fun g3=>?_⟩,fun g2=>⟨(),?_,hw⟩⟩,fun g1=>⟨(),?_,hw⟩⟩
   ·rw[h];simp[g1,g2,g4]
   ·rw[h];simp[g3,g4]
   ·rw[h];simp[g1,g2,g3]
   ·rw[h];simp[g2]
   ·rw[h];simp[g1]
theorem d4C(u:List Un)(hu:b2T u)(cls:ByteArray):b0u env 160 [.agg (b1x u (b0f u 0)),.str cls] (.bool (c1Y (b0D (btU u) (b0f u 0)) cls ((b0f u 0).length+1) (nxB (b0D (btU u) (b0f u 0)) cls))):=by
 have hdl:=b0L u 0 fun y hy=>(hu.2 y hy).1
 have hul:=hu.1
 have hbl:=b1i (btU u) (b0f u 0)
 have hgb:=fun n=>b1R (btU u) n (b0f u 0)
 have hrd:∀ d∈b0f u 0,d.kind=2→(b2x u d).2=btU u d:=fun d h1 h2=>b8t h1 h2
 refine b0i (fn:=Tryz.f160) Tryz.func160 rfl (by rw[Tryz.ntmps160];simp) (by simp -implicitDefEqProofs only[go_sem];exact b2e _ _) rfl ?_
 obtain⟨hup,hdg⟩:=@b8y u (b0f u 0)
 generalize b0D (btU u) (b0f u 0)=B at hbl hgb ⊢
 generalize hdd:b0f u 0=dl at hdl hbl hgb hrd hup hdg ⊢
 simp -implicitDefEqProofs only[go_sem,Tryz.f160,b1x]
 refine(b6V dl cls).calls (by simp -implicitDefEqProofs only[go_sem]) ?_
 simp -implicitDefEqProofs only[go_sem]
 generalize hgo:c1Y B cls (dl.length+1) (nxB B cls)=goal
 refine b1A (α:=Nat×Int) (fun s=>⟨[(6,.int .i64 s.1),(5,.int .i64 s.2),(4,.bool false),(2,.ptr 0 0),(1,.str cls)],[.cells (b1x u dl)],[]⟩)
  (fun s=>s.1≤dl.length+1∧((s.2 = -1∧goal=false)∨∃ (j:Nat) (d:Dl),s.2=j∧dl[j]? = some d∧d.kind=2∧goal=c1Y B cls (dl.length+1 - s.1) (btU u d))) (fun s=>dl.length+2 - s.1) (0,Vg.firstD dl cls 0) ?_ ⟨by simp,?_⟩ ?_
 ·simp -implicitDefEqProofs only[go_sem,b1x]
  try rfl
 ·rcases b2c cls dl 0 with⟨j,d,q1,q2,q3,q4,q5⟩ | ⟨q1,q2⟩
  ·refine .inr ⟨j,d,by simpa using q1,q2,q3,?_⟩
   have hgc:nxB B cls=btU u d:=by rw[nxB,hgb,q5];rfl
   rw[←hgo,hgc];rfl
  ·refine .inl ⟨q1,?_⟩
   have hgc:nxB B cls=⟨#[]⟩:=by rw[nxB,hgb,q2];rfl
   rw[←hgo,hgc,c1Y,if_pos (by simp[b2D])]
 ·rintro⟨n,at'⟩ ⟨hn,hc⟩
  simp only at hn hc ⊢
  rcases hc with⟨rfl,hgf⟩ | ⟨j,d,rfl,hd,hk,hgl⟩
  ·rw[hgf]
   simp -implicitDefEqProofs only[go_sem,b1x]
  ·have hjl:j<dl.length:=(g8Y.1 hd).1
   have hlt:((j:Int)<dl.length)=True:=by simp;omega
   have hj0:(0≤(j:Int))=True:=by simp
   have hbd:(b2x u d).2=btU u d:=hrd d (g9f hd) hk
   have hu1:=hup j d hd
   rw[hbd]at hu1
   generalize btU u d=nb at hgl hu1
   rcases h0v dl.length n with hnl | hnl
   ·have e:dl.length+1 - n=0:=by omega
    rw[e]at hgl
    have hcn:((n:Int)≤dl.length)=False:=by simp;omega
    rw[hgl,c1Y]
    simp -implicitDefEqProofs only[go_sem,b1x,hcn,hj0]
   ·obtain⟨f,hf⟩:∃ f,dl.length+1 - n=f+1:=⟨dl.length - n,by omega⟩
    have hcn:((n:Int)≤dl.length)=True:=by simp;omega
    have hw:IntKind.i64.wrap (↑n+1)=↑(n+1):=b0g (by omega)
    rw[hf,c1Y]at hgl
    simp -implicitDefEqProofs only[go_sem,b1x,hcn,hj0,hlt,hu1]
    intro _ _
    by_cases hnb:nb=⟨#[]⟩
    ·have hi:c3o dl nb = -1:=by rw[c3o,if_pos hnb]
     rw[if_pos (by simp[b2D,hnb])]at hgl
     rw[hi]
     simp -implicitDefEqProofs only[go_sem,b1x]
     exact⟨(n+1,-1),by simp only;omega,⟨by simp only;omega,.inl ⟨rfl,hgl⟩⟩,hw,rfl⟩
    have hi:c3o dl nb=Vg.firstD dl nb 0:=by rw[c3o,if_neg hnb]
    rcases b2c nb dl 0 with⟨j2,d2,r1,r2,r3,r4,r5⟩ | ⟨r1,r2⟩
    ·rw[g9s]at r1
     have hgn:b1B B nb=some (btU u d2):=by rw[hgb,r5];rfl
     have hst:¬ b2D B nb=true:=by simp[b2D,hnb,hgn]
     rw[if_neg hst]at hgl
     have hjl2:j2<dl.length:=(g8Y.1 r2).1
     have hlt2:((j2:Int)<dl.length)=True:=by simp;omega
     have hn2:(0≤(j2:Int))=True:=by simp
     rw[hi,r1]
     simp -implicitDefEqProofs only[go_sem,hn2,hlt2,hdg j2 d2 r2,Dl.enc,r4]
     refine⟨fun hc=>?_,fun hc=>?_⟩
     ·rw[if_pos hc]at hgl;rw[hgl]
     ·rw[if_neg hc,nxB,hgn,g9w]at hgl
      refine⟨(n+1,(j2:Int)),by simp only;omega,⟨by simp only;omega,.inr ⟨j2,d2,rfl,r2,r3,?_⟩⟩,hw,rfl⟩
      simp only
      rw[hgl,show dl.length+1 - (n+1)=f by omega]
    ·rw[if_pos (by simp[b2D,hgb,r2])]at hgl
     rw[hi,r1]
     simp -implicitDefEqProofs only[go_sem,b1x]
     exact⟨(n+1,-1),by simp only;omega,⟨by simp only;omega,.inl ⟨rfl,hgl⟩⟩,hw,rfl⟩
def d7K(u:List Un)(dl:List Dl)(d:Dl):Bool:=decide (d.kind=2) && c1Y (b0D (btU u) dl) d.name (dl.length+1) (nxB (b0D (btU u) dl) d.name)
def c4Z(u:List Un)(dl:List Dl):Int×Int×Int:=match dl.find? (d7K u dl)with
 | some d=>(10,d.unit,d.node)
 | none=>(0,0,0)
def noB(u:List Un)(dl:List Dl)(d:Dl):Bool := !decide ((b2x u d).2=⟨#[]⟩) && decide (upD u dl d<0)
def c5K(u:List Un)(dl:List Dl):Int×Int×Int:=match dl.find? (noB u dl)with
 | some d=>(9,d.unit,(b2x u d).1)
 | none=>c4Z u dl
def c0h(u:List Un)(dl:List Dl):Int×Int×Int:=match d7k [] dl with
 | some d=>(6,d.unit,d.node)
 | none=>c5K u dl
theorem d5s(u:List Un)(hu:b2T u):b0u env 101 [sl 70 (u.map Un.enc)] (c2U (c0h u (b0f u 0))):=by
 have hRd:=d2W u hu
 have hRr:=d4C u hu
 have hRp:=fun i d h1 h2=>c8l (b0f u 0) i d h1 h2
 have hdl:=b0L u 0 fun y hy=>(hu.2 y hy).1
 have hul:=hu.1
 have hdl2:(b0f u 0).length≤1000000:=by omega
 obtain⟨hup,hdg⟩:=@b8y u (b0f u 0)
 refine b0i (fn:=Tryz.f101) Tryz.func101 rfl (by rw[Tryz.ntmps101];simp) (by simp -implicitDefEqProofs only[go_sem];exact b0x _) rfl ?_
 simp -implicitDefEqProofs only[go_sem,Tryz.f101]
 refine hRd.calls (by simp -implicitDefEqProofs only[go_sem]) ?_
 generalize b0f u 0=dl at hdl hdl2 hRr hRp hup hdg ⊢
 simp -implicitDefEqProofs only[go_sem,b1x]
 refine b0n (β:=Unit) dl (fun pre _=>⟨[(5,.int .i64 pre.length),(4,.ptr 1 0),(3,.ptr 0 0),(2,.int .i64 0)],[.cells [.int .i64 0,.int .i64 0],.cells (b1x u dl)],[]⟩)
  (fun pre post _=>d7k [] dl=d7k pre post) () ?_ rfl ?_ ?_
 ·simp -implicitDefEqProofs only[go_sem,b1x]
  rfl
 ·intro _ h
  have hr1:c0h u dl=c5K u dl:=by rw[c0h,h];rfl
  rw[hr1]
  simp -implicitDefEqProofs only[go_sem,b1x]
  intro _ _
  refine b0n (β:=Unit) dl (fun pre _=>⟨[(6,.int .i64 pre.length),(4,.ptr 1 0),(3,.ptr 0 0),(2,.int .i64 0)],[.cells [.int .i64 0,.int .i64 0],.cells (b1x u dl)],[]⟩)
   (fun pre post _=>dl.find? (noB u dl)=post.find? (noB u dl)) () ?_ rfl ?_ ?_
  ·simp -implicitDefEqProofs only[go_sem,b1x]
   rfl
  ·intro _ h
   have hr2:c5K u dl=c4Z u dl:=by rw[c5K,h];rfl
   rw[hr2]
   simp -implicitDefEqProofs only[go_sem,b1x]
   intro _ _
   refine b0n (β:=Unit) dl (fun pre _=>⟨[(7,.int .i64 pre.length),(4,.ptr 1 0),(3,.ptr 0 0),(2,.int .i64 0)],[.cells [.int .i64 0,.int .i64 0],.cells (b1x u dl)],[]⟩)
    (fun pre post _=>dl.find? (d7K u dl)=post.find? (d7K u dl)) () ?_ rfl ?_ ?_
   ·simp -implicitDefEqProofs only[go_sem,b1x]
    rfl
   ·intro _ h
    have hr3:c4Z u dl=(0,0,0):=by rw[c4Z,h];rfl
    rw[hr3]
    simp -implicitDefEqProofs only[go_sem,b1x,c2U]
   ·rintro pre d post _ hx h
    have hpl:dl.length=pre.length+1+post.length:=by rw[hx];simp;omega
    have hgx:(dl.map Dl.enc).getD (pre.length:Int).toNat []=d.enc:=by rw[hx];simp[g8Z]
    have hlt:((pre.length:Int)<dl.length)=True:=by simp;omega
    have hw:IntKind.i64.wrap (↑pre.length+1)=↑(pre.length+1):=b0g (by omega)
    rw[g9S]at h
    have hm:d7K u dl d=(decide (d.kind=2) && c1Y (b0D (btU u) dl) d.name (dl.length+1) (nxB (b0D (btU u) dl) d.name)):=rfl
    rw[hm]at h
    have hrr:=hRr d.name
    generalize c1Y (b0D (btU u) dl) d.name (dl.length+1) (nxB (b0D (btU u) dl) d.name)=bb at h hrr
    simp -implicitDefEqProofs only[go_sem,hgx,hlt,b1x,Dl.enc]
    intro _ _
    refine b0h (cs:=[]) b0v (by kernel_rfl) ?_
    by_cases h2:d.kind=2
    ·rw[g9D h2,g9O]at h
     simp -implicitDefEqProofs only[go_sem,hgx,hlt,b1x,Dl.enc,h2]
     refine b0B hrr (by simp -implicitDefEqProofs only[go_sem,b1x]) ?_
     cases bb with
     | true =>
      have hr:c4Z u dl=(10,d.unit,d.node):=by rw[c4Z,h]
      rw[hr]
      simp -implicitDefEqProofs only[go_sem,hgx,hlt,b1x,Dl.enc]
      refine b0h (cs:=[]) b0v (by kernel_rfl) ?_
      simp -implicitDefEqProofs only[go_sem,hgx,hlt,b1x,Dl.enc,c2U]
     | false =>
      simp -implicitDefEqProofs only[go_sem,hgx,hlt,b1x,Dl.enc]
      exact⟨(),h,hw⟩
    ·rw[g9v h2,g9Q]at h
     simp -implicitDefEqProofs only[go_sem,hgx,hlt,b1x,Dl.enc,h2]
     exact⟨(),h,hw⟩
  ·rintro pre d post _ hx h
   have hpl:dl.length=pre.length+1+post.length:=by rw[hx];simp;omega
   have hgx:(dl.map Dl.enc).getD (pre.length:Int).toNat []=d.enc:=by rw[hx];simp[g8Z]
   have hg2:((dl.map fun d=>(b2x u d).2).map b0p).getD (pre.length:Int).toNat []=b0p (b2x u d).2:=by rw[hx];simp[g8Z]
   have hg1:((dl.map fun d=>(b2x u d).1).map c3a).getD (pre.length:Int).toNat []=c3a (b2x u d).1:=by rw[hx];simp[g8Z]
   have hg3:((dl.map (upD u dl)).map c3a).getD (pre.length:Int).toNat []=c3a (upD u dl d):=by
    have hd:dl[pre.length]? = some d:=by rw[hx];simp
    simp[g8Z,hd]
   have hlt:((pre.length:Int)<dl.length)=True:=by simp;omega
   have hw:IntKind.i64.wrap (↑pre.length+1)=↑(pre.length+1):=b0g (by omega)
   rw[g9S]at h
   have hm:noB u dl d=(!decide ((b2x u d).2=⟨#[]⟩) && decide (upD u dl d<0)):=rfl
   rw[hm]at h
   simp -implicitDefEqProofs only[go_sem,hgx,hlt,hg1,hg2,hg3,b1x,b0p,c3a,Dl.enc]
   intro _ _
   refine⟨fun h1=>⟨fun h2=>?_,fun h2=>?_⟩,fun h1=>?_⟩
   ·rw[h1,g9D h2]at h
    have hr:c5K u dl=(9,d.unit,(b2x u d).1):=by rw[c5K,h];rfl
    rw[hr]
    refine b0h (cs:=[]) b0v (by kernel_rfl) ?_
    simp -implicitDefEqProofs only[go_sem,hgx,hlt,hg1,hg2,hg3,b1x,b0p,c3a,Dl.enc,c2U]
   ·rw[g9v h2,Bool.and_false]at h
    exact⟨(),h,hw⟩
   ·rw[h1,g9Q]at h
    exact⟨(),h,hw⟩
 ·rintro pre d post _ hx h
  have hpl:dl.length=pre.length+1+post.length:=by rw[hx];simp;omega
  have hgx:(dl.map Dl.enc).getD (pre.length:Int).toNat []=d.enc:=by rw[hx];simp[g8Z]
  have hlt:((pre.length:Int)<dl.length)=True:=by simp;omega
  have hw:IntKind.i64.wrap (↑pre.length+1)=↑(pre.length+1):=b0g (by omega)
  have hrp:=hRp pre.length d (by rw[hx];simp) hdl2
  have htk:dl.take pre.length=pre:=by rw[hx];simp
  rw[htk]at hrp
  rw[d7k]at h
  simp -implicitDefEqProofs only[go_sem,hgx,hlt,b1x,Dl.enc]
  intro _ _
  refine hrp.calls (by simp -implicitDefEqProofs only[go_sem]) ?_
  cases hc:d7L pre d with
  | true =>
   rw[hc,if_pos rfl]at h
   have hr:c0h u dl=(6,d.unit,d.node):=by rw[c0h,h]
   rw[hr]
   simp -implicitDefEqProofs only[go_sem,hgx,hlt,b1x,Dl.enc]
   refine b0h (cs:=[]) b0v (by kernel_rfl) ?_
   simp -implicitDefEqProofs only[go_sem,hgx,hlt,b1x,Dl.enc,c2U]
  | false =>
   rw[hc,if_neg (by simp)]at h
   simp -implicitDefEqProofs only[go_sem,hgx,hlt,b1x,Dl.enc]
   exact⟨(),h,hw⟩
theorem d3a{u:List Un}(hu:b2T u):(c0h u (b0f u 0)).1=(b3p u (b0f u 0)).1:=by
 have hbl:=b1i (btU u) (b0f u 0)
 have hrep:d7k [] (b0f u 0)=b1V [] (b0f u 0):=by
  have:=d7w (fun d=>d∈b0f u 0) (fun d hd hk=>?_) (b0f u 0) [] (by simp) (fun d hd=>hd)
  ·simpa using this
  ·obtain⟨un,x,j,y,a,h1,h2,h3,h4⟩:=b4z u 0 d hd
   unfold b2S at h4
   repeat' split at h4
   all_goals first | (cases h4;done) | (cases h4;simp_all)
 have hno:(b0f u 0).find? (noB u (b0f u 0))=(b0f u 0).find? (b4a u (b0D (btU u) (b0f u 0))):=by
  refine b3H fun d hd=>?_
  unfold noB b4a upD
  by_cases h2:d.kind=2
  ·rw[b8t hd h2,g9D h2,g9O]
   by_cases hb:btU u d=⟨#[]⟩
   ·simp[hb]
   ·rw[if_neg hb,b1R,Option.isSome_map]
    congr 1
    rcases b2c (btU u d) (b0f u 0) 0 with⟨j,e,q1,q2,q3,q4,q5⟩ | ⟨q1,q2⟩
    ·rw[q1,q5];simp
    ·rw[q1,q2];simp
  ·have:b2x u d=(-1,⟨#[]⟩):=by rw[b2x,if_neg h2]
   rw[this,g9v h2];simp
 have hrn:(b0f u 0).find? (d7K u (b0f u 0))=(b0f u 0).find? (b3z (b0D (btU u) (b0f u 0))):=by
  refine b3H fun d hd=>?_
  by_cases h2:d.kind=2
  rotate_left
  ·rw[d7K,b3z,g9v h2,g9Q,g9Q]
  by_cases hn:d.name=⟨#[]⟩
  ·rw[d7K,b3z,hn,c3Z]
   cases decide ((b3D (b0D (btU u) (b0f u 0)) ⟨#[]⟩).2=⟨#[]⟩) <;> simp
  ·have hg:(b1B (b0D (btU u) (b0f u 0)) d.name).isSome=true:=by
    rw[b1R,Option.isSome_map,List.find?_isSome]
    exact⟨d,hd,by simp[b4u,h2]⟩
   rw[d7K,b3z,d6W _ (by simp[b2D,hn,hg]) (by omega)]
   congr 1
   by_cases he:(b3D (b0D (btU u) (b0f u 0)) d.name).2=d.name
   ·rw[he];simp[hn]
   ·simp[he]
 unfold c0h b3p c5K c4Z
 rw[hrep]
 cases b1V [] (b0f u 0)with
 | some d=>rfl
 | none =>
  simp only
  rw[hno]
  cases (b0f u 0).find? (b4a u (b0D (btU u) (b0f u 0)))with
  | some d=>rfl
  | none =>
   simp only
   rw[hrn]
   cases (b0f u 0).find? (b3z (b0D (btU u) (b0f u 0))) <;> rfl
end Go.Proofs.YtighfcpaplmaiaaGreatDoor
namespace Go.Vg
def c0s(k:Int)(t:ByteArray):Int:=if k=19∨k=11 then 6 else if k=20 then 1 else if k=22 then 2 else if k=5 then(if t=⟨#[105,110,116]⟩∨t=⟨#[98,111,111,108]⟩then 0 else 2)else if k=8 then(if t=⟨#[]⟩then 0 else 2)else 0
def c7I(l:List Rw)(k c:Nat):Bool:=decide (c<k) && decide ((b0j l c).kind=10)
def b8a(l:List Rw)(k c q:Nat):Bool:=decide (c<k) && (decide ((b0j l c).kind=3) && decide ((b0j l q).kind=4))
def b6F(l:List Rw)(p k:Nat):List Nat:=(if(b0j l p).kind=6 then(b0j l p).kids.filter (c7I l k)else [])++(if(b0j l p).kind=2∧(b0j l k).kind=6 then(b0j l p).kids.flatMap fun c=>(b0j l c).kids.filter (b8a l k c)else [])
def c8U(l:List Rw):Nat→Nat→List Nat
 | 0,_=>[]
 | f+1,k=>if(b0j l k).parent<0 then []else b6F l (b0j l k).parent.toNat k++(if(b0j l (b0j l k).parent.toNat).kind=2 then []else c8U l f (b0j l k).parent.toNat)
theorem c0F{α β:Type}{f:α→List β}{m:Nat}:∀ (l:List α),(∀ x∈l,(f x).length≤m)→(l.flatMap f).length≤l.length * m
 | [],_=>by simp
 | x::r,h=>by
  have h1:=c0F r fun y hy=>h y (by simp[hy])
  have h2:=h x (by simp)
  rw[List.flatMap_cons,g9d,g9k,Nat.succ_mul];omega
theorem c1o:∀ l:List Nat,b0R (l.map b0M)=true
 | []=>rfl
 | x::r=>by show(b1a (b0M x) && b0R (r.map b0M))=true;rw[c1o r];rfl
end Go.Vg
namespace Go.Proofs.YtighfcpaplmaiaaGreatDoor
open Go Go.Vg Go.Proofs
theorem c6W(r:Rw):b0u env 169 [.agg r.enc] (.int .i64 (c0s r.kind r.text)):=by
 refine b0i (fn:=Tryz.f169) Tryz.func169 rfl (by rw[Tryz.ntmps169];simp) (by simp -implicitDefEqProofs only[go_sem];exact b8v _) rfl ?_
 simp -implicitDefEqProofs only[go_sem,Tryz.f169,Rw.enc]
 repeat' (first | apply And.intro | intro)
 all_goals(simp only[V.int.injEq,true_and])
 all_goals(unfold c0s)
 all_goals simp_all
theorem d4D(r:Rw):b0u env 106 [.agg r.enc] (.bool (!decide (c0s r.kind r.text=0))):=by
 refine b0i (fn:=Tryz.f106) Tryz.func106 rfl (by rw[Tryz.ntmps106];simp) (by simp -implicitDefEqProofs only[go_sem];exact b8v _) rfl ?_
 simp -implicitDefEqProofs only[go_sem,Tryz.f106]
 refine(c6W r).calls (by simp -implicitDefEqProofs only[go_sem,b4D]) ?_
 simp -implicitDefEqProofs only[go_sem]
theorem c5U(l:List Rw)(hr:rowsOK l)(p k:Nat)(hp:p<l.length)(hk:k<l.length):b0u env 201 [sl 48 (l.map Rw.enc),.int .i64 p,.int .i64 k] (sl 3 ((b6F l p k).map b0M)):=by
 have hgp:=b0F hp
 have hgk:=b0F hk
 have hlp:((p:Int)<l.length)=True:=by simp;omega
 have hlk:((k:Int)<l.length)=True:=by simp;omega
 have hp0:(0≤(p:Int))=True:=by simp
 have hk0:(0≤(k:Int))=True:=by simp
 refine b0i (fn:=Tryz.f201) Tryz.func201 rfl (by rw[Tryz.ntmps201];simp) (by simp -implicitDefEqProofs only[go_sem];exact b0X _) (by simp -implicitDefEqProofs only[go_sem];exact c1o _) ?_
 have hkp:=(hr.kids p hp).1
 have hkpl:=(hr.kids p hp).2
 simp -implicitDefEqProofs only[go_sem,Tryz.f201,hgp,hgk,hlp,hlk,hp0,hk0,Rw.enc]
 refine⟨fun h6=>?_,fun h6=>⟨fun h2=>⟨fun hk6=>?_,fun hk6=>?_⟩,fun h2=>?_⟩⟩
 ·have hdc:b6F l p k=(b0j l p).kids.filter (c7I l k):=by rw[b6F,if_pos h6,if_neg (by omega),g9B]
  rw[hdc]
  generalize hks:(b0j l p).kids=ks at hgp hkp hkpl ⊢
  refine b0n (β:=Unit) ks (fun pre _=>⟨[(8,.int .i64 pre.length),(7,.slice (.arr 0) 3 ((pre.filter (c7I l k)).map b0M)),(0,sl 48 (l.map Rw.enc)),(1,.int .i64 p),(2,.int .i64 k)],[],[(pre.filter (c7I l k)).length]⟩)
   (fun _ _ _=>True) () ?_ trivial ?_ ?_
  ·simp -implicitDefEqProofs only[go_sem]
   exact⟨rfl,rfl⟩
  ·intro _ _
   simp -implicitDefEqProofs only[go_sem,hgp,hgk,hlp,hlk,hp0,hk0,hks,Rw.enc]
   intro _ _
   exact fun h2=>absurd h2 (by omega)
  ·rintro pre c post _ hx _
   have hpl:ks.length=pre.length+1+post.length:=by rw[hx];simp;omega
   have hgx:(ks.map b0M).getD (pre.length:Int).toNat []=b0M c:=by rw[hx];simp[g8Z]
   have hlt:((pre.length:Int)<ks.length)=True:=by simp;omega
   have hw:IntKind.i64.wrap (↑pre.length+1)=↑(pre.length+1):=b0g (by omega)
   have hcl:=hkpl c (by rw[hx];simp)
   have hgc:=b0F hcl
   have hlc:((c:Int)<l.length)=True:=by simp;omega
   have hc0:(0≤(c:Int))=True:=by simp
   have hfl:=h0j (c7I l k) pre
   have hf:(pre++[c]).filter (c7I l k)=pre.filter (c7I l k)++(if c7I l k c=true then [c]else []):=by
    rw[List.filter_append];congr 1
    cases h:c7I l k c <;> simp[h]
   simp -implicitDefEqProofs only[go_sem,hgp,hgk,hlp,hlk,hp0,hk0,hgx,hlt,hgc,hlc,hc0,hks,b0M,Rw.enc]
   intro _ _
   have hm:c7I l k c=(decide (c<k) && decide ((b0j l c).kind=10)):=rfl
   refine⟨fun g1=>⟨fun g2=>?_,fun g2=>?_⟩,fun g1=>?_⟩
   ·have:c7I l k c=true:=by rw[hm,g9D (by omega),g9D g2];rfl
    rw[hf,if_pos this]
    exact⟨by omega,(),⟨hw,by simp[b0M]⟩,by simp⟩
   ·have:c7I l k c=false:=by rw[hm,g9v g2];simp
    rw[hf,if_neg (by rw[this];simp),g9B]
    exact⟨(),⟨hw,rfl⟩,rfl⟩
   ·have:c7I l k c=false:=by rw[hm,g9v (by omega)];rfl
    rw[hf,if_neg (by rw[this];simp),g9B]
    exact⟨(),⟨hw,rfl⟩,rfl⟩
 ·have hdc:b6F l p k=(b0j l p).kids.flatMap fun c=>(b0j l c).kids.filter (b8a l k c):=by rw[b6F,if_neg h6,if_pos ⟨h2,hk6⟩];rfl
  rw[hdc]
  generalize hks:(b0j l p).kids=ks at hgp hkp hkpl ⊢
  refine b0n (β:=Unit) ks (fun pre _=>⟨[(10,.int .i64 pre.length),(7,.slice (.arr 0) 3 ((pre.flatMap fun c=>(b0j l c).kids.filter (b8a l k c)).map b0M)),(0,sl 48 (l.map Rw.enc)),(1,.int .i64 p),(2,.int .i64 k)],[],[(pre.flatMap fun c=>(b0j l c).kids.filter (b8a l k c)).length]⟩)
   (fun _ _ _=>True) () ?_ trivial ?_ ?_
  ·simp -implicitDefEqProofs only[go_sem]
   exact⟨rfl,rfl⟩
  ·intro _ _
   simp -implicitDefEqProofs only[go_sem,hgp,hgk,hlp,hlk,hp0,hk0,hks,Rw.enc]
  ·rintro pre c post _ hx _
   have hpl:ks.length=pre.length+1+post.length:=by rw[hx];simp;omega
   have hgx:(ks.map b0M).getD (pre.length:Int).toNat []=b0M c:=by rw[hx];simp[g8Z]
   have hlt:((pre.length:Int)<ks.length)=True:=by simp;omega
   have hw:IntKind.i64.wrap (↑pre.length+1)=↑(pre.length+1):=b0g (by omega)
   have hcl:=hkpl c (by rw[hx];simp)
   have hgc:=b0F hcl
   have hlc:((c:Int)<l.length)=True:=by simp;omega
   have hc0:(0≤(c:Int))=True:=by simp
   obtain⟨hkc,hkcl⟩:=hr.kids c hcl
   have hfl:(pre.flatMap fun c=>(b0j l c).kids.filter (b8a l k c)).length≤1000000000000:=by
    have hmm:∀ c∈pre,((b0j l c).kids.filter (b8a l k c)).length≤1000000:=fun c hc=>by
     have:=(hr.kids c (hkpl c (by rw[hx];simp[hc]))).1
     have:=h0j (b8a l k c) (b0j l c).kids
     omega
    have:=c0F pre hmm
    omega
   simp -implicitDefEqProofs only[go_sem,hgp,hgk,hlp,hlk,hp0,hk0,hgx,hlt,hgc,hlc,hc0,hks,b0M,Rw.enc]
   intro _ _
   generalize hjs:(b0j l c).kids=js at hkc hkcl
   generalize hO:(pre.flatMap fun c=>(b0j l c).kids.filter (b8a l k c))=O at hfl ⊢
   refine b0n (β:=Unit) js (fun q _=>⟨[(12,.int .i64 q.length),(11,.int .i64 c),(10,.int .i64 pre.length),(7,.slice (.arr 0) 3 ((O++q.filter (b8a l k c)).map b0M)),(0,sl 48 (l.map Rw.enc)),(1,.int .i64 p),(2,.int .i64 k)],[],[(O++q.filter (b8a l k c)).length]⟩)
    (fun _ _ _=>True) () ?_ trivial ?_ ?_
   ·simp -implicitDefEqProofs only[go_sem,List.filter_nil,g9B]
    rfl
   ·intro _ _
    simp -implicitDefEqProofs only[go_sem,hgp,hgk,hlp,hlk,hp0,hk0,hgx,hlt,hgc,hlc,hc0,hks,hjs,b0M,Rw.enc]
    intro _ _
    have hfm:(pre++[c]).flatMap (fun c=>(b0j l c).kids.filter (b8a l k c))=O++js.filter (b8a l k c):=by
     rw[List.flatMap_append,hO,List.flatMap_cons,List.flatMap_nil,g9B,hjs]
    rw[hfm]
    exact⟨(),⟨hw,rfl⟩,rfl⟩
   ·rintro q e post2 _ hx2 _
    have hpl2:js.length=q.length+1+post2.length:=by rw[hx2];simp;omega
    have hgx2:(js.map b0M).getD (q.length:Int).toNat []=b0M e:=by rw[hx2];simp[g8Z]
    have hlt2:((q.length:Int)<js.length)=True:=by simp;omega
    have hw2:IntKind.i64.wrap (↑q.length+1)=↑(q.length+1):=b0g (by omega)
    have hel:=hkcl e (by rw[hx2];simp)
    have hge:=b0F hel
    have hle:((e:Int)<l.length)=True:=by simp;omega
    have he0:(0≤(e:Int))=True:=by simp
    have hf:(q++[e]).filter (b8a l k c)=q.filter (b8a l k c)++(if b8a l k c e=true then [e]else []):=by
     rw[List.filter_append];congr 1
     cases h:b8a l k c e <;> simp[h]
    have hfq:=h0j (b8a l k c) q
    have hm:b8a l k c e=(decide (c<k) && (decide ((b0j l c).kind=3) && decide ((b0j l e).kind=4))):=rfl
    simp -implicitDefEqProofs only[go_sem,hgp,hgk,hlp,hlk,hp0,hk0,hgx,hlt,hgc,hlc,hc0,hks,hjs,hgx2,hlt2,hge,hle,he0,b0M,Rw.enc]
    intro _ _
    refine⟨fun g1=>⟨fun g2=>⟨fun g3=>?_,fun g3=>?_⟩,fun g2=>?_⟩,fun g1=>?_⟩
    ·have:b8a l k c e=true:=by rw[hm,g9D (by omega),g9D g2,g9D g3];rfl
     rw[hf,if_pos this]
     exact⟨by simp only[g9d];omega,(),⟨hw2,by simp[b0M]⟩,by simp;omega⟩
    ·have:b8a l k c e=false:=by rw[hm,g9v g3];simp
     rw[hf,if_neg (by rw[this];simp),g9B]
     exact⟨(),⟨hw2,rfl⟩,rfl⟩
    ·have:b8a l k c e=false:=by rw[hm,g9v g2];simp
     rw[hf,if_neg (by rw[this];simp),g9B]
     exact⟨(),⟨hw2,rfl⟩,rfl⟩
    ·have:b8a l k c e=false:=by rw[hm,g9v (by omega)];rfl
     rw[hf,if_neg (by rw[this];simp),g9B]
     exact⟨(),⟨hw2,rfl⟩,rfl⟩
 ·have hdc:b6F l p k=[]:=by rw[b6F,if_neg h6,if_neg (fun h=>hk6 h.2)];rfl
  rw[hdc];rfl
 ·have hdc:b6F l p k=[]:=by rw[b6F,if_neg h6,if_neg (fun h=>h2 h.1)];rfl
  rw[hdc];rfl
theorem d4O{l:List Rw}(hr:rowsOK l){p k:Nat}(hp:p<l.length):∀ c∈b6F l p k,c<l.length:=by
 intro c hc
 have hkp:=(hr.kids p hp).2
 unfold b6F at hc
 rcases g9A.1 hc with hc | hc
 ·split at hc
  ·exact hkp c (List.mem_filter.1 hc).1
  ·cases hc
 ·split at hc
  ·obtain⟨e,he,hc⟩:=List.mem_flatMap.1 hc
   exact(hr.kids e (hkp e he)).2 c (List.mem_filter.1 hc).1
  ·cases hc
theorem c6b(l:List Rw)(hr:rowsOK l)(i:Nat)(hi:i<l.length)(name:ByteArray):b0u env 170 [sl 48 (l.map Rw.enc),.int .i64 i,.str name] (.int .i64 (b1j l name (c8U l (i+1) i))):=by
 have hgi:=b0F hi
 have hli:((i:Int)<l.length)=True:=by simp;omega
 have hi0:(0≤(i:Int))=True:=by simp
 refine b0i (fn:=Tryz.f170) Tryz.func170 rfl (by rw[Tryz.ntmps170];simp) (by simp -implicitDefEqProofs only[go_sem];exact b0X _) rfl ?_
 simp -implicitDefEqProofs only[go_sem,Tryz.f170,hgi,hli,hi0,Rw.enc]
 generalize hgo:b1j l name (c8U l (i+1) i)=goal
 refine b1A (α:=Nat×Int×Nat) (fun s=>⟨[(8,.int .i64 s.2.1),(7,.int .i64 s.1),(6,.int .i64 0),(0,sl 48 (l.map Rw.enc)),(2,.str name)],[],[]⟩)
  (fun s=>s.1<l.length∧s.2.1=(b0j l s.1).parent∧s.1<s.2.2∧goal=b1j l name (c8U l s.2.2 s.1)) (fun s=>s.1) (i,(b0j l i).parent,i+1) ?_ ⟨hi,rfl,Nat.lt_succ_self _,hgo.symm⟩ ?_
 ·simp -implicitDefEqProofs only[go_sem]
  try rfl
 ·rintro⟨k,p,f⟩ ⟨h1,h2,h3,h4⟩
  simp only at h1 h2 h3 h4 ⊢
  obtain⟨f,rfl⟩:∃ f',f=f'+1:=⟨f - 1,by omega⟩
  rw[c8U,←h2]at h4
  have hpk:=hr.par k h1
  by_cases hp:p<0
  ·rw[if_pos hp]at h4
   have hpf:(0≤p)=False:=by simp;omega
   simp -implicitDefEqProofs only[go_sem,hpf]
   rw[h4];rfl
  ·rw[if_neg hp]at h4
   obtain⟨p,rfl⟩:=g9T (by omega:0≤p)
   have hpl:p<l.length:=by omega
   have hgp:=b0F hpl
   have hlp:((p:Int)<l.length)=True:=by simp;omega
   have hp0:(0≤(p:Int))=True:=by simp
   rw[g9j]at h4
   have hdl:=d4O hr hpl (k:=k)
   have hD:=c5U l hr p k hpl h1
   generalize b6F l p k=D at h4 hdl hD
   simp -implicitDefEqProofs only[go_sem,hgp,hlp,hp0,Rw.enc]
   refine hD.calls (by simp -implicitDefEqProofs only[go_sem]) ?_
   simp -implicitDefEqProofs only[go_sem,hgp,hlp,hp0,Rw.enc]
   refine b0n (β:=Unit) D (fun q _=>⟨[(10,.int .i64 q.length),(9,sl 3 (D.map b0M)),(8,.int .i64 p),(7,.int .i64 k),(6,.int .i64 0),(0,sl 48 (l.map Rw.enc)),(2,.str name)],[],[]⟩)
    (fun q post _=>∀ R,b1j l name (D++R)=b1j l name (post++R)) () ?_ (fun _=>rfl) ?_ ?_
   ·simp -implicitDefEqProofs only[go_sem]
    rfl
   ·intro _ hq
    rw[hq,g9M]at h4
    simp -implicitDefEqProofs only[go_sem,hgp,hlp,hp0,Rw.enc]
    refine fun _ _=>⟨fun g2=>?_,fun g2=>?_⟩
    ·rw[if_pos g2]at h4
     rw[h4];rfl
    ·rw[if_neg g2]at h4
     exact⟨(p,(b0j l p).parent,f),by simp only;omega,⟨hpl,rfl,by simp only;omega,h4⟩,rfl,rfl⟩
   ·rintro q c post _ hx hq
    have hpl2:D.length=q.length+1+post.length:=by rw[hx];simp;omega
    have hgx:(D.map b0M).getD (q.length:Int).toNat []=b0M c:=by rw[hx];simp[g8Z]
    have hlt:((q.length:Int)<D.length)=True:=by simp;omega
    have hcl:=hdl c (by rw[hx];simp)
    have hgc:=b0F hcl
    have hlc:((c:Int)<l.length)=True:=by simp;omega
    have hc0:(0≤(c:Int))=True:=by simp
    simp -implicitDefEqProofs only[go_sem,hgx,hlt,hgc,hlc,hc0,b0M,Rw.enc]
    intro _ _
    have hw:IntKind.i64.wrap (↑q.length+1)=↑(q.length+1):=b0g (by omega)
    refine⟨fun g=>?_,fun g=>⟨(),fun R=>?_,hw⟩⟩
    ·rw[h4,hq]
     unfold b1j
     rw[g8X,g9S,g9D g]
    ·rw[hq R]
     unfold b1j
     rw[g8X,g9S,g9v g]
def f2S(s:Int):Int:=if s=6 then 3 else s
def d9e(l:List Rw)(dl:List Dl)(un i:Nat):Option (Int×Int):=if c0s (b0j l i).kind (b0j l i).text=0 then none else if c0s (b0j l i).kind (b0j l i).text=6∧0≤b1j l (b0j l i).text (c8U l (i+1) i)then some (un,b1j l (b0j l i).text (c8U l (i+1) i))else(dl.find? (b5f (f2S (c0s (b0j l i).kind (b0j l i).text)) (b0j l i).text)).map fun d=>(d.unit,d.node)
theorem d4K(dl:List Dl)(hdl:dl.length≤1000000)(l:List Rw)(hr:rowsOK l)(un i:Nat)(hi:i<l.length):b0u env 107 [sl 54 (dl.map Dl.enc),sl 48 (l.map Rw.enc),.int .i64 un,.int .i64 i] (c0R (d9e l dl un i)):=by
 have hgi:=b0F hi
 have hli:((i:Int)<l.length)=True:=by simp;omega
 have hi0:(0≤(i:Int))=True:=by simp
 refine b0i (fn:=Tryz.f107) Tryz.func107 rfl (by rw[Tryz.ntmps107];simp) (by simp -implicitDefEqProofs only[go_sem];rw[b0G,b0X];rfl) (by simp -implicitDefEqProofs only[go_sem,c0R]) ?_
 have hS:=c6W (b0j l i)
 have hV:=c6b l hr i hi (b0j l i).text
 have hfg : -1≤b1j l (b0j l i).text (c8U l (i+1) i):=c3X ..
 have hfd:d9e l dl un i=if c0s (b0j l i).kind (b0j l i).text=0 then none else if c0s (b0j l i).kind (b0j l i).text=6∧0≤b1j l (b0j l i).text (c8U l (i+1) i)then some ((un:Int),b1j l (b0j l i).text (c8U l (i+1) i))else(dl.find? (b5f (f2S (c0s (b0j l i).kind (b0j l i).text)) (b0j l i).text)).map fun d=>(d.unit,d.node):=rfl
 generalize d9e l dl un i=goal at hfd ⊢
 generalize c0s (b0j l i).kind (b0j l i).text=s at hS hfd
 generalize b1j l (b0j l i).text (c8U l (i+1) i)=v at hV hfd hfg
 simp -implicitDefEqProofs only[go_sem,Tryz.f107,hgi,hli,hi0,Rw.enc]
 refine hS.calls (by simp -implicitDefEqProofs only[go_sem,Rw.enc]) ?_
 simp -implicitDefEqProofs only[go_sem,hgi,hli,hi0,Rw.enc]
 refine⟨fun h0=>?_,fun h0=>?_⟩
 ·rw[if_pos h0]at hfd
  rw[hfd];rfl
 rw[if_neg h0]at hfd
 by_cases h6:s=6
 ·refine⟨fun _=>?_,fun h=>absurd h6 h⟩
  refine hV.calls (by simp -implicitDefEqProofs only[go_sem]) ?_
  simp -implicitDefEqProofs only[go_sem]
  refine⟨fun hv=>?_,fun hv=>?_⟩
  ·rw[if_pos ⟨h6,hv⟩]at hfd
   rw[hfd];rfl
  rw[if_neg (fun h=>hv h.2),h6]at hfd
  replace hfd:goal=(dl.find? (b5f 3 (b0j l i).text)).map fun d=>(d.unit,d.node):=hfd
  generalize(3:Int)=kd at hfd
  refine b0n (β:=Unit) dl (fun pre _=>⟨[(13,.int .i64 pre.length),(11,.int .i64 kd),(9,.bool false),(8,.ptr 0 0),(0,sl 54 (dl.map Dl.enc)),(1,sl 48 (l.map Rw.enc)),(3,.int .i64 i)],[VObj.cells [V.int IntKind.i64 0,V.int IntKind.i64 0]],[]⟩)
   (fun pre post _=>goal=(post.find? (b5f kd (b0j l i).text)).map fun d=>(d.unit,d.node)) () ?_ hfd ?_ ?_
  ·simp -implicitDefEqProofs only[go_sem]
   rfl
  ·intro _ h
   have hg:goal=none:=h
   rw[hg]
   simp -implicitDefEqProofs only[go_sem,c0R]
   exact fun _ _=>rfl
  ·rintro pre d post _ hx h
   have hpl:dl.length=pre.length+1+post.length:=by rw[hx];simp;omega
   have hgx:(dl.map Dl.enc).getD (pre.length:Int).toNat []=d.enc:=by rw[hx];simp[g8Z]
   have hlt:((pre.length:Int)<dl.length)=True:=by simp;omega
   have hw:IntKind.i64.wrap (↑pre.length+1)=↑(pre.length+1):=b0g (by omega)
   have hm:b5f kd (b0j l i).text d=(decide (kd=d.kind) && decide ((b0j l i).text=d.name)):=rfl
   rw[g9S,hm]at h
   simp -implicitDefEqProofs only[go_sem,hgx,hlt,hgi,hli,hi0,Dl.enc,Rw.enc]
   intro _ _
   refine b0h (cs:=[]) b0v (by kernel_rfl) ?_
   simp -implicitDefEqProofs only[go_sem,hgx,hlt,hgi,hli,hi0,Dl.enc,Rw.enc]
   refine⟨fun g1=>⟨fun g2=>?_,fun g2=>?_⟩,fun g1=>?_⟩
   ·rw[g9D g1.symm,g9D g2.symm]at h
    have hg:goal=some (d.unit,d.node):=h
    rw[hg];rfl
   ·rw[g9v (fun e=>g2 e.symm:¬ (b0j l i).text=d.name),Bool.and_false]at h
    exact⟨(),h,hw⟩
   ·rw[g9v (fun e=>g1 e.symm:¬ kd=d.kind),g9Q]at h
    exact⟨(),h,hw⟩
 ·refine⟨fun h=>absurd h h6,fun _=>?_⟩
  rw[if_neg (fun h=>h6 h.1),f2S,if_neg h6]at hfd
  clear h0 h6 hS
  generalize s=kd at hfd ⊢
  refine b0n (β:=Unit) dl (fun pre _=>⟨[(13,.int .i64 pre.length),(11,.int .i64 kd),(9,.bool false),(8,.ptr 0 0),(0,sl 54 (dl.map Dl.enc)),(1,sl 48 (l.map Rw.enc)),(3,.int .i64 i)],[VObj.cells [V.int IntKind.i64 0,V.int IntKind.i64 0]],[]⟩)
   (fun pre post _=>goal=(post.find? (b5f kd (b0j l i).text)).map fun d=>(d.unit,d.node)) () ?_ hfd ?_ ?_
  ·simp -implicitDefEqProofs only[go_sem]
   rfl
  ·intro _ h
   have hg:goal=none:=h
   rw[hg]
   simp -implicitDefEqProofs only[go_sem,c0R]
   exact fun _ _=>rfl
  ·rintro pre d post _ hx h
   have hpl:dl.length=pre.length+1+post.length:=by rw[hx];simp;omega
   have hgx:(dl.map Dl.enc).getD (pre.length:Int).toNat []=d.enc:=by rw[hx];simp[g8Z]
   have hlt:((pre.length:Int)<dl.length)=True:=by simp;omega
   have hw:IntKind.i64.wrap (↑pre.length+1)=↑(pre.length+1):=b0g (by omega)
   have hm:b5f kd (b0j l i).text d=(decide (kd=d.kind) && decide ((b0j l i).text=d.name)):=rfl
   rw[g9S,hm]at h
   simp -implicitDefEqProofs only[go_sem,hgx,hlt,hgi,hli,hi0,Dl.enc,Rw.enc]
   intro _ _
   refine b0h (cs:=[]) b0v (by kernel_rfl) ?_
   simp -implicitDefEqProofs only[go_sem,hgx,hlt,hgi,hli,hi0,Dl.enc,Rw.enc]
   refine⟨fun g1=>⟨fun g2=>?_,fun g2=>?_⟩,fun g1=>?_⟩
   ·rw[g9D g1.symm,g9D g2.symm]at h
    have hg:goal=some (d.unit,d.node):=h
    rw[hg];rfl
   ·rw[g9v (fun e=>g2 e.symm:¬ (b0j l i).text=d.name),Bool.and_false]at h
    exact⟨(),h,hw⟩
   ·rw[g9v (fun e=>g1 e.symm:¬ kd=d.kind),g9Q]at h
    exact⟨(),h,hw⟩
def b7Y(l:List Rw)(dl:List Dl)(un i:Nat):List Us:=if c0s (b0j l i).kind (b0j l i).text=0 then []else [⟨un,i,d9e l dl un i⟩]
def b4c(l:List Rw)(dl:List Dl)(un:Nat):Nat→List Us
 | 0=>[]
 | i+1=>b4c l dl un i++b7Y l dl un i
def b2Y(tb:List (List Rw))(dl:List Dl):Nat→List Us
 | 0=>[]
 | n+1=>b2Y tb dl n++b4c (tb.getD n []) dl n (tb.getD n []).length
theorem b7L(l:List Rw)(dl:List Dl)(un:Nat):∀ i,(b4c l dl un i).length≤i
 | 0=>by simp[b4c]
 | i+1=>by
  have h1:=b7L l dl un i
  have h2:(b7Y l dl un i).length≤1:=by unfold b7Y;split <;> simp
  rw[b4c,g9d];omega
theorem b7T{tb:List (List Rw)}(dl:List Dl)(hT:∀ l∈tb,l.length≤1000):∀ n,(b2Y tb dl n).length≤n * 1000
 | 0=>by simp[b2Y]
 | n+1=>by
  have h1:=b7T dl hT n
  have h2:=b7L (tb.getD n []) dl n (tb.getD n []).length
  have h3:(tb.getD n []).length≤1000:=by
   rw[g8Z]
   cases hx:tb[n]? with
   | none=>simp
   | some x=>exact hT x (g9f hx)
  rw[b2Y,g9d];omega
theorem d1f(u:List Un)(hu:b2T u):b0u env 72 [sl 70 (u.map Un.enc)] (sl 163 ((b2Y (b0e u) (b0f u 0) (b0e u).length).map Us.enc)):=by
 have hdl:=b0L u 0 fun y hy=>(hu.2 y hy).1
 have hul:=hu.1
 have hD:=b6P u hu
 have hTb:=c3V u hu
 have htl:(b0e u).length≤1000:=by unfold b0e;rw[g9r];exact hul
 have hT:∀ l∈b0e u,l.length≤1000:=fun l hl=>by
  obtain⟨x,hx,rfl⟩:=h0k.1 hl
  split
  ·simp
  ·rw[b0N];exact(hu.2 x hx).1
 have htk:=b8R hu
 refine b0i (fn:=Tryz.f72) Tryz.func72 rfl (by rw[Tryz.ntmps72];simp) (by simp -implicitDefEqProofs only[go_sem];exact b0x _) (by simp -implicitDefEqProofs only[go_sem];exact b2B _) ?_
 simp -implicitDefEqProofs only[go_sem,Tryz.f72]
 refine hD.calls (by simp -implicitDefEqProofs only[go_sem]) ?_
 simp -implicitDefEqProofs only[go_sem]
 refine hTb.calls (by simp -implicitDefEqProofs only[go_sem]) ?_
 generalize b0f u 0=dl at hdl ⊢
 generalize b0e u=tb at htl hT htk ⊢
 simp -implicitDefEqProofs only[go_sem]
 refine b0n (β:=Unit) tb (fun pre _=>⟨[(6,.int .i64 pre.length),(5,.slice (.arr 0) 163 ((b2Y tb dl pre.length).map Us.enc)),(4,sl 45 (tb.map b0q)),(3,sl 54 (dl.map Dl.enc))],[],[(b2Y tb dl pre.length).length]⟩)
  (fun _ _ _=>True) () ?_ trivial ?_ ?_
 ·simp -implicitDefEqProofs only[go_sem]
  exact⟨rfl,rfl⟩
 ·intro _ _
  simp -implicitDefEqProofs only[go_sem]
 ·rintro pre l post _ hx _
  have hpl:tb.length=pre.length+1+post.length:=by rw[hx];simp;omega
  have hgx:(tb.map b0q).getD (pre.length:Int).toNat []=b0q l:=by rw[hx];simp[g8Z]
  have hlt:((pre.length:Int)<tb.length)=True:=by simp;omega
  have hw:IntKind.i64.wrap (↑pre.length+1)=↑(pre.length+1):=b0g (by omega)
  have hlx:tb[pre.length]? = some l:=by rw[hx];simp
  have hll:=hT l (g9f hlx)
  have hro:=htk l (g9f hlx)
  have hA:=b7T dl hT pre.length
  have hmid:b2Y tb dl (pre.length+1)=b2Y tb dl pre.length++b4c l dl pre.length l.length:=by rw[b2Y,g8Z,hlx];rfl
  simp -implicitDefEqProofs only[go_sem,hgx,hlt,b0q]
  intro _ _
  refine b0n (β:=Unit) l (fun q _=>⟨[(7,.int .i64 q.length),(6,.int .i64 pre.length),(5,.slice (.arr 0) 163 ((b2Y tb dl pre.length++b4c l dl pre.length q.length).map Us.enc)),(4,sl 45 (tb.map b0q)),(3,sl 54 (dl.map Dl.enc))],[],[(b2Y tb dl pre.length++b4c l dl pre.length q.length).length]⟩)
   (fun _ _ _=>True) () ?_ trivial ?_ ?_
  ·simp -implicitDefEqProofs only[go_sem,b4c,g9B]
   rfl
  ·intro _ _
   simp -implicitDefEqProofs only[go_sem,hgx,hlt,b0q]
   intro _ _
   rw[hmid]
   exact⟨(),⟨hw,rfl⟩,rfl⟩
  ·rintro q r post2 _ hx2 _
   have hpl2:l.length=q.length+1+post2.length:=by rw[hx2];simp;omega
   have hgx2:(l.map Rw.enc).getD (q.length:Int).toNat []=r.enc:=by rw[hx2];simp[g8Z]
   have hlt2:((q.length:Int)<l.length)=True:=by simp;omega
   have hw2:IntKind.i64.wrap (↑q.length+1)=↑(q.length+1):=b0g (by omega)
   have hrq:b0j l q.length=r:=by rw[hx2];simp[b0j,g8Z]
   have hmid2:b4c l dl pre.length (q.length+1)=b4c l dl pre.length q.length++b7Y l dl pre.length q.length:=rfl
   have hu2:b7Y l dl pre.length q.length=if c0s r.kind r.text=0 then []else [⟨pre.length,q.length,d9e l dl pre.length q.length⟩]:=by rw[b7Y,hrq]
   have hR:=b7L l dl pre.length q.length
   have hIs:=d4D r
   have hFn:=d4K dl (by omega) l hro pre.length q.length (by omega)
   simp -implicitDefEqProofs only[go_sem,hgx,hlt,hgx2,hlt2,b0q,Rw.enc]
   intro _ _
   refine hIs.calls (by simp -implicitDefEqProofs only[go_sem,Rw.enc]) ?_
   by_cases hs:c0s r.kind r.text=0
   ·rw[if_pos hs]at hu2
    rw[g9D hs]
    simp -implicitDefEqProofs only[go_sem,hgx,hlt,hgx2,hlt2,b0q,Rw.enc]
    rw[hmid2,hu2,g9B]
    exact⟨(),⟨hw2,rfl⟩,rfl⟩
   ·rw[if_neg hs]at hu2
    rw[g9v hs]
    simp -implicitDefEqProofs only[go_sem,hgx,hlt,hgx2,hlt2,b0q,Rw.enc]
    refine hFn.calls (by simp -implicitDefEqProofs only[go_sem]) ?_
    generalize d9e l dl pre.length q.length=fo at hu2
    simp -implicitDefEqProofs only[go_sem,c0R,hgx,hlt,hgx2,hlt2,b0q,Rw.enc]
    rw[hmid2,hu2]
    refine⟨by simp only[g9d];omega,(),⟨hw2,by simp[Us.enc]⟩,by simp;omega,.inr ?_⟩
    rw[b0m _ _ _ (b2B _),b0m _ _ _ (b1e _),b0m _ _ _ (b0G _)]
    rfl
theorem c8t(u:List Un)(hu:b2T u):b0u env 103 [sl 70 (u.map Un.enc)] (sl 24 ((b6s (b2Y (b0e u) (b0f u 0) (b0e u).length)).map atE)):=by
 have hU:=d1f u hu
 have hul:=hu.1
 have htl:(b0e u).length≤1000:=by unfold b0e;rw[g9r];exact hul
 have hT:∀ l∈b0e u,l.length≤1000:=fun l hl=>by
  obtain⟨x,hx,rfl⟩:=h0k.1 hl
  split
  ·simp
  ·rw[b0N];exact(hu.2 x hx).1
 have hL:=b7T (b0f u 0) hT (b0e u).length
 refine b0i (fn:=Tryz.f103) Tryz.func103 rfl (by rw[Tryz.ntmps103];simp) (by simp -implicitDefEqProofs only[go_sem];exact b0x _) (by simp -implicitDefEqProofs only[go_sem];exact b5U _) ?_
 generalize b2Y (b0e u) (b0f u 0) (b0e u).length=L at hU hL ⊢
 simp -implicitDefEqProofs only[go_sem,Tryz.f103]
 refine hU.calls (by simp -implicitDefEqProofs only[go_sem]) ?_
 simp -implicitDefEqProofs only[go_sem]
 refine b0n (β:=Unit) L (fun pre _=>⟨[(5,.int .i64 pre.length),(4,.slice (.arr 0) 24 ((b6s pre).map atE)),(3,sl 163 (L.map Us.enc))],[],[(b6s pre).length]⟩)
  (fun _ _ _=>True) () ?_ trivial ?_ ?_
 ·simp -implicitDefEqProofs only[go_sem]
  exact⟨rfl,rfl⟩
 ·intro _ _
  simp -implicitDefEqProofs only[go_sem]
 ·rintro pre x post _ hx _
  have hpl:L.length=pre.length+1+post.length:=by rw[hx];simp;omega
  have hgx:(L.map Us.enc).getD (pre.length:Int).toNat []=x.enc:=by rw[hx];simp[g8Z]
  have hlt:((pre.length:Int)<L.length)=True:=by simp;omega
  have hw:IntKind.i64.wrap (↑pre.length+1)=↑(pre.length+1):=b0g (by omega)
  have hfl:(b6s pre).length≤pre.length:=h0j ..
  have hsn:b6s (pre++[x])=b6s pre++(if x.to.isNone=true then [x]else []):=by
   unfold b6s;rw[List.filter_append];congr 1
   cases h:x.to.isNone <;> simp[h]
  simp -implicitDefEqProofs only[go_sem,hgx,hlt,Us.enc]
  rw[hsn]
  refine fun _ _=>⟨fun h=>?_,fun h=>?_⟩
  ·have hn:x.to.isNone=true:=by cases hx:x.to <;> simp_all
   rw[if_pos hn]
   exact⟨by omega,(),⟨hw,by simp[atE]⟩,by simp⟩
  ·have hn:¬ x.to.isNone=true:=by cases hx:x.to <;> simp_all
   rw[if_neg hn,g9B]
   exact⟨(),⟨hw,rfl⟩,rfl⟩
end Go.Proofs.YtighfcpaplmaiaaGreatDoor
