import Derived.Test.YtighfcpaplmaiaaGreatDoorUbE
import Derived.Test.YtighfcpaplmaiaaGreatDoorTnF
import Derived.Test.YtighfcpaplmaiaaGreatDoorVgQ
import Derived.Test.YtighfcpaplmaiaaGreatDoorTnB
set_option linter.unusedVariables false
set_option linter.unusedSimpArgs false
set_option maxRecDepth 20000
set_option maxHeartbeats 20000000
namespace Go.Vg
structure Pk where
 kind:Int
 un:Int
 par:Int
 name:ByteArray
 deriving DecidableEq
def Pk.enc(k:Pk):List V:=[.int .i64 k.kind,.int .i64 k.un,.int .i64 k.par,.str k.name]
def c4E(l:List Pk):List (V×V):=l.map fun k=>(.agg k.enc,.bool true)
def eqP(a b:Pk):Bool:=decide (a.kind=b.kind) && (decide (a.un=b.un) && (decide (a.par=b.par) && decide (a.name=b.name)))
theorem d1K{a b:Pk}:eqP a b=true↔a=b:=by
 unfold eqP
 cases a;cases b
 simp
theorem f0h(k:Pk):∀ (l:List Pk) (i:Nat),(∃ j,b1f [1,1,1,0] k.enc (c4E l) i=some (some (i+j,.bool true))∧l[j]? = some k∧(l.any fun x=>decide (x=k))=true)∨(b1f [1,1,1,0] k.enc (c4E l) i=some none∧(l.any fun x=>decide (x=k))=false)
 | [],i => .inr ⟨rfl,rfl⟩
 | e::r,i=>by
  have heq:eqL k.enc e.enc=some (eqP k e):=by
   simp only[Pk.enc,eqL,eq1,h0b];rfl
  have h1:b1f [1,1,1,0] k.enc (c4E (e::r)) i=if eqP k e=true then some (some (i,.bool true))else b1f [1,1,1,0] k.enc (c4E r) (i+1):=by
   simp only[c4E,g9o,b1f,heq]
   have hf:b3A [1,1,1,0] k.enc e.enc=true:=rfl
   rw[if_pos hf]
   cases eqP k e <;> rfl
  rw[h1,List.any_cons]
  by_cases h:eqP k e=true
  ·have:=d1K.1 h
   subst this
   exact .inl ⟨0,by rw[if_pos h];rfl,rfl,by simp⟩
  ·rw[if_neg h]
   have hne:¬ e=k:=fun he=>h (d1K.2 he.symm)
   rw[g9v hne,g9U]
   rcases f0h k r (i+1)with⟨j,g1,g2,g3⟩ | ⟨g1,g2⟩
   ·exact .inl ⟨j+1,by rw[g1,show i+1+j=i+(j+1)by omega],by simpa using g2,g3⟩
   ·exact .inr ⟨g1,g2⟩
def c0v(tb:List (List Rw))(d:Dl):Pk:=if d.kind=5∨d.kind=6∨d.kind=4 then⟨d.kind,d.unit,(b0j (tb.getD d.unit.toNat []) d.node.toNat).parent,d.name⟩else⟨d.kind,0,0,d.name⟩
def b7I(tb:List (List Rw))(p:List Pk×List Dl)(d:Dl):List Pk×List Dl:=if(p.1.any fun x=>decide (x=c0v tb d))=true then(p.1,p.2++[d])else(p.1++[c0v tb d],p.2)
def b8c(tb:List (List Rw))(l:List Dl):List Pk×List Dl:=l.foldl (b7I tb) ([],[])
theorem d0G(tb:List (List Rw))(l:List Dl)(d:Dl):b8c tb (l++[d])=b7I tb (b8c tb l) d:=by simp[b8c]
theorem d4x(tb:List (List Rw))(l:List Dl):(b8c tb l).2.length≤l.length:=by
 have key:∀ (l:List Dl) (p:List Pk×List Dl),(l.foldl (b7I tb) p).2.length≤p.2.length+l.length:=by
  intro l
  induction l with
  | nil=>intro p;simp
  | cons d r ih =>
   intro p
   have h1:=ih (b7I tb p d)
   have h2:(b7I tb p d).2.length≤p.2.length+1:=by unfold b7I;split <;> simp
   rw[g9G,g9k];omega
 have:=key l ([],[])
 simpa[b8c]using this
end Go.Vg
namespace Go.Proofs.YtighfcpaplmaiaaGreatDoor
open Go Go.Vg Go.Proofs
theorem b6e:b3f Tryz.prog 199=some [1,1,1,0]:=by kernel_rfl
theorem b4s:∀ l:List Dl,b0R (l.map c2w)=true
 | []=>rfl
 | n::r=>by show(b1a _ && b0R (r.map c2w))=true;rw[b4s r];rfl
theorem c6l{l:List Pk}{k:Pk}{K:V→Prop}:b1G env 4 (b1f [1,1,1,0] [.int .i64 k.kind,.int .i64 k.un,.int .i64 k.par,.str k.name] (c4E l) 0) false K=K (.bool (l.any fun x=>decide (x=k))):=by
 have e:[V.int .i64 k.kind,.int .i64 k.un,.int .i64 k.par,.str k.name]=k.enc:=rfl
 rw[e]
 rcases f0h k l 0 with⟨j,h1,_,h2⟩ | ⟨h1,h2⟩
 ·rw[h1,h2];simp -implicitDefEqProofs only[go_sem]
 ·rw[h1,h2];simp -implicitDefEqProofs only[go_sem];rfl
theorem d5Q{l:List Pk}{k:Pk}{h:List VObj}{id:Nat}{L:List VObj→Prop}:b3I h id (c4E l) (.agg [.int .i64 k.kind,.int .i64 k.un,.int .i64 k.par,.str k.name]) (.bool true) (b1f [1,1,1,0] [.int .i64 k.kind,.int .i64 k.un,.int .i64 k.par,.str k.name] (c4E l) 0) L=L (h.set id (.map (c4E (if(l.any fun x=>decide (x=k))=true then l else l++[k])))):=by
 have e:[V.int .i64 k.kind,.int .i64 k.un,.int .i64 k.par,.str k.name]=k.enc:=rfl
 rw[e]
 rcases f0h k l 0 with⟨j,h1,h2,h3⟩ | ⟨h1,h2⟩
 ·rw[h1,if_pos h3,g9s]
  simp -implicitDefEqProofs only[go_sem]
  have:(c4E l).set j (.agg k.enc,.bool true)=c4E l:=b3j (by rw[c4E,g9q,h2];rfl)
  rw[this]
 ·rw[h1,if_neg (by rw[h2];simp)];simp -implicitDefEqProofs only[go_sem];simp[c4E]
theorem c2m(k ka:Nat):∀ l:List Pk,ltP k ka (c4E l)=true
 | []=>rfl
 | x::r=>by
  have:=c2m k ka r
  have hx:(V.agg x.enc).lt k ka=true:=by simp[V.lt,Pk.enc,ltL]
  simp only[c4E,g9o,ltP]at this ⊢
  rw[hx,this]
  simp[V.lt]
def wkD:Wk := .one 0 (.one 1 (.one 2 (.one 3 (.one 4 (.one 5 (.one 7 (.one 8 (.one 12 (.one 13 (.one 18 (.br 6 (.br 9 (.one 10 (.br 11 (.br 14 (.one 15 (.one 16 (.br 17 (.one 19 (.one 20 (.one 21 (.stop)))) (.br 19 (.one 17 (.one 20 (.one 21 (.stop)))) (.stop))))) (.br 19 (.one 14 (.one 15 (.one 16 (.one 17 (.one 20 (.one 21 (.stop))))))) (.stop))) (.br 14 (.br 11 (.one 15 (.one 16 (.br 17 (.one 19 (.one 20 (.one 21 (.stop)))) (.br 19 (.one 17 (.one 20 (.one 21 (.stop)))) (.stop))))) (.br 19 (.one 11 (.one 15 (.one 16 (.one 17 (.one 20 (.one 21 (.stop))))))) (.stop))) (.br 19 (.one 11 (.one 14 (.one 15 (.one 16 (.one 17 (.one 20 (.one 21 (.stop)))))))) (.stop))))) (.br 14 (.br 9 (.one 10 (.br 11 (.one 15 (.one 16 (.br 17 (.one 19 (.one 20 (.one 21 (.stop)))) (.br 19 (.one 17 (.one 20 (.one 21 (.stop)))) (.stop))))) (.br 19 (.one 11 (.one 15 (.one 16 (.one 17 (.one 20 (.one 21 (.stop))))))) (.stop)))) (.br 19 (.one 9 (.one 10 (.one 11 (.one 15 (.one 16 (.one 17 (.one 20 (.one 21 (.stop))))))))) (.stop))) (.br 19 (.one 9 (.one 10 (.one 11 (.one 14 (.one 15 (.one 16 (.one 17 (.one 20 (.one 21 (.stop)))))))))) (.stop)))) (.br 9 (.br 6 (.one 10 (.br 11 (.br 14 (.one 15 (.one 16 (.br 17 (.one 19 (.one 20 (.one 21 (.stop)))) (.br 19 (.one 17 (.one 20 (.one 21 (.stop)))) (.stop))))) (.br 19 (.one 14 (.one 15 (.one 16 (.one 17 (.one 20 (.one 21 (.stop))))))) (.stop))) (.br 14 (.br 11 (.one 15 (.one 16 (.br 17 (.one 19 (.one 20 (.one 21 (.stop)))) (.br 19 (.one 17 (.one 20 (.one 21 (.stop)))) (.stop))))) (.br 19 (.one 11 (.one 15 (.one 16 (.one 17 (.one 20 (.one 21 (.stop))))))) (.stop))) (.br 19 (.one 11 (.one 14 (.one 15 (.one 16 (.one 17 (.one 20 (.one 21 (.stop)))))))) (.stop))))) (.br 14 (.br 6 (.one 10 (.br 11 (.one 15 (.one 16 (.br 17 (.one 19 (.one 20 (.one 21 (.stop)))) (.br 19 (.one 17 (.one 20 (.one 21 (.stop)))) (.stop))))) (.br 19 (.one 11 (.one 15 (.one 16 (.one 17 (.one 20 (.one 21 (.stop))))))) (.stop)))) (.br 19 (.one 6 (.one 10 (.one 11 (.one 15 (.one 16 (.one 17 (.one 20 (.one 21 (.stop))))))))) (.stop))) (.br 19 (.one 6 (.one 10 (.one 11 (.one 14 (.one 15 (.one 16 (.one 17 (.one 20 (.one 21 (.stop)))))))))) (.stop)))) (.br 14 (.br 6 (.br 9 (.one 10 (.br 11 (.one 15 (.one 16 (.br 17 (.one 19 (.one 20 (.one 21 (.stop)))) (.br 19 (.one 17 (.one 20 (.one 21 (.stop)))) (.stop))))) (.br 19 (.one 11 (.one 15 (.one 16 (.one 17 (.one 20 (.one 21 (.stop))))))) (.stop)))) (.br 19 (.one 9 (.one 10 (.one 11 (.one 15 (.one 16 (.one 17 (.one 20 (.one 21 (.stop))))))))) (.stop))) (.br 9 (.br 6 (.one 10 (.br 11 (.one 15 (.one 16 (.br 17 (.one 19 (.one 20 (.one 21 (.stop)))) (.br 19 (.one 17 (.one 20 (.one 21 (.stop)))) (.stop))))) (.br 19 (.one 11 (.one 15 (.one 16 (.one 17 (.one 20 (.one 21 (.stop))))))) (.stop)))) (.br 19 (.one 6 (.one 10 (.one 11 (.one 15 (.one 16 (.one 17 (.one 20 (.one 21 (.stop))))))))) (.stop))) (.br 19 (.one 6 (.one 9 (.one 10 (.one 11 (.one 15 (.one 16 (.one 17 (.one 20 (.one 21 (.stop)))))))))) (.stop)))) (.br 19 (.one 6 (.one 9 (.one 10 (.one 11 (.one 14 (.one 15 (.one 16 (.one 17 (.one 20 (.one 21 (.stop))))))))))) (.stop)))))))))))))))
theorem d4b(u:List Un)(hu:b2T u):b0u env 93 [sl 70 (u.map Un.enc)] (sl 24 ((b8c (b0e u) (b0f u 0)).2.map c2w)):=by
 have hdl:=b0L u 0 fun y hy=>(hu.2 y hy).1
 have hul:=hu.1
 refine b0i (fn:=Tryz.f93) Tryz.func93 rfl (by rw[Tryz.ntmps93];simp) (by simp -implicitDefEqProofs only[go_sem];exact b0x _) (by simp -implicitDefEqProofs only[go_sem];exact b4s _) ?_
 simp -implicitDefEqProofs only[go_sem,Tryz.f93]
 refine b0r.mono (f2U u hu) ?_
 rintro v h' a' ⟨rfl,rfl,rfl⟩
 simp -implicitDefEqProofs only[go_sem]
 intro _ _
 generalize hDD:b0f u 0=dl at hdl ⊢
 refine b0n (β:=Unit) dl (fun pre _=>⟨[(17,.int .i64 pre.length),(16,.int .i64 dl.length),(15,sl 54 (dl.map Dl.enc)),(5,.slice (.arr 1) 24 ((b8c (b0e u) pre).2.map c2w)),(4,.map 2),(3,.ptr 1 0),(2,.slice .nil 0 [])],
   [.map (c2Y (b1Y dl)),.cells [.slice (.arr 0) 45 ((b0e u).map b0q),.map 0,sl 54 (dl.map Dl.enc)],.map (c4E (b8c (b0e u) pre).1)],[u.length,(b8c (b0e u) pre).2.length]⟩) (fun _ _ _=>True) () ?_ trivial ?_ ?_
 ·simp -implicitDefEqProofs only[go_sem]
  exact⟨⟨rfl,rfl⟩,rfl⟩
 ·intro _ _
  simp -implicitDefEqProofs only[go_sem]
 ·rintro pre d post _ hx _
  have hpl:dl.length=pre.length+1+post.length:=by rw[hx];simp;omega
  have hgx:(dl.map Dl.enc).getD (pre.length:Int).toNat []=d.enc:=by rw[hx];simp[g8Z]
  have hw:IntKind.i64.wrap (↑pre.length+1)=↑(pre.length+1):=b0g (by omega)
  have hlt:((pre.length:Int)<dl.length)=True:=by simp;omega
  have hsn:=d0G (b0e u) pre d
  have hml:=d4x (b0e u) pre
  obtain⟨un,x,e1,e2,e3,nd,y,e4,e5,e6,e7,e8⟩:=b4y u 0 d (by rw[hDD,hx];simp)
  rw[g9s]at e1 e4
  have htt:(b0e u)[un]? = some (b0z x.tree (-1) 0):=by unfold b0e;rw[g9q,e2];simp[e3]
  have htg:(b0e u).getD d.unit.toNat []=b0z x.tree (-1) 0:=by rw[e1,g9j,g8Z,htt];rfl
  have hll:nd<(b0z x.tree (-1) 0).length:=by rw[b0N];exact(g8Y.1 e5).1
  generalize b0z x.tree (-1) 0=l at htt htg hll
  have htu:((b0e u).map b0q).getD d.unit.toNat []=b0q l:=by rw[e1,g9j,g8Z,g9q,htt];rfl
  have hu0:(0≤d.unit)=True:=by simp[e1]
  have hu1:(d.unit<((b0e u).length:Int))=True:=by
   have:=(g8Y.1 htt).1
   simp[e1];omega
  have hndl:nd<l.length:=hll
  have hrg:(l.map Rw.enc).getD d.node.toNat []=(b0j l nd).enc:=by rw[e4,g9j];exact c7z hndl
  have hn0:(0≤d.node)=True:=by simp[e4]
  have hn1:(d.node<(l.length:Int))=True:=by simp[e4];omega
  by_cases h5:d.kind=5
  ·have hkp:c0v (b0e u) d=(⟨5,d.unit,(b0j l nd).parent,d.name⟩:Pk):=by
    unfold c0v
    rw[if_pos (by omega),h5,htg,e4,g9j]
   have hlk:=@c6l (b8c (b0e u) pre).1 (⟨5,d.unit,(b0j l nd).parent,d.name⟩:Pk)
   have hst:=fun h id L=>@d5Q (b8c (b0e u) pre).1 (⟨5,d.unit,(b0j l nd).parent,d.name⟩:Pk) h id L
   simp only at hlk hst
   simp -implicitDefEqProofs only[go_sem,hgx,hlt,h5]
   refine b1g (cs:=[]) wkD b0v (by kernel_rfl) ?_
   simp -implicitDefEqProofs only[go_sem,wkD,hgx,htu,hu0,hu1,b0q,hrg,hn0,hn1,Rw.enc,b6e,hlk,hst,h5]
   have hq:∀ m,b6J 3 2 ((m:List Dl).map c2w)=true:=fun m=>b0m _ _ _ (b4s m)
   have ht1:=b0m 3 2 _ (b1e (b0e u))
   have ht2:=b0m 3 2 _ (b0G dl)
   generalize b8c (b0e u) pre=p at hsn hml ⊢
   refine⟨fun ha=>?_,fun ha=>?_⟩
   ·have hp:b7I (b0e u) p d=(p.1,p.2++[d]):=by rw[b7I,hkp,if_pos ha]
    rw[hsn,hp,if_pos ha,b7w,c2m,ht1,ht2,hq]
    exact⟨by omega,(),⟨hw,by simp[c2w]⟩,rfl,by simp,.inr ⟨rfl,rfl⟩⟩
   ·have hne:¬ (p.1.any fun x=>decide (x=(⟨5,d.unit,(b0j l nd).parent,d.name⟩:Pk)))=true:=by rw[ha];simp
    have hp:b7I (b0e u) p d=(p.1++[(⟨5,d.unit,(b0j l nd).parent,d.name⟩:Pk)],p.2):=by rw[b7I,hkp,if_neg hne]
    rw[hsn,hp,if_neg hne,b7w,c2m,ht1,ht2,hq]
    exact⟨(),⟨hw,rfl⟩,rfl,rfl,.inr ⟨rfl,rfl⟩⟩
  by_cases h6:d.kind=6
  ·have hkp:c0v (b0e u) d=(⟨6,d.unit,(b0j l nd).parent,d.name⟩:Pk):=by
    unfold c0v
    rw[if_pos (by omega),h6,htg,e4,g9j]
   have hlk:=@c6l (b8c (b0e u) pre).1 (⟨6,d.unit,(b0j l nd).parent,d.name⟩:Pk)
   have hst:=fun h id L=>@d5Q (b8c (b0e u) pre).1 (⟨6,d.unit,(b0j l nd).parent,d.name⟩:Pk) h id L
   simp only at hlk hst
   simp -implicitDefEqProofs only[go_sem,hgx,hlt,h5,h6]
   refine b1g (cs:=[]) wkD b0v (by kernel_rfl) ?_
   simp -implicitDefEqProofs only[go_sem,wkD,hgx,htu,hu0,hu1,b0q,hrg,hn0,hn1,Rw.enc,b6e,hlk,hst,h5,h6]
   have hq:∀ m,b6J 3 2 ((m:List Dl).map c2w)=true:=fun m=>b0m _ _ _ (b4s m)
   have ht1:=b0m 3 2 _ (b1e (b0e u))
   have ht2:=b0m 3 2 _ (b0G dl)
   generalize b8c (b0e u) pre=p at hsn hml ⊢
   refine⟨fun ha=>?_,fun ha=>?_⟩
   ·have hp:b7I (b0e u) p d=(p.1,p.2++[d]):=by rw[b7I,hkp,if_pos ha]
    rw[hsn,hp,if_pos ha,b7w,c2m,ht1,ht2,hq]
    exact⟨by omega,(),⟨hw,by simp[c2w]⟩,rfl,by simp,.inr ⟨rfl,rfl⟩⟩
   ·have hne:¬ (p.1.any fun x=>decide (x=(⟨6,d.unit,(b0j l nd).parent,d.name⟩:Pk)))=true:=by rw[ha];simp
    have hp:b7I (b0e u) p d=(p.1++[(⟨6,d.unit,(b0j l nd).parent,d.name⟩:Pk)],p.2):=by rw[b7I,hkp,if_neg hne]
    rw[hsn,hp,if_neg hne,b7w,c2m,ht1,ht2,hq]
    exact⟨(),⟨hw,rfl⟩,rfl,rfl,.inr ⟨rfl,rfl⟩⟩
  by_cases h4:d.kind=4
  ·have hkp:c0v (b0e u) d=(⟨4,d.unit,(b0j l nd).parent,d.name⟩:Pk):=by
    unfold c0v
    rw[if_pos (by omega),h4,htg,e4,g9j]
   have hlk:=@c6l (b8c (b0e u) pre).1 (⟨4,d.unit,(b0j l nd).parent,d.name⟩:Pk)
   have hst:=fun h id L=>@d5Q (b8c (b0e u) pre).1 (⟨4,d.unit,(b0j l nd).parent,d.name⟩:Pk) h id L
   simp only at hlk hst
   simp -implicitDefEqProofs only[go_sem,hgx,hlt,h5,h6,h4]
   refine b1g (cs:=[]) wkD b0v (by kernel_rfl) ?_
   simp -implicitDefEqProofs only[go_sem,wkD,hgx,htu,hu0,hu1,b0q,hrg,hn0,hn1,Rw.enc,b6e,hlk,hst,h5,h6,h4]
   have hq:∀ m,b6J 3 2 ((m:List Dl).map c2w)=true:=fun m=>b0m _ _ _ (b4s m)
   have ht1:=b0m 3 2 _ (b1e (b0e u))
   have ht2:=b0m 3 2 _ (b0G dl)
   generalize b8c (b0e u) pre=p at hsn hml ⊢
   refine⟨fun ha=>?_,fun ha=>?_⟩
   ·have hp:b7I (b0e u) p d=(p.1,p.2++[d]):=by rw[b7I,hkp,if_pos ha]
    rw[hsn,hp,if_pos ha,b7w,c2m,ht1,ht2,hq]
    exact⟨by omega,(),⟨hw,by simp[c2w]⟩,rfl,by simp,.inr ⟨rfl,rfl⟩⟩
   ·have hne:¬ (p.1.any fun x=>decide (x=(⟨4,d.unit,(b0j l nd).parent,d.name⟩:Pk)))=true:=by rw[ha];simp
    have hp:b7I (b0e u) p d=(p.1++[(⟨4,d.unit,(b0j l nd).parent,d.name⟩:Pk)],p.2):=by rw[b7I,hkp,if_neg hne]
    rw[hsn,hp,if_neg hne,b7w,c2m,ht1,ht2,hq]
    exact⟨(),⟨hw,rfl⟩,rfl,rfl,.inr ⟨rfl,rfl⟩⟩
  have hkp:c0v (b0e u) d=⟨d.kind,0,0,d.name⟩:=by simp[c0v,h5,h6,h4]
  have hlk:=@c6l (b8c (b0e u) pre).1 ⟨d.kind,0,0,d.name⟩
  have hst:=fun h id L=>@d5Q (b8c (b0e u) pre).1 ⟨d.kind,0,0,d.name⟩ h id L
  simp only at hlk hst
  simp -implicitDefEqProofs only[go_sem,hgx,hlt,h5,h6,h4,b6e,hlk,hst]
  have hq:∀ m,b6J 3 2 ((m:List Dl).map c2w)=true:=fun m=>b0m _ _ _ (b4s m)
  have ht1:=b0m 3 2 _ (b1e (b0e u))
  have ht2:=b0m 3 2 _ (b0G dl)
  generalize b8c (b0e u) pre=p at hsn hml ⊢
  refine⟨fun ha=>?_,fun ha=>?_⟩
  ·have hp:b7I (b0e u) p d=(p.1,p.2++[d]):=by rw[b7I,hkp,if_pos ha]
   rw[hsn,hp,if_pos ha,b7w,c2m,ht1,ht2,hq]
   exact⟨by omega,(),⟨hw,by simp[c2w]⟩,rfl,by simp,.inr ⟨rfl,rfl⟩⟩
  ·have hne:¬ (p.1.any fun x=>decide (x=(⟨d.kind,0,0,d.name⟩:Pk)))=true:=by rw[ha];simp
   have hp:b7I (b0e u) p d=(p.1++[(⟨d.kind,0,0,d.name⟩:Pk)],p.2):=by rw[b7I,hkp,if_neg hne]
   rw[hsn,hp,if_neg hne,b7w,c2m,ht1,ht2,hq]
   exact⟨(),⟨hw,rfl⟩,rfl,rfl,.inr ⟨rfl,rfl⟩⟩
theorem d1R(s t:Sg):b0u env 185 [.agg s.enc,.agg t.enc] (.bool (decide (s.params=t.params) && decide (s.result=t.result))):=by
 refine b0i (fn:=Tryz.f185) Tryz.func185 rfl (by rw[Tryz.ntmps185];simp) (by simp -implicitDefEqProofs only[go_sem,Sg.enc]) (by simp -implicitDefEqProofs only[go_sem]) ?_
 simp -implicitDefEqProofs only[go_sem,Tryz.f185,Sg.enc]
 refine⟨fun hr _ _ _ _=>⟨fun hl=>?_,fun hl _ _=>?_⟩,fun hr=>?_⟩
 ·have:¬ s.params.length=t.params.length:=by simp at hl;omega
  have:¬ s.params=t.params:=fun e=>this (by rw[e])
  simp[this]
 ·have hl':s.params.length=t.params.length:=by simp at hl;omega
  have hr':s.result=t.result:=by simpa using hr
  refine b0n (β:=Unit) s.params (fun pre _=>⟨[(23,.int .i64 pre.length),(22,.int .i64 s.params.length),(21,sl 9 (s.params.map b0p)),(4,.bool false),(3,.ptr 1 0),(2,.ptr 0 0)],[.cells [sl 9 (s.params.map b0p),.str s.result],.cells [sl 9 (t.params.map b0p),.str t.result]],[]⟩) (fun pre _ _=>t.params.take pre.length=pre) () ?_ rfl ?_ ?_
  ·simp -implicitDefEqProofs only[go_sem]
   try rfl
  ·intro _ hi
   rw[hl',List.take_length]at hi
   simp -implicitDefEqProofs only[go_sem]
   rw[hi,hr']
   simp
  ·rintro pre x post _ hx hi
   have hpl:s.params.length=pre.length+1+post.length:=by rw[hx];simp;omega
   have hgx:(s.params.map b0p).getD (pre.length:Int).toNat []=b0p x:=by rw[hx];simp[g8Z]
   have hyl:pre.length<t.params.length:=by omega
   have hgy:(t.params.map b0p).getD (pre.length:Int).toNat []=b0p t.params[pre.length]:=by simp[g8Z,g9b hyl]
   have hsn:t.params.take (pre.length+1)=pre++[t.params[pre.length]]:=by rw[List.take_succ_eq_append_getElem hyl,hi]
   generalize t.params[pre.length]=y at hgy hsn
   have hw:IntKind.i64.wrap (↑pre.length+1)=↑(pre.length+1):=b0g (by omega)
   have hlt:((pre.length:Int)<s.params.length)=True:=by simp;omega
   have hlt2:((pre.length:Int)<t.params.length)=True:=by simp;omega
   simp -implicitDefEqProofs only[go_sem,hgx,hgy,hlt,hlt2,b0p]
   refine b0h (cs:=[]) b0v (by kernel_rfl) ?_
   simp -implicitDefEqProofs only[go_sem,hgx,hgy,hlt,hlt2,b0p]
   refine⟨fun h=>?_,fun h=>?_⟩
   ·have hne:¬ x=y:=by simpa using h
    have:¬ s.params=t.params:=by
     intro e
     have h1:s.params.take (pre.length+1)=pre++[x]:=by
      rw[hx,List.take_append,List.take_of_length_le (by omega)]
      simp
     rw[e,hsn]at h1
     exact hne (by simpa using h1.symm)
    simp[this]
   ·have he:x=y:=by simpa using h
    subst he
    exact⟨(),hsn,hw⟩
 ·have:¬ s.result=t.result:=by simpa using hr
  simp[this]
theorem b6Z(r:Rw):b0u env 155 [.agg r.enc] (.str (if r.text=⟨#[43]⟩∨r.text=⟨#[45]⟩∨r.text=⟨#[42]⟩∨r.text=⟨#[47]⟩then⟨#[105,110,116]⟩else⟨#[98,111,111,108]⟩)):=by
 refine b0i (fn:=Tryz.f155) Tryz.func155 rfl (by rw[Tryz.ntmps155];simp) (by simp -implicitDefEqProofs only[go_sem];have h:=b0X [r];simp only[g9o,g9P,b0R,h0b]at h;exact h) (by simp -implicitDefEqProofs only[go_sem]) ?_
 simp -implicitDefEqProofs only[go_sem,Tryz.f155]
 by_cases h1:r.text=⟨#[43]⟩
 ·simp[h1]
 by_cases h2:r.text=⟨#[45]⟩
 ·simp[h2]
 by_cases h3:r.text=⟨#[42]⟩
 ·simp[h3]
 by_cases h4:r.text=⟨#[47]⟩
 ·simp[h4]
 simp[h1,h2,h3,h4]
end Go.Proofs.YtighfcpaplmaiaaGreatDoor
namespace Go.Vg
section
variable {κ β : Type} [DecidableEq κ]
def b1s(M:List (κ×β))(k:κ):Option β:=match M with
 | []=>none
 | p::r=>if k=p.1 then some p.2 else b1s r k
def b3W(M:List (κ×β))(k:κ)(v:β):List (κ×β):=match M with
 | []=>[(k,v)]
 | p::r=>if k=p.1 then(k,v)::r else p::b3W r k v
theorem b7B(M:List (κ×β))(k:κ)(v:β)(k':κ):b1s (b3W M k v) k'=if k'=k then some v else b1s M k':=by
 induction M with
 | nil=>simp[b3W,b1s]
 | cons p r ih =>
  rw[b3W]
  by_cases h:k=p.1
  ·rw[if_pos h,b1s]
   by_cases h':k'=k
   ·rw[if_pos h',if_pos h']
   ·rw[if_neg h',if_neg h',b1s,if_neg fun e=>h' (e.trans h.symm)]
  ·rw[if_neg h,b1s,ih]
   by_cases h':k'=p.1
   ·rw[if_pos h',if_neg (fun e=>h (e.symm.trans h')),b1s,if_pos h']
   ·rw[if_neg h',b1s,if_neg h']
def c5h(f:κ→β)(M:List (κ×β)):Prop:=∀ k v,b1s M k=some v→v=f k
theorem c5h.nil{f:κ→β}:c5h f []:=fun k v h=>by simp[b1s]at h
theorem c5h.set{f:κ→β}{M:List (κ×β)}(h:c5h f M)(k:κ):c5h f (b3W M k (f k)):=fun k' v hv=>by
 rw[b7B]at hv
 split at hv
 ·rename_i e;cases hv;rw[e]
 ·exact h k' v hv
variable (ke : κ → V) (ve : β → V)
def b3V(M:List (κ×β)):List (V×V):=M.map fun p=>(ke p.1,ve p.2)
end
theorem b7y{κ β:Type}[DecidableEq κ]{ke:κ→V}{ve:β→V}(h1:∀ k,(ke k).pure=true)(h2:∀ v,(ve v).pure=true)(k ka:Nat):∀ M:List (κ×β),ltP k ka (b3V ke ve M)=true
 | []=>rfl
 | p::r=>by
  have:=b7y h1 h2 k ka r
  show((ke p.1).lt k ka && (ve p.2).lt k ka && ltP k ka (b3V ke ve r))=true
  rw[this,V.lt_pure k ka _ (h1 _),V.lt_pure k ka _ (h2 _)];rfl
structure KeyA{κ:Type}[DecidableEq κ](ks:List Nat)(kl:κ→List V):Prop where
 fit:∀ a b,b3A ks (kl a) (kl b)=true
 eq:∀ a b,eqL (kl a) (kl b)=some (decide (a=b))
theorem c6T{κ β:Type}[DecidableEq κ]{ks:List Nat}{kl:κ→List V}{ve:β→V}(hk:KeyA ks kl)(k:κ):∀ (M:List (κ×β)) (i:Nat),
  (∃ j v,b1f ks (kl k) (b3V (fun a => .agg (kl a)) ve M) i=some (some (i+j,ve v))∧b1s M k=some v∧∀ v',(b3V (fun a => .agg (kl a)) ve M).set j (.agg (kl k),ve v')=b3V (fun a => .agg (kl a)) ve (b3W M k v')) ∨
  (b1f ks (kl k) (b3V (fun a => .agg (kl a)) ve M) i=some none∧b1s M k=none∧∀ v',b3V (fun a => .agg (kl a)) ve M++[(.agg (kl k),ve v')]=b3V (fun a => .agg (kl a)) ve (b3W M k v'))
 | [],i => .inr ⟨rfl,rfl,fun _=>rfl⟩
 | p::r,i=>by
  have h1:b1f ks (kl k) (b3V (fun a => .agg (kl a)) ve (p::r)) i=if k=p.1 then some (some (i,ve p.2))else b1f ks (kl k) (b3V (fun a => .agg (kl a)) ve r) (i+1):=by
   simp only[b3V,g9o,b1f,hk.eq,hk.fit,if_true]
   by_cases h:k=p.1
   ·rw[g9D h,if_pos h]
   ·rw[g9v h,if_neg h]
  rw[h1]
  by_cases h:k=p.1
  ·refine .inl ⟨0,p.2,by rw[if_pos h];rfl,by rw[b1s,if_pos h],fun v'=>?_⟩
   rw[b3W,if_pos h];rfl
  ·rw[if_neg h,b1s,if_neg h]
   rcases c6T hk k r (i+1)with⟨j,v,g1,g2,g3⟩ | ⟨g1,g2,g3⟩
   ·refine .inl ⟨j+1,v,by rw[g1];congr 3;omega,g2,fun v'=>?_⟩
    rw[b3W,if_neg h]
    show _::(b3V (fun a => .agg (kl a)) ve r).set j _=_::b3V (fun a => .agg (kl a)) ve _
    rw[g3]
   ·refine .inr ⟨g1,g2,fun v'=>?_⟩
    rw[b3W,if_neg h]
    show _::(b3V (fun a => .agg (kl a)) ve r++_)=_::b3V (fun a => .agg (kl a)) ve _
    rw[g3]
theorem c6x{β:Type}{ve:β→V}(k:ByteArray):∀ (M:List (ByteArray×β)) (i:Nat),
  (∃ j v,b1t .string (.str k) (b3V .str ve M) i=some (some (i+j,ve v))∧b1s M k=some v∧∀ v',(b3V .str ve M).set j (.str k,ve v')=b3V .str ve (b3W M k v')) ∨
  (b1t .string (.str k) (b3V .str ve M) i=some none∧b1s M k=none∧∀ v',b3V .str ve M++[(.str k,ve v')]=b3V .str ve (b3W M k v'))
 | [],i => .inr ⟨rfl,rfl,fun _=>rfl⟩
 | p::r,i=>by
  have h1:b1t .string (.str k) (b3V .str ve (p::r)) i=if k=p.1 then some (some (i,ve p.2))else b1t .string (.str k) (b3V .str ve r) (i+1):=by
   have hs:b7o .string (.str k) (.str p.1)=some (decide (k=p.1)):=by
    unfold b7o
    simp only[Option.some.injEq]
    rw[h0g,MapKept.bytes_beq,decide_eq_true_iff]
   simp only[b3V,g9o,b1t,hs]
   by_cases h:k=p.1
   ·rw[g9D h,if_pos h]
   ·rw[g9v h,if_neg h]
  rw[h1]
  by_cases h:k=p.1
  ·refine .inl ⟨0,p.2,by rw[if_pos h];rfl,by rw[b1s,if_pos h],fun v'=>?_⟩
   rw[b3W,if_pos h];rfl
  ·rw[if_neg h,b1s,if_neg h]
   rcases c6x k r (i+1)with⟨j,v,g1,g2,g3⟩ | ⟨g1,g2,g3⟩
   ·refine .inl ⟨j+1,v,by rw[g1];congr 3;omega,g2,fun v'=>?_⟩
    rw[b3W,if_neg h]
    show _::(b3V .str ve r).set j _=_::b3V .str ve _
    rw[g3]
   ·refine .inr ⟨g1,g2,fun v'=>?_⟩
    rw[b3W,if_neg h]
    show _::(b3V .str ve r++_)=_::b3V .str ve _
    rw[g3]
section
variable {E : Env} {et : TypeId} {β : Type} {ve : β → V} {z : V}
theorem c6a{κ:Type}[DecidableEq κ]{ks:List Nat}{kl:κ→List V}(hk:KeyA ks kl){M:List (κ×β)}{k:κ}{K:V→Prop}(hz:b2Q E.P et=z)(hz0:b0S E.P et=true) :
  b1G E et (b1f ks (kl k) (b3V (fun a => .agg (kl a)) ve M) 0) true K=K (.tuple [((b1s M k).map ve).getD z,.bool (b1s M k).isSome]):=by
 rcases c6T (ve:=ve) hk k M 0 with⟨j,v,g1,g2,g3⟩ | ⟨g1,g2,g3⟩
 ·rw[g1,g2];rfl
 ·rw[g1,g2];simp only[b9O,hz,hz0,true_and];rfl
theorem d3t{κ:Type}[DecidableEq κ]{ks:List Nat}{kl:κ→List V}(hk:KeyA ks kl){M:List (κ×β)}{k:κ}{K:V→Prop}(hz:b2Q E.P et=z)(hz0:b0S E.P et=true) :
  b1G E et (b1f ks (kl k) (b3V (fun a => .agg (kl a)) ve M) 0) false K=K (((b1s M k).map ve).getD z):=by
 rcases c6T (ve:=ve) hk k M 0 with⟨j,v,g1,g2,g3⟩ | ⟨g1,g2,g3⟩
 ·rw[g1,g2];rfl
 ·rw[g1,g2];simp only[b7U,hz,hz0,true_and];rfl
theorem c7E{κ:Type}[DecidableEq κ]{ks:List Nat}{kl:κ→List V}(hk:KeyA ks kl){M:List (κ×β)}{k:κ}{v:β}{h:List VObj}{id:Nat}{L:List VObj→Prop} :
  b3I h id (b3V (fun a => .agg (kl a)) ve M) (.agg (kl k)) (ve v) (b1f ks (kl k) (b3V (fun a => .agg (kl a)) ve M) 0) L=L (h.set id (.map (b3V (fun a => .agg (kl a)) ve (b3W M k v)))):=by
 rcases c6T (ve:=ve) hk k M 0 with⟨j,v',g1,g2,g3⟩ | ⟨g1,g2,g3⟩
 ·rw[g1,c4r,g9s,g3]
 ·rw[g1,c1a,g3]
theorem f0p{M:List (ByteArray×β)}{k:ByteArray}{K:V→Prop}(hz:b2Q E.P et=z)(hz0:b0S E.P et=true) :
  b1G E et (b1t .string (.str k) (b3V .str ve M) 0) true K=K (.tuple [((b1s M k).map ve).getD z,.bool (b1s M k).isSome]):=by
 rcases c6x (ve:=ve) k M 0 with⟨j,v,g1,g2,g3⟩ | ⟨g1,g2,g3⟩
 ·rw[g1,g2];rfl
 ·rw[g1,g2];simp only[b9O,hz,hz0,true_and];rfl
theorem c7D{M:List (ByteArray×β)}{k:ByteArray}{K:V→Prop}(hz:b2Q E.P et=z)(hz0:b0S E.P et=true) :
  b1G E et (b1t .string (.str k) (b3V .str ve M) 0) false K=K (((b1s M k).map ve).getD z):=by
 rcases c6x (ve:=ve) k M 0 with⟨j,v,g1,g2,g3⟩ | ⟨g1,g2,g3⟩
 ·rw[g1,g2];rfl
 ·rw[g1,g2];simp only[b7U,hz,hz0,true_and];rfl
theorem d7b{M:List (ByteArray×β)}{k:ByteArray}{v:β}{h:List VObj}{id:Nat}{L:List VObj→Prop} :
  b3I h id (b3V .str ve M) (.str k) (ve v) (b1t .string (.str k) (b3V .str ve M) 0) L=L (h.set id (.map (b3V .str ve (b3W M k v)))):=by
 rcases c6x (ve:=ve) k M 0 with⟨j,v',g1,g2,g3⟩ | ⟨g1,g2,g3⟩
 ·rw[g1,c4r,g9s,g3]
 ·rw[g1,c1a,g3]
end
def f0P(k:Int×Int):List V:=[.int .i64 k.1,.int .i64 k.2]
theorem c1I:KeyA [1,1] f0P:=by
 refine⟨fun a b=>rfl,fun a b=>?_⟩
 obtain⟨a1,a2⟩:=a
 obtain⟨b1,b2⟩:=b
 simp only[f0P,eqL,eq1,if_true,h0b,Option.some.injEq]
 rw[h0g]
 simp
abbrev c7T(M:List ((Int×Int)×(Int×Int))):List (V×V):=b3V (fun a => .agg (f0P a)) (fun a => .agg (f0P a)) M
end Go.Vg
namespace Go.Proofs.YtighfcpaplmaiaaGreatDoor
open Go Go.Vg Go.Proofs
def d6l(M:List ((Int×Int)×(Int×Int)))(x:Us):List ((Int×Int)×(Int×Int)):=match x.to with
 | some d=>b3W M (x.un,x.nd) d
 | none=>M
def c4W(l:List Us):List ((Int×Int)×(Int×Int)):=l.foldl d6l []
def b6s(l:List Us):List Us:=l.filter fun x=>x.to.isNone
def atE(x:Us):List V:=[.int .i64 x.un,.int .i64 x.nd]
theorem c1t{pre:List Un}{x:Un}(hb:x.broken=false):b0e (pre++[x])=b0e pre++[b0z x.tree (-1) 0]:=by simp[b0e,hb]
def ckV(u:List Un)(tb:List (List Rw))(ub:List Us):List V:=[sl 70 (u.map Un.enc),.slice (.arr 0) 45 (tb.map b0q),.map 0,.slice (.arr 1) 24 (ub.map atE),.map 1,.map 2,.map 3]
theorem b5U:∀ l:List Us,b0R (l.map atE)=true
 | []=>rfl
 | n::r=>by show(b1a _ && b0R (r.map atE))=true;rw[b5U r];rfl
theorem d7P(k ka:Nat)(M:List ((Int×Int)×(Int×Int))):ltP k ka (c7T M)=true:=b7y (fun _=>rfl) (fun _=>rfl) k ka M
theorem b1M:b3f Tryz.prog 24=some [1,1]:=by kernel_rfl
theorem f2P{M:List ((Int×Int)×(Int×Int))}{a b c d:Int}{h:List VObj}{id:Nat}{L:List VObj→Prop}:b3I h id (c7T M) (.agg [.int .i64 a,.int .i64 b]) (.agg [.int .i64 c,.int .i64 d]) (b1f [1,1] [.int .i64 a,.int .i64 b] (c7T M) 0) L=L (h.set id (.map (c7T (b3W M (a,b) (c,d))))) :=
 c7E (ve:=fun a => .agg (f0P a)) c1I (k:=(a,b)) (v:=(c,d))
theorem g8g(u:List Un)(hu:b2T u)(hb:∀ x∈u,x.broken=false):b0r env 89 [sl 70 (u.map Un.enc)] [] [] fun v h a => 
  v = .ptr 4 0∧h=[.map (c7T (c4W (b2J (b1Y (b0f u 0)) (b0e u) 0))),.map [],.map [],.map [],.cells (ckV u (b0e u) (b6s (b2J (b1Y (b0f u 0)) (b0e u) 0)))]∧a=[u.length,(b6s (b2J (b1Y (b0f u 0)) (b0e u) 0)).length]:=by
 have hU:=g0J u hu (b8R hu)
 have hUl:=c0j (M:=b1Y (b0f u 0)) (b0e u) 0 fun l hl=>(b8R hu l hl).len
 have htl0:(b0e u).length=u.length:=by simp[b0e]
 have hul:=hu.1
 have hfit:=hu.2
 refine b0A (fn:=Tryz.f89) Tryz.func89 rfl (by rw[Tryz.ntmps89];simp) ?_
 simp -implicitDefEqProofs only[go_sem,Tryz.f89]
 intro _ _
 refine b0n (β:=Unit) u (fun pre _=>⟨[(17,.int .i64 pre.length),(16,.int .i64 u.length),(15,sl 70 (u.map Un.enc)),(3,.ptr 4 0),(0,sl 70 (u.map Un.enc))],
   [.map [],.map [],.map [],.map [],.cells [sl 70 (u.map Un.enc),.slice (.arr 0) 45 ((b0e pre).map b0q),.map 0,.slice .nil 0 [],.map 1,.map 2,.map 3]],[pre.length]⟩) (fun _ _ _=>True) () ?_ trivial ?_ ?_
 ·simp -implicitDefEqProofs only[go_sem]
  exact⟨rfl,rfl⟩
 ·intro _ _
  simp -implicitDefEqProofs only[go_sem]
  refine hU.calls (by simp -implicitDefEqProofs only[go_sem]) ?_
  simp -implicitDefEqProofs only[go_sem]
  intro _ _
  generalize b2J (b1Y (b0f u 0)) (b0e u) 0=us at hUl ⊢
  refine b0n (β:=Unit) us (fun pre _=>⟨[(37,.int .i64 pre.length),(36,.int .i64 us.length),(35,sl 163 (us.map Us.enc)),(3,.ptr 4 0)],
   [.map (c7T (c4W pre)),.map [],.map [],.map [],.cells (ckV u (b0e u) (b6s pre))],[u.length,(b6s pre).length]⟩) (fun _ _ _=>True) () ?_ trivial ?_ ?_
  ·simp -implicitDefEqProofs only[go_sem,ckV]
   exact⟨rfl,rfl,rfl⟩
  ·intro _ _
   simp -implicitDefEqProofs only[go_sem,ckV]
  ·rintro pre x post _ hx _
   have hpl:us.length=pre.length+1+post.length:=by rw[hx];simp;omega
   have hgx:(us.map Us.enc).getD (pre.length:Int).toNat []=x.enc:=by rw[hx];simp[g8Z]
   have hw:IntKind.i64.wrap (↑pre.length+1)=↑(pre.length+1):=b0g (by omega)
   have hlt:((pre.length:Int)<us.length)=True:=by simp;omega
   have hdl:c4W (pre++[x])=d6l (c4W pre) x:=by simp[c4W]
   have hbl:b6s (pre++[x])=b6s pre++if x.to.isNone then [x]else []:=by simp[b6s,List.filter_append,List.filter_cons]
   have hubl:(b6s pre).length≤pre.length:=h0j _ _
   obtain⟨un,nd,to⟩:=x
   have htp:=b0m 5 2 _ (b1e (b0e u))
   have hup:=b0m 5 2 _ (b0x u)
   simp -implicitDefEqProofs only[go_sem,hgx,hlt,ckV,Us.enc]
   cases to with
   | none =>
    refine⟨fun h=>(by cases h),fun _=>?_⟩
    refine b0h (cs:=[]) b0v (by kernel_rfl) ?_
    simp -implicitDefEqProofs only[go_sem]
    have hbl':b6s (pre++[⟨un,nd,none⟩])=b6s pre++[⟨un,nd,none⟩]:=hbl
    rw[hdl,hbl',d7P,htp,hup,b0m _ _ _ (b5U _),b0m _ _ _ (b2B _)]
    exact⟨by omega,(),hw,⟨rfl,by simp[atE]⟩,by simp,.inr ⟨rfl,rfl⟩⟩
   | some d =>
    obtain⟨d1,d2⟩:=d
    refine⟨fun _=>?_,fun h=>(by cases h)⟩
    refine b0h (cs:=[]) b0v (by kernel_rfl) ?_
    simp -implicitDefEqProofs only[go_sem,b1M,f2P]
    have hbl':b6s (pre++[⟨un,nd,some (d1,d2)⟩])=b6s pre:=by rw[hbl];simp
    rw[hdl,hbl',d7P,htp,hup,b0m _ _ _ (b5U _),b0m _ _ _ (b2B _)]
    exact⟨(),hw,⟨rfl,rfl⟩,rfl,.inr ⟨rfl,rfl⟩⟩
 ·rintro pre x post _ hx _
  have hpl:u.length=pre.length+1+post.length:=by rw[hx];simp;omega
  have hgx:(u.map Un.enc).getD (pre.length:Int).toNat []=x.enc:=by rw[hx];simp[g8Z]
  have hw:IntKind.i64.wrap (↑pre.length+1)=↑(pre.length+1):=b0g (by omega)
  have hlt:((pre.length:Int)<u.length)=True:=by simp;omega
  have hxn:=(hfit x (by rw[hx];simp)).1
  have hR:=d6d x.tree (by omega)
  have htl:(b0e pre).length=pre.length:=by simp[b0e]
  have hts:=c1t (pre:=pre) (hb x (by rw[hx];simp))
  simp -implicitDefEqProofs only[go_sem,hgx,hlt]
  refine b0h (cs:=[]) b0v (by kernel_rfl) ?_
  simp -implicitDefEqProofs only[go_sem]
  refine b0B hR (by simp -implicitDefEqProofs only[go_sem]) ?_
  simp -implicitDefEqProofs only[go_sem]
  rw[hts,g9I]
  have hp:=b1e (b0e pre++[b0z x.tree (-1) 0])
  rw[g9I]at hp
  have h1:=b0m 5 1 _ hp
  have h2:b6J 5 1 (List.map b0q (b0e pre)++List.map b0q [b0z x.tree (-1) 0])=true:=h1
  rw[h2,b0m _ _ _ (b0x _)]
  exact⟨by omega,by rw[htl],(),hw,rfl,htl,.inr ⟨rfl,rfl⟩⟩
end Go.Proofs.YtighfcpaplmaiaaGreatDoor
namespace Go.Vg
theorem b0r.freezeR{E:Env}{f:FuncId}{args:List V}{heap:List VObj}{arr:List Nat}{K:b1z}
  (hc:b0r E f args heap arr fun v h a=>∃ id cs,v = .ptr id 0∧h[id]? = some (.cells cs)∧cs.all V.cell=true∧K (.fptr (cs.map share1)) (h.set id .dead) a):b0r E f args heap arr K:=by
 intro G w0 w vals hr hargs
 refine(hc G w0 w vals hr hargs).mono fun e w' hg=>hg.imp (fun⟨val,he,v,heap',arr',G',⟨id,cs,hv,hh,hcc,hk⟩,hx,hr',hrv⟩=>?_) id
 subst hv
 obtain⟨G2,b,hb,hx2,hr2,hφ,hcs⟩:=hr'.freezeO hh hcc
 refine⟨val,he,_,_,_,G2,hk,hx.trans hx2,hr2,?_⟩
 cases hrv with
 | ptr _ _ b' hb' =>
  rw[hb]at hb'
  cases hb'
  refine .fptr _ b 0 (fun j hj=>?_) fun j c v hc hv=>?_
  ·rw[g9r]at hj
   obtain⟨u,hu,_⟩:=hcs j _ (g9b hj)
   exact⟨u,by rw[g9s];exact hu⟩
  ·rw[g9q]at hc
   obtain⟨c',hc',rfl⟩:=g9l.1 hc
   obtain⟨u,hu,hru⟩:=hcs j c' hc'
   rw[g9s,hu]at hv
   cases hv
   exact hru.share1
end Go.Vg
