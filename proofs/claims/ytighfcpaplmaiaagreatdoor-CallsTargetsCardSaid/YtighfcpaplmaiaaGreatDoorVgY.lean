import Derived.Test.YtighfcpaplmaiaaGreatDoorTst
import Derived.Lib.Join
import Derived.Shelf.GgSortFunc.Tiny
import Derived.Test.YtighfcpaplmaiaaGreatDoorVgK
import Derived.Test.YtighfcpaplmaiaaGreatDoorTnB
import Derived.Test.YtighfcpaplmaiaaGreatDoorTmL
import GoSem.ClaimJoined
import Derived.DataReads
import Derived.Handed
import Derived.Lib.LaidU8
import Derived.Shelf.Vars
import Derived.Carry
import Derived.ChangeMaps5
set_option linter.unusedVariables false
set_option linter.unusedSimpArgs false
set_option maxRecDepth 20000
namespace Go.Proofs.YtighfcpaplmaiaaGreatDoor
open Go Go.Vg Go.Proofs
structure ndOK(n:Nd):Prop where
 sh:b8Y n
 par:g3A n
 bin:g3f n
 len:n.kids.length≤1000000
 send:n.kind=21→1≤n.kids.length
theorem b3j{α:Type}{l:List α}{i:Nat}{x:α}(h:l[i]? = some x):l.set i x=l:=by
 apply List.ext_getElem?
 intro j
 by_cases hj:i=j
 ·subst hj
  rw[g9e (g8Y.1 h).1,h]
 ·rw[g9i hj]
end Go.Proofs.YtighfcpaplmaiaaGreatDoor
namespace Go.Vg
theorem c8k:∀ (n:Nd) (a l:Int),0≤left n a l→left n a l+(b0o n).length≤a:=by
 refine Nd.all fun k t g ks ih a l h=>?_
 have hs:∀ r:List Nd,(∀ x∈r,∀ a l:Int,0≤left x a l→left x a l+(b0o x).length≤a)→∀ a l:Int,0≤b7l r a l→b7l r a l+(b0l r).length≤a:=by
  intro r
  induction r with
  | nil=>intro _ a l _;simp[b7l,b0l]
  | cons x r ihr =>
   intro hx a l h
   rw[b7l]at h ⊢
   split at h
   ·omega
   ·rename_i hn
    rw[if_neg hn]
    have h1:=hx x (by simp) a l (by omega)
    have h2:=ihr (fun y hy=>hx y (by simp[hy])) _ l h
    rw[b0l,g9d];omega
 rw[left]at h ⊢
 split at h
 ·omega
 ·rename_i hn
  rw[if_neg hn]
  have:=hs ks ih _ _ h
  rw[b0Y];omega
theorem c1r:∀ (g:List ByteArray) (b:Int),0≤b3S g b→∀ s∈g,(s.size:Int)≤b
 | [],b,h,s,hs=>by cases hs
 | x::r,b,h,s,hs=>by
  rw[b3S]at h
  split at h
  ·omega
  ·rcases g9y.1 hs with rfl | hs
   ·omega
   ·have:=c1r r _ h s hs;omega
def c5m(y:Nd)(b:Int):Prop:=(y.text.size:Int)≤b∧∀ s∈y.gaps,(s.size:Int)≤b
theorem c3k:∀ (n:Nd) (b:Int),0≤b3r n b→∀ y∈b0o n,c5m y b:=by
 refine Nd.all fun k t g ks ih b h y hy=>?_
 have hs:∀ r:List Nd,(∀ x∈r,∀ b:Int,0≤b3r x b→∀ y∈b0o x,c5m y b)→∀ b:Int,0≤b5j r b→∀ y∈b0l r,c5m y b:=by
  intro r
  induction r with
  | nil=>intro _ b _ y hy;simp[b0l]at hy
  | cons x r ihr =>
   intro hx b h y hy
   rw[b5j]at h
   split at h
   ·omega
   ·rename_i hn
    rw[b0l,g9A]at hy
    rcases hy with hy | hy
    ·exact hx x (by simp) b (by omega) y hy
    ·have h2:=ihr (fun z hz=>hx z (by simp[hz])) _ h y hy
     have h3:=c7J x b
     exact⟨by have:=h2.1;omega,fun s hs=>by have:=h2.2 s hs;omega⟩
 rw[b3r]at h
 split at h
 ·omega
 ·rename_i h1
  split at h
  ·omega
  ·rename_i h2
   have h3:=c3R g (b - t.size)
   rw[b0o]at hy
   rcases g9y.1 hy with rfl | hy
   ·refine⟨by show(t.size:Int)≤b;omega,fun s hs=>?_⟩
    have:=c1r g (b - t.size) (by omega) s hs
    omega
   ·have h4:=hs ks ih _ h y hy
    exact⟨by have:=h4.1;omega,fun s hs=>by have:=h4.2 s hs;omega⟩
theorem c0N{n:Nd}{b:Int}(hb:b≤1000000)(h:0≤b3r n b):b8Y n∧b5z n :=
 ⟨fun y hy=>by have:=(c3k n b h y hy).1;omega,fun y hy s hs=>by have:=(c3k n b h y hy).2 s hs;omega⟩
theorem c7h(n:Nd):n∈b0o n:=by obtain⟨k,t,g,ks⟩:=n;rw[b0o];simp
theorem b6G:∀ (n:Nd),b5d n=0→∀ y∈b0o n,y.node=0:=by
 refine Nd.all fun k t g ks ih h y hy=>?_
 rw[b5d]at h
 split at h
 ·rename_i h0
  rw[b0o]at hy
  rcases g9y.1 hy with rfl | hy
  ·exact h0
  ·have hs:∀ r:List Nd,(∀ x∈r,b5d x=0→∀ y∈b0o x,y.node=0)→b4R r=0→∀ y∈b0l r,y.node=0:=by
    intro r
    induction r with
    | nil=>intro _ _ y hy;simp[b0l]at hy
    | cons x r ihr =>
     intro hx h y hy
     rw[b4R]at h
     split at h
     ·rename_i hx0
      rw[b0l,g9A]at hy
      rcases hy with hy | hy
      ·exact hx x (by simp) hx0 y hy
      ·exact ihr (fun z hz=>hx z (by simp[hz])) h y hy
     ·rename_i hx0;exact absurd h hx0
   exact hs ks ih h y hy
 ·rename_i h0;exact absurd h h0
theorem c8w{y:Nd}(h:y.node=0):y.shape=true:=by
 cases hs:y.shape with
 | true=>rfl
 | false =>
  unfold Nd.node at h
  rw[hs]at h
  simp at h
theorem b8U{n:Nd}(h:b3K n=0):∀ y∈b0o n,y.shape=true:=by
 unfold b3K at h
 split at h
 ·cases h
 ·exact fun y hy=>c8w (b6G n h y hy)
theorem b3d{k:Int}{t g}{ks:List Nd}(h:(Nd.mk k t g ks).shape=true):b0U k≤ks.length∧b1y k ks 0=true∧(b2n k t || b5t k t)=true:=by
 unfold Nd.shape at h
 simp only[g9g]at h
 obtain⟨⟨⟨⟨⟨h1,h2⟩,h3⟩,h4⟩,h5⟩,h6⟩:=h
 rw[Bool.not_eq_true',h0l]at h3
 exact⟨Int.not_lt.1 h3,h4,h5⟩
theorem c0U{ks:List Nd}{b c:Nat}(h:c∈b0H ks b):∃ (j:Nat) (z:Nd),(b0H ks b)[j]? = some c∧ks[j]? = some z:=by
 obtain⟨j,hj,e⟩:=h0c h
 have hl:j<ks.length:=by rw[b0V]at hj;exact hj
 exact⟨j,ks[j],by rw[g9b hj,e],g9b hl⟩
theorem d8i{n:Nd}(hc:b3K n=0)(hl:(b0o n).length≤1000){i:Nat}{y:Nd}(hy:(b0o n)[i]? = some y)(h2:y.kind=2):c0H (b0z n (-1) 0) i:=by
 have hsh:=b8U hc
 have hyl:=(g8Y.1 hy).1
 have hrl:(b0z n (-1) 0).length=(b0o n).length:=b0N ..
 obtain⟨k,t,g,ks⟩:=y
 replace h2:k=2:=h2
 subst h2
 obtain⟨s1,s2,_⟩:=b3d (hsh _ (g9f hy))
 have s1':3≤ks.length:=by simp[b0U]at s1;omega
 obtain⟨a1,a2,a3⟩:=b3M hy
 have hk0:ks[0]? = some ks[0]:=g9b (by omega)
 have hk1:ks[1]? = some ks[1]:=g9b (by omega)
 obtain⟨c0,b1,b2⟩:=b7X hy hk0
 obtain⟨c1,b3,b4⟩:=b7X hy hk1
 have e0:b1d (b0z n (-1) 0) i 0=c0:=by
  show(b0j (b0z n (-1) 0) i).kids.getD 0 0=c0
  rw[a3,g8Z,b1];rfl
 have e1:b1d (b0z n (-1) 0) i 1=c1:=by
  show(b0j (b0z n (-1) 0) i).kids.getD 1 0=c1
  rw[a3,g8Z,b3];rfl
 have f0:=b3m s2 0 _ hk0
 generalize hp:ks[0]=p at b2 f0
 obtain⟨pk,pt,pg,pks⟩:=p
 have hpk:pk=3:=by
  have:b3P 2 (0+((0:Nat):Int)) pk=true:=f0
  simpa[b3P]using this
 subst hpk
 obtain⟨p1,p2,p3⟩:=b3M b2
 have hpm:=g9f b2
 obtain⟨_,q2,_⟩:=b3d (hsh _ hpm)
 have hpl:pks.length≤1000:=by
  have h1:=b3E pks
  have h2:=b6d _ _ hpm
  rw[b0Y]at h2;omega
 refine⟨by omega,by omega,by rw[a3,b0V];omega,?_,?_,?_,?_⟩
 ·rw[e0,hrl];exact(g8Y.1 b2).1
 ·rw[e1,hrl];exact(g8Y.1 b4).1
 ·rw[e0,p3,b0V];omega
 ·rw[e0,p3]
  intro c hcm
  obtain⟨j,z,j1,j2⟩:=c0U hcm
  obtain⟨c',j3,j4⟩:=b7X b2 j2
  have:c'=c:=by rw[j1]at j3;simpa using j3.symm
  subst this
  have fz:=b3m q2 j z j2
  obtain⟨zk,zt,zg,zks⟩:=z
  have hzk:zk=4:=by
   have:b3P 3 (0+(j:Int)) zk=true:=fz
   unfold b3P at this
   rw[if_neg (by omega)]at this
   simpa using this
  subst hzk
  obtain⟨r1,_⟩:=b3d (hsh _ (g9f j4))
  have r1':1≤zks.length:=by simp[b0U]at r1;omega
  obtain⟨z1,z2,z3⟩:=b3M j4
  obtain⟨d,w1,w2⟩:=b7X j4 (g9b (show 0<zks.length by omega))
  refine⟨by rw[hrl];exact(g8Y.1 j4).1,by rw[z3,b0V];omega,?_⟩
  have:b1d (b0z n (-1) 0) c' 0=d:=by
   show(b0j (b0z n (-1) 0) c').kids.getD 0 0=d
   rw[z3,g8Z,w1];rfl
  rw[this,hrl];exact(g8Y.1 w2).1
def Dl.off(d:Dl)(u:Int):Dl:={ d with unit:=u }
theorem d1S(k:Int)(t:ByteArray)(u m:Int)(x:Ar):b2S k t u m x=(b2S k t 0 m x).map (Dl.off · u):=by
 unfold b2S
 repeat' split
 all_goals rfl
theorem d1b:∀ (n:Nd) (u:Int) (m:Nat) (x:Ar),b1J n u m x=(b1J n 0 m x).map (Dl.off · u):=by
 refine Nd.all fun k t g ks ih u m x=>?_
 have hs:∀ l:List Nd,(∀ y∈l,∀ (u:Int) (m:Nat) (x:Ar),b1J y u m x=(b1J y 0 m x).map (Dl.off · u))→∀ (m:Nat) (x:Ar),b0Z l u m x=(b0Z l 0 m x).map (Dl.off · u):=by
  intro l
  induction l with
  | nil=>intro _ m x;rfl
  | cons y r ihr =>
   intro h m x
   rw[b0Z,b0Z,g9I,h y (by simp),ihr fun z hz=>h z (by simp[hz])]
 rw[b1J,b1J,g9I,hs ks ih,d1S]
 congr 1
 cases b2S k t 0 (↑m) x <;> rfl
def b5c:List Un→Nat→List (Dl×Un)
 | [],_=>[]
 | x::r,i=>(if x.broken=true then []else(b1J x.tree i 0 Ar.none).map fun d=>(d,x))++b5c r (i+1)
def b4H:List Un→List (Dl×Un)
 | []=>[]
 | x::r=>(if x.broken=true then []else(b1J x.tree 0 0 Ar.none).map fun d=>(d,x))++b4H r
theorem c2a:∀ (u:List Un) (i:Nat),b0f u i=(b5c u i).map (·.1)
 | [],_=>rfl
 | x::r,i=>by
  rw[b0f,b5c,g9I,←c2a r]
  congr 1
  split
  ·rfl
  ·rw[List.map_map];exact(List.map_id _).symm
theorem c2D:∀ (u:List Un) (i:Nat),b4H u=(b5c u i).map fun p=>(p.1.off 0,p.2)
 | [],_=>rfl
 | x::r,i=>by
  rw[b4H,b5c,g9I,←c2D r]
  congr 1
  split
  ·rfl
  ·rw[d1b x.tree i,List.map_map,List.map_map]
   have:∀ d∈b1J x.tree 0 0 Ar.none,d.off 0=d:=fun d hd=>by
    have:=(c2h x.tree 0 0 Ar.none d hd).1
    unfold Dl.off;rw[←this]
   apply List.map_congr_left
   intro d hd
   show((d,x):Dl×Un)=((d.off (i:Int)).off 0,x)
   rw[show(d.off (i:Int)).off 0=d.off 0 from rfl,this d hd]
theorem b7F:∀ (u:List Un) (i:Nat) (p:Dl×Un),p∈b5c u i→∃ j,p.1.unit=((i+j:Nat):Int)∧u[j]? = some p.2
 | [],i,p,h=>by simp[b5c]at h
 | x::r,i,p,h=>by
  rw[b5c,g9A]at h
  rcases h with h | h
  ·split at h
   ·cases h
   ·obtain⟨d,hd,rfl⟩:=h0k.1 h
    exact⟨0,(c2h x.tree i 0 Ar.none d hd).1,rfl⟩
  ·obtain⟨j,h1,h2⟩:=b7F r (i+1) p h
   exact⟨j+1,by rw[h1];congr 1;omega,by simpa using h2⟩
def isD(kind:Int)(owner name:ByteArray)(d:Dl):Bool:=decide (d.kind=kind) && decide (d.owner=owner) && decide (d.name=name)
theorem b9X{α β:Type}(f:α→β)(p:β→Bool):∀ l:List α,(l.map f).find? p=(l.find? fun a=>p (f a)).map f
 | []=>rfl
 | a::r=>by
  rw[g9o,g9S,g9S]
  cases p (f a)with
  | true=>rfl
  | false=>exact b9X f p r
def btX(p:Dl×Un):ByteArray:=match(b0o p.2.tree)[p.1.node.toNat]? with
 | some n=>(b4n n.kids 0).1.text
 | none=>⟨#[]⟩
def f9j(B:List (ByteArray×ByteArray))(p:Dl×Un):List (ByteArray×ByteArray):=if p.1.kind=2∧(b1B B p.1.name).isSome=false then B++[(p.1.name,btX p)]else B
theorem c9E(u:List Un):b0D (btU u) (b0f u 0)=(b4H u).foldl f9j []:=by
 have key:∀ (l:List (Dl×Un)),(∀ p∈l,p∈b5c u 0)→∀ B,(l.map (·.1)).foldl (c1c (btU u)) B=(l.map fun p=>((p.1.off 0,p.2):Dl×Un)).foldl f9j B:=by
  intro l
  induction l with
  | nil=>intro _ B;rfl
  | cons p r ih =>
   intro h B
   rw[g9o,g9o,g9G,g9G,ih fun q hq=>h q (by simp[hq])]
   congr 1
   obtain⟨j,h1,h2⟩:=b7F u 0 p (h p (by simp))
   have hb:btU u p.1=btX (p.1.off 0,p.2):=by
    unfold btU
    rw[h1,g9s,g9j,h2]
    rfl
   unfold c1c f9j
   rw[hb];rfl
 rw[b0D,c2a,c2D u 0]
 exact key _ (fun p hp=>hp) []
theorem f4D{u v:List Un}(h:b4H u=b4H v)(c:ByteArray):b8z u c=b8z v c:=by
 unfold b8z
 rw[c9E,c9E,h]
theorem c5k(x:Un):x.sound.sound=x.sound:=by
 unfold Un.sound
 by_cases h:b1q x=true
 ·rw[if_pos h,if_pos h]
 ·rw[if_neg h,if_neg (by simp[b1q])]
theorem d0H:∀ u:List Un,b4H (u.map Un.sound)=b4H (u.filter b1q)
 | []=>rfl
 | x::r=>by
  rw[g9o,b4H,d0H r]
  by_cases h:b1q x=true
  ·have e:x.sound=x:=by rw[Un.sound,if_pos h]
   rw[e,List.filter_cons_of_pos h,b4H]
  ·have e:x.sound.broken=true:=by rw[Un.sound,if_neg h]
   rw[if_pos e,List.filter_cons_of_neg h,g9M]
theorem c9L{x:Un}(h:b1q x=true):x.sound=x:=by rw[Un.sound,if_pos h]
end Go.Vg
namespace Go.Proofs.YtighfcpaplmaiaaGreatDoor
open Go Go.Vg Go.Proofs
theorem f3C(u:List Un)(kind:Int)(owner name:ByteArray):ofU u kind owner name=((b4H u).find? fun p=>isD kind owner name p.1).map fun p=>b2O (b0z p.2.tree (-1) 0) p.1.node.toNat:=by
 unfold ofU c4I
 rw[c2a,c2D u 0,b9X,b9X]
 have e:((b5c u 0).find? fun a=>isD kind owner name (a.1.off 0,a.2).1)=(b5c u 0).find? fun a=>decide (a.1.kind=kind) && decide (a.1.owner=owner) && decide (a.1.name=name):=rfl
 rw[e]
 cases hf:(b5c u 0).find? fun a=>decide (a.1.kind=kind) && decide (a.1.owner=owner) && decide (a.1.name=name)with
 | none=>rfl
 | some p =>
  obtain⟨j,h1,h2⟩:=b7F u 0 p (g9V hf)
  simp only[g9z,Option.bind_some,h1,g9s,g9j,h2]
  rfl
theorem f5P{u v:List Un}(h:b4H (u.map Un.sound)=b4H (v.map Un.sound))(o n:ByteArray):f4a u o n=f4a v o n:=by
 unfold f4a
 rw[f3C,f3C,h]
theorem c8z(u:List Un):(u.map Un.sound).map Un.sound=u.map Un.sound:=by
 rw[List.map_map];exact List.map_congr_left fun x _=>c5k x
theorem c9b(u:List Un):(u.filter b1q).map Un.sound=u.filter b1q:=by
 have:∀ x∈u.filter b1q,x.sound=x:=fun x hx=>c9L (List.mem_filter.1 hx).2
 calc (u.filter b1q).map Un.sound=(u.filter b1q).map id:=List.map_congr_left this
  _=_:=List.map_id _
theorem g8T(u:List Un):(∀ o n,f4a (u.map Un.sound) o n=f4a (u.filter b1q) o n)∧(∀ a b,d9K (u.map Un.sound) a b=d9K (u.filter b1q) a b):=by
 refine⟨fun o n=>f5P ?_ o n,fun a b=>?_⟩
 ·rw[c8z,c9b,d0H]
 ·unfold d9K
  rw[f4D (d0H u)]
open Go Go.Vg Go.Proofs Go.Shelf Go.RowKit
end Go.Proofs.YtighfcpaplmaiaaGreatDoor
namespace Go.Vg
def f5d(l:List ByteArray):ByteArray:=⟨(Lib.join (l.map fun x=>x.data.toList) [44,32]).toArray⟩
end Go.Vg
namespace Go.Proofs.YtighfcpaplmaiaaGreatDoor
open Go Go.Vg Go.Proofs Go.Shelf Go.RowKit
theorem hjl{xs:List ByteArray}(hs:(f5d xs).size≤2000000000000):(Lib.join (xs.map fun x=>x.data.toList) (⟨#[44,32]⟩:ByteArray).data.toList).length≤140737488355328:=by
 have h:=hs
 unfold f5d at h
 have h2:(Lib.join (xs.map fun x=>x.data.toList) [44,32]).length≤2000000000000:=by simpa[ByteArray.size]using h
 show(Lib.join (xs.map fun x=>x.data.toList) [44,32]).length≤_
 omega
structure Cb where
 name:ByteArray
 sign:ByteArray
 path:ByteArray
def Cb.enc(x:Cb):List V:=[.str x.name,.str x.sign,.str x.path]
theorem c6G:∀ l:List Cb,b0R (l.map Cb.enc)=true
 | []=>rfl
 | n::r=>by show(b1a _ && b0R (r.map Cb.enc))=true;rw[c6G r];rfl
attribute [go_sem] c6G
@[go_sem] theorem g2x{e t:TypeId}{u:V}{M:V→Prop}:g5W (some (.slice e)) t u M=M (.iface t u):=rfl
structure Ch where
 name:ByteArray
 path:ByteArray
 was:ByteArray
 now:ByteArray
def Ch.enc(x:Ch):List V:=[.str x.name,.str x.path,.str x.was,.str x.now]
theorem c6u:∀ l:List Ch,b0R (l.map Ch.enc)=true
 | []=>rfl
 | n::r=>by show(b1a _ && b0R (r.map Ch.enc))=true;rw[c6u r];rfl
attribute [go_sem] c6u
end Go.Proofs.YtighfcpaplmaiaaGreatDoor
namespace Go.Vg
theorem c1S(a b:UInt8)(x y:List UInt8):Op.bytesLess (a::x) (b::y)=(decide (a.toNat<b.toNat) || (decide (a.toNat=b.toNat) && Op.bytesLess x y)):=by
 have e:(a == b)=decide (a.toNat=b.toNat):=by rw[h0g];simp[UInt8.toNat_inj]
 rw[Op.bytesLess,e]
 simp[UInt8.lt_iff_toNat_lt]
theorem c3s:∀ l:List UInt8,Op.bytesLess l l=false
 | []=>rfl
 | a::x=>by rw[c1S,c3s x];simp
theorem c6F:∀ x y z:List UInt8,Op.bytesLess x y=true→Op.bytesLess y z=true→Op.bytesLess x z=true
 | [],[],_,h,_=>by cases h
 | _::_,[],_,h,_=>by cases h
 | [],_::_,[],_,h=>by cases h
 | [],_::_,_::_,_,_=>rfl
 | _::_,_::_,[],_,h=>by cases h
 | a::x,b::y,c::z,h1,h2=>by
  have ih:=c6F x y z
  rw[c1S]at h1 h2 ⊢
  simp only[h0p,g9g,g9h]at h1 h2 ⊢
  rcases h1 with h1 | ⟨h1,h1'⟩ <;> rcases h2 with h2 | ⟨h2,h2'⟩
  ·exact .inl (by omega)
  ·exact .inl (by omega)
  ·exact .inl (by omega)
  ·exact .inr ⟨by omega,ih h1' h2'⟩
theorem d7i:∀ x y:List UInt8,Op.bytesLess x y=false→Op.bytesLess y x=false→x=y
 | [],[],_,_=>rfl
 | [],_::_,h,_=>by cases h
 | _::_,[],_,h=>by cases h
 | a::x,b::y,h1,h2=>by
  rw[c1S]at h1 h2
  simp only[h0w,Bool.and_eq_false_iff,h0l]at h1 h2
  obtain⟨h1,h1'⟩:=h1
  obtain⟨h2,h2'⟩:=h2
  have e:a.toNat=b.toNat:=by omega
  have e1:a=b:=UInt8.toNat_inj.1 e
  have e2:x=y:=d7i x y (by rcases h1' with h | h;omega;exact h) (by rcases h2' with h | h;omega;exact h)
  rw[e1,e2]
def ltB(a b:ByteArray):Bool:=Op.bytesLess a.toList b.toList
theorem b6b(a:ByteArray):ltB a a=false:=c3s _
theorem b7c{a b c:ByteArray}(h1:ltB a b=true)(h2:ltB b c=true):ltB a c=true:=c6F _ _ _ h1 h2
theorem c0D{a b:ByteArray}(h:a.toList=b.toList):a=b:=by
 have e:(a.toList == b.toList)=true:=by rw[h];simp
 rw[b5S]at e
 simpa using e
theorem b9b{a b:ByteArray}(h1:ltB a b=false)(h2:ltB b a=false):a=b:=c0D (d7i _ _ h1 h2)
open Go.RowKit
theorem RelW.vecStep2{E:Env}{G:Gh}{heap:List VObj}{arr:List Nat}{w0:Base}{w w':World}(h:RelW E G heap arr w0 w){id k gen gen' b hi:Nat}{e:TypeId}{cs cs':List V}{c c':Array Value}{t:TypeId}
  (hid:heap[id]? = some (.vec k gen e cs)) (hρ:G.ρ[k]? = some (b,0,hi)) (hhi:0<hi) (hg:gen≤gen') (hc:w.heap[b]? = some (.cells c t (0,0))) (hch:cs'.length≤hi)
  (hr:∀ (j:Nat) x,cs'[j]? = some x→∃ v,c'[j]? = some v∧RV E.P G arr x v∧v.oneCell'=true)
  (hos:w'.os=w.os) (ht:w'.tape=w.tape) (ho:w'.output=w.output) (hsz:w'.heap.size=w.heap.size) (hk:∀ k,k≠b→w'.heap[k]? = w.heap[k]?) (hc':w'.heap[b]? = some (.cells c' t (0,0))) (hcs:c'.size=c.size)
  (hget:∀ j,hi≤j→c'[j]? = c[j]?):Ext G arr G (arr.set k gen')∧RelW E G (heap.set id (.vec k gen' e cs')) (arr.set k gen') w0 w':=by
 have hidl:id<heap.length:=(g8Y.1 hid).1
 obtain⟨hak,hgg,b0,hi0,hρ0,_,_⟩:=h.vs.at_ id k gen e cs hid
 rw[hρ]at hρ0
 cases hρ0
 have hkl:=(g8Y.1 hak).1
 have hx:Ext G arr G (arr.set k gen'):=by
  refine⟨fun _ _ _ h=>h,fun _ _ h=>h,fun j n hj=>?_⟩
  by_cases ej:j=k
  ·subst ej
   rw[hak]at hj
   cases hj
   exact⟨gen',g9e hkl,by omega,fun e=>rfl⟩
  ·exact⟨n,by rw[g9i (Ne.symm ej)];exact hj,g9m _,fun _=>rfl⟩
 obtain⟨⟨c0,e0,r1,r2⟩,r3,r4,r5⟩:=h.reg k b 0 hi hρ hhi
 rw[hc]at r1
 cases r1
 have hcell:∀ b' o,(b'≠b∨hi≤o)→w'.cell? ⟨b',o,none⟩=w.cell? ⟨b',o,none⟩:=fun b' o hor=>by
  by_cases e:b'=b
  ·subst e
   have hn:hi≤o:=by rcases hor with h | h;exact absurd rfl h;exact h
   unfold World.cell?
   rw[hc',hc]
   simp only[g9u,g9n,if_false]
   exact hget o hn
  ·exact b2r (hk b' e)
 have hne:∀ (i c:Nat),G.φ[i]? = some c→∀ o,heap[i]? = some o→o.loose=false→c≠b:=fun i c hi' o ho hlo e=>by
  subst e
  rw[VObj.loose_of (r3 i hi' o ho)]at hlo;cases hlo
 have hset:∀ (i:Nat) o,(heap.set id (.vec k gen' e cs'))[i]? = some o→i≠id→heap[i]? = some o:=fun i o hi' hn=>by rwa [g9i (Ne.symm hn)]at hi'
 refine⟨hx,⟨h.newF,fun g cs hg=>⟨(h.glob g cs hg).1,(h.glob g cs hg).2.mono hx⟩,h.below.trans ⟨hos,ht,ho,by omega,fun k' hk'=>hk k' (by omega)⟩,fun b' o v hv=>?_,h.one,fun i ob hi'=>?_,by simp[h.lenφ],h.nod,fun i c1 o hc1 hd=>?_,fun i c1 hc1=>by rw[hsz];exact h.geφ i c1 hc1,by simp[h.lenρ],
  fun k' b' lo hi' hk' hlt=>?_,h.regd,h.fre,fun i t' s c1 hi' hc1=>?_,h.ini,?_⟩⟩
 ·rw[hcell b' o]
  ·exact h.frz _ _ _ hv
  ·by_cases e:b'=b
   ·subst e
    refine .inr (Nat.le_of_not_lt fun hh=>?_)
    rw[r4 o (Nat.zero_le _) hh]at hv
    cases hv
   ·exact .inl e
 ·by_cases e1:i=id
  ·subst e1
   rw[g9e hidl]at hi'
   cases hi'
   obtain⟨c1,hc1,_⟩:=h.obj i _ hid
   exact⟨c1,hc1,trivial⟩
  ·have hi2:=hset i ob hi' e1
   obtain⟨c1,hc1,hr1⟩:=h.obj i ob hi2
   refine⟨c1,hc1,?_⟩
   cases hlo:ob.loose with
   | false=>exact hr1.keep hx (hk c1 (hne i c1 hc1 ob hi2 hlo))
   | true =>
    cases ob <;> simp only[VObj.loose,g9n]at hlo
    ·trivial
    ·trivial
 ·by_cases e1:i=id
  ·subst e1
   exact h.sep i c1 o hc1 (by rw[hid];intro hh;cases hh)
  ·rw[g9i (Ne.symm e1)]at hd
   exact h.sep i c1 o hc1 hd
 ·obtain⟨⟨c1,e1,q1,q2⟩,q3,q4,q5⟩:=h.reg k' b' lo hi' hk' hlt
  refine⟨?_,fun i hi2 o ho2=>?_,q4,q5⟩
  ·by_cases eb:b'=b
   ·subst eb
    rw[hc]at q1
    cases q1
    exact⟨c',t,hc',by omega⟩
   ·exact⟨c1,e1,by rw[hk b' eb];exact q1,q2⟩
  ·by_cases e1:i=id
   ·subst e1
    rw[g9e hidl]at ho2
    cases ho2
    have:=q3 i hi2 _ hid
    exact this
   ·exact q3 i hi2 o (hset i o ho2 e1)
 ·have e1:i≠id:=fun e1=>by subst e1;rw[g9e hidl]at hi';cases hi'
  have hi2:=hset i _ hi' e1
  refine(h.bld i t' s c1 hi2 hc1).keep (hk c1 (hne i c1 hc1 _ hi2 rfl)) fun g hg hs=>⟨hk g fun eg=>?_,hs⟩
  subst eg
  have:=hs.2.2 k 0 hi hρ
  omega
 ·refine⟨fun i k1 g1 e1 cs1 hi1=>?_,fun i i' k1 g1 g1' e1 e1' cs1 cs1' hi1 hi1'=>?_⟩
  ·by_cases ei:i=id
   ·subst ei
    rw[g9e hidl]at hi1
    cases hi1
    refine⟨g9e hkl,by omega,b,hi,hρ,hch,fun j x hj=>?_⟩
    obtain⟨v,hv,hrv,hov⟩:=hr j x hj
    refine⟨v,?_,hrv.mono hx,hov⟩
    unfold World.cell?
    rw[hc']
    simpa only[g9u,g9n,if_false]using hv
   ·have hi2:=hset i _ hi1 ei
    obtain⟨q1,q2,b1,hi3,q3,q4,q5⟩:=h.vs.at_ i k1 g1 e1 cs1 hi2
    have hkk:k1≠k:=fun ek=>by subst ek;exact ei (h.vs.uni _ _ _ _ _ _ _ _ _ hi2 hid)
    refine⟨by rw[g9i (Ne.symm hkk)];exact q1,q2,b1,hi3,q3,q4,fun j x hj=>?_⟩
    obtain⟨v,hv,hrv,hov⟩:=q5 j x hj
    refine⟨v,?_,hrv.mono hx,hov⟩
    rw[hcell b1 j (.inl fun eb=>?_)]
    ·exact hv
    ·subst eb
     have:=h.regd k1 k b1 0 hi3 0 hi hkk q3 hρ (by have:=(g8Y.1 hj).1;omega) hhi
     have:=(g8Y.1 hj).1
     omega
  ·have key:∀ (i k1 g1:Nat) e1 cs1,(heap.set id (.vec k gen' e cs'))[i]? = some (.vec k1 g1 e1 cs1)→∃ g e2 cs2,heap[i]? = some (.vec k1 g e2 cs2):=fun i k1 g1 e1 cs1 hq=>by
    by_cases ei:i=id
    ·subst ei
     rw[g9e hidl]at hq
     cases hq
     exact⟨_,_,_,hid⟩
    ·exact⟨_,_,_,hset i _ hq ei⟩
   obtain⟨_,_,_,a1⟩:=key _ _ _ _ _ hi1
   obtain⟨_,_,_,a2⟩:=key _ _ _ _ _ hi1'
   exact h.vs.uni _ _ _ _ _ _ _ _ _ a1 a2
inductive Ty where
 | int (k:IntKind) | str | bool
 | sl (e:TypeId) (t:Ty)
 | unit
 | cons (t:TypeId) (f r:Ty)
def Ty.cells:Ty→Nat
 | .int _ | .str | .bool | .sl _ _=>1
 | .unit=>0
 | .cons _ f r=>f.cells+r.cells
def d4y(k:IntKind):Option TypeDesc→Bool | some (.int k')=>decide (k'=k) | _=>false
def d5R:Option TypeDesc→Bool | some .string=>true | _=>false
def c6Y:Option TypeDesc→Bool | some .bool=>true | _=>false
def c1J(e:TypeId):Option TypeDesc→Bool | some (.slice e')=>decide (e'=e) | _=>false
def b5Q:Option TypeDesc→Option (List Field) | some (.struct fs)=>some fs.toList | _=>none
def Ty.ok(P:Program):Ty→TypeId ⊕ (Nat×List Field)→Bool
 | .int k,.inl T=>d4y k (P.underlying T)
 | .str,.inl T=>d5R (P.underlying T)
 | .bool,.inl T=>c6Y (P.underlying T)
 | .sl e t,.inl T=>c1J e (P.underlying T) && decide (P.cellsOf e=t.cells) && decide (1≤t.cells) && decide (1≤P.bytesOf e) && t.ok P (.inl e)
 | .unit,.inl T=>match b5Q (P.underlying T)with
  | some []=>decide (P.cellsOf T=0)
  | _=>false
 | .unit,.inr (_,[])=>true
 | .cons t f r,.inl T=>match b5Q (P.underlying T)with
  | some (fd::fs)=>decide (P.cellsOf T=f.cells+r.cells) && decide (fd.type=t) && decide (fd.offset=0) && decide (P.cellsOf t=f.cells) && f.ok P (.inl t) && r.ok P (.inr (f.cells,fs))
  | _=>false
 | .cons t f r,.inr (o,fd::fs)=>decide (fd.type=t) && decide (fd.offset=o) && decide (P.cellsOf t=f.cells) && f.ok P (.inl t) && r.ok P (.inr (o+f.cells,fs))
 | _,_=>false
def Ty.sem:Ty→List V→Prop
 | .int k,xs=>∃ n,xs=[.int k n]∧k.min≤n∧n≤k.max
 | .str,xs=>∃ s,xs=[.str s]
 | .bool,xs=>∃ b,xs=[.bool b]
 | .sl e t,xs=>∃ es:List (List V),xs=[Vg.sl e es]∧∀ el∈es,t.sem el
 | .unit,xs=>xs=[]
 | .cons _ f r,xs=>∃ a b,xs=a++b∧f.sem a∧r.sem b
def f0L(w:World)(b o:Nat):Option Value:=match w.cell? ⟨b,o,none⟩with
 | some v=>if v.oneCell' then some v else none
 | none=>none
theorem b7g{α β:Type}{f:α→Option β}:∀ {l:List α} {r:List β},l.mapM f=some r→r.length=l.length∧∀ (i:Nat) a,l[i]? = some a→∃ b,r[i]? = some b∧f a=some b
 | [],r,h=>by
  simp only[List.mapM_nil,Option.pure_def,Option.some.injEq]at h
  subst h;simp
 | a::l,r,h=>by
  simp only[List.mapM_cons,Option.bind_eq_bind,Option.bind_eq_some_iff,Option.pure_def,Option.some.injEq]at h
  obtain⟨b,hb,r',hr',rfl⟩:=h
  obtain⟨h1,h2⟩:=b7g hr'
  refine⟨by simp[h1],fun i x hx=>?_⟩
  cases i with
  | zero=>simp at hx;subst hx;exact⟨b,rfl,hb⟩
  | succ i=>simpa using h2 i x (by simpa using hx)
theorem c3C{w:World}{base:Nat}{a:Addr}{n:Nat}{cs:List Value}(h:w.cells? base a n=some cs):cs.length=n∧∀ i,i<n→w.cell? (a.add i)=cs[i]?:=by
 unfold World.cells? at h
 split at h
 ·obtain⟨h1,h2⟩:=b7g h
  refine⟨by simpa using h1,fun i hi=>?_⟩
  obtain⟨b,hb,he⟩:=h2 i i (List.getElem?_range hi)
  rw[hb,he]
 ·cases h
theorem b3h{H:Type}{P:Program}{e:TypeId}:∀ {l:List (DataW H)},(DataW.weightsAll P e l).all (· ≤ reachBytes)=true→∀ d∈l,(d.weights P e).all (· ≤ reachBytes)=true
 | [],_,d,hd=>by cases hd
 | x::l,h,d,hd=>by
  simp only[DataW.weightsAll,List.all_append,g9g]at h
  rcases g9y.1 hd with rfl | hd
  ·exact h.1
  ·exact b3h h.2 d hd
theorem cell_one{w:World}{a:Addr}{v:Value}(h:w.cell? a=some v)(hs:a.spot=none→False):False:=by
 unfold World.cell? at h
 split at h
 ·split at h
  ·cases h
  ·rename_i h'
   exact hs (by simpa using h')
 ·cases h
theorem c3K{w:World}{a:Addr}{v:Value}(h:w.cell? a=some v):a=⟨a.block,a.off,none⟩:=by
 have:a.spot=none:=Classical.byContradiction fun hn=>cell_one h (fun e=>hn e)
 obtain⟨b,o,s⟩:=a
 simp only at this
 subst this;rfl
theorem c2n{α:Type}{Q:Nat→α→Prop}:∀ (n:Nat),(∀ i,i<n→∃ a,Q i a)→∃ l:List α,l.length=n∧∀ (i:Nat) a,l[i]? = some a→Q i a
 | 0,_=>⟨[],rfl,by simp⟩
 | n+1,h=>by
  obtain⟨l,h1,h2⟩:=c2n n fun i hi=>h i (by omega)
  obtain⟨a,ha⟩:=h n (by omega)
  refine⟨l++[a],by simp[h1],fun i x hx=>?_⟩
  rcases h0v i l.length with hi | hi
  ·rw[g9a hi]at hx;exact h2 i x hx
  ·rw[g9c hi]at hx
   have:i - l.length=0:=by
    have:=(g8Y.1 hx).1
    simp at this;omega
   rw[this]at hx
   simp at hx
   subst hx
   have:i=n:=by omega
   rw[this];exact ha
section
variable {H : Type} {enc : TypeId × Value → H} {P : Program} {w : World} {G : Gh}
def d6U(P:Program)(G:Gh)(xs:List V)(cs:Nat→Option Value):Prop:=∀ (j:Nat) x v,xs[j]? = some x→cs j=some v→RV P G [] x v∧v.oneCell'=true
def f8J(enc:TypeId×Value→H)(P:Program)(w:World)(G:Gh)(ty:Ty):Prop:=∀ (T:TypeId) (fuel:Nat) (cs:List Value) (d:DataW H) (ps:List MemPlace),ty.ok P (.inl T)=true→DataW.trod enc P w 0 (fun _=>true) true fuel T cs=some (d,ps) →
 (d.weights P T).all (· ≤ reachBytes)=true→∃ xs,ty.sem xs∧xs.length=ty.cells∧cs.length=ty.cells∧d6U P G xs (cs[·]?)
def f8L(enc:TypeId×Value→H)(P:Program)(w:World)(G:Gh)(ty:Ty):Prop:=∀ (o:Nat) (fs:List Field) (fuel:Nat) (cs:List Value) (ys:List (DataW H×List MemPlace)),ty.ok P (.inr (o,fs))=true →
 fs.mapM (fun f=>DataW.trod enc P w 0 (fun _=>true) true fuel f.type ((cs.drop f.offset).take (P.cellsOf f.type)))=some ys →
 (DataW.weightsEach P (fs.map (·.type)) (ys.map (·.1))).all (· ≤ reachBytes)=true→∃ xs,ty.sem xs∧xs.length=ty.cells∧d6U P G xs fun j=>cs[o+j]?
theorem c7t{k:IntKind}{d:Option TypeDesc}(h:d4y k d=true):d=some (.int k):=by
 unfold d4y at h
 split at h
 ·rw[of_decide_eq_true h]
 ·cases h
theorem c7w{d:Option TypeDesc}(h:d5R d=true):d=some .string:=by
 unfold d5R at h
 split at h
 ·rfl
 ·cases h
theorem c3z{d:Option TypeDesc}(h:c6Y d=true):d=some .bool:=by
 unfold c6Y at h
 split at h
 ·rfl
 ·cases h
theorem c1d{e:TypeId}{d:Option TypeDesc}(h:c1J e d=true):d=some (.slice e):=by
 unfold c1J at h
 split at h
 ·rw[of_decide_eq_true h]
 ·cases h
theorem b4N{fs:List Field}{d:Option TypeDesc}(h:b5Q d=some fs):∃ a:Array Field,d=some (.struct a)∧a.toList=fs:=by
 unfold b5Q at h
 split at h
 ·rename_i a
  exact⟨a,rfl,Option.some.inj h⟩
 ·cases h
theorem b3i{x:V}{v:Value}(h:RV P G [] x v)(h1:v.oneCell'=true):d6U P G [x] ([v][·]?):=by
 intro j y u hj hu
 cases j with
 | zero=>simp at hj hu;subst hj hu;exact⟨h,h1⟩
 | succ j=>simp at hj
theorem d4w{T:TypeId}{k:IntKind}{f:Nat}{cs:List Value}{d:DataW H}{ps:List MemPlace}(hd:P.underlying T=some (.int k))
  (h:DataW.trod enc P w 0 (fun _=>true) true (f+1) T cs=some (d,ps)):∃ n,cs=[.int k n]∧k.min≤n∧n≤k.max:=by
 unfold DataW.trod at h
 rw[hd]at h
 rcases cs with _ | ⟨c,_ | ⟨c',r⟩⟩ <;> (try cases c) <;> simp only[reduceCtorEq]at h
 rename_i k' n
 split at h
 ·rename_i hk
  obtain⟨rfl,hw⟩:=hk
  simp only[Lit.wf,g9g,g9h]at hw
  exact⟨n,rfl,hw.1,hw.2⟩
 ·cases h
theorem d4m{T:TypeId}{f:Nat}{cs:List Value}{d:DataW H}{ps:List MemPlace}(hd:P.underlying T=some .string)
  (h:DataW.trod enc P w 0 (fun _=>true) true (f+1) T cs=some (d,ps)):∃ s:ByteArray,cs=[.string s]∧d = .lit (.string s.data.toList):=by
 unfold DataW.trod at h
 rw[hd]at h
 rcases cs with _ | ⟨c,_ | ⟨c',r⟩⟩ <;> (try cases c) <;> simp only[reduceCtorEq]at h
 rename_i s
 split at h
 ·simp only[Option.some.injEq,Prod.mk.injEq]at h
  exact⟨s,rfl,h.1.symm⟩
 ·cases h
theorem d0Q{T:TypeId}{f:Nat}{cs:List Value}{d:DataW H}{ps:List MemPlace}(hd:P.underlying T=some .bool)
  (h:DataW.trod enc P w 0 (fun _=>true) true (f+1) T cs=some (d,ps)):∃ b:Bool,cs=[.bool b]:=by
 unfold DataW.trod at h
 rw[hd]at h
 rcases cs with _ | ⟨c,_ | ⟨c',r⟩⟩ <;> (try cases c) <;> simp only[reduceCtorEq]at h
 exact⟨_,rfl⟩
theorem c7S{T e:TypeId}{f:Nat}{cs:List Value}{d:DataW H}{ps:List MemPlace}(hd:P.underlying T=some (.slice e))
  (h:DataW.trod enc P w 0 (fun _=>true) true (f+1) T cs=some (d,ps)):cs=[.slice none 0 0]∨∃ a len cap b6t rest,cs=[.slice (some a) len cap]∧len≤cap ∧
   (List.range len).mapM (fun i=>(w.cells? 0 (a.add (i * P.cellsOf e)) (P.cellsOf e)).bind (DataW.trod enc P w 0 (fun _=>true) true f e))=some b6t∧d = .slice (b6t.map (·.1)) rest:=by
 unfold DataW.trod at h
 rw[hd]at h
 rcases cs with _ | ⟨c,_ | ⟨c',r⟩⟩ <;> (try cases c) <;> simp only[reduceCtorEq]at h
 rename_i a len cap
 cases a with
 | none =>
  rcases len with _ | len <;> rcases cap with _ | cap <;> simp only[reduceCtorEq]at h
  exact .inl rfl
 | some a =>
  right
  simp only at h
  split at h
  ·rename_i hc
   simp only[Option.bind_eq_some_iff,g9l,Prod.mk.injEq]at h
   obtain⟨b6t,he,rest,hr,hd',_⟩:=h
   exact⟨a,len,cap,b6t,_,rfl,hc.2.1,he,hd'.symm⟩
  ·cases h
theorem b9G{T:TypeId}{fs:Array Field}{f:Nat}{cs:List Value}{d:DataW H}{ps:List MemPlace}(hd:P.underlying T=some (.struct fs))
  (h:DataW.trod enc P w 0 (fun _=>true) true (f+1) T cs=some (d,ps)):cs.length=P.cellsOf T∧∃ xs,
   fs.toList.mapM (fun fd=>DataW.trod enc P w 0 (fun _=>true) true f fd.type ((cs.drop fd.offset).take (P.cellsOf fd.type)))=some xs∧d = .agg (xs.map (·.1)):=by
 unfold DataW.trod at h
 rw[hd]at h
 simp only at h
 split at h
 ·rename_i hc
  simp only[g9l,Prod.mk.injEq]at h
  obtain⟨xs,hx,hd',_⟩:=h
  exact⟨hc,xs,hx,hd'.symm⟩
 ·cases h
theorem Ty.read(hG:∀ b o v,w.cell? ⟨b,o,none⟩=some v→v.oneCell'=true→G.F b o=some v):∀ ty:Ty,f8J enc P w G ty∧f8L enc P w G ty:=by
 intro ty
 induction ty with
 | int k =>
  refine⟨fun T fuel cs d ps hok ht hw=>?_,fun o fs fuel cs ys hok=>by simp[Ty.ok]at hok⟩
  have hd:=c7t (by simpa[Ty.ok]using hok)
  cases fuel with
  | zero=>cases ht
  | succ fuel =>
   obtain⟨n,rfl,h1,h2⟩:=d4w hd ht
   exact⟨[.int k n],⟨n,rfl,h1,h2⟩,rfl,rfl,b3i (.int _ _) rfl⟩
 | str =>
  refine⟨fun T fuel cs d ps hok ht hw=>?_,fun o fs fuel cs ys hok=>by simp[Ty.ok]at hok⟩
  have hd:=c7w (by simpa[Ty.ok]using hok)
  cases fuel with
  | zero=>cases ht
  | succ fuel =>
   obtain⟨s,rfl,rfl⟩:=d4m hd ht
   refine⟨[.str s],⟨s,rfl⟩,rfl,rfl,b3i (.str _ ?_) rfl⟩
   simp only[DataW.weights,List.all_cons,List.all_nil,h0b,g9h]at hw
   have:s.size=s.data.toList.length:=by simp
   unfold reachBytes at hw
   omega
 | bool =>
  refine⟨fun T fuel cs d ps hok ht hw=>?_,fun o fs fuel cs ys hok=>by simp[Ty.ok]at hok⟩
  have hd:=c3z (by simpa[Ty.ok]using hok)
  cases fuel with
  | zero=>cases ht
  | succ fuel =>
   obtain⟨b,rfl⟩:=d0Q hd ht
   exact⟨[.bool b],⟨b,rfl⟩,rfl,rfl,b3i (.bool _) rfl⟩
 | sl e t ih =>
  refine⟨fun T fuel cs d ps hok ht hw=>?_,fun o fs fuel cs ys hok=>by simp[Ty.ok]at hok⟩
  simp only[Ty.ok,g9g,g9h]at hok
  obtain⟨⟨⟨⟨h1,hsz⟩,hpos⟩,hb⟩,hok⟩:=hok
  have hd:=c1d h1
  cases fuel with
  | zero=>cases ht
  | succ fuel =>
   rcases c7S hd ht with rfl | ⟨a,len,cap,b6t,rest,rfl,hlc,hm,rfl⟩
   ·exact⟨[Vg.sl e []],⟨[],rfl,by simp⟩,rfl,rfl,b3i (RV.sl (.snil .shared e trivial)) rfl⟩
   ·obtain⟨hl,hget⟩:=b7g hm
    simp only[List.length_range]at hl
    simp only[DataW.weights,hd,List.all_cons,List.all_append,g9g,g9h,g9r,hl]at hw
    obtain⟨hw1,hw2,_⟩:=hw
    obtain⟨es,hes1,hes2⟩:=c2n (Q:=fun i el=>t.sem el∧el.length=P.cellsOf e∧∀ (j:Nat) x,el[j]? = some x→∃ v,w.cell? ((a.add (i * P.cellsOf e)).add j)=some v∧RV P G [] x v∧v.oneCell'=true) len (fun i hi=>by
     obtain⟨⟨di,pi⟩,hdi,he⟩:=hget i i (List.getElem?_range hi)
     simp only[Option.bind_eq_some_iff]at he
     obtain⟨csi,hc1,hc2⟩:=he
     have hwi:=b3h hw2 di (by
      obtain⟨hlt,hx⟩:=g8Y.1 hdi
      exact h0k.2 ⟨(di,pi),hx ▸ List.getElem_mem hlt,rfl⟩)
     obtain⟨xs,g1,g2,g3,g4⟩:=ih.1 e fuel csi di pi hok hc2 hwi
     obtain⟨c1,c2⟩:=c3C hc1
     refine⟨xs,g1,by omega,fun j x hx=>?_⟩
     have hj:j<P.cellsOf e:=by have:=(g8Y.1 hx).1;omega
     have hcj:=c2 j hj
     have hlt:j<csi.length:=by omega
     rw[g9b hlt]at hcj
     exact⟨_,hcj,g4 j x _ hx (g9b hlt)⟩)
    refine⟨[Vg.sl e es],⟨es,rfl,fun el hel=>?_⟩,rfl,rfl,b3i ?_ rfl⟩
    ·obtain⟨i,hi,rfl⟩:=h0c hel
     exact(hes2 i _ (g9b hi)).1
    ·cases es with
     | nil =>
      have:len=0:=by simpa using hes1.symm
      subst this
      exact .sodd _ _ _
     | cons el0 er =>
      have h0:=hes2 0 el0 rfl
      obtain⟨v0,hv0,_⟩:=h0.2.2 0 _ (g9b (by omega))
      have hsp:=c3K hv0
      have hspot:a.spot=none:=by
       have:=congrArg Addr.spot hsp
       simpa[Addr.add]using this
      obtain⟨b,o,sp⟩:=a
      simp only at hspot
      subst hspot
      rw[←hes1]
      refine RV.sl (RV.ofCells (o := .shared) trivial (fun i el hi=>(hes2 i el hi).2.1) ?_ hb (by omega) fun i el j c hi hj=>?_)
      ·rw[hes1]
       unfold reachBytes at hw1
       have:len * P.bytesOf e≤(len+rest.length) * P.bytesOf e:=g9L _ (by omega)
       omega
      ·obtain⟨v,hv,hrv,h1c⟩:=(hes2 i el hi).2.2 j c hj
       refine⟨v,hG _ _ _ ?_ h1c,hrv⟩
       rw[Addr.add_mk,Addr.add_mk,h0n]at hv
       exact hv
 | unit =>
  constructor
  ·intro T fuel cs d ps hok ht hw
   simp only[Ty.ok]at hok
   split at hok
   ·rename_i hf
    obtain⟨a,hd,ha⟩:=b4N hf
    have hz:=of_decide_eq_true hok
    cases fuel with
    | zero=>cases ht
    | succ fuel =>
     obtain⟨hl,_⟩:=b9G hd ht
     have:cs=[]:=g9C (by omega)
     subst this
     exact⟨[],rfl,rfl,rfl,fun j x v hx=>by simp at hx⟩
   ·cases hok
  ·intro o fs fuel cs ys hok hm hw
   exact⟨[],rfl,rfl,fun j x v hx=>by simp at hx⟩
 | cons t f r ihf ihr =>
  have step:∀ (o:Nat) (fd:Field) (fs:List Field) (fuel:Nat) (cs:List Value) (ys:List (DataW H×List MemPlace)),decide (fd.type=t)=true→decide (fd.offset=o)=true→decide (P.cellsOf t=f.cells)=true→f.ok P (.inl t)=true→r.ok P (.inr (o+f.cells,fs))=true →
    (fd::fs).mapM (fun g=>DataW.trod enc P w 0 (fun _=>true) true fuel g.type ((cs.drop g.offset).take (P.cellsOf g.type)))=some ys →
    (DataW.weightsEach P ((fd::fs).map (·.type)) (ys.map (·.1))).all (· ≤ reachBytes)=true→∃ xs,(Ty.cons t f r).sem xs∧xs.length=(Ty.cons t f r).cells∧d6U P G xs fun j=>cs[o+j]?:=by
   intro o fd fs fuel cs ys h1 h2 h3 h4 h5 hm hw
   have h1:=of_decide_eq_true h1
   have h2:=of_decide_eq_true h2
   have h3:=of_decide_eq_true h3
   subst h1 h2
   simp only[List.mapM_cons,Option.bind_eq_bind,Option.bind_eq_some_iff,Option.pure_def,Option.some.injEq]at hm
   obtain⟨⟨d1,p1⟩,hy,ys',hys,rfl⟩:=hm
   simp only[g9o,DataW.weightsEach,List.all_append,g9g]at hw
   obtain⟨xf,f1,f2,f3,f4⟩:=ihf.1 _ _ _ _ _ h4 hy hw.1
   obtain⟨xr,r1,r2,r3⟩:=ihr.2 _ _ _ _ _ h5 hys hw.2
   refine⟨xf++xr,⟨xf,xr,rfl,f1,r1⟩,by simp[Ty.cells,f2,r2],fun j x v hx hv=>?_⟩
   rcases h0v j xf.length with hj | hj
   ·rw[g9a hj]at hx
    refine f4 j x v hx ?_
    show((cs.drop fd.offset).take (P.cellsOf fd.type))[j]? = some v
    rw[List.getElem?_take,if_pos (by omega),g9Y]
    exact hv
   ·rw[g9c hj]at hx
    refine r3 _ x v hx ?_
    simp only at hv ⊢
    rw[←hv];congr 1;omega
  constructor
  ·intro T fuel cs d ps hok ht hw
   simp only[Ty.ok]at hok
   split at hok
   ·rename_i fd fs hf
    obtain⟨a,hd,ha⟩:=b4N hf
    simp only[g9g]at hok
    obtain⟨⟨⟨⟨⟨h0,h1⟩,h2⟩,h3⟩,h4⟩,h5⟩:=hok
    have h0:=of_decide_eq_true h0
    cases fuel with
    | zero=>cases ht
    | succ fuel =>
     obtain⟨hl,ys,hm,rfl⟩:=b9G hd ht
     rw[ha]at hm
     simp only[DataW.weights,hd,ha]at hw
     obtain⟨xs,g1,g2,g3⟩:=step 0 fd fs fuel cs ys h1 h2 h3 h4 (by simpa using h5) hm hw
     exact⟨xs,g1,g2,by simp only[Ty.cells];omega,fun j x v hx hv=>g3 j x v hx (by simpa using hv)⟩
   ·cases hok
  ·intro o fs fuel cs ys hok hm hw
   cases fs with
   | nil=>simp[Ty.ok]at hok
   | cons fd fs =>
    simp only[Ty.ok,g9g]at hok
    obtain⟨⟨⟨⟨h1,h2⟩,h3⟩,h4⟩,h5⟩:=hok
    exact step o fd fs fuel cs ys h1 h2 h3 h4 h5 hm hw
end
open Go.RowKit
theorem b6i{H:Type}{enc:TypeId×Value→H}{a:Assume}{C:Checked}{os:Os}{f:FuncId}{fn:Func}{s:ChangeSpec}{conds:List PathCond}{apart fresh handsOn again:Bool}{X:World→Array Value→Prop}
  (hX:∀ (w w':World) (args:Array Value),w.heap=w'.heap→X w args→X w' args)
  (own:ownKnob C.prog.godebug=none) (started:os.Started) (noInit:C.prog.inits.idxOf? f=none) (hfn:C.prog.funcs[f]? = some fn)
  (c5t:∃ (w:World) (tape:Tape) (i:Input),w.os=os∧(w.forCall tape i).Shaped C.prog∧i.vars=[]∧Input.okWide C.prog (w.forCall tape i) .any w.heap.size f i ∧
   ((s.pre enc C.prog fn conds apart (w.forCall tape i).memory i.args∧X (w.forCall tape i).memory i.args)∧sizedMet enc C.prog fn (OpenSpec.ofChange s) apart (w.forCall tape i).memory i.args)∧a.holds C.prog (lone (Frame.enter C.prog f i.args .normal) [] (w.forCall tape i)))
  (contract:∀ (W:World) (args:Array Value) (ds gs:List (DataW H)) (b2u:List MemPlace),
   DataW.Whole enc C.prog fn.params.toList s.vars apart W args.toList ds gs b2u →
   (DataW.weightsEach C.prog (fn.params.toList++s.plain.varTypes C.prog) (ds++gs)).all (· ≤ reachBytes)=true→X W args→W.ShapedOpen C.prog →
   (∃ b:Nat,∀ (j:Nat) t v,fn.params[j]? = some t→args[j]? = some v→Value.okWide C.prog W .any b t v) →
   Calls C.prog f args W fun e W'=>∃ v,e = .returned v∧s.post enc C.prog fn apart fresh handsOn again W args v W') :
  ReturnsInHanded a C os f .any (fun w args=>(s.pre enc C.prog fn conds apart w args∧X w args)∧sizedMet enc C.prog fn (OpenSpec.ofChange s) apart w args) (s.post enc C.prog fn apart fresh handsOn again):=by
 refine returnsInHanded_of_calls own started noInit c5t fun w tape i _ hsh _ hok hpre hh=>?_
 obtain⟨⟨⟨ds,gs,b2u,hw,hc⟩,hx⟩,hz⟩:=hpre
 have hin:∃ b:Nat,∀ (j:Nat) t v,fn.params[j]? = some t→i.args[j]? = some v→Value.okWide C.prog (w.forCall tape i) .any b t v:=by
  obtain⟨_,_,_,fn',hf',_,_,_,_,hv⟩:=hok
  rw[hfn]at hf'
  cases hf'
  exact⟨_,hv⟩
 refine(contract (w.forCall tape i) i.args ds gs b2u (DataW.Whole.of_heap (w':=w.forCall tape i) (by rfl) hw) (hz.weights hw) (hX _ _ _ (by rfl) hx) hsh hin).mono fun e W' ⟨v,he,hp⟩=>?_
 subst he
 exact ChangeSpec.post_blind hp
def b1O(W:World):Gh:=⟨f0L W,[],[]⟩
theorem b9J{W:World}{b o:Nat}{v:Value}(h:f0L W b o=some v):W.cell? ⟨b,o,none⟩=some v∧v.oneCell'=true:=by
 unfold f0L at h
 split at h
 ·rename_i u hu
  split at h
  ·rename_i h1
   cases h
   exact⟨hu,h1⟩
  ·cases h
 ·cases h
theorem d8u{H:Type}{enc:TypeId×Value→H}{P:Program}{W:World}{T:TypeId}{v:Value}{d:DataW H}{p:List MemPlace}(ty:Ty)(h2:2≤ty.cells)(hok:ty.ok P (.inl T)=true)
  (h:DataW.Trod enc P W 0 (fun _=>true) true T v d p) (hw:(d.weights P T).all (· ≤ reachBytes)=true):∃ xs,ty.sem xs∧RV P (b1O W) [] (.agg xs) v:=by
 obtain⟨fuel,h⟩:=h
 obtain⟨xs,h1,h3,h4,h5⟩:=(Ty.read (G:=b1O W) (fun b o v hc h1=>by simp only[b1O,f0L,hc,h1,if_true]) ty).1 T fuel v.cells.toList d p hok h hw
 refine⟨xs,h1,?_⟩
 have hsz:v.cells.size=ty.cells:=by simpa using h4
 cases v with
 | agg vs =>
  refine .agg xs vs (by rw[h3,←hsz];rfl) fun j c u hc hu=>(h5 j c u hc ?_).1
  show vs.toList[j]? = some u
  simpa using hu
 | _=>exact absurd hsz (by simp only[Value.cells];simp;omega)
end Go.Vg
