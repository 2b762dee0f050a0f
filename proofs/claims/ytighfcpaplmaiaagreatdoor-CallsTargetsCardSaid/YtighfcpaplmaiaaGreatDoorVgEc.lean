import Derived.Test.YtighfcpaplmaiaaGreatDoorVgF
import Derived.Test.YtighfcpaplmaiaaGreatDoorVgFe
set_option linter.unusedVariables false
set_option linter.unusedSimpArgs false
namespace Go.Vg
open Go.RowKit
def b8w:Nat:=18446744073709551616
theorem b8J{s:Nat}:∀ {xs:List (List V)},(∀ (i:Nat) el,xs[i]? = some el→el.length=s)→xs.flatten.length=xs.length * s
 | [],_=>by simp
 | x::r,h=>by
  have h0:=h 0 x rfl
  have:=b8J (xs:=r) (s:=s) fun i el hi=>h (i+1) el (by simpa using hi)
  simp only[g9X,g9d,g9k,g9R,this,h0]
  omega
theorem b7d{s:Nat}{R:V→Value→Prop}:∀ {xs:List (List V)} {news:List Value},(∀ (i:Nat) el,xs[i]? = some el→el.length=s) →
  (∀ (i:Nat) el (j:Nat) c,xs[i]? = some el→el[j]? = some c→∃ u,news[i * s+j]? = some u∧R c u)→∀ (m:Nat) x,xs.flatten[m]? = some x→∃ u,news[m]? = some u∧R x u
 | [],news,_,_,m,x,hm=>by simp at hm
 | y::r,news,hl,hg,m,x,hm=>by
  have h0:=hl 0 y rfl
  rw[g9X]at hm
  by_cases hlt:m<y.length
  ·rw[g9a hlt]at hm
   have:=hg 0 y m x rfl hm
   simpa using this
  ·rw[g9c (by omega)]at hm
   have:=b7d (xs:=r) (news:=news.drop s) (s:=s) (R:=R) (fun i el hi=>hl (i+1) el (by simpa using hi)) (fun i el j c hi hj=>by
    obtain⟨u,hu,hr⟩:=hg (i+1) el j c (by simpa using hi) hj
    refine⟨u,?_,hr⟩
    rw[g9Y]
    rw[g9R]at hu
    rw[←hu]
    congr 1
    omega) (m - y.length) x hm
   obtain⟨u,hu,hr⟩:=this
   refine⟨u,?_,hr⟩
   rw[g9Y]at hu
   rw[←hu]
   congr 1
   omega
theorem RelW.vecStep{E:Env}{G:Gh}{heap:List VObj}{arr:List Nat}{w0:Base}{w w':World}(h:RelW E G heap arr w0 w){id k gen gen' b hi:Nat}{e:TypeId}{cs cs':List V}{c c':Array Value}{t:TypeId}
  (hid:heap[id]? = some (.vec k gen e cs)) (hρ:G.ρ[k]? = some (b,0,hi)) (hhi:0<hi) (hg:gen<gen') (hc:w.heap[b]? = some (.cells c t (0,0))) (hch:cs'.length≤hi)
  (hr:∀ (j:Nat) x,cs'[j]? = some x→∃ v,c'[j]? = some v∧RV E.P G arr x v∧v.oneCell'=true)
  (hos:w'.os=w.os) (ht:w'.tape=w.tape) (ho:w'.output=w.output) (hsz:w'.heap.size=w.heap.size) (hk:∀ k,k≠b→w'.heap[k]? = w.heap[k]?) (hc':w'.heap[b]? = some (.cells c' t (0,0))) (hcs:c'.size=c.size)
  (hget:∀ j,hi≤j→c'[j]? = c[j]?):Ext G arr G (arr.set k gen')∧RelW E G (heap.set id (.vec k gen' e cs')) (arr.set k gen') w0 w':=by
 have hidl:id<heap.length:=(g8Y.1 hid).1
 obtain⟨hak,hgg,b0,hi0,hρ0,_,_⟩:=h.vs.at_ id k gen e cs hid
 rw[hρ]at hρ0
 cases hρ0
 have hkl:=(g8Y.1 hak).1
 have hx:Ext G arr G (arr.set k gen'):=by
  refine⟨fun _ _ _ h=>h,fun _ _ h=>h,fun j n hj=>?_⟩
  by_cases ej:j=k
  ·subst ej
   rw[hak]at hj
   cases hj
   exact⟨gen',g9e hkl,by omega,fun e=>by omega⟩
  ·exact⟨n,by rw[g9i (Ne.symm ej)];exact hj,g9m _,fun _=>rfl⟩
 obtain⟨⟨c0,e0,r1,r2⟩,r3,r4,r5⟩:=h.reg k b 0 hi hρ hhi
 rw[hc]at r1
 cases r1
 have hcell:∀ b' o,(b'≠b∨hi≤o)→w'.cell? ⟨b',o,none⟩=w.cell? ⟨b',o,none⟩:=fun b' o hor=>by
  by_cases e:b'=b
  ·subst e
   have hn:hi≤o:=by rcases hor with h | h;exact absurd rfl h;exact h
   unfold World.cell?
   rw[hc',hc]
   simp only[g9u,g9n,if_false]
   exact hget o hn
  ·exact b2r (hk b' e)
 have hne:∀ (i c:Nat),G.φ[i]? = some c→∀ o,heap[i]? = some o→o.loose=false→c≠b:=fun i c hi' o ho hlo e=>by
  subst e
  rw[VObj.loose_of (r3 i hi' o ho)]at hlo;cases hlo
 have hset:∀ (i:Nat) o,(heap.set id (.vec k gen' e cs'))[i]? = some o→i≠id→heap[i]? = some o:=fun i o hi' hn=>by rwa [g9i (Ne.symm hn)]at hi'
 refine⟨hx,⟨h.newF,fun g cs hg=>⟨(h.glob g cs hg).1,(h.glob g cs hg).2.mono hx⟩,h.below.trans ⟨hos,ht,ho,by omega,fun k' hk'=>hk k' (by omega)⟩,fun b' o v hv=>?_,h.one,fun i ob hi'=>?_,by simp[h.lenφ],h.nod,fun i c1 o hc1 hd=>?_,fun i c1 hc1=>by rw[hsz];exact h.geφ i c1 hc1,by simp[h.lenρ],
  fun k' b' lo hi' hk' hlt=>?_,h.regd,h.fre,fun i t' s c1 hi' hc1=>?_,h.ini,?_⟩⟩
 ·rw[hcell b' o]
  ·exact h.frz _ _ _ hv
  ·by_cases e:b'=b
   ·subst e
    refine .inr (Nat.le_of_not_lt fun hh=>?_)
    rw[r4 o (Nat.zero_le _) hh]at hv
    cases hv
   ·exact .inl e
 ·by_cases e1:i=id
  ·subst e1
   rw[g9e hidl]at hi'
   cases hi'
   obtain⟨c1,hc1,_⟩:=h.obj i _ hid
   exact⟨c1,hc1,trivial⟩
  ·have hi2:=hset i ob hi' e1
   obtain⟨c1,hc1,hr1⟩:=h.obj i ob hi2
   refine⟨c1,hc1,?_⟩
   cases hlo:ob.loose with
   | false=>exact hr1.keep hx (hk c1 (hne i c1 hc1 ob hi2 hlo))
   | true =>
    cases ob <;> simp only[VObj.loose,g9n]at hlo
    ·trivial
    ·trivial
 ·by_cases e1:i=id
  ·subst e1
   exact h.sep i c1 o hc1 (by rw[hid];intro hh;cases hh)
  ·rw[g9i (Ne.symm e1)]at hd
   exact h.sep i c1 o hc1 hd
 ·obtain⟨⟨c1,e1,q1,q2⟩,q3,q4,q5⟩:=h.reg k' b' lo hi' hk' hlt
  refine⟨?_,fun i hi2 o ho2=>?_,q4,q5⟩
  ·by_cases eb:b'=b
   ·subst eb
    rw[hc]at q1
    cases q1
    exact⟨c',t,hc',by omega⟩
   ·exact⟨c1,e1,by rw[hk b' eb];exact q1,q2⟩
  ·by_cases e1:i=id
   ·subst e1
    rw[g9e hidl]at ho2
    cases ho2
    have:=q3 i hi2 _ hid
    exact this
   ·exact q3 i hi2 o (hset i o ho2 e1)
 ·have e1:i≠id:=fun e1=>by subst e1;rw[g9e hidl]at hi';cases hi'
  have hi2:=hset i _ hi' e1
  refine(h.bld i t' s c1 hi2 hc1).keep (hk c1 (hne i c1 hc1 _ hi2 rfl)) fun g hg hs=>⟨hk g fun eg=>?_,hs⟩
  subst eg
  have:=hs.2.2 k 0 hi hρ
  omega
 ·refine⟨fun i k1 g1 e1 cs1 hi1=>?_,fun i i' k1 g1 g1' e1 e1' cs1 cs1' hi1 hi1'=>?_⟩
  ·by_cases ei:i=id
   ·subst ei
    rw[g9e hidl]at hi1
    cases hi1
    refine⟨g9e hkl,by omega,b,hi,hρ,hch,fun j x hj=>?_⟩
    obtain⟨v,hv,hrv,hov⟩:=hr j x hj
    refine⟨v,?_,hrv.mono hx,hov⟩
    unfold World.cell?
    rw[hc']
    simpa only[g9u,g9n,if_false]using hv
   ·have hi2:=hset i _ hi1 ei
    obtain⟨q1,q2,b1,hi3,q3,q4,q5⟩:=h.vs.at_ i k1 g1 e1 cs1 hi2
    have hkk:k1≠k:=fun ek=>by subst ek;exact ei (h.vs.uni _ _ _ _ _ _ _ _ _ hi2 hid)
    refine⟨by rw[g9i (Ne.symm hkk)];exact q1,q2,b1,hi3,q3,q4,fun j x hj=>?_⟩
    obtain⟨v,hv,hrv,hov⟩:=q5 j x hj
    refine⟨v,?_,hrv.mono hx,hov⟩
    rw[hcell b1 j (.inl fun eb=>?_)]
    ·exact hv
    ·subst eb
     have:=h.regd k1 k b1 0 hi3 0 hi hkk q3 hρ (by have:=(g8Y.1 hj).1;omega) hhi
     have:=(g8Y.1 hj).1
     omega
  ·have key:∀ (i k1 g1:Nat) e1 cs1,(heap.set id (.vec k gen' e cs'))[i]? = some (.vec k1 g1 e1 cs1)→∃ g e2 cs2,heap[i]? = some (.vec k1 g e2 cs2):=fun i k1 g1 e1 cs1 hq=>by
    by_cases ei:i=id
    ·subst ei
     rw[g9e hidl]at hq
     cases hq
     exact⟨_,_,_,hid⟩
    ·exact⟨_,_,_,hset i _ hq ei⟩
   obtain⟨_,_,_,a1⟩:=key _ _ _ _ _ hi1
   obtain⟨_,_,_,a2⟩:=key _ _ _ _ _ hi1'
   exact h.vs.uni _ _ _ _ _ _ _ _ _ a1 a2
theorem RelW.vecMove{E:Env}{G:Gh}{heap:List VObj}{arr:List Nat}{w0:Base}{w:World}(h:RelW E G heap arr w0 w){id k gen gen' hi:Nat}{e t:TypeId}{cs cs':List V}{c:Array Value}
  (hid:heap[id]? = some (.vec k gen e cs)) (hg:gen<gen') (hch:cs'.length≤hi) (hhi:hi≤c.size) (hr:∀ (j:Nat) x,cs'[j]? = some x→∃ v,c[j]? = some v∧RV E.P G arr x v∧v.oneCell'=true) :
  Ext G arr { G with ρ:=G.ρ.set k (w.heap.size,0,hi) } (arr.set k gen')∧RelW E { G with ρ:=G.ρ.set k (w.heap.size,0,hi) } (heap.set id (.vec k gen' e cs')) (arr.set k gen') w0 (w.alloc (.cells c t)):=by
 have hidl:id<heap.length:=(g8Y.1 hid).1
 obtain⟨hak,hgg,b0,hi0,hρ0,_,_⟩:=h.vs.at_ id k gen e cs hid
 have hkl:=(g8Y.1 hak).1
 have hkr:k<G.ρ.length:=(g8Y.1 hρ0).1
 have hs:=h.below.size
 have hx:Ext G arr { G with ρ:=G.ρ.set k (w.heap.size,0,hi) } (arr.set k gen'):=by
  refine⟨fun _ _ _ h=>h,fun _ _ h=>h,fun j n hj=>?_⟩
  by_cases ej:j=k
  ·subst ej
   rw[hak]at hj
   cases hj
   exact⟨gen',g9e hkl,by omega,fun e=>by omega⟩
  ·exact⟨n,by rw[g9i (Ne.symm ej)];exact hj,g9m _,fun _=>g9i (Ne.symm ej)⟩
 have hset:∀ (i:Nat) o,(heap.set id (.vec k gen' e cs'))[i]? = some o→i≠id→heap[i]? = some o:=fun i o hi' hn=>by rwa [g9i (Ne.symm hn)]at hi'
 have hρk:(G.ρ.set k (w.heap.size,0,hi))[k]? = some (w.heap.size,0,hi):=g9e hkr
 have hρj:∀ j:Nat,j≠k→(G.ρ.set k (w.heap.size,0,hi))[j]? = G.ρ[j]?:=fun j hj=>g9i (Ne.symm hj)
 have hold:∀ b,b<w.heap.size→(w.alloc (.cells c t)).heap[b]? = w.heap[b]?:=fun b hb=>by rw[b0Q,if_neg (by omega)]
 refine⟨hx,⟨h.newF,fun g cs hg=>⟨(h.glob g cs hg).1,(h.glob g cs hg).2.mono hx⟩,h.below.alloc hs _,fun b o v hv=>by rw[b2r (hold b (b6v (h.frz _ _ _ hv)))];exact h.frz _ _ _ hv,h.one,fun i ob hi'=>?_,by simp[h.lenφ],h.nod,fun i c1 o hc1 hd=>?_,fun i c1 hc1=>by have:=h.geφ i c1 hc1;simp;omega,by simp[h.lenρ],
  fun j b lo hi1 hj hlt=>?_,fun i j b lo hi1 lo' hi2 hij hi' hj' hlt hlt'=>?_,fun j b lo hi1 hj=>?_,fun i t' s c1 hi' hc1=>?_,h.ini,?_⟩⟩
 ·by_cases e1:i=id
  ·subst e1
   rw[g9e hidl]at hi'
   cases hi'
   obtain⟨c1,hc1,_⟩:=h.obj i _ hid
   exact⟨c1,hc1,trivial⟩
  ·obtain⟨c1,hc1,hr1⟩:=h.obj i ob (hset i ob hi' e1)
   exact⟨c1,hc1,hr1.keep hx (hold c1 (h.geφ i c1 hc1).2)⟩
 ·by_cases e1:i=id
  ·subst e1
   exact h.sep i c1 o hc1 (by rw[hid];intro hh;cases hh)
  ·rw[g9i (Ne.symm e1)]at hd
   exact h.sep i c1 o hc1 hd
 ·by_cases ej:j=k
  ·subst ej
   rw[show({ G with ρ:=G.ρ.set j (w.heap.size,0,hi) }:Gh).ρ=G.ρ.set j (w.heap.size,0,hi)from rfl,hρk]at hj
   cases hj
   refine⟨⟨c,t,by rw[b0Q,if_pos rfl],hhi⟩,fun i hi2=>?_,fun o _ _=>h.F_new o,hs⟩
   have:=(h.geφ i _ hi2).2;omega
  ·rw[show({ G with ρ:=G.ρ.set k (w.heap.size,0,hi) }:Gh).ρ=G.ρ.set k (w.heap.size,0,hi)from rfl,hρj j ej]at hj
   obtain⟨⟨c1,e1,q1,q2⟩,q3,q4,q5⟩:=h.reg j b lo hi1 hj hlt
   refine⟨⟨c1,e1,by rw[hold b (g9x.1 q1).1];exact q1,q2⟩,fun i hi2 o ho2=>?_,q4,q5⟩
   by_cases e1:i=id
   ·subst e1
    rw[g9e hidl]at ho2
    cases ho2
    have:=q3 i hi2 _ hid
    exact this
   ·exact q3 i hi2 o (hset i o ho2 e1)
 ·have hi3:(G.ρ.set k (w.heap.size,0,hi))[i]? = some (b,lo,hi1):=hi'
  have hj3:(G.ρ.set k (w.heap.size,0,hi))[j]? = some (b,lo',hi2):=hj'
  clear hi' hj'
  have hlt1:∀ (j lo hi1:Nat),G.ρ[j]? = some (w.heap.size,lo,hi1)→lo<hi1→False:=fun j lo hi1 hj hlt=>by
   obtain⟨⟨c1,e1,q1,_⟩,_⟩:=h.reg j _ lo hi1 hj hlt
   have:=(g9x.1 q1).1
   omega
  by_cases ei:i=k
  ·rw[ei,hρk]at hi3
   cases hi3
   rw[hρj j (fun e=>hij (ei.trans e.symm))]at hj3
   exact(hlt1 j lo' hi2 hj3 hlt').elim
  ·rw[hρj i ei]at hi3
   by_cases ej:j=k
   ·rw[ej,hρk]at hj3
    cases hj3
    exact(hlt1 i lo hi1 hi3 hlt).elim
   ·rw[hρj j ej]at hj3
    exact h.regd i j b lo hi1 lo' hi2 hij hi3 hj3 hlt hlt'
 ·have hj:(G.ρ.set k (w.heap.size,0,hi))[j]? = some (b,lo,hi1):=hj
  by_cases ej:j=k
  ·subst ej
   rw[hρk]at hj
   cases hj
   exact .inl hs
  ·rw[hρj j ej]at hj
   exact h.fre j b lo hi1 hj
 ·have e1:i≠id:=fun e1=>by subst e1;rw[g9e hidl]at hi';cases hi'
  refine(h.bld i t' s c1 (hset i _ hi' e1) hc1).keep (hold c1 (h.geφ i c1 hc1).2) fun g hg ⟨s1,s2,s3⟩=>⟨hold g hg,s1,s2,fun j lo hi1 hj=>?_⟩
  have hj:(G.ρ.set k (w.heap.size,0,hi))[j]? = some (g,lo,hi1):=hj
  by_cases ej:j=k
  ·subst ej
   rw[hρk]at hj
   cases hj
   omega
  ·rw[hρj j ej]at hj
   exact s3 j lo hi1 hj
 ·refine⟨fun i k1 g1 e1 cs1 hi1=>?_,fun i i' k1 g1 g1' e1 e1' cs1 cs1' hi1 hi1'=>?_⟩
  ·by_cases ei:i=id
   ·subst ei
    rw[g9e hidl]at hi1
    cases hi1
    refine⟨g9e hkl,by omega,w.heap.size,hi,hρk,hch,fun j x hj=>?_⟩
    obtain⟨v,hv,hrv,hov⟩:=hr j x hj
    exact⟨v,by rw[World.cell?_alloc_new];exact hv,hrv.mono hx,hov⟩
   ·have hi2:=hset i _ hi1 ei
    obtain⟨q1,q2,b1,hi3,q3,q4,q5⟩:=h.vs.at_ i k1 g1 e1 cs1 hi2
    have hkk:k1≠k:=fun ek=>by subst ek;exact ei (h.vs.uni _ _ _ _ _ _ _ _ _ hi2 hid)
    refine⟨by rw[g9i (Ne.symm hkk)];exact q1,q2,b1,hi3,(hρj k1 hkk).trans q3,q4,fun j x hj=>?_⟩
    obtain⟨v,hv,hrv,hov⟩:=q5 j x hj
    exact⟨v,by rw[b2r (hold b1 (b6v hv))];exact hv,hrv.mono hx,hov⟩
  ·have key:∀ (i k1 g1:Nat) e1 cs1,(heap.set id (.vec k gen' e cs'))[i]? = some (.vec k1 g1 e1 cs1)→∃ g e2 cs2,heap[i]? = some (.vec k1 g e2 cs2):=fun i k1 g1 e1 cs1 hq=>by
    by_cases ei:i=id
    ·subst ei
     rw[g9e hidl]at hq
     cases hq
     exact⟨_,_,_,hid⟩
    ·exact⟨_,_,_,hset i _ hq ei⟩
   obtain⟨_,_,_,a1⟩:=key _ _ _ _ _ hi1
   obtain⟨_,_,_,a2⟩:=key _ _ _ _ _ hi1'
   exact h.vs.uni _ _ _ _ _ _ _ _ _ a1 a2
theorem RelW.vecNew{E:Env}{G:Gh}{heap:List VObj}{arr:List Nat}{w0:Base}{w:World}(h:RelW E G heap arr w0 w){hi:Nat}{e t:TypeId}{cs':List V}{c:Array Value}
  (hch:cs'.length≤hi) (hhi:hi≤c.size) (hr:∀ (j:Nat) x,cs'[j]? = some x→∃ v,c[j]? = some v∧RV E.P G arr x v∧v.oneCell'=true) :
  Ext G arr { G with φ:=G.φ++[w.heap.size],ρ:=G.ρ++[(w.heap.size,0,hi)] } (arr++[b8w]) ∧
  RelW E { G with φ:=G.φ++[w.heap.size],ρ:=G.ρ++[(w.heap.size,0,hi)] } (heap++[.vec arr.length b8w e cs']) (arr++[b8w]) w0 (w.alloc (.cells c t)):=by
 have hs:=h.below.size
 have hlφ:=h.lenφ
 have hlρ:=h.lenρ
 have hx:Ext G arr { G with φ:=G.φ++[w.heap.size],ρ:=G.ρ++[(w.heap.size,0,hi)] } (arr++[b8w]) :=
  ⟨fun _ _ _ h=>h,fun i b hb=>by
   show(G.φ++_)[i]? = _
   rw[g9a (g8Y.1 hb).1];exact hb,fun j n hj=>by
   have:=(g8Y.1 hj).1
   exact⟨n,by rw[g9a this];exact hj,g9m _,fun _=>g9a (by omega)⟩⟩
 have hget:∀ (i:Nat) b,(G.φ++[w.heap.size])[i]? = some b→(i<heap.length∧G.φ[i]? = some b)∨(i=heap.length∧b=w.heap.size):=fun i b hb=>by
  rcases Nat.lt_trichotomy i heap.length with hl | hl | hl
  ·rw[g9a (by omega)]at hb;exact .inl ⟨hl,hb⟩
  ·subst hl;rw[g9c (by omega)]at hb;simp[hlφ]at hb;exact .inr ⟨rfl,hb.symm⟩
  ·rw[g9K (by simp;omega)]at hb;cases hb
 have hgeto:∀ (i:Nat) o,(heap++[.vec arr.length b8w e cs'])[i]? = some o→(i<heap.length∧heap[i]? = some o)∨(i=heap.length∧o = .vec arr.length b8w e cs'):=fun i o ho=>by
  rcases Nat.lt_trichotomy i heap.length with hl | hl | hl
  ·rw[g9a hl]at ho;exact .inl ⟨hl,ho⟩
  ·subst hl;rw[g9c (g9m _)]at ho;simp at ho;exact .inr ⟨rfl,ho.symm⟩
  ·rw[g9K (by simp;omega)]at ho;cases ho
 have hgetr:∀ (j b lo hi1:Nat),(G.ρ++[(w.heap.size,0,hi)])[j]? = some (b,lo,hi1)→(j<arr.length∧G.ρ[j]? = some (b,lo,hi1))∨(j=arr.length∧b=w.heap.size∧lo=0∧hi1=hi):=fun j b lo hi1 hj=>by
  rcases Nat.lt_trichotomy j arr.length with hl | hl | hl
  ·rw[g9a (by omega)]at hj;exact .inl ⟨hl,hj⟩
  ·subst hl;rw[g9c (by omega)]at hj;simp[hlρ]at hj;exact .inr ⟨rfl,hj.1.symm,hj.2.1.symm,hj.2.2.symm⟩
  ·rw[g9K (by simp;omega)]at hj;cases hj
 have hlt1:∀ (j lo hi1:Nat),G.ρ[j]? = some (w.heap.size,lo,hi1)→lo<hi1→False:=fun j lo hi1 hj hlt=>by
  obtain⟨⟨c1,e1,q1,_⟩,_⟩:=h.reg j _ lo hi1 hj hlt
  have:=(g9x.1 q1).1
  omega
 have hold:∀ b,b<w.heap.size→(w.alloc (.cells c t)).heap[b]? = w.heap[b]?:=fun b hb=>by rw[b0Q,if_neg (by omega)]
 refine⟨hx,⟨h.newF,fun g cs hg=>⟨(h.glob g cs hg).1,(h.glob g cs hg).2.mono hx⟩,h.below.alloc hs _,fun b o v hv=>by rw[b2r (hold b (b6v (h.frz _ _ _ hv)))];exact h.frz _ _ _ hv,h.one,fun i ob hi'=>?_,by simp[hlφ],fun i j b hi1 hj1=>?_,fun i c1 o hc1 hd=>?_,fun i c1 hc1=>?_,by simp[hlρ],
  fun j b lo hi1 hj hlt=>?_,fun i j b lo hi1 lo' hi2 hij hi' hj' hlt hlt'=>?_,fun j b lo hi1 hj=>?_,fun i t' s c1 hi' hc1=>?_,h.ini,⟨fun i k1 g1 e1 cs1 hi1=>?_,fun i i' k1 g1 g1' e1 e1' cs1 cs1' hi1 hi1'=>?_⟩⟩⟩
 ·rcases hgeto i ob hi' with⟨h1,h2⟩ | ⟨rfl,rfl⟩
  ·obtain⟨c1,hc1,hr1⟩:=h.obj i ob h2
   exact⟨c1,hx.φ _ _ hc1,hr1.keep hx (hold c1 (h.geφ i c1 hc1).2)⟩
  ·exact⟨w.heap.size,by show(G.φ++_)[_]? = _;rw[g9c (by omega)];simp[hlφ],trivial⟩
 ·rcases hget i b hi1 with⟨h1,h2⟩ | ⟨h1,h2⟩ <;> rcases hget j b hj1 with⟨h3,h4⟩ | ⟨h3,h4⟩
  ·exact h.nod i j b h2 h4
  ·have:=(h.geφ i b h2).2;omega
  ·have:=(h.geφ j b h4).2;omega
  ·omega
 ·rcases hget i c1 hc1 with⟨h1,h2⟩ | ⟨h1,h2⟩
  ·exact h.sep i c1 o h2 (by rwa [g9a h1]at hd)
  ·subst h2;exact h.F_new o
 ·rcases hget i c1 hc1 with⟨h1,h2⟩ | ⟨h1,h2⟩
  ·have:=h.geφ i c1 h2;simp;omega
  ·subst h2;simp;omega
 ·rcases hgetr j b lo hi1 hj with⟨h1,h2⟩ | ⟨h1,rfl,rfl,rfl⟩
  ·obtain⟨⟨c1,e1,q1,q2⟩,q3,q4,q5⟩:=h.reg j b lo hi1 h2 hlt
   have hbl:=(g9x.1 q1).1
   refine⟨⟨c1,e1,by rw[hold b hbl];exact q1,q2⟩,fun i hi2 o ho2=>?_,q4,q5⟩
   rcases hget i b hi2 with⟨h3,h4⟩ | ⟨h3,h4⟩
   ·rcases hgeto i o ho2 with⟨h5,h6⟩ | ⟨h5,h6⟩
    ·exact q3 i h4 o h6
    ·omega
   ·omega
  ·refine⟨⟨c,t,by rw[b0Q,if_pos rfl],hhi⟩,fun i hi2 o ho2=>?_,fun o _ _=>h.F_new o,hs⟩
   rcases hget i _ hi2 with⟨h3,h4⟩ | ⟨h3,h4⟩
   ·have:=(h.geφ i _ h4).2;omega
   ·rcases hgeto i o ho2 with⟨h5,h6⟩ | ⟨h5,h6⟩
    ·omega
    ·subst h6
     subst h1
     simp[VObj.looseAt]
 ·rcases hgetr i b lo hi1 hi' with⟨h1,h2⟩ | ⟨h1,rfl,rfl,rfl⟩ <;> rcases hgetr j _ lo' hi2 hj' with⟨h3,h4⟩ | ⟨h3,h4,h5,h6⟩
  ·exact h.regd i j b lo hi1 lo' hi2 hij h2 h4 hlt hlt'
  ·subst h4
   exact(hlt1 i lo hi1 h2 hlt).elim
  ·exact(hlt1 j lo' hi2 h4 hlt').elim
  ·omega
 ·rcases hgetr j b lo hi1 hj with⟨h1,h2⟩ | ⟨h1,rfl,rfl,rfl⟩
  ·exact h.fre j b lo hi1 h2
  ·exact .inl hs
 ·rcases hgeto i _ hi' with⟨h1,h2⟩ | ⟨h1,h2⟩
  ·rcases hget i c1 hc1 with⟨_,h4⟩ | ⟨h3,_⟩
   ·refine(h.bld i t' s c1 h2 h4).keep (hold c1 (h.geφ i c1 h4).2) fun g hg ⟨s1,s2,s3⟩=>⟨hold g hg,s1,fun i hi2=>?_,fun j lo hi1 hj=>?_⟩
    ·rcases hget i g hi2 with⟨_,h6⟩ | ⟨_,h6⟩
     ·exact s2 i h6
     ·omega
    ·rcases hgetr j g lo hi1 hj with⟨_,h6⟩ | ⟨_,h6,_,_⟩
     ·exact s3 j lo hi1 h6
     ·omega
   ·omega
  ·cases h2
 ·rcases hgeto i _ hi1 with⟨h1,h2⟩ | ⟨h1,h2⟩
  ·obtain⟨q1,q2,b1,hi3,q3,q4,q5⟩:=h.vs.at_ i k1 g1 e1 cs1 h2
   have hkl:=(g8Y.1 q1).1
   refine⟨by rw[g9a hkl];exact q1,q2,b1,hi3,by show(G.ρ++_)[_]? = _;rw[g9a (by omega)];exact q3,q4,fun j x hj=>?_⟩
   obtain⟨v,hv,hrv,hov⟩:=q5 j x hj
   exact⟨v,by rw[b2r (hold b1 (b6v hv))];exact hv,hrv.mono hx,hov⟩
  ·cases h2
   refine⟨by simp,g9m _,w.heap.size,hi,by show(G.ρ++_)[_]? = _;rw[g9c (by omega)];simp[hlρ],hch,fun j x hj=>?_⟩
   obtain⟨v,hv,hrv,hov⟩:=hr j x hj
   exact⟨v,by rw[World.cell?_alloc_new];exact hv,hrv.mono hx,hov⟩
 ·have hk:∀ (i k1 g1:Nat) e1 cs1,heap[i]? = some (.vec k1 g1 e1 cs1)→k1<arr.length:=fun i k1 g1 e1 cs1 hq=>(g8Y.1 (h.vs.at_ i k1 g1 e1 cs1 hq).1).1
  rcases hgeto i _ hi1 with⟨h1,h2⟩ | ⟨h1,h2⟩ <;> rcases hgeto i' _ hi1' with⟨h3,h4⟩ | ⟨h3,h4⟩
  ·exact h.vs.uni _ _ _ _ _ _ _ _ _ h2 h4
  ·cases h4
   have:=hk _ _ _ _ _ h2;omega
  ·cases h2
   have:=hk _ _ _ _ _ h4;omega
  ·omega
def Own.fresh:Own→Bool
 | .full | .nil=>true
 | _=>false
def c5A(E:Env)(heap:List VObj)(arr:List Nat)(sT xT:TypeId)(s x:V)(K:V→List VObj→List Nat→Prop):Prop :=
 match E.P.underlying sT,E.P.underlying xT,x with
 | some (.slice e),some (.slice _),.slice _ e2 xs=>(xs≠[]∧e2=e∧b0W E.P e=true)∧match s with
  | .vec id k gen len e1=>match heap[id]? with
   | some (.vec k' gen' e' cs)=>(k'=k∧gen'=gen∧e1=e∧e'=e∧cs.length=len * E.P.cellsOf e∧(len+xs.length) * E.P.bytesOf e≤140737488355328) ∧
     K (.vec id k (gen+1) (len+xs.length) e) (heap.set id (.vec k (gen+1) e (cs++xs.flatten))) (arr.set k (gen+1))
   | _=>False
  | .slice o e1 es=>(o.fresh=true∧(es=[]∨e1=e)∧(es.length+xs.length) * E.P.bytesOf e≤140737488355328) ∧
    K (.vec heap.length arr.length b8w (es.length+xs.length) e) (heap++[.vec arr.length b8w e (es.flatten++xs.flatten)]) (arr++[b8w])
  | _=>False
 | _,_,_=>False
theorem c6N{P:Program}{e:TypeId}{i:TypeInfo}{n cap:Nat}(hib:i.bytes=P.bytesOf e)(hb:n * P.bytesOf e≤140737488355328)(hb2:P.bytesOf e≤1048576)(hcap:cap<n):Builtin.nextslicecap n cap * i.bytes≤281474976710656:=by
 have hnc:=b5E n cap hcap
 rw[hib]
 have h1:Builtin.nextslicecap n cap * P.bytesOf e≤(n+n / 4+512) * P.bytesOf e:=g9L _ hnc
 have h2:n / 4 * P.bytesOf e≤140737488355328 / 4:=by
  have:n / 4 * P.bytesOf e≤n * P.bytesOf e / 4:=by
   rw[Nat.le_div_iff_mul_le (by omega)]
   have:=Nat.div_mul_le_self n 4
   calc n / 4 * P.bytesOf e * 4=n / 4 * 4 * P.bytesOf e:=by rw[Nat.mul_right_comm]
    _≤n * P.bytesOf e:=g9L _ this
  omega
 have h3:512 * P.bytesOf e≤536870912:=by omega
 rw[g9R,g9R]at h1
 omega
theorem c5j{E:Env}{G:Gh}{heap:List VObj}{arr:List Nat}{w0:Base}{w:World}(h:RelW E G heap arr w0 w){s x:V}{vs vx:Value}{t:TypeId}{sT xT:TypeId}
  {K:V→List VObj→List Nat→Prop} (hs:RV E.P G arr s vs) (hx:RV E.P G arr x vx) (hK:c5A E heap arr sT xT s x K) :
  ∃ u y heap' arr' G' w',(Builtin.append_ #[sT,xT] t #[vs,vx]).run E.P w = .ok u w'∧K y heap' arr'∧Ext G arr G' arr'∧RelW E G' heap' arr' w0 w'∧RV E.P G' arr' y u:=by
 unfold c5A at hK
 split at hK
 case h_2=>exact hK.elim
 rename_i e ex o2 e2 xs hsT hxT
 obtain⟨⟨hx0,he2,hok⟩,hK⟩:=hK
 subst he2
 obtain⟨i,z,hi,hz,hz1,hzs,his,hib,hs1,hb1,hb2⟩:=b2F hok
 obtain⟨hlen2,hsh2⟩:=d8q hx (.inr rfl)
 obtain⟨news,hsn,hget2⟩:=b5B h hxT hsh2
 have hpos:0<xs.length:=List.length_pos_iff.2 hx0
 have hnl:=hsn.newsLen
 have hxp:1≤xs.length * E.P.cellsOf e2:=Nat.mul_pos hpos hs1
 have hxf:=b8J hlen2
 have hone:∀ {ol:List Value},(∀ v∈ol,v.oneCell'=true)→∀ v∈ol++news,v.oneCell'=true:=fun ho v hv=>by
  rcases g9A.1 hv with hm | hm
  ·exact ho v hm
  ·exact hsn.one v hm
 split at hK
 ·-- it grows already
  rename_i id k gen len e1
  split at hK
  case h_2=>exact hK.elim
  rename_i k' gen' e' cs hid
  obtain⟨⟨rfl,rfl,rfl,rfl,hcl,hbytes⟩,hK⟩:=hK
  obtain⟨hak,hgg,b,hi0,hρ,hch,hcells⟩:=h.vs.at_ _ _ _ _ _ hid
  have hneed:len+xs.length≤140737488355328:=h0i (Nat.le_mul_of_pos_right _ hb1) hbytes
  cases hs with
  | vec _ _ _ _ _ b1 o1 cap hv hl1 hl2 =>
   obtain⟨n,g1,g2,g3⟩:=hv
   rw[hak]at g1
   cases g1
   obtain⟨b',hi',g4,g5,g6,g7,g8⟩:=g3 rfl
   rw[hρ]at g4
   cases g4
   subst g5 g7 g8
   have holds:∃ olds:List Value,olds.length=len * E.P.cellsOf e'∧∀ (j:Nat) x,cs[j]? = some x→∃ v,olds[j]? = some v∧w.cell? ⟨b,0+j,none⟩=some v∧RV E.P G arr x v∧v.oneCell'=true:=by
    refine⟨(List.range (len * E.P.cellsOf e')).map fun j=>(w.cell? ⟨b,j,none⟩).getD undef,by simp,fun j x hj=>?_⟩
    obtain⟨v,hv,hr,ho⟩:=hcells j x hj
    have hjl:=(g8Y.1 hj).1
    refine⟨v,?_,by rw[g9s];exact hv,hr,ho⟩
    rw[g9q,List.getElem?_range (by omega)]
    simp[hv]
   obtain⟨olds,hol,hog⟩:=holds
   have hog':∀ (j:Nat) u,olds[j]? = some u→∃ x,cs[j]? = some x∧w.cell? ⟨b,0+j,none⟩=some u∧RV E.P G arr x u∧u.oneCell'=true:=fun j u hu=>by
    have hjl:=(g8Y.1 hu).1
    obtain⟨v,q1,q2⟩:=hog j cs[j] (g9b (by omega))
    rw[hu]at q1
    cases q1
    exact⟨_,g9b (by omega),q2⟩
   have holdOne:∀ u∈olds,u.oneCell'=true:=fun u hu=>by
    obtain⟨j,hj,rfl⟩:=h0c hu
    obtain⟨_,_,_,_,q⟩:=hog' j _ (g9b hj)
    exact q
   have hso:Src E.P (E.P.cellsOf e') sT (.slice (some ⟨b,0,none⟩) len cap) len olds w:=Src.ofSlice w hsT ⟨b,0,none⟩ len cap olds hol (fun j u hu=>by
    obtain⟨_,_,q,_⟩:=hog' j u hu
    rw[Addr.add_mk];exact q) holdOne
   have hall:∀ (j:Nat) x,(cs++xs.flatten)[j]? = some x→∃ v,(olds++news)[j]? = some v∧RV E.P G arr x v∧v.oneCell'=true:=fun j x hj=>by
    by_cases hjl:j<cs.length
    ·rw[g9a hjl]at hj
     obtain⟨v,q1,_,q2,q3⟩:=hog j x hj
     exact⟨v,by rw[g9a (by omega)];exact q1,q2,q3⟩
    ·rw[g9c (by omega)]at hj
     obtain⟨u,hu,hr⟩:=b7d hlen2 hget2 _ _ hj
     refine⟨u,by rw[g9c (by omega)];rw[hol,←hcl];exact hu,hr,hsn.one u (g9f hu)⟩
   by_cases hcap:cap<len+xs.length
   ·have hrun:=run_append_grow_src (P:=E.P) w sT xT t e' i z hsT hi hz (some ⟨b,0,none⟩) len cap olds (by rw[his];exact hso.cellsD) vx xs.length news (by rw[his];exact hsn) hcap (by omega) (c6N hib hbytes hb2 hcap)
    generalize hcapN:grownCap w (len+xs.length) cap e'=newCap at hrun
    have hge:len+xs.length≤newCap:=by
     rw[←hcapN];simp only[grownCap,Question.cut];omega
    have hmul:(len+xs.length) * E.P.cellsOf e'≤newCap * E.P.cellsOf e':=g9L _ hge
    have hsz:((olds++news).toArray++Builtin.zeroCells z.cells (newCap - (len+xs.length))).size=newCap * E.P.cellsOf e':=by
     have:newCap=(len+xs.length)+(newCap - (len+xs.length)):=by omega
     rw[Array.size_append,b4j,hzs]
     simp only[List.size_toArray,g9d,hol,hnl]
     conv=>rhs;rw[this,g9R,g9R]
    obtain⟨hx',hr'⟩:=(h.drew (w.drawn+1)).vecMove (gen':=gen'+1) (hi:=newCap * E.P.cellsOf e') (t:=e') (cs':=cs++xs.flatten) (c:=(olds++news).toArray++Builtin.zeroCells z.cells (newCap - (len+xs.length))) hid (by omega)
     (by rw[g9d,hcl,hxf,←g9R];exact hmul) (by omega) (fun j x hj=>by
      obtain⟨v,q1,q2⟩:=hall j x hj
      refine⟨v,?_,q2⟩
      have:=(g8Y.1 q1).1
      rw[h0u (by simpa using this)]
      simpa using q1)
    refine⟨_,_,_,_,_,_,hrun,hK,hx',hr',.vec _ _ _ _ _ _ _ _ ⟨gen'+1,g9e (g8Y.1 hak).1,g9m _,fun _=>⟨w.heap.size,newCap * E.P.cellsOf e',?_,rfl,hge,rfl,rfl⟩⟩ hneed hbytes⟩
    exact g9e (g8Y.1 hρ).1
   ·have hmul:(len+xs.length) * E.P.cellsOf e'≤cap * E.P.cellsOf e':=g9L _ (by omega)
    rw[g9R]at hmul
    obtain⟨⟨cb,eb,hb1',hb2'⟩,r3,r4,r5⟩:=h.reg _ b 0 _ hρ (by omega)
    have hrun:=run_append_room_src (P:=E.P) w sT xT t e' i hsT hi b 0 len cap vx xs.length news (by rw[his];exact hsn) (by omega)
     (fun j hj=>by rw[his];simp only[World.cell?,hb1'];simp;omega) (fun j hj=>by rw[his];simp[World.frozen?,hb1'])
    obtain⟨w',cb',q1,q2,q3,q4,q5,q6,q7,q8,q9⟩:=b2z (P:=E.P) news w b (0+len * E.P.cellsOf e') 0 cb eb hb1' (by omega) (fun v hv=>by
     have:=hsn.one v hv
     exact⟨fun cs e=>by subst e;simp[Value.oneCell']at this,fun cs e=>by subst e;simp[Value.oneCell']at this⟩)
    have hw':w.setCells b (0+len * E.P.cellsOf e') news=w':=by
     have:=run_storeCells_cells (P:=E.P) b (0+len * E.P.cellsOf e') news 0 w (fun j hj=>by simp only[World.cell?,hb1'];simp;omega) (fun j hj=>by simp[World.frozen?,hb1']) hsn.one
     rw[q1]at this
     simp only[h0h]at this
     injection this with _ this
     exact this.symm
    rw[his,hw']at hrun
    obtain⟨hx',hr'⟩:=h.vecStep (gen':=gen'+1) (cs':=cs++xs.flatten) hid hρ (by omega) (by omega) hb1' (by rw[g9d,hcl,hxf];exact hmul) (fun j x hj=>by
     obtain⟨v,p1,p2⟩:=hall j x hj
     refine⟨v,?_,p2⟩
     have hpl:=(g8Y.1 p1).1
     rw[g9d]at hpl
     rw[q9]
     by_cases hjl:j<olds.length
     ·rw[if_neg (by omega)]
      rw[g9a hjl]at p1
      obtain⟨_,_,p3,_⟩:=hog' j v p1
      simp only[World.cell?,hb1',g9u,g9n,if_false,g9s]at p3
      exact p3
     ·rw[if_pos (by omega)]
      rw[g9c (by omega)]at p1
      rw[←p1]
      congr 1
      omega) q2 q3 q4 q5 q6 q7 q8 (fun j hj=>by rw[q9,if_neg (by omega)])
    refine⟨_,_,_,_,_,_,hrun,hK,hx',hr',.vec _ _ _ _ _ _ _ _ ⟨gen'+1,g9e (g8Y.1 hak).1,g9m _,fun _=>⟨b,cap * E.P.cellsOf e',hρ,rfl,by omega,rfl,rfl⟩⟩ hneed hbytes⟩
 ·-- it is made
  rename_i o e1 es
  obtain⟨⟨hfr,he1,hbytes⟩,hK⟩:=hK
  obtain⟨hlen1,hsh1⟩:=d8q hs he1
  obtain⟨olds,hso,hget1⟩:=b5B h hsT hsh1
  have hneed:es.length+xs.length≤140737488355328:=h0i (Nat.le_mul_of_pos_right _ hb1) hbytes
  obtain⟨a,cap,hvs,hcap⟩:∃ a cap,vs = .slice a es.length cap∧cap<es.length+xs.length:=by
   cases hs with
   | snil=>exact⟨none,0,rfl,by simpa using hpos⟩
   | sodd=>cases hfr
   | slice _ _ _ b off cap ho _ _ _ h4 =>
    cases o <;> simp only[Own.fresh,g9n]at hfr
    ·exact⟨_,cap,rfl,by have:cap=es.length:=ho;omega⟩
    ·exact ho.elim
  subst hvs
  have hol:=hso.newsLen
  have hrun:=run_append_grow_src (P:=E.P) w sT xT t e2 i z hsT hi hz a es.length cap olds (by rw[his];exact hso.cellsD) vx xs.length news (by rw[his];exact hsn) hcap (by omega) (c6N hib hbytes hb2 hcap)
  generalize hcapN:grownCap w (es.length+xs.length) cap e2=newCap at hrun
  have hge:es.length+xs.length≤newCap:=by
   rw[←hcapN];simp only[grownCap,Question.cut];omega
  have hmul:(es.length+xs.length) * E.P.cellsOf e2≤newCap * E.P.cellsOf e2:=g9L _ hge
  have hsz:((olds++news).toArray++Builtin.zeroCells z.cells (newCap - (es.length+xs.length))).size=newCap * E.P.cellsOf e2:=by
   have:newCap=(es.length+xs.length)+(newCap - (es.length+xs.length)):=by omega
   rw[Array.size_append,b4j,hzs]
   simp only[List.size_toArray,g9d,hol,hnl]
   conv=>rhs;rw[this,g9R,g9R]
  have hef:=b8J hlen1
  have hget:=c3E hol hget1 hget2
  obtain⟨hx',hr'⟩:=(h.drew (w.drawn+1)).vecNew (hi:=newCap * E.P.cellsOf e2) (e:=e2) (t:=e2) (cs':=es.flatten++xs.flatten) (c:=(olds++news).toArray++Builtin.zeroCells z.cells (newCap - (es.length+xs.length)))
   (by rw[g9d,hef,hxf,←g9R];exact hmul) (by omega) (fun j x hj=>by
    rw[←List.flatten_append]at hj
    obtain⟨u,hu,hr⟩:=b7d (d1t hlen1 hlen2) hget j x hj
    have hul:=(g8Y.1 hu).1
    refine⟨u,?_,hr,hone (fun v hv=>hso.one v hv) u (g9f hu)⟩
    rw[h0u (by simpa using hul)]
    simpa using hu)
  refine⟨_,_,_,_,_,_,hrun,hK,hx',hr',.vec _ _ _ _ _ _ _ _ ⟨b8w,by simp,g9m _,fun _=>⟨w.heap.size,newCap * E.P.cellsOf e2,?_,rfl,hge,rfl,rfl⟩⟩ hneed hbytes⟩
  have:=h.lenρ
  show(G.ρ++_)[_]? = _
  rw[g9c (by omega)]
  simp[this]
 ·exact hK.elim
def c5Z(E:Env)(heap:List VObj)(dT sT:TypeId)(x y:V)(K:V→List VObj→Prop):Prop :=
 match E.P.underlying dT,E.P.underlying sT,x,y with
 | some (.slice e),some (.slice _),.mslice id off len _ _,.slice _ e' es=>match heap[id]? with
  | some ob=>match ob.cs? with
   | some cs=>((es=[]∨e'=e)∧b0C E.P e=true∧es.length≤len∧off+es.flatten.length≤cs.length)∧K (.int .i64 es.length) (heap.set id (ob.put (c0q cs off es.flatten)))
   | none=>False
  | none=>False
 | _,_,_,_=>False
theorem d4L{E:Env}{G:Gh}{heap:List VObj}{arr:List Nat}{w0:Base}{w:World}(h:RelW E G heap arr w0 w){x y:V}{vx vy:Value}{t:TypeId}{dT sT:TypeId}
  {K:V→List VObj→Prop} (hx:RV E.P G arr x vx) (hy:RV E.P G arr y vy) (hK:c5Z E heap dT sT x y K) :
  ∃ u z heap' w',(Builtin.copy_ #[dT,sT] t #[vx,vy]).run E.P w = .ok u w'∧K z heap'∧RelW E G heap' arr w0 w'∧RV E.P G arr z u:=by
 unfold c5Z at hK
 split at hK
 case h_2=>exact hK.elim
 rename_i e ex id off len cp e1 o e' es hd hs
 split at hK
 case h_2=>exact hK.elim
 rename_i ob hid
 split at hK
 case h_2=>exact hK.elim
 rename_i cs hcs
 obtain⟨⟨h2,h3,h4,h5⟩,hk⟩:=hK
 obtain⟨i,hi⟩:=g9E.1 h3
 obtain⟨hlen,hsh⟩:=d8q hy h2
 obtain⟨news,hsn,hget⟩:=b5B h hs hsh
 have hnl:=hsn.newsLen
 have hfl:=b8J hlen
 have hnf:=b7d (R:=fun c u=>RV E.P G arr c u) hlen hget
 cases hx with
 | mslice _ _ _ cap _ b hb g1 g2 g3 =>
  obtain⟨b',hb',hro⟩:=h.obj id _ hid
  obtain⟨c,et,hc1,hc2,hc3,hput⟩:=hro.un hcs
  rw[hb]at hb';cases hb'
  have hcells:∀ v∈news,(∀ cs,v ≠ .agg cs)∧∀ cs,v ≠ .tuple cs:=fun v hv=>by
   have:=hsn.one v hv
   exact⟨fun cs e=>by subst e;simp[Value.oneCell']at this,fun cs e=>by subst e;simp[Value.oneCell']at this⟩
  obtain⟨w',c',q1,q2,q3,q4,q5,q6,q7,q8,q9⟩:=b2z (P:=E.P) news w b off 0 c et hc1 (by omega) hcells
  have hmin:Nat.min es.length len=es.length:=Nat.min_eq_left h4
  refine⟨.int .i64 es.length,_,_,w',?_,hk,h.change (hbl:=by intro t s hh;unfold VObj.put at hh;split at hh <;> cases hh) (hnv:=by intro _ _ _ _ hh;unfold VObj.put at hh;split at hh <;> cases hh) (hnl:=by intro _ _ _ _ hh;rw[hid]at hh;cases hh;cases hcs) hb (g8Y.1 hid).1 (by rw[hid];intro hd;cases hd;cases hcs) q2 q3 q4 q5 q6 (hput w' c' _ q7 (by rw[q8,hc2,b4Q _ _ _ h5]) fun j z hz=>?_),.int _ _⟩
  ·simp[Builtin.copy_,b0y hd,hsn.len,hmin,b0O hi,hsn.cells,q1,goInt]
  ·rw[b8A _ _ _ h5]at hz
   have:=q9 j
   simp only[h0h]at this
   by_cases hin:off≤j∧j<off+es.flatten.length
   ·rw[if_pos hin]at hz
    rw[if_pos (by omega)]at this
    obtain⟨u,hu,hr⟩:=hnf _ _ hz
    exact⟨u,by rw[this];exact hu,hr⟩
   ·rw[if_neg hin]at hz
    rw[if_neg (by omega)]at this
    obtain⟨u,hu,hru⟩:=hc3 j z hz
    exact⟨u,by rw[this];exact hu,hru⟩
end Go.Vg
