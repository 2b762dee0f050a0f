import Derived.Test.YtighfcpaplmaiaaGreatDoorVgE
import Derived.Test.YtighfcpaplmaiaaGreatDoorVgFk
import Derived.Test.YtighfcpaplmaiaaGreatDoorProg
import Derived.KernelRfl
set_option linter.unusedVariables false
set_option linter.unusedSimpArgs false
namespace Go.Vg
open Go.RowKit
def b8U:Nat:=18446744073709551616
theorem b8R{s:Nat}:∀ {xs:List (List V)},(∀ (i:Nat) el,xs[i]? = some el→el.length=s)→xs.flatten.length=xs.length * s
 | [],_=>by simp
 | x::r,h=>by
  have h0:=h 0 x rfl;have:=b8R (xs:=r) (s:=s) fun i el hi=>h (i+1) el (by simpa using hi)
  simp only[h1b,h0h,h0o,h0V,this,h0];omega
theorem b7u{s:Nat}{R:V→Value→Prop}:∀ {xs:List (List V)} {news:List Value},(∀ (i:Nat) el,xs[i]? = some el→el.length=s) →
  (∀ (i:Nat) el (j:Nat) c,xs[i]? = some el→el[j]? = some c→∃ u,news[i * s+j]? = some u∧R c u)→∀ (m:Nat) x,xs.flatten[m]? = some x→∃ u,news[m]? = some u∧R x u
 | [],news,_,_,m,x,hm=>by simp at hm
 | y::r,news,hl,hg,m,x,hm=>by
  have h0:=hl 0 y rfl;rw[h1b]at hm;by_cases hlt:m<y.length
  ·rw[h0e hlt]at hm;have:=hg 0 y m x rfl hm;simpa using this
  ·rw[h0g (by omega)]at hm;have:=b7u (xs:=r) (news:=news.drop s) (s:=s) (R:=R) (fun i el hi=>hl (i+1) el (by simpa using hi)) (fun i el j c hi hj=>by
    obtain⟨u,hu,hr⟩:=hg (i+1) el j c (by simpa using hi) hj;refine⟨u,?_,hr⟩;rw[h1d];rw[h0V]at hu;rw[←hu];congr 1;omega) (m - y.length) x hm
   obtain⟨u,hu,hr⟩:=this;refine⟨u,?_,hr⟩;rw[h1d]at hu;rw[←hu];congr 1;omega
theorem RelW.vecStep{E:Env}{G:Gh}{heap:List VObj}{arr:List Nat}{w0:Base}{w w':World}(h:RelW E G heap arr w0 w){id k gen gen' b hi:Nat}{e:TypeId}{cs cs':List V}{c c':Array Value}{t:TypeId}
  (hid:heap[id]? = some (.vec k gen e cs)) (hρ:G.ρ[k]? = some (b,0,hi)) (hhi:0<hi) (hg:gen<gen') (hc:w.heap[b]? = some (.cells c t (0,0))) (hch:cs'.length≤hi)
  (hr:∀ (j:Nat) x,cs'[j]? = some x→∃ v,c'[j]? = some v∧RV E.P G arr x v∧v.oneCell'=true)
  (hos:w'.os=w.os) (ht:w'.tape=w.tape) (ho:w'.output=w.output) (hsz:w'.heap.size=w.heap.size) (hk:∀ k,k≠b→w'.heap[k]? = w.heap[k]?) (hc':w'.heap[b]? = some (.cells c' t (0,0))) (hcs:c'.size=c.size)
  (hget:∀ j,hi≤j→c'[j]? = c[j]?):Ext G arr G (arr.set k gen')∧RelW E G (heap.set id (.vec k gen' e cs')) (arr.set k gen') w0 w':=by
 have hidl:id<heap.length:=(h0b.1 hid).1;obtain⟨hak,hgg,b0,hi0,hρ0,_,_⟩:=h.vs.at_ id k gen e cs hid;rw[hρ]at hρ0;cases hρ0
 have hkl:=(h0b.1 hak).1;have hx:Ext G arr G (arr.set k gen'):=by
  refine⟨fun _ _ _ h=>h,fun _ _ h=>h,fun j n hj=>?_⟩;by_cases ej:j=k
  ·subst ej;rw[hak]at hj;cases hj
   exact⟨gen',h0i hkl,by omega,fun e=>by omega⟩
  ·exact⟨n,by rw[h0m (Ne.symm ej)];exact hj,h0q _,fun _=>rfl⟩
 obtain⟨⟨c0,e0,r1,r2⟩,r3,r4,r5⟩:=h.reg k b 0 hi hρ hhi;rw[hc]at r1;cases r1
 have hcell:∀ b' o,(b'≠b∨hi≤o)→w'.cell? ⟨b',o,none⟩=w.cell? ⟨b',o,none⟩:=fun b' o hor=>by
  by_cases e:b'=b
  ·subst e;have hn:hi≤o:=by rcases hor with h | h;exact absurd rfl h;exact h
   unfold World.cell?;rw[hc',hc];simp only[h0y,h0r,if_false];exact hget o hn
  ·exact b2y (hk b' e)
 have hne:∀ (i c:Nat),G.φ[i]? = some c→∀ o,heap[i]? = some o→o.loose=false→c≠b:=fun i c hi' o ho hlo e=>by
  subst e;rw[VObj.loose_of (r3 i hi' o ho)]at hlo;cases hlo
 have hset:∀ (i:Nat) o,(heap.set id (.vec k gen' e cs'))[i]? = some o→i≠id→heap[i]? = some o:=fun i o hi' hn=>by rwa [h0m (Ne.symm hn)]at hi'
 refine⟨hx,⟨h.newF,fun g cs hg=>⟨(h.glob g cs hg).1,(h.glob g cs hg).2.mono hx⟩,h.below.trans ⟨hos,ht,ho,by omega,fun k' hk'=>hk k' (by omega)⟩,fun b' o v hv=>?_,h.one,fun i ob hi'=>?_,by simp[h.lenφ],h.nod,fun i c1 o hc1 hd=>?_,fun i c1 hc1=>by rw[hsz];exact h.geφ i c1 hc1,by simp[h.lenρ],
  fun k' b' lo hi' hk' hlt=>?_,h.regd,h.fre,fun i t' s c1 hi' hc1=>?_,h.ini,?_⟩⟩
 ·rw[hcell b' o]
  ·exact h.frz _ _ _ hv
  ·by_cases e:b'=b
   ·subst e;refine .inr (Nat.le_of_not_lt fun hh=>?_);rw[r4 o (Nat.zero_le _) hh]at hv;cases hv
   ·exact .inl e
 ·by_cases e1:i=id
  ·subst e1;rw[h0i hidl]at hi';cases hi'
   obtain⟨c1,hc1,_⟩:=h.obj i _ hid;exact⟨c1,hc1,trivial⟩
  ·have hi2:=hset i ob hi' e1;obtain⟨c1,hc1,hr1⟩:=h.obj i ob hi2;refine⟨c1,hc1,?_⟩;cases hlo:ob.loose with
   | false=>exact hr1.keep hx (hk c1 (hne i c1 hc1 ob hi2 hlo))
   | true =>
    cases ob <;> simp only[VObj.loose,h0r]at hlo
    ·trivial
    ·trivial
 ·by_cases e1:i=id
  ·subst e1;exact h.sep i c1 o hc1 (by rw[hid];intro hh;cases hh)
  ·rw[h0m (Ne.symm e1)]at hd;exact h.sep i c1 o hc1 hd
 ·obtain⟨⟨c1,e1,q1,q2⟩,q3,q4,q5⟩:=h.reg k' b' lo hi' hk' hlt;refine⟨?_,fun i hi2 o ho2=>?_,q4,q5⟩
  ·by_cases eb:b'=b
   ·subst eb;rw[hc]at q1;cases q1
    exact⟨c',t,hc',by omega⟩
   ·exact⟨c1,e1,by rw[hk b' eb];exact q1,q2⟩
  ·by_cases e1:i=id
   ·subst e1;rw[h0i hidl]at ho2;cases ho2
    have:=q3 i hi2 _ hid;exact this
   ·exact q3 i hi2 o (hset i o ho2 e1)
 ·have e1:i≠id:=fun e1=>by subst e1;rw[h0i hidl]at hi';cases hi'
  have hi2:=hset i _ hi' e1;refine(h.bld i t' s c1 hi2 hc1).keep (hk c1 (hne i c1 hc1 _ hi2 rfl)) fun g hg hs=>⟨hk g fun eg=>?_,hs⟩
  subst eg;have:=hs.2.2 k 0 hi hρ;omega
 ·refine⟨fun i k1 g1 e1 cs1 hi1=>?_,fun i i' k1 g1 g1' e1 e1' cs1 cs1' hi1 hi1'=>?_⟩
  ·by_cases ei:i=id
   ·subst ei;rw[h0i hidl]at hi1;cases hi1
    refine⟨h0i hkl,by omega,b,hi,hρ,hch,fun j x hj=>?_⟩;obtain⟨v,hv,hrv,hov⟩:=hr j x hj;refine⟨v,?_,hrv.mono hx,hov⟩;unfold World.cell?;rw[hc'];simpa only[h0y,h0r,if_false]using hv
   ·have hi2:=hset i _ hi1 ei;obtain⟨q1,q2,b1,hi3,q3,q4,q5⟩:=h.vs.at_ i k1 g1 e1 cs1 hi2;have hkk:k1≠k:=fun ek=>by subst ek;exact ei (h.vs.uni _ _ _ _ _ _ _ _ _ hi2 hid)
    refine⟨by rw[h0m (Ne.symm hkk)];exact q1,q2,b1,hi3,q3,q4,fun j x hj=>?_⟩;obtain⟨v,hv,hrv,hov⟩:=q5 j x hj;refine⟨v,?_,hrv.mono hx,hov⟩;rw[hcell b1 j (.inl fun eb=>?_)]
    ·exact hv
    ·subst eb;have:=h.regd k1 k b1 0 hi3 0 hi hkk q3 hρ (by have:=(h0b.1 hj).1;omega) hhi;have:=(h0b.1 hj).1;omega
  ·have key:∀ (i k1 g1:Nat) e1 cs1,(heap.set id (.vec k gen' e cs'))[i]? = some (.vec k1 g1 e1 cs1)→∃ g e2 cs2,heap[i]? = some (.vec k1 g e2 cs2):=fun i k1 g1 e1 cs1 hq=>by
    by_cases ei:i=id
    ·subst ei;rw[h0i hidl]at hq;cases hq
     exact⟨_,_,_,hid⟩
    ·exact⟨_,_,_,hset i _ hq ei⟩
   obtain⟨_,_,_,a1⟩:=key _ _ _ _ _ hi1;obtain⟨_,_,_,a2⟩:=key _ _ _ _ _ hi1';exact h.vs.uni _ _ _ _ _ _ _ _ _ a1 a2
theorem RelW.vecMove{E:Env}{G:Gh}{heap:List VObj}{arr:List Nat}{w0:Base}{w:World}(h:RelW E G heap arr w0 w){id k gen gen' hi:Nat}{e t:TypeId}{cs cs':List V}{c:Array Value}
  (hid:heap[id]? = some (.vec k gen e cs)) (hg:gen<gen') (hch:cs'.length≤hi) (hhi:hi≤c.size) (hr:∀ (j:Nat) x,cs'[j]? = some x→∃ v,c[j]? = some v∧RV E.P G arr x v∧v.oneCell'=true) :
  Ext G arr { G with ρ:=G.ρ.set k (w.heap.size,0,hi) } (arr.set k gen')∧RelW E { G with ρ:=G.ρ.set k (w.heap.size,0,hi) } (heap.set id (.vec k gen' e cs')) (arr.set k gen') w0 (w.alloc (.cells c t)):=by
 have hidl:id<heap.length:=(h0b.1 hid).1;obtain⟨hak,hgg,b0,hi0,hρ0,_,_⟩:=h.vs.at_ id k gen e cs hid;have hkl:=(h0b.1 hak).1;have hkr:k<G.ρ.length:=(h0b.1 hρ0).1;have hs:=h.below.size;have hx:Ext G arr { G with ρ:=G.ρ.set k (w.heap.size,0,hi) } (arr.set k gen'):=by
  refine⟨fun _ _ _ h=>h,fun _ _ h=>h,fun j n hj=>?_⟩;by_cases ej:j=k
  ·subst ej;rw[hak]at hj;cases hj
   exact⟨gen',h0i hkl,by omega,fun e=>by omega⟩
  ·exact⟨n,by rw[h0m (Ne.symm ej)];exact hj,h0q _,fun _=>h0m (Ne.symm ej)⟩
 have hset:∀ (i:Nat) o,(heap.set id (.vec k gen' e cs'))[i]? = some o→i≠id→heap[i]? = some o:=fun i o hi' hn=>by rwa [h0m (Ne.symm hn)]at hi'
 have hρk:(G.ρ.set k (w.heap.size,0,hi))[k]? = some (w.heap.size,0,hi):=h0i hkr;have hρj:∀ j:Nat,j≠k→(G.ρ.set k (w.heap.size,0,hi))[j]? = G.ρ[j]?:=fun j hj=>h0m (Ne.symm hj)
 have hold:∀ b,b<w.heap.size→(w.alloc (.cells c t)).heap[b]? = w.heap[b]?:=fun b hb=>by rw[b0N,if_neg (by omega)]
 refine⟨hx,⟨h.newF,fun g cs hg=>⟨(h.glob g cs hg).1,(h.glob g cs hg).2.mono hx⟩,h.below.alloc hs _,fun b o v hv=>by rw[b2y (hold b (b6L (h.frz _ _ _ hv)))];exact h.frz _ _ _ hv,h.one,fun i ob hi'=>?_,by simp[h.lenφ],h.nod,fun i c1 o hc1 hd=>?_,fun i c1 hc1=>by have:=h.geφ i c1 hc1;simp;omega,by simp[h.lenρ],
  fun j b lo hi1 hj hlt=>?_,fun i j b lo hi1 lo' hi2 hij hi' hj' hlt hlt'=>?_,fun j b lo hi1 hj=>?_,fun i t' s c1 hi' hc1=>?_,h.ini,?_⟩⟩
 ·by_cases e1:i=id
  ·subst e1;rw[h0i hidl]at hi';cases hi'
   obtain⟨c1,hc1,_⟩:=h.obj i _ hid;exact⟨c1,hc1,trivial⟩
  ·obtain⟨c1,hc1,hr1⟩:=h.obj i ob (hset i ob hi' e1);exact⟨c1,hc1,hr1.keep hx (hold c1 (h.geφ i c1 hc1).2)⟩
 ·by_cases e1:i=id
  ·subst e1;exact h.sep i c1 o hc1 (by rw[hid];intro hh;cases hh)
  ·rw[h0m (Ne.symm e1)]at hd;exact h.sep i c1 o hc1 hd
 ·by_cases ej:j=k
  ·subst ej;rw[show({ G with ρ:=G.ρ.set j (w.heap.size,0,hi) }:Gh).ρ=G.ρ.set j (w.heap.size,0,hi)from rfl,hρk]at hj;cases hj
   refine⟨⟨c,t,by rw[b0N,if_pos rfl],hhi⟩,fun i hi2=>?_,fun o _ _=>h.F_new o,hs⟩;have:=(h.geφ i _ hi2).2;omega
  ·rw[show({ G with ρ:=G.ρ.set k (w.heap.size,0,hi) }:Gh).ρ=G.ρ.set k (w.heap.size,0,hi)from rfl,hρj j ej]at hj;obtain⟨⟨c1,e1,q1,q2⟩,q3,q4,q5⟩:=h.reg j b lo hi1 hj hlt;refine⟨⟨c1,e1,by rw[hold b (h0B.1 q1).1];exact q1,q2⟩,fun i hi2 o ho2=>?_,q4,q5⟩;by_cases e1:i=id
   ·subst e1;rw[h0i hidl]at ho2;cases ho2
    have:=q3 i hi2 _ hid;exact this
   ·exact q3 i hi2 o (hset i o ho2 e1)
 ·have hi3:(G.ρ.set k (w.heap.size,0,hi))[i]? = some (b,lo,hi1):=hi';have hj3:(G.ρ.set k (w.heap.size,0,hi))[j]? = some (b,lo',hi2):=hj';clear hi' hj';have hlt1:∀ (j lo hi1:Nat),G.ρ[j]? = some (w.heap.size,lo,hi1)→lo<hi1→False:=fun j lo hi1 hj hlt=>by
   obtain⟨⟨c1,e1,q1,_⟩,_⟩:=h.reg j _ lo hi1 hj hlt;have:=(h0B.1 q1).1;omega
  by_cases ei:i=k
  ·rw[ei,hρk]at hi3;cases hi3
   rw[hρj j (fun e=>hij (ei.trans e.symm))]at hj3;exact(hlt1 j lo' hi2 hj3 hlt').elim
  ·rw[hρj i ei]at hi3;by_cases ej:j=k
   ·rw[ej,hρk]at hj3;cases hj3
    exact(hlt1 i lo hi1 hi3 hlt).elim
   ·rw[hρj j ej]at hj3;exact h.regd i j b lo hi1 lo' hi2 hij hi3 hj3 hlt hlt'
 ·have hj:(G.ρ.set k (w.heap.size,0,hi))[j]? = some (b,lo,hi1):=hj;by_cases ej:j=k
  ·subst ej;rw[hρk]at hj;cases hj
   exact .inl hs
  ·rw[hρj j ej]at hj;exact h.fre j b lo hi1 hj
 ·have e1:i≠id:=fun e1=>by subst e1;rw[h0i hidl]at hi';cases hi'
  refine(h.bld i t' s c1 (hset i _ hi' e1) hc1).keep (hold c1 (h.geφ i c1 hc1).2) fun g hg ⟨s1,s2,s3⟩=>⟨hold g hg,s1,s2,fun j lo hi1 hj=>?_⟩
  have hj:(G.ρ.set k (w.heap.size,0,hi))[j]? = some (g,lo,hi1):=hj;by_cases ej:j=k
  ·subst ej;rw[hρk]at hj;cases hj
   omega
  ·rw[hρj j ej]at hj;exact s3 j lo hi1 hj
 ·refine⟨fun i k1 g1 e1 cs1 hi1=>?_,fun i i' k1 g1 g1' e1 e1' cs1 cs1' hi1 hi1'=>?_⟩
  ·by_cases ei:i=id
   ·subst ei;rw[h0i hidl]at hi1;cases hi1
    refine⟨h0i hkl,by omega,w.heap.size,hi,hρk,hch,fun j x hj=>?_⟩;obtain⟨v,hv,hrv,hov⟩:=hr j x hj;exact⟨v,by rw[World.cell?_alloc_new];exact hv,hrv.mono hx,hov⟩
   ·have hi2:=hset i _ hi1 ei;obtain⟨q1,q2,b1,hi3,q3,q4,q5⟩:=h.vs.at_ i k1 g1 e1 cs1 hi2;have hkk:k1≠k:=fun ek=>by subst ek;exact ei (h.vs.uni _ _ _ _ _ _ _ _ _ hi2 hid)
    refine⟨by rw[h0m (Ne.symm hkk)];exact q1,q2,b1,hi3,(hρj k1 hkk).trans q3,q4,fun j x hj=>?_⟩;obtain⟨v,hv,hrv,hov⟩:=q5 j x hj;exact⟨v,by rw[b2y (hold b1 (b6L hv))];exact hv,hrv.mono hx,hov⟩
  ·have key:∀ (i k1 g1:Nat) e1 cs1,(heap.set id (.vec k gen' e cs'))[i]? = some (.vec k1 g1 e1 cs1)→∃ g e2 cs2,heap[i]? = some (.vec k1 g e2 cs2):=fun i k1 g1 e1 cs1 hq=>by
    by_cases ei:i=id
    ·subst ei;rw[h0i hidl]at hq;cases hq
     exact⟨_,_,_,hid⟩
    ·exact⟨_,_,_,hset i _ hq ei⟩
   obtain⟨_,_,_,a1⟩:=key _ _ _ _ _ hi1;obtain⟨_,_,_,a2⟩:=key _ _ _ _ _ hi1';exact h.vs.uni _ _ _ _ _ _ _ _ _ a1 a2
theorem RelW.vecNew{E:Env}{G:Gh}{heap:List VObj}{arr:List Nat}{w0:Base}{w:World}(h:RelW E G heap arr w0 w){hi:Nat}{e t:TypeId}{cs':List V}{c:Array Value}
  (hch:cs'.length≤hi) (hhi:hi≤c.size) (hr:∀ (j:Nat) x,cs'[j]? = some x→∃ v,c[j]? = some v∧RV E.P G arr x v∧v.oneCell'=true) :
  Ext G arr { G with φ:=G.φ++[w.heap.size],ρ:=G.ρ++[(w.heap.size,0,hi)] } (arr++[b8U]) ∧
  RelW E { G with φ:=G.φ++[w.heap.size],ρ:=G.ρ++[(w.heap.size,0,hi)] } (heap++[.vec arr.length b8U e cs']) (arr++[b8U]) w0 (w.alloc (.cells c t)):=by
 have hs:=h.below.size;have hlφ:=h.lenφ;have hlρ:=h.lenρ;have hx:Ext G arr { G with φ:=G.φ++[w.heap.size],ρ:=G.ρ++[(w.heap.size,0,hi)] } (arr++[b8U]) :=
  ⟨fun _ _ _ h=>h,fun i b hb=>by
   show(G.φ++_)[i]? = _;rw[h0e (h0b.1 hb).1];exact hb,fun j n hj=>by
   have:=(h0b.1 hj).1;exact⟨n,by rw[h0e this];exact hj,h0q _,fun _=>h0e (by omega)⟩⟩
 have hget:∀ (i:Nat) b,(G.φ++[w.heap.size])[i]? = some b→(i<heap.length∧G.φ[i]? = some b)∨(i=heap.length∧b=w.heap.size):=fun i b hb=>by
  rcases Nat.lt_trichotomy i heap.length with hl | hl | hl
  ·rw[h0e (by omega)]at hb;exact .inl ⟨hl,hb⟩
  ·subst hl;rw[h0g (by omega)]at hb;simp[hlφ]at hb;exact .inr ⟨rfl,hb.symm⟩
  ·rw[h0O (by simp;omega)]at hb;cases hb
 have hgeto:∀ (i:Nat) o,(heap++[.vec arr.length b8U e cs'])[i]? = some o→(i<heap.length∧heap[i]? = some o)∨(i=heap.length∧o = .vec arr.length b8U e cs'):=fun i o ho=>by
  rcases Nat.lt_trichotomy i heap.length with hl | hl | hl
  ·rw[h0e hl]at ho;exact .inl ⟨hl,ho⟩
  ·subst hl;rw[h0g (h0q _)]at ho;simp at ho;exact .inr ⟨rfl,ho.symm⟩
  ·rw[h0O (by simp;omega)]at ho;cases ho
 have hgetr:∀ (j b lo hi1:Nat),(G.ρ++[(w.heap.size,0,hi)])[j]? = some (b,lo,hi1)→(j<arr.length∧G.ρ[j]? = some (b,lo,hi1))∨(j=arr.length∧b=w.heap.size∧lo=0∧hi1=hi):=fun j b lo hi1 hj=>by
  rcases Nat.lt_trichotomy j arr.length with hl | hl | hl
  ·rw[h0e (by omega)]at hj;exact .inl ⟨hl,hj⟩
  ·subst hl;rw[h0g (by omega)]at hj;simp[hlρ]at hj;exact .inr ⟨rfl,hj.1.symm,hj.2.1.symm,hj.2.2.symm⟩
  ·rw[h0O (by simp;omega)]at hj;cases hj
 have hlt1:∀ (j lo hi1:Nat),G.ρ[j]? = some (w.heap.size,lo,hi1)→lo<hi1→False:=fun j lo hi1 hj hlt=>by
  obtain⟨⟨c1,e1,q1,_⟩,_⟩:=h.reg j _ lo hi1 hj hlt;have:=(h0B.1 q1).1;omega
 have hold:∀ b,b<w.heap.size→(w.alloc (.cells c t)).heap[b]? = w.heap[b]?:=fun b hb=>by rw[b0N,if_neg (by omega)]
 refine⟨hx,⟨h.newF,fun g cs hg=>⟨(h.glob g cs hg).1,(h.glob g cs hg).2.mono hx⟩,h.below.alloc hs _,fun b o v hv=>by rw[b2y (hold b (b6L (h.frz _ _ _ hv)))];exact h.frz _ _ _ hv,h.one,fun i ob hi'=>?_,by simp[hlφ],fun i j b hi1 hj1=>?_,fun i c1 o hc1 hd=>?_,fun i c1 hc1=>?_,by simp[hlρ],
  fun j b lo hi1 hj hlt=>?_,fun i j b lo hi1 lo' hi2 hij hi' hj' hlt hlt'=>?_,fun j b lo hi1 hj=>?_,fun i t' s c1 hi' hc1=>?_,h.ini,⟨fun i k1 g1 e1 cs1 hi1=>?_,fun i i' k1 g1 g1' e1 e1' cs1 cs1' hi1 hi1'=>?_⟩⟩⟩
 ·rcases hgeto i ob hi' with⟨h1,h2⟩ | ⟨rfl,rfl⟩
  ·obtain⟨c1,hc1,hr1⟩:=h.obj i ob h2;exact⟨c1,hx.φ _ _ hc1,hr1.keep hx (hold c1 (h.geφ i c1 hc1).2)⟩
  ·exact⟨w.heap.size,by show(G.φ++_)[_]? = _;rw[h0g (by omega)];simp[hlφ],trivial⟩
 ·rcases hget i b hi1 with⟨h1,h2⟩ | ⟨h1,h2⟩ <;> rcases hget j b hj1 with⟨h3,h4⟩ | ⟨h3,h4⟩
  ·exact h.nod i j b h2 h4
  ·have:=(h.geφ i b h2).2;omega
  ·have:=(h.geφ j b h4).2;omega
  ·omega
 ·rcases hget i c1 hc1 with⟨h1,h2⟩ | ⟨h1,h2⟩
  ·exact h.sep i c1 o h2 (by rwa [h0e h1]at hd)
  ·subst h2;exact h.F_new o
 ·rcases hget i c1 hc1 with⟨h1,h2⟩ | ⟨h1,h2⟩
  ·have:=h.geφ i c1 h2;simp;omega
  ·subst h2;simp;omega
 ·rcases hgetr j b lo hi1 hj with⟨h1,h2⟩ | ⟨h1,rfl,rfl,rfl⟩
  ·obtain⟨⟨c1,e1,q1,q2⟩,q3,q4,q5⟩:=h.reg j b lo hi1 h2 hlt;have hbl:=(h0B.1 q1).1;refine⟨⟨c1,e1,by rw[hold b hbl];exact q1,q2⟩,fun i hi2 o ho2=>?_,q4,q5⟩;rcases hget i b hi2 with⟨h3,h4⟩ | ⟨h3,h4⟩
   ·rcases hgeto i o ho2 with⟨h5,h6⟩ | ⟨h5,h6⟩
    ·exact q3 i h4 o h6
    ·omega
   ·omega
  ·refine⟨⟨c,t,by rw[b0N,if_pos rfl],hhi⟩,fun i hi2 o ho2=>?_,fun o _ _=>h.F_new o,hs⟩;rcases hget i _ hi2 with⟨h3,h4⟩ | ⟨h3,h4⟩
   ·have:=(h.geφ i _ h4).2;omega
   ·rcases hgeto i o ho2 with⟨h5,h6⟩ | ⟨h5,h6⟩
    ·omega
    ·subst h6;subst h1;simp[VObj.looseAt]
 ·rcases hgetr i b lo hi1 hi' with⟨h1,h2⟩ | ⟨h1,rfl,rfl,rfl⟩ <;> rcases hgetr j _ lo' hi2 hj' with⟨h3,h4⟩ | ⟨h3,h4,h5,h6⟩
  ·exact h.regd i j b lo hi1 lo' hi2 hij h2 h4 hlt hlt'
  ·subst h4;exact(hlt1 i lo hi1 h2 hlt).elim
  ·exact(hlt1 j lo' hi2 h4 hlt').elim
  ·omega
 ·rcases hgetr j b lo hi1 hj with⟨h1,h2⟩ | ⟨h1,rfl,rfl,rfl⟩
  ·exact h.fre j b lo hi1 h2
  ·exact .inl hs
 ·rcases hgeto i _ hi' with⟨h1,h2⟩ | ⟨h1,h2⟩
  ·rcases hget i c1 hc1 with⟨_,h4⟩ | ⟨h3,_⟩
   ·refine(h.bld i t' s c1 h2 h4).keep (hold c1 (h.geφ i c1 h4).2) fun g hg ⟨s1,s2,s3⟩=>⟨hold g hg,s1,fun i hi2=>?_,fun j lo hi1 hj=>?_⟩
    ·rcases hget i g hi2 with⟨_,h6⟩ | ⟨_,h6⟩
     ·exact s2 i h6
     ·omega
    ·rcases hgetr j g lo hi1 hj with⟨_,h6⟩ | ⟨_,h6,_,_⟩
     ·exact s3 j lo hi1 h6
     ·omega
   ·omega
  ·cases h2
 ·rcases hgeto i _ hi1 with⟨h1,h2⟩ | ⟨h1,h2⟩
  ·obtain⟨q1,q2,b1,hi3,q3,q4,q5⟩:=h.vs.at_ i k1 g1 e1 cs1 h2;have hkl:=(h0b.1 q1).1;refine⟨by rw[h0e hkl];exact q1,q2,b1,hi3,by show(G.ρ++_)[_]? = _;rw[h0e (by omega)];exact q3,q4,fun j x hj=>?_⟩;obtain⟨v,hv,hrv,hov⟩:=q5 j x hj;exact⟨v,by rw[b2y (hold b1 (b6L hv))];exact hv,hrv.mono hx,hov⟩
  ·cases h2
   refine⟨by simp,h0q _,w.heap.size,hi,by show(G.ρ++_)[_]? = _;rw[h0g (by omega)];simp[hlρ],hch,fun j x hj=>?_⟩;obtain⟨v,hv,hrv,hov⟩:=hr j x hj;exact⟨v,by rw[World.cell?_alloc_new];exact hv,hrv.mono hx,hov⟩
 ·have hk:∀ (i k1 g1:Nat) e1 cs1,heap[i]? = some (.vec k1 g1 e1 cs1)→k1<arr.length:=fun i k1 g1 e1 cs1 hq=>(h0b.1 (h.vs.at_ i k1 g1 e1 cs1 hq).1).1
  rcases hgeto i _ hi1 with⟨h1,h2⟩ | ⟨h1,h2⟩ <;> rcases hgeto i' _ hi1' with⟨h3,h4⟩ | ⟨h3,h4⟩
  ·exact h.vs.uni _ _ _ _ _ _ _ _ _ h2 h4
  ·cases h4
   have:=hk _ _ _ _ _ h2;omega
  ·cases h2
   have:=hk _ _ _ _ _ h4;omega
  ·omega
def Own.fresh:Own→Bool
 | .full | .nil=>true
 | _=>false
def c6i(E:Env)(heap:List VObj)(arr:List Nat)(sT xT:TypeId)(s x:V)(K:V→List VObj→List Nat→Prop):Prop :=
 match E.P.underlying sT,E.P.underlying xT,x with
 | some (.slice e),some (.slice _),.slice _ e2 xs=>(xs≠[]∧e2=e∧b0W E.P e=true)∧match s with
  | .vec id k gen len e1=>match heap[id]? with
   | some (.vec k' gen' e' cs)=>(k'=k∧gen'=gen∧e1=e∧e'=e∧cs.length=len * E.P.cellsOf e∧(len+xs.length) * E.P.bytesOf e≤140737488355328) ∧
     K (.vec id k (gen+1) (len+xs.length) e) (heap.set id (.vec k (gen+1) e (cs++xs.flatten))) (arr.set k (gen+1))
   | _=>False
  | .slice o e1 es=>(o.fresh=true∧(es=[]∨e1=e)∧(es.length+xs.length) * E.P.bytesOf e≤140737488355328) ∧
    K (.vec heap.length arr.length b8U (es.length+xs.length) e) (heap++[.vec arr.length b8U e (es.flatten++xs.flatten)]) (arr++[b8U])
  | _=>False
 | _,_,_=>False
theorem c7Y{P:Program}{e:TypeId}{i:TypeInfo}{n cap:Nat}(hib:i.bytes=P.bytesOf e)(hb:n * P.bytesOf e≤140737488355328)(hb2:P.bytesOf e≤1048576)(hcap:cap<n):Builtin.nextslicecap n cap * i.bytes≤281474976710656:=by
 have hnc:=b5W n cap hcap;rw[hib];have h1:Builtin.nextslicecap n cap * P.bytesOf e≤(n+n / 4+512) * P.bytesOf e:=h0P _ hnc;have h2:n / 4 * P.bytesOf e≤140737488355328 / 4:=by
  have:n / 4 * P.bytesOf e≤n * P.bytesOf e / 4:=by
   rw[Nat.le_div_iff_mul_le (by omega)];have:=Nat.div_mul_le_self n 4
   calc n / 4 * P.bytesOf e * 4=n / 4 * 4 * P.bytesOf e:=by rw[Nat.mul_right_comm]
    _≤n * P.bytesOf e:=h0P _ this
  omega
 have h3:512 * P.bytesOf e≤536870912:=by omega
 rw[h0V,h0V]at h1;omega
theorem c5C{E:Env}{G:Gh}{heap:List VObj}{arr:List Nat}{w0:Base}{w:World}(h:RelW E G heap arr w0 w){s x:V}{vs vx:Value}{t:TypeId}{sT xT:TypeId}
  {K:V→List VObj→List Nat→Prop} (hs:RV E.P G arr s vs) (hx:RV E.P G arr x vx) (hK:c6i E heap arr sT xT s x K) :
  ∃ u y heap' arr' G' w',(Builtin.append_ #[sT,xT] t #[vs,vx]).run E.P w = .ok u w'∧K y heap' arr'∧Ext G arr G' arr'∧RelW E G' heap' arr' w0 w'∧RV E.P G' arr' y u:=by
 unfold c6i at hK;split at hK
 case h_2=>exact hK.elim
 rename_i e ex o2 e2 xs hsT hxT;obtain⟨⟨hx0,he2,hok⟩,hK⟩:=hK;subst he2;obtain⟨i,z,hi,hz,hz1,hzs,his,hib,hs1,hb1,hb2⟩:=b2J hok;obtain⟨hlen2,hsh2⟩:=f1d hx (.inr rfl);obtain⟨news,hsn,hget2⟩:=b5P h hxT hsh2;have hpos:0<xs.length:=List.length_pos_iff.2 hx0;have hnl:=hsn.newsLen;have hxp:1≤xs.length * E.P.cellsOf e2:=Nat.mul_pos hpos hs1;have hxf:=b8R hlen2;have hone:∀ {ol:List Value},(∀ v∈ol,v.oneCell'=true)→∀ v∈ol++news,v.oneCell'=true:=fun ho v hv=>by
  rcases h0E.1 hv with hm | hm
  ·exact ho v hm
  ·exact hsn.one v hm
 split at hK
 ·-- it grows already
  rename_i id k gen len e1;split at hK
  case h_2=>exact hK.elim
  rename_i k' gen' e' cs hid;obtain⟨⟨rfl,rfl,rfl,rfl,hcl,hbytes⟩,hK⟩:=hK;obtain⟨hak,hgg,b,hi0,hρ,hch,hcells⟩:=h.vs.at_ _ _ _ _ _ hid;have hneed:len+xs.length≤140737488355328:=h1n (Nat.le_mul_of_pos_right _ hb1) hbytes;cases hs with
  | vec _ _ _ _ _ b1 o1 cap hv hl1 hl2 =>
   obtain⟨n,g1,g2,g3⟩:=hv;rw[hak]at g1;cases g1
   obtain⟨b',hi',g4,g5,g6,g7,g8⟩:=g3 rfl;rw[hρ]at g4;cases g4
   subst g5 g7 g8;have holds:∃ olds:List Value,olds.length=len * E.P.cellsOf e'∧∀ (j:Nat) x,cs[j]? = some x→∃ v,olds[j]? = some v∧w.cell? ⟨b,0+j,none⟩=some v∧RV E.P G arr x v∧v.oneCell'=true:=by
    refine⟨(List.range (len * E.P.cellsOf e')).map fun j=>(w.cell? ⟨b,j,none⟩).getD undef,by simp,fun j x hj=>?_⟩;obtain⟨v,hv,hr,ho⟩:=hcells j x hj;have hjl:=(h0b.1 hj).1;refine⟨v,?_,by rw[h0w];exact hv,hr,ho⟩;rw[h0u,List.getElem?_range (by omega)];simp[hv]
   obtain⟨olds,hol,hog⟩:=holds;have hog':∀ (j:Nat) u,olds[j]? = some u→∃ x,cs[j]? = some x∧w.cell? ⟨b,0+j,none⟩=some u∧RV E.P G arr x u∧u.oneCell'=true:=fun j u hu=>by
    have hjl:=(h0b.1 hu).1;obtain⟨v,q1,q2⟩:=hog j cs[j] (h0f (by omega));rw[hu]at q1;cases q1
    exact⟨_,h0f (by omega),q2⟩
   have holdOne:∀ u∈olds,u.oneCell'=true:=fun u hu=>by
    obtain⟨j,hj,rfl⟩:=h1h hu;obtain⟨_,_,_,_,q⟩:=hog' j _ (h0f hj);exact q
   have hso:Src E.P (E.P.cellsOf e') sT (.slice (some ⟨b,0,none⟩) len cap) len olds w:=Src.ofSlice w hsT ⟨b,0,none⟩ len cap olds hol (fun j u hu=>by
    obtain⟨_,_,q,_⟩:=hog' j u hu;rw[Addr.add_mk];exact q) holdOne
   have hall:∀ (j:Nat) x,(cs++xs.flatten)[j]? = some x→∃ v,(olds++news)[j]? = some v∧RV E.P G arr x v∧v.oneCell'=true:=fun j x hj=>by
    by_cases hjl:j<cs.length
    ·rw[h0e hjl]at hj;obtain⟨v,q1,_,q2,q3⟩:=hog j x hj;exact⟨v,by rw[h0e (by omega)];exact q1,q2,q3⟩
    ·rw[h0g (by omega)]at hj;obtain⟨u,hu,hr⟩:=b7u hlen2 hget2 _ _ hj;refine⟨u,by rw[h0g (by omega)];rw[hol,←hcl];exact hu,hr,hsn.one u (h0j hu)⟩
   by_cases hcap:cap<len+xs.length
   ·have hrun:=run_append_grow_src (P:=E.P) w sT xT t e' i z hsT hi hz (some ⟨b,0,none⟩) len cap olds (by rw[his];exact hso.cellsD) vx xs.length news (by rw[his];exact hsn) hcap (by omega) (c7Y hib hbytes hb2 hcap);generalize hcapN:grownCap w (len+xs.length) cap e'=newCap at hrun;have hge:len+xs.length≤newCap:=by
     rw[←hcapN];simp only[grownCap,Question.cut];omega
    have hmul:(len+xs.length) * E.P.cellsOf e'≤newCap * E.P.cellsOf e':=h0P _ hge;have hsz:((olds++news).toArray++Builtin.zeroCells z.cells (newCap - (len+xs.length))).size=newCap * E.P.cellsOf e':=by
     have:newCap=(len+xs.length)+(newCap - (len+xs.length)):=by omega
     rw[Array.size_append,b4p,hzs];simp only[List.size_toArray,h0h,hol,hnl]
     conv=>rhs;rw[this,h0V,h0V]
    obtain⟨hx',hr'⟩:=(h.drew (w.drawn+1)).vecMove (gen':=gen'+1) (hi:=newCap * E.P.cellsOf e') (t:=e') (cs':=cs++xs.flatten) (c:=(olds++news).toArray++Builtin.zeroCells z.cells (newCap - (len+xs.length))) hid (by omega)
     (by rw[h0h,hcl,hxf,←h0V];exact hmul) (by omega) (fun j x hj=>by
      obtain⟨v,q1,q2⟩:=hall j x hj;refine⟨v,?_,q2⟩;have:=(h0b.1 q1).1;rw[h1z (by simpa using this)];simpa using q1)
    refine⟨_,_,_,_,_,_,hrun,hK,hx',hr',.vec _ _ _ _ _ _ _ _ ⟨gen'+1,h0i (h0b.1 hak).1,h0q _,fun _=>⟨w.heap.size,newCap * E.P.cellsOf e',?_,rfl,hge,rfl,rfl⟩⟩ hneed hbytes⟩;exact h0i (h0b.1 hρ).1
   ·have hmul:(len+xs.length) * E.P.cellsOf e'≤cap * E.P.cellsOf e':=h0P _ (by omega);rw[h0V]at hmul;obtain⟨⟨cb,eb,hb1',hb2'⟩,r3,r4,r5⟩:=h.reg _ b 0 _ hρ (by omega);have hrun:=run_append_room_src (P:=E.P) w sT xT t e' i hsT hi b 0 len cap vx xs.length news (by rw[his];exact hsn) (by omega)
     (fun j hj=>by rw[his];simp only[World.cell?,hb1'];simp;omega) (fun j hj=>by rw[his];simp[World.frozen?,hb1'])
    obtain⟨w',cb',q1,q2,q3,q4,q5,q6,q7,q8,q9⟩:=b2w (P:=E.P) news w b (0+len * E.P.cellsOf e') 0 cb eb hb1' (by omega) (fun v hv=>by
     have:=hsn.one v hv;exact⟨fun cs e=>by subst e;simp[Value.oneCell']at this,fun cs e=>by subst e;simp[Value.oneCell']at this⟩)
    have hw':w.setCells b (0+len * E.P.cellsOf e') news=w':=by
     have:=run_storeCells_cells (P:=E.P) b (0+len * E.P.cellsOf e') news 0 w (fun j hj=>by simp only[World.cell?,hb1'];simp;omega) (fun j hj=>by simp[World.frozen?,hb1']) hsn.one;rw[q1]at this;simp only[h1m]at this
     injection this with _ this
     exact this.symm
    rw[his,hw']at hrun;obtain⟨hx',hr'⟩:=h.vecStep (gen':=gen'+1) (cs':=cs++xs.flatten) hid hρ (by omega) (by omega) hb1' (by rw[h0h,hcl,hxf];exact hmul) (fun j x hj=>by
     obtain⟨v,p1,p2⟩:=hall j x hj;refine⟨v,?_,p2⟩;have hpl:=(h0b.1 p1).1;rw[h0h]at hpl;rw[q9];by_cases hjl:j<olds.length
     ·rw[if_neg (by omega)];rw[h0e hjl]at p1;obtain⟨_,_,p3,_⟩:=hog' j v p1;simp only[World.cell?,hb1',h0y,h0r,if_false,h0w]at p3;exact p3
     ·rw[if_pos (by omega)];rw[h0g (by omega)]at p1;rw[←p1];congr 1;omega) q2 q3 q4 q5 q6 q7 q8 (fun j hj=>by rw[q9,if_neg (by omega)])
    refine⟨_,_,_,_,_,_,hrun,hK,hx',hr',.vec _ _ _ _ _ _ _ _ ⟨gen'+1,h0i (h0b.1 hak).1,h0q _,fun _=>⟨b,cap * E.P.cellsOf e',hρ,rfl,by omega,rfl,rfl⟩⟩ hneed hbytes⟩
 ·-- it is made
  rename_i o e1 es;obtain⟨⟨hfr,he1,hbytes⟩,hK⟩:=hK;obtain⟨hlen1,hsh1⟩:=f1d hs he1;obtain⟨olds,hso,hget1⟩:=b5P h hsT hsh1;have hneed:es.length+xs.length≤140737488355328:=h1n (Nat.le_mul_of_pos_right _ hb1) hbytes;obtain⟨a,cap,hvs,hcap⟩:∃ a cap,vs = .slice a es.length cap∧cap<es.length+xs.length:=by
   cases hs with
   | snil=>exact⟨none,0,rfl,by simpa using hpos⟩
   | sodd=>cases hfr
   | slice _ _ _ b off cap ho _ _ _ h4 =>
    cases o <;> simp only[Own.fresh,h0r]at hfr
    ·exact⟨_,cap,rfl,by have:cap=es.length:=ho;omega⟩
    ·exact ho.elim
  subst hvs;have hol:=hso.newsLen;have hrun:=run_append_grow_src (P:=E.P) w sT xT t e2 i z hsT hi hz a es.length cap olds (by rw[his];exact hso.cellsD) vx xs.length news (by rw[his];exact hsn) hcap (by omega) (c7Y hib hbytes hb2 hcap);generalize hcapN:grownCap w (es.length+xs.length) cap e2=newCap at hrun;have hge:es.length+xs.length≤newCap:=by
   rw[←hcapN];simp only[grownCap,Question.cut];omega
  have hmul:(es.length+xs.length) * E.P.cellsOf e2≤newCap * E.P.cellsOf e2:=h0P _ hge;have hsz:((olds++news).toArray++Builtin.zeroCells z.cells (newCap - (es.length+xs.length))).size=newCap * E.P.cellsOf e2:=by
   have:newCap=(es.length+xs.length)+(newCap - (es.length+xs.length)):=by omega
   rw[Array.size_append,b4p,hzs];simp only[List.size_toArray,h0h,hol,hnl]
   conv=>rhs;rw[this,h0V,h0V]
  have hef:=b8R hlen1;have hget:=c4H hol hget1 hget2;obtain⟨hx',hr'⟩:=(h.drew (w.drawn+1)).vecNew (hi:=newCap * E.P.cellsOf e2) (e:=e2) (t:=e2) (cs':=es.flatten++xs.flatten) (c:=(olds++news).toArray++Builtin.zeroCells z.cells (newCap - (es.length+xs.length)))
   (by rw[h0h,hef,hxf,←h0V];exact hmul) (by omega) (fun j x hj=>by
    rw[←List.flatten_append]at hj;obtain⟨u,hu,hr⟩:=b7u (d3O hlen1 hlen2) hget j x hj;have hul:=(h0b.1 hu).1;refine⟨u,?_,hr,hone (fun v hv=>hso.one v hv) u (h0j hu)⟩;rw[h1z (by simpa using hul)];simpa using hu)
  refine⟨_,_,_,_,_,_,hrun,hK,hx',hr',.vec _ _ _ _ _ _ _ _ ⟨b8U,by simp,h0q _,fun _=>⟨w.heap.size,newCap * E.P.cellsOf e2,?_,rfl,hge,rfl,rfl⟩⟩ hneed hbytes⟩;have:=h.lenρ;show(G.ρ++_)[_]? = _;rw[h0g (by omega)];simp[this]
 ·exact hK.elim
end Go.Vg
namespace Go.Vg
open Go.RowKit
def c6w(E:Env)(heap:List VObj)(dT sT:TypeId)(x y:V)(K:V→List VObj→Prop):Prop :=
 match E.P.underlying dT,E.P.underlying sT,x,y with
 | some (.slice e),some (.slice _),.mslice id off len _ _,.slice _ e' es=>match heap[id]? with
  | some ob=>match ob.cs? with
   | some cs=>((es=[]∨e'=e)∧b0A E.P e=true∧es.length≤len∧off+es.flatten.length≤cs.length)∧K (.int .i64 es.length) (heap.set id (ob.put (c0S cs off es.flatten)))
   | none=>False
  | none=>False
 | _,_,_,_=>False
theorem d6K{E:Env}{G:Gh}{heap:List VObj}{arr:List Nat}{w0:Base}{w:World}(h:RelW E G heap arr w0 w){x y:V}{vx vy:Value}{t:TypeId}{dT sT:TypeId}
  {K:V→List VObj→Prop} (hx:RV E.P G arr x vx) (hy:RV E.P G arr y vy) (hK:c6w E heap dT sT x y K) :
  ∃ u z heap' w',(Builtin.copy_ #[dT,sT] t #[vx,vy]).run E.P w = .ok u w'∧K z heap'∧RelW E G heap' arr w0 w'∧RV E.P G arr z u:=by
 unfold c6w at hK;split at hK
 case h_2=>exact hK.elim
 rename_i e ex id off len cp e1 o e' es hd hs;split at hK
 case h_2=>exact hK.elim
 rename_i ob hid;split at hK
 case h_2=>exact hK.elim
 rename_i cs hcs;obtain⟨⟨h2,h3,h4,h5⟩,hk⟩:=hK;obtain⟨i,hi⟩:=h0I.1 h3;obtain⟨hlen,hsh⟩:=f1d hy h2;obtain⟨news,hsn,hget⟩:=b5P h hs hsh;have hnl:=hsn.newsLen;have hfl:=b8R hlen;have hnf:=b7u (R:=fun c u=>RV E.P G arr c u) hlen hget;cases hx with
 | mslice _ _ _ cap _ b hb g1 g2 g3 =>
  obtain⟨b',hb',hro⟩:=h.obj id _ hid;obtain⟨c,et,hc1,hc2,hc3,hput⟩:=hro.un hcs;rw[hb]at hb';cases hb';have hcells:∀ v∈news,(∀ cs,v ≠ .agg cs)∧∀ cs,v ≠ .tuple cs:=fun v hv=>by
   have:=hsn.one v hv;exact⟨fun cs e=>by subst e;simp[Value.oneCell']at this,fun cs e=>by subst e;simp[Value.oneCell']at this⟩
  obtain⟨w',c',q1,q2,q3,q4,q5,q6,q7,q8,q9⟩:=b2w (P:=E.P) news w b off 0 c et hc1 (by omega) hcells;have hmin:Nat.min es.length len=es.length:=Nat.min_eq_left h4;refine⟨.int .i64 es.length,_,_,w',?_,hk,h.change (hbl:=by intro t s hh;unfold VObj.put at hh;split at hh <;> cases hh) (hnv:=by intro _ _ _ _ hh;unfold VObj.put at hh;split at hh <;> cases hh) (hnl:=by intro _ _ _ _ hh;rw[hid]at hh;cases hh;cases hcs) hb (h0b.1 hid).1 (by rw[hid];intro hd;cases hd;cases hcs) q2 q3 q4 q5 q6 (hput w' c' _ q7 (by rw[q8,hc2,b4Y _ _ _ h5]) fun j z hz=>?_),.int _ _⟩
  ·simp[Builtin.copy_,b0x hd,hsn.len,hmin,b0M hi,hsn.cells,q1,goInt]
  ·rw[b9c _ _ _ h5]at hz;have:=q9 j;simp only[h1m]at this;by_cases hin:off≤j∧j<off+es.flatten.length
   ·rw[if_pos hin]at hz;rw[if_pos (by omega)]at this;obtain⟨u,hu,hr⟩:=hnf _ _ hz;exact⟨u,by rw[this];exact hu,hr⟩
   ·rw[if_neg hin]at hz;rw[if_neg (by omega)]at this;obtain⟨u,hu,hru⟩:=hc3 j z hz;exact⟨u,by rw[this];exact hu,hru⟩
end Go.Vg
namespace Go.Vg
open Go.RowKit
abbrev b1y:=V→List VObj→List Nat→Prop
def b2n(E:Env)(G:Gh)(arr:List Nat)(w0:Base)(K:b1y)(val:Value)(w':World):Prop :=
 ∃ v heap' arr' G',K v heap' arr'∧Ext G arr G' arr'∧RelW E G' heap' arr' w0 w'∧RV E.P G' arr' v val
def b8a(P:Program)(G:Gh)(arr:List Nat)(args:List V)(vals:Array Value):Prop :=
 args.length=vals.size∧∀ (j:Nat) x v,args[j]? = some x→vals[j]? = some v→RV P G arr x v
def d6S(E:Env)(G:Gh)(arr:List Nat)(w0:Base)(ch:List PanicEntry)(w':World):Prop :=
 (∃ t v,ch=[{ v := .iface t v,recovered:=false }])∧∃ heap' arr' G',E.die heap' arr'∧Ext G arr G' arr'∧RelW E G' heap' arr' w0 w'
def d9U(E:Env)(G:Gh)(arr:List Nat)(w0:Base)(K:b1y)(e:Ending)(w':World):Prop :=
 (∃ val,e = .returned val∧b2n E G arr w0 K val w')∨∃ ch,e = .panicked ch∧d6S E G arr w0 ch w'
def b0q(E:Env)(f:FuncId)(args:List V)(heap:List VObj)(arr:List Nat)(K:b1y):Prop :=
 ∀ G w0 w vals,RelW E G heap arr w0 w→b8a E.P G arr args vals→Calls E.P f vals w fun e w'=>d9U E G arr w0 K e w'
theorem RelW.env{E E':Env}(hP:E.P=E'.P)(hg:E.gl=E'.gl)(hB:E.byteT=E'.byteT){w0:Base}(hI:E.ini w0.w→E'.ini w0.w){G:Gh}{heap:List VObj}{arr:List Nat}{w:World}(h:RelW E G heap arr w0 w):RelW E' G heap arr w0 w:=by
 obtain⟨P,gl,tg,bt,i0,i1,d,vt⟩:=E;obtain⟨P',gl',tg',bt',i0',i1',d',vt'⟩:=E';cases hP;cases hg;cases hB
 exact⟨h.newF,h.glob,h.below,h.frz,h.one,h.obj,h.lenφ,h.nod,h.sep,h.geφ,h.lenρ,h.reg,h.regd,h.fre,h.bldA (fun _ _=>rfl) (fun _ _ hs=>hs),hI h.ini,h.vs⟩
theorem RelW.al{E:Env}{G:Gh}{heap:List VObj}{arr:List Nat}{w0:Base}{w:World}(h:RelW E G heap arr w0 w):RelW E.alive G heap arr w0 w:=RelW.env (E:=E) (E':=E.alive) rfl rfl rfl (fun h=>h) h
theorem RelW.unal{E:Env}{G:Gh}{heap:List VObj}{arr:List Nat}{w0:Base}{w:World}(h:RelW E.alive G heap arr w0 w):RelW E G heap arr w0 w:=RelW.env (E:=E.alive) (E':=E) rfl rfl rfl (fun h=>h) h
theorem d9U.alive{E:Env}{G:Gh}{arr:List Nat}{w0:Base}{K:b1y}{e:Ending}{w':World}(h:d9U E.alive G arr w0 K e w'):∃ val,e = .returned val∧b2n E.alive G arr w0 K val w':=by
 rcases h with h | ⟨ch,_,_,_,_,_,h,_⟩
 ·exact h
 ·exact h.elim
theorem b0q.unal{E:Env}{f:FuncId}{args:List V}{heap:List VObj}{arr:List Nat}{K:b1y}(h:b0q E.alive f args heap arr K):b0q E f args heap arr K :=
 fun G w0 w vals hr ha=>(h G w0 w vals hr.al ha).mono fun e w' hg =>
  let⟨val,he,v,heap',arr',G',h1,h2,h3,h4⟩:=hg.alive
  .inl ⟨val,he,v,heap',arr',G',h1,h2,h3.unal,h4⟩
def b0s(E:Env)(f:FuncId)(args:List V)(r:V):Prop :=
 b0Y args=true∧r.pure=true∧b0q E.alive f args [] [] fun r' _ _=>r'=r
theorem b8a.share{P:Program}{G:Gh}{arr:List Nat}{args:List V}{vals:Array Value}(h:b8a P G arr args vals):b8a P G arr (args.map share) vals:=by
 refine⟨by rw[h0v];exact h.1,fun j x v hx hv=>?_⟩;rw[h0u]at hx;obtain⟨x',hx',rfl⟩:=h0p.1 hx;exact(h.2 j x' v hx' hv).share
theorem b0s.calls{E:Env}{f:FuncId}{args cargs:List V}{heap:List VObj}{arr:List Nat}{r:V}{K:b1y}(h:b0s E f cargs r)(ha:args.map share=cargs)(hk:K r heap arr) :
  b0q E f args heap arr K:=by
 obtain⟨h1,h2,h3⟩:=h;intro G w0 w vals hr hargs;have hargs':b8a E.P ⟨G.F,[],[]⟩ [] cargs vals:=by
  have:=hargs.share;rw[ha]at this;exact⟨this.1,fun j x v hx hv=>(this.2 j x v hx hv).pure (b2Y h1 j x hx) _ _ fun _ _ _ h=>h⟩
 refine(h3 _ _ w vals hr.al.hide hargs').mono fun e w' hg=>?_
 obtain⟨val,he,v,heap',arr',G',hv,hx,hr',hrv⟩:=hg.alive;refine .inl ⟨val,he,r,heap,arr,{ G with F:=G'.F },hk,?_⟩;subst hv
 replace hr':=hr'.unal
 obtain⟨g1,g2⟩:=hr.back (F':=G'.F) hx.F hr'.newF hr'.frz hr'.one hr'.below;exact⟨g2,g1,hrv.pure h2 _ _ fun _ _ _ h=>h⟩
theorem b0s.cq{E:Env}{f:FuncId}{args cargs:List V}{heap:List VObj}{arr:List Nat}{r:V}{K:b1y}(h:b0s E f cargs r)(hk:K r heap arr)(ha:args.map share=cargs:=by simp -implicitDefEqProofs only[go_sem]):b0q E f args heap arr K:=h.calls ha hk
theorem b0q.mono{E:Env}{f:FuncId}{args:List V}{heap:List VObj}{arr:List Nat}{K K':b1y}(h:b0q E f args heap arr K)(hk:∀ v h a,K v h a→K' v h a) :
  b0q E f args heap arr K':=fun G w0 w vals hr ha=>(h G w0 w vals hr ha).mono fun e w' hg=>hg.imp (fun⟨val,he,v,heap',arr',G',hv,rest⟩=>⟨val,he,v,heap',arr',G',hk _ _ _ hv,rest⟩) id
def b0t(P:Program)(f:FuncId):Bool :=
 match P.funcs[f]? with
 | some fn=>fn.name != "runtime.NumGoroutine" && fn.body.isSome
 | none=>false
theorem c2d{P:Program}{f:FuncId}(h:b0t P f=true)(args:Array Value)(w:World):(callFunc f args).run P w = .ok (.enter f args) w:=by
 unfold b0t at h;cases hf:P.funcs[f]? with
 | none=>simp[hf]at h
 | some fn =>
  simp only[hf,h0k,bne_iff_ne,ne_eq]at h;have hb:fn.body.isNone=false:=by
   cases hfb:fn.body <;> simp_all
  have hne:¬ fn.body=none:=fun hn=>by rw[hn]at hb;cases hb
  simp[callFunc,program,Sem.run,hf,h.1,hb,hne]
def d8J(k:IntKind)(a b:Int):Int:=((BitVec.ofInt k.bits a ^^^ BitVec.ofInt k.bits b).toNat:Int)
def vIntOp(op:BinOp)(k:IntKind)(a b:Int)(K:V→Prop):Prop :=
 match op with
 | .add=>K (.int k (k.wrap (a+b)))
 | .sub=>K (.int k (k.wrap (a - b)))
 | .mul=>K (.int k (k.wrap (a * b)))
 | .quo=>b≠0∧K (.int k (k.wrap (a.tdiv b)))
 | .rem=>b≠0∧K (.int k (a.tmod b))
 | .eql=>K (.bool (a == b))
 | .neq=>K (.bool (a != b))
 | .lss=>K (.bool (decide (a<b)))
 | .leq=>K (.bool (decide (a≤b)))
 | .gtr=>K (.bool (decide (a > b)))
 | .geq=>K (.bool (decide (a ≥ b)))
 | .xor=>K (.int k (k.wrap (d8J k a b)))
 | _=>False
def vStrOp(op:BinOp)(a b:ByteArray)(K:V→Prop):Prop :=
 match op with
 | .add=>a.size+b.size≤1152921504606846976∧K (.str (a++b))
 | .eql=>K (.bool (a.toList == b.toList))
 | .neq=>K (.bool (!(a.toList == b.toList)))
 | .lss=>K (.bool (Op.bytesLess a.toList b.toList))
 | .leq=>K (.bool (Op.bytesLess a.toList b.toList || (a.toList == b.toList)))
 | .gtr=>K (.bool (!(Op.bytesLess a.toList b.toList || (a.toList == b.toList))))
 | .geq=>K (.bool (!(Op.bytesLess a.toList b.toList)))
 | _=>False
def c8Z(o:Option (List Nat))(xs ys:List V):Prop:=match o with
 | some ks=>b3F ks xs ys=true
 | none=>False
def f2I(op:BinOp)(o:Option Bool)(K:V→Prop):Prop:=match op,o with
 | .eql,some b=>K (.bool b)
 | .neq,some b=>K (.bool (!b))
 | _,_=>False
def vBin(E:Env)(op:BinOp)(t:TypeId)(x y:V)(K:V→Prop):Prop :=
 match x,y with
 | .int k a,.int k' b=>k=k'∧vIntOp op k a b K
 | .str a,.str b=>vStrOp op a b K
 | .bool a,.bool b=>E.P.underlying t=some .bool ∧
  match op with
  | .eql=>K (.bool (a == b))
  | .neq=>K (.bool (!(a == b)))
  | _=>False
 | .agg xs,.agg ys=>c8Z (flatK E.P t) xs ys∧f2I op (eqL xs ys) K
 | _,_=>False
theorem f1M{E:Env}{G:Gh}{arr:List Nat}{w:World}{op:BinOp}{t:TypeId}{x y:V}{vx vy:Value}{ox oy:Operand}{K:V→Prop}(hx:RV E.P G arr x vx)(hy:RV E.P G arr y vy)
  (hK:vBin E op t x y K):∃ u z,(do eqGuard op t ox oy vx vy;binOp op t vx vy:Sem Value).run E.P w = .ok u w∧K z∧RV E.P G arr z u:=by
 unfold vBin at hK;split at hK
 ·rename_i k a k' b;obtain⟨rfl,hk⟩:=hK;cases hx;cases hy
  have hg:(eqGuard op t ox oy (.int k a) (.int k b)).run E.P w = .ok () w:=by
   unfold eqGuard;cases op <;> simp
  unfold vIntOp at hk;simp only[h1E,hg,h1D];cases op <;> simp only[]at hk
  case add=>exact⟨_,_,by simp[binOp,Op.intArith],hk,.int _ _⟩
  case sub=>exact⟨_,_,by simp[binOp,Op.intArith],hk,.int _ _⟩
  case mul=>exact⟨_,_,by simp[binOp,Op.intArith],hk,.int _ _⟩
  case quo=>exact⟨_,_,by simp[binOp,Op.intDiv,hk.1],hk.2,.int _ _⟩
  case rem=>exact⟨_,_,by simp[binOp,Op.intDiv,hk.1],hk.2,.int _ _⟩
  case xor=>exact⟨_,_,by simp[binOp,Op.intBits,d8J],hk,.int _ _⟩
  all_goals exact⟨_,_,by simp[binOp,Op.intCmp],hk,.bool _⟩
 ·rename_i a b;cases hx;cases hy
  have hg:(eqGuard op t ox oy (.string a) (.string b)).run E.P w = .ok () w:=by
   unfold eqGuard;cases op <;> simp
  unfold vStrOp at hK;simp only[h1E,hg,h1D];cases op <;> simp only[]at hK
  case add =>
   refine⟨_,_,?_,hK.2,.str _ (by simpa using hK.1)⟩;have:¬ (((a.size+b.size:Nat):Int) > IntKind.i64.max):=by
    have:=hK.1;simp only[IntKind.max,IntKind.signed,IntKind.bits,if_true];omega
   simp only[binOp,Op.stringOp];rw[if_neg this];rfl
  all_goals exact⟨_,_,by simp[binOp,Op.stringOp],hK,.bool _⟩
 rotate_right 2
 ·rename_i xs ys;obtain⟨h1,h2⟩:=hK;unfold c8Z at h1;split at h1
  case h_2=>exact h1.elim
  rename_i ks hks;have hks0:=hks;obtain⟨-,hst,-⟩:=c2X hks;cases hx with
  | agg _ vxs hlx hrx =>
  cases hy with
  | agg _ vys hly hry =>
  have hprog:(program:Sem Program).run E.P w = .ok E.P w:=rfl;have hg:(eqGuard op t ox oy (.agg vxs) (.agg vys)).run E.P w = .ok () w:=by
   unfold eqGuard;cases op <;> simp[hprog,hst]
  have heq:=d0R (w:=w) (hks0) h1 (.agg xs vxs hlx hrx) (.agg ys vys hly hry);obtain⟨b,hb,hrun⟩:=heq;rw[hb]at h2;simp only[h1E,hg,h1D];unfold f2I at h2;split at h2
  ·rename_i b' e;cases e;exact⟨_,_,by simp only[binOp,h1E,hrun,h1D,h1F],h2,.bool _⟩
  ·rename_i b' e;cases e;exact⟨_,_,by simp only[binOp,h1E,hrun,h1D,h1F],h2,.bool _⟩
  ·exact h2.elim
 ·exact hK.elim
 ·rename_i a b;obtain⟨ht,hk⟩:=hK;cases hx;cases hy
  have hg:(eqGuard op t ox oy (.bool a) (.bool b)).run E.P w = .ok () w:=by
   unfold eqGuard;cases op <;> simp
  simp only[h1E,hg,h1D];cases op <;> simp only[]at hk <;> try exact hk.elim
  case eql=>exact⟨_,_,by simp only[binOp,h1E,c0K a b ht,h1D,h1F],hk,.bool _⟩
  case neq=>exact⟨_,_,by simp only[binOp,h1E,c0K a b ht,h1D,h1F],hk,.bool _⟩
def b8E:Operand→Bool
 | .const .nilIface=>true
 | _=>false
def vNilI(E:Env)(op:BinOp)(t:TypeId)(x:V)(K:V→Prop):Prop :=
 match E.P.underlying t,op,x with
 | some (.interface _),.eql,.nilif=>K (.bool true)
 | some (.interface _),.neq,.nilif=>K (.bool false)
 | some (.interface _),.eql,.iface _ _=>K (.bool false)
 | some (.interface _),.neq,.iface _ _=>K (.bool true)
 | _,_,_=>False
def vBinC(E:Env)(op:BinOp)(t:TypeId)(c:Bool)(x y:V)(K:V→Prop):Prop:=if c=true then vNilI E op t x K else vBin E op t x y K
theorem f0L{E:Env}{G:Gh}{arr:List Nat}{w:World}{op:BinOp}{t:TypeId}{x:V}{vx:Value}{ox oy:Operand}{K:V→Prop}(hx:RV E.P G arr x vx)(ho:b8E oy=true)
  (hK:vNilI E op t x K):∃ u z,(do eqGuard op t ox oy vx .nilIface;binOp op t vx .nilIface:Sem Value).run E.P w = .ok u w∧K z∧RV E.P G arr z u:=by
 have hoy:oy = .const .nilIface:=by
  unfold b8E at ho;split at ho
  ·rfl
  ·cases ho
 subst hoy;unfold vNilI at hK;have heq:∀ ms,E.P.underlying t=some (.interface ms)→(Op.equal t .nilIface .nilIface).run E.P w = .ok true w:=fun ms h=>by
  have:∀ d,(Op.equalIn (d+1) t .nilIface .nilIface).run E.P w = .ok true w:=fun d=>by
   simp only[Op.equalIn,h1E,b0x h,h1D,h1F]
  exact this 9999
 have heq2:∀ ms a b,E.P.underlying t=some (.interface ms)→(Op.equal t (.iface a b) .nilIface).run E.P w = .ok false w:=fun ms a b h=>by
  have:∀ d,(Op.equalIn (d+1) t (.iface a b) .nilIface).run E.P w = .ok false w:=fun d=>by
   simp only[Op.equalIn,h1E,b0x h,h1D,h1F]
  exact this 9999
 have hg1:(eqGuard op t ox (.const .nilIface) .nilIface .nilIface).run E.P w = .ok () w:=by
  unfold eqGuard;cases op <;> simp
 have hg2:∀ a b,(eqGuard op t ox (.const .nilIface) (.iface a b) .nilIface).run E.P w = .ok () w:=fun a b=>by
  unfold eqGuard;cases op <;> simp
 split at hK
 ·rename_i ms hu;cases hx
  simp only[h1E,hg1,h1D];exact⟨_,_,by simp only[binOp,h1E,heq ms hu,h1D,h1F],hK,.bool _⟩
 ·rename_i ms hu;cases hx
  simp only[h1E,hg1,h1D];exact⟨_,_,by simp only[binOp,h1E,heq ms hu,h1D,h1F];rfl,hK,.bool _⟩
 ·rename_i ms a b hu;cases hx
  simp only[h1E,hg2,h1D];exact⟨_,_,by simp only[binOp,h1E,heq2 ms _ _ hu,h1D,h1F],hK,.bool _⟩
 ·rename_i ms a b hu;cases hx
  simp only[h1E,hg2,h1D];exact⟨_,_,by simp only[binOp,h1E,heq2 ms _ _ hu,h1D,h1F];rfl,hK,.bool _⟩
 ·exact hK.elim
def vMkIface(E:Env)(t:TypeId)(x:V)(K:V→Prop):Prop :=
 match E.P.underlying t with
 | some (.interface _)=>False
 | none=>False
 | _=>K (.iface t x)
def d2b(E:Env)(heap:List VObj)(arr:List Nat)(x:V):Prop :=
 match x with
 | .iface _ _=>E.die heap arr
 | _=>False
def vUn(op:UnOp)(x:V)(K:V→Prop):Prop :=
 match op,x with
 | .neg,.int k n=>K (.int k (k.wrap (0 - n)))
 | .not,.bool b=>K (.bool (!b))
 | _,_=>False
def vPart(E:Env)(t:TypeId)(cs:List V)(off:Nat)(K:V→Prop):Prop :=
 match E.P.underlying t with
 | some (.struct _) | some (.array _ _)=>off+E.P.cellsOf t≤cs.length∧K (.agg ((cs.drop off).take (E.P.cellsOf t)))
 | some _=>vHead (cs.drop off) K
 | none=>False
theorem c7R{E:Env}{G:Gh}{arr:List Nat}{w:World}{t:TypeId}{cs:List V}{vs:Array Value}{off:Nat}{K:V→Prop}(hr:RL E.P G arr cs vs)(hK:vPart E t cs off K) :
  ∃ u z,(part t vs off).run E.P w = .ok u w∧K z∧RV E.P G arr z u:=by
 have hagg:∀ d,E.P.underlying t=some d→c0Q d=true→off+E.P.cellsOf t≤cs.length∧K (.agg ((cs.drop off).take (E.P.cellsOf t))) →
   ∃ u z,(part t vs off).run E.P w = .ok u w∧K z∧RV E.P G arr z u:=by
  intro d hd hb ⟨h1,h2⟩;obtain⟨i,hi⟩:=b2N hd;refine⟨.agg (vs.extract off (off+E.P.cellsOf t)),.agg ((cs.drop off).take (E.P.cellsOf t)),by simp only[part,h1E,b4Q hd,hb,h1D,if_true,b0M hi,h1F],h2,.agg _ _ ?_ fun j c v hc hv=>?_⟩
  ·simp[hr.1];omega
  ·have hjl:=(h0b.1 hc).1;simp only[List.length_take,h1i]at hjl;rw[List.getElem?_take,if_pos (by omega),h1d]at hc;rw[Array.getElem?_extract]at hv;have:j<min (off+E.P.cellsOf t) vs.size - off:=by have:=hr.1;omega
   rw[if_pos this]at hv;exact hr.2 _ _ _ hc hv
 have hone:∀ d,E.P.underlying t=some d→c0Q d=false→vHead (cs.drop off) K→∃ u z,(part t vs off).run E.P w = .ok u w∧K z∧RV E.P G arr z u:=by
  intro d hd hb hk;cases hdrop:cs.drop off with
  | nil=>rw[hdrop]at hk;exact hk.elim
  | cons c r =>
   rw[hdrop]at hk;have hc:cs[off]? = some c:=by
    have:(cs.drop off)[0]? = some c:=by rw[hdrop];rfl
    rwa [h1d,h1m]at this
   have hl:off<vs.size:=by rw[hr.1];exact(h0b.1 hc).1
   refine⟨vs[off],c,?_,hk,hr.2 off c _ hc (h0t hl)⟩;simp only[part,h1E,b4Q hd,hb,h1D,h0r,if_false,h0t hl,h1F]
 unfold vPart at hK;cases hd:E.P.underlying t with
 | none=>rw[hd]at hK;exact hK.elim
 | some d =>
  rw[hd]at hK;cases d <;> first | exact hagg _ hd rfl hK | exact hone _ hd rfl hK
def b5q(s:ByteArray)(i:Int):Int:=match s[i.toNat]? with
 | some b=>b.toNat
 | none=>0
def vFieldAddr(E:Env)(s:TypeId)(a:V)(f:Nat)(K:V→Prop):Prop :=
 match E.P.underlying s with
 | some (.struct fs)=>match fs[f]? with
  | some fd=>(b0A E.P fd.type=true∧E.P.cellsOf fd.type≠0) ∧
   match a with
   | .fptr cs=>K (.fptr (cs.drop fd.offset))
   | .ptr id off=>K (.ptr id (off+fd.offset))
   | .vptr id k gen off=>K (.vptr id k gen (off+fd.offset))
   | _=>False
  | none=>False
 | _=>False
def vIndexAddr(E:Env)(t:TypeId)(x ix:V)(K:V→Prop):Prop :=
 match E.P.underlying t,x,ix with
 | some (.slice e),.slice _ e' es,.int _ i=>(e'=e∧b0A E.P e=true∧0≤i∧i<es.length)∧K (.fptr (es.getD i.toNat []))
 | some (.slice e),.mslice id off len _ e',.int _ i=>(e'=e∧b0A E.P e=true∧0≤i∧i<len)∧K (.ptr id (off+i.toNat * E.P.cellsOf e))
 | some (.slice e),.vec id k gen len e',.int _ i=>(e'=e∧b0A E.P e=true∧0≤i∧i<len)∧K (.vptr id k gen (i.toNat * E.P.cellsOf e))
 | some (.array n e),.fptr cs,.int _ i=>(b0A E.P e=true∧0≤i∧i<n)∧K (.fptr (cs.drop (i.toNat * E.P.cellsOf e)))
 | some (.array n e),.ptr id off,.int _ i=>(b0A E.P e=true∧0≤i∧i<n)∧K (.ptr id (off+i.toNat * E.P.cellsOf e))
 | _,_,_=>False
def vIndex(E:Env)(t:TypeId)(x ix:V)(K:V→Prop):Prop :=
 match E.P.underlying t,x,ix with
 | some .string,.str s,.int _ i=>(0≤i∧i<s.size)∧K (.int .u8 (b5q s i))
 | some (.array n e),.agg cs,.int _ i=>(b0A E.P e=true∧0≤i∧i<n)∧vPart E e cs (i.toNat * E.P.cellsOf e) K
 | _,_,_=>False
def d4e(E:Env)(t:TypeId)(x:V)(K:V→Prop):Prop :=
 match E.P.underlying t,x with
 | some .string,.str s=>s.size≤1152921504606846976→K (.int .i64 s.size)
 | some (.slice _),.slice _ e es=>es.length * E.P.bytesOf e≤140737488355328→es.length≤140737488355328→K (.int .i64 es.length)
 | some (.slice _),.mslice _ _ len _ _=>len≤140737488355328→K (.int .i64 len)
 | some (.slice _),.vec _ _ _ len _=>len≤140737488355328→K (.int .i64 len)
 | _,_=>False
def b2x(d:Int):Option V→Option Int
 | none=>some d
 | some (.int _ i)=>some i
 | _=>none
def vSlice(E:Env)(t:TypeId)(x:V)(lo hi mx:Option V)(K:V→Prop):Prop :=
 match E.P.underlying t,x,mx with
 | some .string,.str s,none=>match b2x 0 lo,b2x s.size hi with
  | some l,some h=>(0≤l∧l≤h∧h≤s.size)∧K (.str (s.extract l.toNat h.toNat))
  | _,_=>False
 | some (.slice e),.slice _ e' es,none=>match b2x 0 lo,b2x es.length hi with
  | some l,some h=>((es=[]∨e'=e)∧b0A E.P e=true∧0≤l∧l≤h∧h≤es.length)∧K (sl e ((es.take h.toNat).drop l.toNat))
  | _,_=>False
 | _,_,_=>False
def b8p:V→Bool
 | .slice .full _ _=>true
 | .slice (.arr _) _ _=>true
 | _=>false
def d9S(E:Env)(heap:List VObj)(arr:List Nat)(t t':TypeId)(x y:V)(K:b1y):Prop :=
 if(E.vecT t && !b8p x)=true then c6i E heap arr t t' x y K else b5F E arr t t' x y fun r arr'=>K r heap arr'
def b9V(E:Env)(heap:List VObj)(t:TypeId)(x:V)(K:V→Prop):Prop:=match x with
 | .map id=>match E.P.underlying t,heap[id]? with
  | some (.map _ _),some (.map es)=>K (.int .i64 es.length)
  | _,_=>False
 | x=>d4e E t x K
def b6J:V→Option V→Option V→Option V→Bool
 | .slice (.arr _) _ (_::_),some (.int _ _),none,none=>true
 | .slice .full _ (_::_),some (.int _ _),none,none=>true
 | .vec ..,none,some (.int _ _),none=>true
 | _,_,_,_=>false
def c4j(E:Env)(arr:List Nat)(t:TypeId)(x:V)(lo hi:Option V)(K:V→List Nat→Prop):Prop :=
 match E.P.underlying t,x,lo,hi with
 | some (.slice e),.slice (.arr k) e' es,some (.int _ l),_=>(e'=e∧b0A E.P e=true∧0≤l∧l≤es.length∧arr[k]? = some es.length)∧K (.slice (.arr arr.length) e' (es.drop l.toNat)) (arr.set k (es.length+1)++[es.length - l.toNat])
 | some (.slice e),.slice .full e' es,some (.int _ l),_=>(e'=e∧b0A E.P e=true∧0≤l∧l≤es.length)∧K (.slice .full e' (es.drop l.toNat)) arr
 | some (.slice e),.vec id k gen len e',none,some (.int _ h)=>(e'=e∧b0A E.P e=true∧0≤h∧h≤len∧arr[k]? = some gen)∧K (.vec id k gen h.toNat e') arr
 | _,_,_,_=>False
def c2K(E:Env)(s:St)(c:Call)(K:b1y):Prop :=
 match c.callee with
 | .builtin .len=>match c.argTypes[0]?,c.args.toList with
  | some t,[x]=>b9V E s.heap t (ev E s.tmps x) fun r=>K r s.heap s.arr
  | _,_=>False
 | .builtin .min=>match c.args.toList with
  | [x,y]=>vMin (ev E s.tmps x) (ev E s.tmps y) fun r=>K r s.heap s.arr
  | _=>False
 | .builtin .max=>match c.args.toList with
  | [x,y]=>vMax (ev E s.tmps x) (ev E s.tmps y) fun r=>K r s.heap s.arr
  | [x,y,z]=>vMax3 (ev E s.tmps x) (ev E s.tmps y) (ev E s.tmps z) fun r=>K r s.heap s.arr
  | _=>False
 | .builtin .append=>match c.argTypes.toList,c.args.toList with
  | [t,t'],[x,y]=>d9S E s.heap s.arr t t' (ev E s.tmps x) (ev E s.tmps y) K
  | _,_=>False
 | .builtin .copy=>match c.argTypes.toList,c.args.toList with
  | [t,t'],[x,y]=>c6w E s.heap t t' (ev E s.tmps x) (ev E s.tmps y) fun r heap'=>K r heap' s.arr
  | _,_=>False
 | .value f=>match ev E s.tmps f with
  | .func fid caps=>b0t E.P fid=true∧b0q E fid (c.args.toList.map (ev E s.tmps)++caps) s.heap s.arr K
  | .meth fid xs=>b0t E.P fid=true∧b0q E fid (xs++c.args.toList.map (ev E s.tmps)) s.heap s.arr K
  | _=>False
 | _=>False
def f8Y:List V→Bool
 | [.nilp,.slice .nil _ []]=>true
 | _=>false
def d7J(E:Env)(t:TypeId)(cs:List V):VObj:=if E.tag t=true then .builder t ⟨#[]⟩else .cells cs
def d1O(E:Env)(t:TypeId)(cs:List V):Prop:=E.tag t=true→f8Y cs=true
def vop(E:Env)(s:St)(op:Op)(K:b1y):Prop :=
 match op with
 | .move x | .assign x=>K (ev E s.tmps x) s.heap s.arr
 | .pick c a b=>match ev E s.tmps c with
  | .bool t=>K (if t then ev E s.tmps a else ev E s.tmps b) s.heap s.arr
  | _=>False
 | .alloc t=>(b6b E t=true∧d1O E t (b3v E t))∧K (.ptr s.heap.length 0) (s.heap++[d7J E t (b3v E t)]) s.arr
 | .box t x=>(ev E s.tmps x).some? = true∧K (.ptr s.heap.length 0) (s.heap++[.cells (cellsV (ev E s.tmps x))]) s.arr
 | .build t parts=>vBuild E t (parts.toList.map fun p=>(p.1,ev E s.tmps p.2)) fun r=>K r s.heap s.arr
 | .buildSlice t len parts=>vBuildSlice E t len (parts.toList.map fun p=>(p.1,ev E s.tmps p.2)) fun r=>K r s.heap s.arr
 | .load t a=>match vAt s.heap (ev E s.tmps a)with
  | some cs=>vLoadL E t cs fun r=>K r s.heap s.arr
  | none=>False
 | .store t a x=>c0s E s.heap t (ev E s.tmps a) (ev E s.tmps x) fun heap'=>K .junk heap' s.arr
 | .nilCheck x=>match ev E s.tmps x with
  | .ptr id off=>K (.ptr id off) s.heap s.arr
  | .fptr cs=>K (.fptr cs) s.heap s.arr
  | .vptr id k gen off=>K (.vptr id k gen off) s.heap s.arr
  | _=>False
 | .binOp op t x y _=>vBinC E op t (b8E y) (ev E s.tmps x) (ev E s.tmps y) fun r=>K r s.heap s.arr
 | .makeInterface t x=>vMkIface E t (ev E s.tmps x) fun r=>K r s.heap s.arr
 | .panic x=>d2b E s.heap s.arr (ev E s.tmps x)
 | .unOp op _ x=>vUn op (ev E s.tmps x) fun r=>K r s.heap s.arr
 | .convert src dst x=>match E.P.underlying src,E.P.underlying dst,ev E s.tmps x with
  | some _,some (.int k),.int _ n=>K (.int k (k.wrap n)) s.heap s.arr
  | some _,some .string,.str b=>K (.str b) s.heap s.arr
  | some (.slice e),some .string,.slice _ e' es=>((es=[]∨e'=e)∧E.P.underlying e=some (.int .u8)∧E.P.cellsOf e=1)∧match c0N es with
   | some ns=>K (.str (b9L ns)) s.heap s.arr
   | none=>False
  | some .string,some (.slice e),.str b=>(E.P.underlying e=some (.int .u8)∧E.P.cellsOf e=1∧E.P.bytesOf e=1∧b.size≤140737488355328)∧K (sl e (b2r b)) s.heap s.arr
  | _,_,_=>False
 | .makeFunc fn first caps=>match fn with
  | .func f=>match first.toList with
   | []=>K (.func f (caps.toList.map (ev E s.tmps))) s.heap s.arr
   | x::r=>caps.toList=[]∧K (.meth f ((x::r).map (ev E s.tmps))) s.heap s.arr
  | _=>False
 | .slice t x lo hi mx=>if(E.vecT t && b6J (ev E s.tmps x) (lo.map (ev E s.tmps)) (hi.map (ev E s.tmps)) (mx.map (ev E s.tmps)))=true then c4j E s.arr t (ev E s.tmps x) (lo.map (ev E s.tmps)) (hi.map (ev E s.tmps)) fun r arr'=>K r s.heap arr'
  else vSlice E t (ev E s.tmps x) (lo.map (ev E s.tmps)) (hi.map (ev E s.tmps)) (mx.map (ev E s.tmps)) fun r=>K r s.heap s.arr
 | .fieldAddr t a f=>vFieldAddr E t (ev E s.tmps a) f fun r=>K r s.heap s.arr
 | .field t x f=>match E.P.underlying t,ev E s.tmps x with
  | some (.struct fs),.agg cs=>match fs[f]? with
   | some fd=>vPart E fd.type cs fd.offset fun r=>K r s.heap s.arr
   | none=>False
  | _,_=>False
 | .indexAddr t x ix=>vIndexAddr E t (ev E s.tmps x) (ev E s.tmps ix) fun r=>K r s.heap s.arr
 | .index t x ix=>vIndex E t (ev E s.tmps x) (ev E s.tmps ix) fun r=>K r s.heap s.arr
 | .extract t ix=>match ev E s.tmps t with
  | .tuple vs=>match vs[ix]? with
   | some x=>K x s.heap s.arr
   | none=>False
  | _=>False
 | .lookup t m k ok=>vLookK E s.heap t (ev E s.tmps m) (ev E s.tmps k) ok fun r=>K r s.heap s.arr
 | .mapUpdate t m k v | .insert t m k v=>vMapSetK E s.heap t (ev E s.tmps m) (ev E s.tmps k) (ev E s.tmps v) fun heap'=>K .junk heap' s.arr
 | .makeMap _ r=>r=none∧K (.map s.heap.length) (s.heap++[.map []]) s.arr
 | .makeSlice t l c=>b3k E s.heap t (ev E s.tmps l) (ev E s.tmps c) fun r heap'=>K r heap' s.arr
 | .range t x=>c1B E s.heap t (ev E s.tmps x) fun r heap'=>K r heap' s.arr
 | .next x str=>str=true∧c8K s.heap (ev E s.tmps x) fun r heap'=>K r heap' s.arr
 | .call c=>c2K E s c K
 | _=>False
def Out(E:Env)(G:Gh)(arr:List Nat)(w0:Base)(K:b1y):Result Next→Prop
 | .ok (.value val) w'=>b2n E G arr w0 K val w'
 | .ok .skip w'=>∃ heap' arr' G',K .junk heap' arr'∧Ext G arr G' arr'∧RelW E G' heap' arr' w0 w'
 | .ok (.enter f args) w'=>Calls E.P f args w' fun e w''=>d9U E G arr w0 K e w''
 | .halt (.panic v) w'=>d6S E G arr w0 [{ v,recovered:=false }] w'
 | _=>False
end Go.Vg
namespace Go.Proofs.YtighfcpaplmaiaaGreatDoor
open Go.Vg Go.Proofs
@[go_sem] theorem g6U:Program.bytesOf Tryz.prog 0=0:=by kernel_rfl
@[go_sem] theorem g5n:Program.cellsOf Tryz.prog 3=1:=by kernel_rfl
@[go_sem] theorem g7Y:Program.bytesOf Tryz.prog 3=8:=by kernel_rfl
@[go_sem] theorem g9h:b0A Tryz.prog 3=true:=by kernel_rfl
@[go_sem] theorem g9C:b2M Tryz.prog 3=[.int .i64 0]:=by kernel_rfl
@[go_sem] theorem g9V:b0Q Tryz.prog 3=true:=by kernel_rfl
@[go_sem] theorem g8L:b0W Tryz.prog 3=true:=by kernel_rfl
@[go_sem] theorem g7F:Program.cellsOf Tryz.prog 4=1:=by kernel_rfl
@[go_sem] theorem g9E:b0A Tryz.prog 4=true:=by kernel_rfl
@[go_sem] theorem g9U:b0Q Tryz.prog 4=true:=by kernel_rfl
@[go_sem] theorem g7y:Program.cellsOf Tryz.prog 5=1:=by kernel_rfl
@[go_sem] theorem g6e:Program.bytesOf Tryz.prog 5=1:=by kernel_rfl
@[go_sem] theorem g9y:b0A Tryz.prog 5=true:=by kernel_rfl
@[go_sem] theorem g5K:Program.cellsOf Tryz.prog 9=1:=by kernel_rfl
@[go_sem] theorem g8l:Program.bytesOf Tryz.prog 9=16:=by kernel_rfl
@[go_sem] theorem g9O:b0A Tryz.prog 9=true:=by kernel_rfl
@[go_sem] theorem g9z:b2M Tryz.prog 9=[.str ⟨#[]⟩]:=by kernel_rfl
@[go_sem] theorem g9T:b0Q Tryz.prog 9=true:=by kernel_rfl
@[go_sem] theorem g9u:b0W Tryz.prog 9=true:=by kernel_rfl
@[go_sem] theorem g4n:Program.cellsOf Tryz.prog 22=1:=by kernel_rfl
@[go_sem] theorem g5Z:b0A Tryz.prog 22=true:=by kernel_rfl
@[go_sem] theorem g2I:Program.cellsOf Tryz.prog 24=2:=by kernel_rfl
@[go_sem] theorem g0Q:Program.bytesOf Tryz.prog 24=16:=by kernel_rfl
@[go_sem] theorem g6f:b0A Tryz.prog 24=true:=by kernel_rfl
@[go_sem] theorem g5N:b2M Tryz.prog 24=[.int .i64 0,.int .i64 0]:=by kernel_rfl
@[go_sem] theorem g9D:b0Q Tryz.prog 24=true:=by kernel_rfl
@[go_sem] theorem g8t:b0W Tryz.prog 24=true:=by kernel_rfl
@[go_sem] theorem g3U:Program.cellsOf Tryz.prog 28=1:=by kernel_rfl
@[go_sem] theorem g6S:b0A Tryz.prog 28=true:=by kernel_rfl
@[go_sem] theorem g7A:b2M Tryz.prog 28=[.slice .nil 0 []]:=by kernel_rfl
@[go_sem] theorem g9G:b0Q Tryz.prog 28=true:=by kernel_rfl
@[go_sem] theorem g3b:Program.cellsOf Tryz.prog 32=1:=by kernel_rfl
@[go_sem] theorem g8o:b2M Tryz.prog 32=[.slice .nil 0 []]:=by kernel_rfl
@[go_sem] theorem g8K:b0Q Tryz.prog 32=true:=by kernel_rfl
@[go_sem] theorem g3P:Program.cellsOf Tryz.prog 38=2:=by kernel_rfl
@[go_sem] theorem g0d:Program.bytesOf Tryz.prog 38=32:=by kernel_rfl
@[go_sem] theorem g5I:b0A Tryz.prog 38=true:=by kernel_rfl
@[go_sem] theorem g8d:b2M Tryz.prog 38=[.str ⟨#[]⟩,.str ⟨#[]⟩]:=by kernel_rfl
@[go_sem] theorem g8S:b0Q Tryz.prog 38=true:=by kernel_rfl
@[go_sem] theorem g5k:b0W Tryz.prog 38=true:=by kernel_rfl
@[go_sem] theorem g4e:Program.cellsOf Tryz.prog 43=1:=by kernel_rfl
@[go_sem] theorem g7e:b0A Tryz.prog 43=true:=by kernel_rfl
@[go_sem] theorem g1N:Program.cellsOf Tryz.prog 45=1:=by kernel_rfl
@[go_sem] theorem g4G:Program.bytesOf Tryz.prog 45=24:=by kernel_rfl
@[go_sem] theorem g5e:b0A Tryz.prog 45=true:=by kernel_rfl
@[go_sem] theorem g7U:b2M Tryz.prog 45=[.slice .nil 0 []]:=by kernel_rfl
@[go_sem] theorem g8Q:b0Q Tryz.prog 45=true:=by kernel_rfl
@[go_sem] theorem g6R:b0W Tryz.prog 45=true:=by kernel_rfl
@[go_sem] theorem g1i:Program.cellsOf Tryz.prog 46=1:=by kernel_rfl
@[go_sem] theorem g6b:b0A Tryz.prog 46=true:=by kernel_rfl
@[go_sem] theorem g1R:Program.cellsOf Tryz.prog 48=5:=by kernel_rfl
@[go_sem] theorem g4Z:Program.bytesOf Tryz.prog 48=80:=by kernel_rfl
@[go_sem] theorem g5s:b0A Tryz.prog 48=true:=by kernel_rfl
@[go_sem] theorem g5R:b2M Tryz.prog 48=[.int .i64 0,.int .i64 0,.str ⟨#[]⟩,.slice .nil 0 [],.slice .nil 0 []]:=by kernel_rfl
@[go_sem] theorem g8Y:b0Q Tryz.prog 48=true:=by kernel_rfl
@[go_sem] theorem g5C:b0W Tryz.prog 48=true:=by kernel_rfl
@[go_sem] theorem g1n:Program.cellsOf Tryz.prog 51=1:=by kernel_rfl
@[go_sem] theorem g5B:b0A Tryz.prog 51=true:=by kernel_rfl
@[go_sem] theorem g1s:Program.cellsOf Tryz.prog 54=5:=by kernel_rfl
@[go_sem] theorem g3M:Program.bytesOf Tryz.prog 54=56:=by kernel_rfl
@[go_sem] theorem g5S:b0A Tryz.prog 54=true:=by kernel_rfl
@[go_sem] theorem g6s:b2M Tryz.prog 54=[.int .i64 0,.str ⟨#[]⟩,.str ⟨#[]⟩,.int .i64 0,.int .i64 0]:=by kernel_rfl
@[go_sem] theorem g9L:b0Q Tryz.prog 54=true:=by kernel_rfl
@[go_sem] theorem g5h:b0W Tryz.prog 54=true:=by kernel_rfl
@[go_sem] theorem g0E:Program.cellsOf Tryz.prog 64=1:=by kernel_rfl
@[go_sem] theorem g6z:b0A Tryz.prog 64=true:=by kernel_rfl
@[go_sem] theorem g2W:Program.cellsOf Tryz.prog 66=4:=by kernel_rfl
@[go_sem] theorem g0h:Program.bytesOf Tryz.prog 66=72:=by kernel_rfl
@[go_sem] theorem g7V:b0A Tryz.prog 66=true:=by kernel_rfl
@[go_sem] theorem g8G:b2M Tryz.prog 66=[.int .i64 0,.str ⟨#[]⟩,.slice .nil 0 [],.slice .nil 0 []]:=by kernel_rfl
@[go_sem] theorem g9c:b0Q Tryz.prog 66=true:=by kernel_rfl
@[go_sem] theorem g5H:b0W Tryz.prog 66=true:=by kernel_rfl
@[go_sem] theorem g4o:Program.cellsOf Tryz.prog 70=7:=by kernel_rfl
@[go_sem] theorem f9H:Program.bytesOf Tryz.prog 70=112:=by kernel_rfl
@[go_sem] theorem g8A:b0A Tryz.prog 70=true:=by kernel_rfl
@[go_sem] theorem g6m:b2M Tryz.prog 70=[.str ⟨#[]⟩,.str ⟨#[]⟩,.int .i64 0,.str ⟨#[]⟩,.slice .nil 0 [],.slice .nil 0 [],.bool false]:=by kernel_rfl
@[go_sem] theorem g8M:b0Q Tryz.prog 70=true:=by kernel_rfl
@[go_sem] theorem g7L:b0W Tryz.prog 70=true:=by kernel_rfl
@[go_sem] theorem g2J:Program.cellsOf Tryz.prog 72=1:=by kernel_rfl
@[go_sem] theorem g8E:b0A Tryz.prog 72=true:=by kernel_rfl
@[go_sem] theorem g2x:Program.cellsOf Tryz.prog 74=4:=by kernel_rfl
@[go_sem] theorem g6I:b2M Tryz.prog 74=[.slice .nil 0 [],.slice .nil 0 [],.slice .nil 0 [],.slice .nil 0 []]:=by kernel_rfl
@[go_sem] theorem g9N:b0Q Tryz.prog 74=true:=by kernel_rfl
@[go_sem] theorem g0I:Program.cellsOf Tryz.prog 84=1:=by kernel_rfl
@[go_sem] theorem g5l:b0A Tryz.prog 84=true:=by kernel_rfl
@[go_sem] theorem g1r:Program.cellsOf Tryz.prog 91=1:=by kernel_rfl
@[go_sem] theorem g7H:b2M Tryz.prog 91=[.nilp]:=by kernel_rfl
@[go_sem] theorem g8N:b0Q Tryz.prog 91=true:=by kernel_rfl
@[go_sem] theorem f9z:Program.cellsOf Tryz.prog 107=1:=by kernel_rfl
@[go_sem] theorem g3F:b2M Tryz.prog 107=[.nilmap]:=by kernel_rfl
@[go_sem] theorem g7l:b0Q Tryz.prog 107=true:=by kernel_rfl
@[go_sem] theorem f8K:Program.cellsOf Tryz.prog 113=4:=by kernel_rfl
@[go_sem] theorem g3I:b2M Tryz.prog 113=[.slice .nil 0 [],.slice .nil 0 [],.slice .nil 0 [],.slice .nil 0 []]:=by kernel_rfl
@[go_sem] theorem g5P:b0Q Tryz.prog 113=true:=by kernel_rfl
@[go_sem] theorem f8O:Program.cellsOf Tryz.prog 136=3:=by kernel_rfl
@[go_sem] theorem g1J:b2M Tryz.prog 136=[.str ⟨#[]⟩,.str ⟨#[]⟩,.bool false]:=by kernel_rfl
@[go_sem] theorem g5j:b0Q Tryz.prog 136=true:=by kernel_rfl
@[go_sem] theorem f7I:Program.cellsOf Tryz.prog 143=1:=by kernel_rfl
@[go_sem] theorem g3n:b0A Tryz.prog 143=true:=by kernel_rfl
@[go_sem] theorem f7v:Program.cellsOf Tryz.prog 145=1:=by kernel_rfl
@[go_sem] theorem g3O:b0A Tryz.prog 145=true:=by kernel_rfl
@[go_sem] theorem f8A:Program.cellsOf Tryz.prog 146=1:=by kernel_rfl
@[go_sem] theorem g4F:b0A Tryz.prog 146=true:=by kernel_rfl
@[go_sem] theorem f7R:Program.cellsOf Tryz.prog 147=1:=by kernel_rfl
@[go_sem] theorem g3S:b0A Tryz.prog 147=true:=by kernel_rfl
@[go_sem] theorem f9V:b2M Tryz.prog 149=[.slice .nil 0 [],.slice .nil 0 [],.nilmap,.slice .nil 0 [],.nilmap,.nilmap,.nilmap]:=by kernel_rfl
@[go_sem] theorem g6p:b0Q Tryz.prog 149=true:=by kernel_rfl
@[go_sem] theorem f8h:Program.cellsOf Tryz.prog 150=1:=by kernel_rfl
@[go_sem] theorem g0M:b0A Tryz.prog 150=true:=by kernel_rfl
@[go_sem] theorem f8B:Program.cellsOf Tryz.prog 151=1:=by kernel_rfl
@[go_sem] theorem g4g:b0A Tryz.prog 151=true:=by kernel_rfl
@[go_sem] theorem g1g:b2M Tryz.prog 153=[.slice .nil 0 [],.nilmap,.nilmap,.slice .nil 0 []]:=by kernel_rfl
@[go_sem] theorem g8D:b0Q Tryz.prog 153=true:=by kernel_rfl
@[go_sem] theorem f7a:Program.cellsOf Tryz.prog 157=2:=by kernel_rfl
@[go_sem] theorem g1E:b2M Tryz.prog 157=[.str ⟨#[]⟩,.str ⟨#[]⟩]:=by kernel_rfl
@[go_sem] theorem g6o:b0Q Tryz.prog 157=true:=by kernel_rfl
@[go_sem] theorem f7H:Program.cellsOf Tryz.prog 163=5:=by kernel_rfl
@[go_sem] theorem f7X:Program.bytesOf Tryz.prog 163=40:=by kernel_rfl
@[go_sem] theorem g0K:b0A Tryz.prog 163=true:=by kernel_rfl
@[go_sem] theorem g3e:b2M Tryz.prog 163=[.int .i64 0,.int .i64 0,.int .i64 0,.int .i64 0,.bool false]:=by kernel_rfl
@[go_sem] theorem g6r:b0Q Tryz.prog 163=true:=by kernel_rfl
@[go_sem] theorem g4U:b0W Tryz.prog 163=true:=by kernel_rfl
@[go_sem] theorem f9b:Program.cellsOf Tryz.prog 166=2:=by kernel_rfl
@[go_sem] theorem g3i:b0A Tryz.prog 166=true:=by kernel_rfl
@[go_sem] theorem g4K:b2M Tryz.prog 166=[.slice .nil 0 [],.str ⟨#[]⟩]:=by kernel_rfl
@[go_sem] theorem g5E:b0Q Tryz.prog 166=true:=by kernel_rfl
@[go_sem] theorem f8k:Program.cellsOf Tryz.prog 195=1:=by kernel_rfl
@[go_sem] theorem g0x:b0A Tryz.prog 195=true:=by kernel_rfl
@[go_sem] theorem g0R:b2M Tryz.prog 197=[.slice .nil 0 [],.nilmap,.slice .nil 0 []]:=by kernel_rfl
@[go_sem] theorem g8s:b0Q Tryz.prog 197=true:=by kernel_rfl
@[go_sem] theorem f7P:Program.cellsOf Tryz.prog 199=4:=by kernel_rfl
@[go_sem] theorem g0g:b2M Tryz.prog 199=[.int .i64 0,.int .i64 0,.int .i64 0,.str ⟨#[]⟩]:=by kernel_rfl
@[go_sem] theorem g6g:b0Q Tryz.prog 199=true:=by kernel_rfl
@[go_sem] theorem f7C:Program.cellsOf Tryz.prog 228=2:=by kernel_rfl
@[go_sem] theorem g1X:b2M Tryz.prog 228=[.int .i64 0,.str ⟨#[]⟩]:=by kernel_rfl
@[go_sem] theorem g7j:b0Q Tryz.prog 228=true:=by kernel_rfl
@[go_sem] theorem f9i:Program.cellsOf Tryz.prog 230=2:=by kernel_rfl
@[go_sem] theorem g0s:b2M Tryz.prog 230=[.str ⟨#[]⟩,.str ⟨#[]⟩]:=by kernel_rfl
@[go_sem] theorem g8F:b0Q Tryz.prog 230=true:=by kernel_rfl
@[go_sem] theorem f7q:Program.cellsOf Tryz.prog 232=3:=by kernel_rfl
@[go_sem] theorem g3l:b2M Tryz.prog 232=[.slice .nil 0 [],.str ⟨#[]⟩,.bool false]:=by kernel_rfl
@[go_sem] theorem g5q:b0Q Tryz.prog 232=true:=by kernel_rfl
@[go_sem] theorem f8f:Program.cellsOf Tryz.prog 254=1:=by kernel_rfl
@[go_sem] theorem g4t:b0A Tryz.prog 254=true:=by kernel_rfl
@[go_sem] theorem f9o:Program.cellsOf Tryz.prog 256=2:=by kernel_rfl
@[go_sem] theorem f7W:Program.bytesOf Tryz.prog 256=16:=by kernel_rfl
@[go_sem] theorem g1K:b0A Tryz.prog 256=true:=by kernel_rfl
@[go_sem] theorem g1I:b2M Tryz.prog 256=[.int .i64 0,.int .i64 0]:=by kernel_rfl
@[go_sem] theorem g5G:b0Q Tryz.prog 256=true:=by kernel_rfl
@[go_sem] theorem f8U:Program.cellsOf Tryz.prog 258=6:=by kernel_rfl
@[go_sem] theorem g4S:b0A Tryz.prog 258=true:=by kernel_rfl
@[go_sem] theorem g2X:b2M Tryz.prog 258=[.slice .nil 0 [],.int .i64 0,.int .i64 0,.int .i64 0,.slice .nil 0 [],.int .i64 0]:=by kernel_rfl
@[go_sem] theorem g5v:b0Q Tryz.prog 258=true:=by kernel_rfl
@[go_sem] theorem g9i:b0t Tryz.prog 9=true:=by kernel_rfl
@[go_sem] theorem g6A:b0t Tryz.prog 10=true:=by kernel_rfl
@[go_sem] theorem g6M:b0t Tryz.prog 11=true:=by kernel_rfl
@[go_sem] theorem g7z:b0t Tryz.prog 12=true:=by kernel_rfl
@[go_sem] theorem g7Q:b0t Tryz.prog 14=true:=by kernel_rfl
@[go_sem] theorem g7O:b0t Tryz.prog 15=true:=by kernel_rfl
@[go_sem] theorem g5A:b0t Tryz.prog 16=true:=by kernel_rfl
@[go_sem] theorem g7b:b0t Tryz.prog 17=true:=by kernel_rfl
@[go_sem] theorem g7h:b0t Tryz.prog 18=true:=by kernel_rfl
@[go_sem] theorem g5L:b0t Tryz.prog 19=true:=by kernel_rfl
@[go_sem] theorem g5T:b0t Tryz.prog 20=true:=by kernel_rfl
@[go_sem] theorem g5z:b0t Tryz.prog 21=true:=by kernel_rfl
@[go_sem] theorem g8g:b0t Tryz.prog 22=true:=by kernel_rfl
@[go_sem] theorem g7N:b0t Tryz.prog 23=true:=by kernel_rfl
@[go_sem] theorem g6N:b0t Tryz.prog 24=true:=by kernel_rfl
@[go_sem] theorem g8i:b0t Tryz.prog 25=true:=by kernel_rfl
@[go_sem] theorem g5F:b0t Tryz.prog 26=true:=by kernel_rfl
@[go_sem] theorem g7q:b0t Tryz.prog 28=true:=by kernel_rfl
@[go_sem] theorem g7B:b0t Tryz.prog 29=true:=by kernel_rfl
@[go_sem] theorem g5V:b0t Tryz.prog 31=true:=by kernel_rfl
@[go_sem] theorem g8J:b0t Tryz.prog 32=true:=by kernel_rfl
@[go_sem] theorem g6i:b0t Tryz.prog 33=true:=by kernel_rfl
@[go_sem] theorem g6W:b0t Tryz.prog 34=true:=by kernel_rfl
@[go_sem] theorem g7r:b0t Tryz.prog 35=true:=by kernel_rfl
@[go_sem] theorem g7X:b0t Tryz.prog 36=true:=by kernel_rfl
@[go_sem] theorem g7x:b0t Tryz.prog 37=true:=by kernel_rfl
@[go_sem] theorem g7g:b0t Tryz.prog 38=true:=by kernel_rfl
@[go_sem] theorem g6d:b0t Tryz.prog 39=true:=by kernel_rfl
@[go_sem] theorem g8C:b0t Tryz.prog 40=true:=by kernel_rfl
@[go_sem] theorem g8B:b0t Tryz.prog 41=true:=by kernel_rfl
@[go_sem] theorem g5W:b0t Tryz.prog 42=true:=by kernel_rfl
@[go_sem] theorem g7G:b0t Tryz.prog 43=true:=by kernel_rfl
@[go_sem] theorem g7t:b0t Tryz.prog 45=true:=by kernel_rfl
@[go_sem] theorem g6B:b0t Tryz.prog 46=true:=by kernel_rfl
@[go_sem] theorem g7c:b0t Tryz.prog 47=true:=by kernel_rfl
@[go_sem] theorem g5Q:b0t Tryz.prog 48=true:=by kernel_rfl
@[go_sem] theorem g6j:b0t Tryz.prog 49=true:=by kernel_rfl
@[go_sem] theorem g7M:b0t Tryz.prog 50=true:=by kernel_rfl
@[go_sem] theorem g6F:b0t Tryz.prog 51=true:=by kernel_rfl
@[go_sem] theorem g7S:b0t Tryz.prog 52=true:=by kernel_rfl
@[go_sem] theorem g6w:b0t Tryz.prog 53=true:=by kernel_rfl
@[go_sem] theorem g7i:b0t Tryz.prog 54=true:=by kernel_rfl
@[go_sem] theorem g5w:b0t Tryz.prog 55=true:=by kernel_rfl
@[go_sem] theorem g5p:b0t Tryz.prog 56=true:=by kernel_rfl
@[go_sem] theorem g6k:b0t Tryz.prog 57=true:=by kernel_rfl
@[go_sem] theorem g6c:b0t Tryz.prog 58=true:=by kernel_rfl
@[go_sem] theorem g6E:b0t Tryz.prog 59=true:=by kernel_rfl
@[go_sem] theorem g6L:b0t Tryz.prog 60=true:=by kernel_rfl
@[go_sem] theorem g5t:b0t Tryz.prog 61=true:=by kernel_rfl
@[go_sem] theorem g5u:b0t Tryz.prog 62=true:=by kernel_rfl
@[go_sem] theorem g6Z:b0t Tryz.prog 63=true:=by kernel_rfl
@[go_sem] theorem g7W:b0t Tryz.prog 64=true:=by kernel_rfl
@[go_sem] theorem g6V:b0t Tryz.prog 65=true:=by kernel_rfl
@[go_sem] theorem g7u:b0t Tryz.prog 66=true:=by kernel_rfl
@[go_sem] theorem g6T:b0t Tryz.prog 67=true:=by kernel_rfl
@[go_sem] theorem g6a:b0t Tryz.prog 68=true:=by kernel_rfl
@[go_sem] theorem g7P:b0t Tryz.prog 69=true:=by kernel_rfl
@[go_sem] theorem g7J:b0t Tryz.prog 70=true:=by kernel_rfl
@[go_sem] theorem g8f:b0t Tryz.prog 71=true:=by kernel_rfl
@[go_sem] theorem g6H:b0t Tryz.prog 72=true:=by kernel_rfl
@[go_sem] theorem g6h:b0t Tryz.prog 73=true:=by kernel_rfl
@[go_sem] theorem g5X:b0t Tryz.prog 74=true:=by kernel_rfl
@[go_sem] theorem g8v:b0t Tryz.prog 75=true:=by kernel_rfl
@[go_sem] theorem g6K:b0t Tryz.prog 76=true:=by kernel_rfl
@[go_sem] theorem g7E:b0t Tryz.prog 77=true:=by kernel_rfl
@[go_sem] theorem g6l:b0t Tryz.prog 83=true:=by kernel_rfl
@[go_sem] theorem g6G:b0t Tryz.prog 84=true:=by kernel_rfl
@[go_sem] theorem g8e:b0t Tryz.prog 85=true:=by kernel_rfl
@[go_sem] theorem g7R:b0t Tryz.prog 86=true:=by kernel_rfl
@[go_sem] theorem g5g:b0t Tryz.prog 87=true:=by kernel_rfl
@[go_sem] theorem g8r:b0t Tryz.prog 88=true:=by kernel_rfl
@[go_sem] theorem g6n:b0t Tryz.prog 89=true:=by kernel_rfl
@[go_sem] theorem g6v:b0t Tryz.prog 91=true:=by kernel_rfl
@[go_sem] theorem g5i:b0t Tryz.prog 92=true:=by kernel_rfl
@[go_sem] theorem g6u:b0t Tryz.prog 93=true:=by kernel_rfl
@[go_sem] theorem g8I:b0t Tryz.prog 96=true:=by kernel_rfl
@[go_sem] theorem g8c:b0t Tryz.prog 97=true:=by kernel_rfl
@[go_sem] theorem g8h:b0t Tryz.prog 98=true:=by kernel_rfl
@[go_sem] theorem g2y:b0t Tryz.prog 100=true:=by kernel_rfl
@[go_sem] theorem g1D:b0t Tryz.prog 101=true:=by kernel_rfl
@[go_sem] theorem g1M:b0t Tryz.prog 102=true:=by kernel_rfl
@[go_sem] theorem g3Y:b0t Tryz.prog 103=true:=by kernel_rfl
@[go_sem] theorem g2m:b0t Tryz.prog 104=true:=by kernel_rfl
@[go_sem] theorem g2T:b0t Tryz.prog 105=true:=by kernel_rfl
@[go_sem] theorem g0p:b0t Tryz.prog 106=true:=by kernel_rfl
@[go_sem] theorem f9O:b0t Tryz.prog 107=true:=by kernel_rfl
@[go_sem] theorem g2o:b0t Tryz.prog 108=true:=by kernel_rfl
@[go_sem] theorem g4X:b0t Tryz.prog 109=true:=by kernel_rfl
@[go_sem] theorem g0c:b0t Tryz.prog 110=true:=by kernel_rfl
@[go_sem] theorem g4M:b0t Tryz.prog 111=true:=by kernel_rfl
@[go_sem] theorem g4r:b0t Tryz.prog 112=true:=by kernel_rfl
@[go_sem] theorem g4a:b0t Tryz.prog 113=true:=by kernel_rfl
@[go_sem] theorem g2q:b0t Tryz.prog 114=true:=by kernel_rfl
@[go_sem] theorem g4N:b0t Tryz.prog 115=true:=by kernel_rfl
@[go_sem] theorem g0w:b0t Tryz.prog 116=true:=by kernel_rfl
@[go_sem] theorem g0v:b0t Tryz.prog 117=true:=by kernel_rfl
@[go_sem] theorem g4d:b0t Tryz.prog 137=true:=by kernel_rfl
@[go_sem] theorem g1F:b0t Tryz.prog 138=true:=by kernel_rfl
@[go_sem] theorem g5c:b0t Tryz.prog 139=true:=by kernel_rfl
@[go_sem] theorem g3H:b0t Tryz.prog 140=true:=by kernel_rfl
@[go_sem] theorem g1a:b0t Tryz.prog 141=true:=by kernel_rfl
@[go_sem] theorem g2V:b0t Tryz.prog 142=true:=by kernel_rfl
@[go_sem] theorem g2k:b0t Tryz.prog 143=true:=by kernel_rfl
@[go_sem] theorem g2O:b0t Tryz.prog 144=true:=by kernel_rfl
@[go_sem] theorem g3E:b0t Tryz.prog 145=true:=by kernel_rfl
@[go_sem] theorem g2h:b0t Tryz.prog 146=true:=by kernel_rfl
@[go_sem] theorem g4s:b0t Tryz.prog 147=true:=by kernel_rfl
@[go_sem] theorem g3v:b0t Tryz.prog 148=true:=by kernel_rfl
@[go_sem] theorem g2C:b0t Tryz.prog 149=true:=by kernel_rfl
@[go_sem] theorem g4O:b0t Tryz.prog 150=true:=by kernel_rfl
@[go_sem] theorem g0H:b0t Tryz.prog 151=true:=by kernel_rfl
@[go_sem] theorem g2N:b0t Tryz.prog 152=true:=by kernel_rfl
@[go_sem] theorem g1Y:b0t Tryz.prog 153=true:=by kernel_rfl
@[go_sem] theorem g1P:b0t Tryz.prog 154=true:=by kernel_rfl
@[go_sem] theorem g4u:b0t Tryz.prog 155=true:=by kernel_rfl
@[go_sem] theorem g3N:b0t Tryz.prog 156=true:=by kernel_rfl
@[go_sem] theorem g2g:b0t Tryz.prog 158=true:=by kernel_rfl
@[go_sem] theorem g0B:b0t Tryz.prog 159=true:=by kernel_rfl
@[go_sem] theorem g4y:b0t Tryz.prog 160=true:=by kernel_rfl
@[go_sem] theorem g0u:b0t Tryz.prog 161=true:=by kernel_rfl
@[go_sem] theorem g2u:b0t Tryz.prog 162=true:=by kernel_rfl
@[go_sem] theorem g3z:b0t Tryz.prog 163=true:=by kernel_rfl
@[go_sem] theorem g1k:b0t Tryz.prog 164=true:=by kernel_rfl
@[go_sem] theorem g2P:b0t Tryz.prog 165=true:=by kernel_rfl
@[go_sem] theorem g4l:b0t Tryz.prog 166=true:=by kernel_rfl
@[go_sem] theorem g3A:b0t Tryz.prog 167=true:=by kernel_rfl
@[go_sem] theorem g0F:b0t Tryz.prog 168=true:=by kernel_rfl
@[go_sem] theorem g0O:b0t Tryz.prog 169=true:=by kernel_rfl
@[go_sem] theorem g0e:b0t Tryz.prog 170=true:=by kernel_rfl
@[go_sem] theorem g4A:b0t Tryz.prog 171=true:=by kernel_rfl
@[go_sem] theorem g2F:b0t Tryz.prog 172=true:=by kernel_rfl
@[go_sem] theorem g1V:b0t Tryz.prog 173=true:=by kernel_rfl
@[go_sem] theorem g2A:b0t Tryz.prog 174=true:=by kernel_rfl
@[go_sem] theorem g2l:b0t Tryz.prog 180=true:=by kernel_rfl
@[go_sem] theorem g4i:b0t Tryz.prog 181=true:=by kernel_rfl
@[go_sem] theorem g0n:b0t Tryz.prog 182=true:=by kernel_rfl
@[go_sem] theorem g0f:b0t Tryz.prog 183=true:=by kernel_rfl
@[go_sem] theorem g1f:b0t Tryz.prog 184=true:=by kernel_rfl
@[go_sem] theorem f9L:b0t Tryz.prog 185=true:=by kernel_rfl
@[go_sem] theorem f9Y:b0t Tryz.prog 186=true:=by kernel_rfl
@[go_sem] theorem g2e:b0t Tryz.prog 187=true:=by kernel_rfl
@[go_sem] theorem g4x:b0t Tryz.prog 188=true:=by kernel_rfl
@[go_sem] theorem g2U:b0t Tryz.prog 198=true:=by kernel_rfl
@[go_sem] theorem g2w:b0t Tryz.prog 199=true:=by kernel_rfl
@[go_sem] theorem g3Q:b0t Tryz.prog 200=true:=by kernel_rfl
@[go_sem] theorem g0V:b0t Tryz.prog 201=true:=by kernel_rfl
@[go_sem] theorem g2Z:b0t Tryz.prog 203=true:=by kernel_rfl
@[go_sem] theorem g1Q:b0t Tryz.prog 204=true:=by kernel_rfl
@[go_sem] theorem g1h:b0t Tryz.prog 205=true:=by kernel_rfl
@[go_sem] theorem g3f:b0t Tryz.prog 206=true:=by kernel_rfl
@[go_sem] theorem g2p:b0t Tryz.prog 207=true:=by kernel_rfl
@[go_sem] theorem g1x:b0t Tryz.prog 208=true:=by kernel_rfl
@[go_sem] theorem g1H:b0t Tryz.prog 209=true:=by kernel_rfl
@[go_sem] theorem g1T:b0t Tryz.prog 210=true:=by kernel_rfl
@[go_sem] theorem g1Z:b0t Tryz.prog 211=true:=by kernel_rfl
@[go_sem] theorem f9X:b0t Tryz.prog 212=true:=by kernel_rfl
@[go_sem] theorem g4f:b0t Tryz.prog 219=true:=by kernel_rfl
@[go_sem] theorem g1S:b0t Tryz.prog 220=true:=by kernel_rfl
@[go_sem] theorem g1A:b0t Tryz.prog 221=true:=by kernel_rfl
@[go_sem] theorem g2f:b0t Tryz.prog 222=true:=by kernel_rfl
@[go_sem] theorem g0j:b0t Tryz.prog 223=true:=by kernel_rfl
@[go_sem] theorem g4p:b0t Tryz.prog 224=true:=by kernel_rfl
@[go_sem] theorem g3p:b0t Tryz.prog 225=true:=by kernel_rfl
@[go_sem] theorem g0S:b0t Tryz.prog 226=true:=by kernel_rfl
@[go_sem] theorem g1o:b0t Tryz.prog 228=true:=by kernel_rfl
@[go_sem] theorem g1U:b0t Tryz.prog 229=true:=by kernel_rfl
@[go_sem] theorem g2G:b0t Tryz.prog 230=true:=by kernel_rfl
@[go_sem] theorem g3y:b0t Tryz.prog 231=true:=by kernel_rfl
@[go_sem] theorem g4I:b0t Tryz.prog 232=true:=by kernel_rfl
@[go_sem] theorem g2M:b0t Tryz.prog 233=true:=by kernel_rfl
@[go_sem] theorem g3s:b0t Tryz.prog 234=true:=by kernel_rfl
@[go_sem] theorem g1e:b0t Tryz.prog 235=true:=by kernel_rfl
@[go_sem] theorem g0G:b0t Tryz.prog 236=true:=by kernel_rfl
@[go_sem] theorem f9K:b0t Tryz.prog 237=true:=by kernel_rfl
@[go_sem] theorem g0k:b0t Tryz.prog 238=true:=by kernel_rfl
@[go_sem] theorem g4w:b0t Tryz.prog 239=true:=by kernel_rfl
@[go_sem] theorem g3c:b0t Tryz.prog 240=true:=by kernel_rfl
@[go_sem] theorem g4v:b0t Tryz.prog 241=true:=by kernel_rfl
@[go_sem] theorem g4h:b0t Tryz.prog 242=true:=by kernel_rfl
@[go_sem] theorem g3X:b0t Tryz.prog 243=true:=by kernel_rfl
@[go_sem] theorem g1O:b0t Tryz.prog 244=true:=by kernel_rfl
@[go_sem] theorem g2E:b0t Tryz.prog 245=true:=by kernel_rfl
@[go_sem] theorem g3u:b0t Tryz.prog 246=true:=by kernel_rfl
@[go_sem] theorem g3o:b0t Tryz.prog 247=true:=by kernel_rfl
@[go_sem] theorem g0U:b0t Tryz.prog 248=true:=by kernel_rfl
@[go_sem] theorem g0J:b0t Tryz.prog 249=true:=by kernel_rfl
@[go_sem] theorem g4k:b0t Tryz.prog 250=true:=by kernel_rfl
@[go_sem] theorem g3G:b0t Tryz.prog 251=true:=by kernel_rfl
@[go_sem] theorem g2t:b0t Tryz.prog 252=true:=by kernel_rfl
attribute [go_sem] Tryz.underlying0 Tryz.underlying1 Tryz.underlying2 Tryz.underlying3 Tryz.underlying4 Tryz.underlying5 Tryz.underlying6 Tryz.underlying7 Tryz.underlying8 Tryz.underlying9 Tryz.underlying10 Tryz.underlying11 Tryz.underlying12 Tryz.underlying13 Tryz.underlying14 Tryz.underlying15 Tryz.underlying16 Tryz.underlying17 Tryz.underlying18 Tryz.underlying19 Tryz.underlying20 Tryz.underlying21 Tryz.underlying22 Tryz.underlying23 Tryz.underlying24 Tryz.underlying25 Tryz.underlying26 Tryz.underlying27 Tryz.underlying28 Tryz.underlying29 Tryz.underlying30 Tryz.underlying31 Tryz.underlying32 Tryz.underlying33 Tryz.underlying34 Tryz.underlying35 Tryz.underlying36 Tryz.underlying37 Tryz.underlying38 Tryz.underlying39 Tryz.underlying40 Tryz.underlying41 Tryz.underlying42 Tryz.underlying43 Tryz.underlying44 Tryz.underlying45 Tryz.underlying46 Tryz.underlying47 Tryz.underlying48 Tryz.underlying49 Tryz.underlying50 Tryz.underlying51 Tryz.underlying52 Tryz.underlying53 Tryz.underlying54 Tryz.underlying55 Tryz.underlying56 Tryz.underlying57 Tryz.underlying58 Tryz.underlying59 Tryz.underlying60 Tryz.underlying61 Tryz.underlying62 Tryz.underlying63 Tryz.underlying64 Tryz.underlying65 Tryz.underlying66 Tryz.underlying67 Tryz.underlying68 Tryz.underlying69 Tryz.underlying70 Tryz.underlying71 Tryz.underlying72 Tryz.underlying73 Tryz.underlying74 Tryz.underlying75 Tryz.underlying76 Tryz.underlying77 Tryz.underlying78 Tryz.underlying79 Tryz.underlying80 Tryz.underlying81 Tryz.underlying82 Tryz.underlying83 Tryz.underlying84 Tryz.underlying85 Tryz.underlying86 Tryz.underlying87 Tryz.underlying88 Tryz.underlying89 Tryz.underlying90 Tryz.underlying91 Tryz.underlying92 Tryz.underlying93 Tryz.underlying94 Tryz.underlying95 Tryz.underlying96 Tryz.underlying97 Tryz.underlying98 Tryz.underlying99 Tryz.underlying100 Tryz.underlying101 Tryz.underlying102 Tryz.underlying103 Tryz.underlying104 Tryz.underlying105 Tryz.underlying106 Tryz.underlying107 Tryz.underlying108 Tryz.underlying109 Tryz.underlying110 Tryz.underlying111 Tryz.underlying112 Tryz.underlying113 Tryz.underlying114 Tryz.underlying115 Tryz.underlying116 Tryz.underlying117 Tryz.underlying118 Tryz.underlying119 Tryz.underlying120 Tryz.underlying121 Tryz.underlying122 Tryz.underlying123 Tryz.underlying124 Tryz.underlying125 Tryz.underlying126 Tryz.underlying127 Tryz.underlying128 Tryz.underlying129 Tryz.underlying130 Tryz.underlying131 Tryz.underlying132 Tryz.underlying133 Tryz.underlying134 Tryz.underlying135 Tryz.underlying136 Tryz.underlying137 Tryz.underlying138 Tryz.underlying139 Tryz.underlying140 Tryz.underlying141 Tryz.underlying142 Tryz.underlying143 Tryz.underlying144 Tryz.underlying145 Tryz.underlying146 Tryz.underlying147 Tryz.underlying148 Tryz.underlying149 Tryz.underlying150 Tryz.underlying151 Tryz.underlying152 Tryz.underlying153 Tryz.underlying154 Tryz.underlying155 Tryz.underlying156 Tryz.underlying157 Tryz.underlying158 Tryz.underlying159 Tryz.underlying160 Tryz.underlying161 Tryz.underlying162 Tryz.underlying163 Tryz.underlying164 Tryz.underlying165 Tryz.underlying166 Tryz.underlying167 Tryz.underlying168 Tryz.underlying169 Tryz.underlying170 Tryz.underlying171 Tryz.underlying172 Tryz.underlying173 Tryz.underlying174 Tryz.underlying175 Tryz.underlying176 Tryz.underlying177 Tryz.underlying178 Tryz.underlying179 Tryz.underlying180 Tryz.underlying181 Tryz.underlying182 Tryz.underlying183 Tryz.underlying184 Tryz.underlying185 Tryz.underlying186 Tryz.underlying187 Tryz.underlying188 Tryz.underlying189 Tryz.underlying190 Tryz.underlying191 Tryz.underlying192 Tryz.underlying193 Tryz.underlying194 Tryz.underlying195 Tryz.underlying196 Tryz.underlying197 Tryz.underlying198 Tryz.underlying199 Tryz.underlying200 Tryz.underlying201 Tryz.underlying202 Tryz.underlying203 Tryz.underlying204 Tryz.underlying205 Tryz.underlying206 Tryz.underlying207 Tryz.underlying208 Tryz.underlying209 Tryz.underlying210 Tryz.underlying211 Tryz.underlying212 Tryz.underlying213 Tryz.underlying214 Tryz.underlying215 Tryz.underlying216 Tryz.underlying217 Tryz.underlying218 Tryz.underlying219 Tryz.underlying220 Tryz.underlying221 Tryz.underlying222 Tryz.underlying223 Tryz.underlying224 Tryz.underlying225 Tryz.underlying226 Tryz.underlying227 Tryz.underlying228 Tryz.underlying229 Tryz.underlying230 Tryz.underlying231 Tryz.underlying232 Tryz.underlying233 Tryz.underlying234 Tryz.underlying235 Tryz.underlying236 Tryz.underlying237 Tryz.underlying238 Tryz.underlying239 Tryz.underlying240 Tryz.underlying241 Tryz.underlying242 Tryz.underlying243 Tryz.underlying244 Tryz.underlying245 Tryz.underlying246 Tryz.underlying247 Tryz.underlying248 Tryz.underlying249 Tryz.underlying250 Tryz.underlying251 Tryz.underlying252 Tryz.underlying253 Tryz.underlying254 Tryz.underlying255 Tryz.underlying256 Tryz.underlying257 Tryz.underlying258 Tryz.underlying259 Tryz.underlying260 Tryz.underlying261 Tryz.underlying262 Tryz.underlying263 Tryz.underlying264 Tryz.underlying265 Tryz.underlying266 Tryz.underlying267 Tryz.underlying268 Tryz.underlying269 Tryz.underlying270 Tryz.underlying271 Tryz.underlying272 Tryz.underlying273 Tryz.underlying274 Tryz.underlying275 Tryz.underlying276 Tryz.underlying277 Tryz.underlying278 Tryz.underlying279 Tryz.underlying280 Tryz.underlying281 Tryz.underlying282 Tryz.underlying283 Tryz.underlying284
end Go.Proofs.YtighfcpaplmaiaaGreatDoor
