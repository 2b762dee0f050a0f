/- Slices that grow and are written to: append. -/
import Derived.Test.YtamednbojpnalaaGreatDoorVgE
import Derived.Test.YtamednbojpnalaaGreatDoorVgFm
set_option linter.unusedVariables false
set_option linter.unusedSimpArgs false
namespace Go.Vg
open Go.RowKit
def gen0:Nat:=18446744073709551616
theorem flat_len{s:Nat}:∀ {xs:List (List V)},(∀ (i:Nat) el,xs[i]? = some el→el.length=s)→xs.flatten.length=xs.length * s
 | [],_=>by simp
 | x::r,h=>by
  have h0:=h 0 x rfl
  have:=flat_len (xs:=r) (s:=s) fun i el hi=>h (i+1) el (by simpa using hi)
  simp only[List.flatten_cons,List.length_append,List.length_cons,Nat.add_mul,this,h0]
  omega
theorem flatV_get{s:Nat}{R:V→Value→Prop}:∀ {xs:List (List V)} {news:List Value},(∀ (i:Nat) el,xs[i]? = some el→el.length=s) →
  (∀ (i:Nat) el (j:Nat) c,xs[i]? = some el→el[j]? = some c→∃ u,news[i * s+j]? = some u∧R c u)→∀ (m:Nat) x,xs.flatten[m]? = some x→∃ u,news[m]? = some u∧R x u
 | [],news,_,_,m,x,hm=>by simp at hm
 | y::r,news,hl,hg,m,x,hm=>by
  have h0:=hl 0 y rfl
  rw[List.flatten_cons]at hm
  by_cases hlt:m<y.length
  ·rw[List.getElem?_append_left hlt]at hm
   have:=hg 0 y m x rfl hm
   simpa using this
  ·rw[List.getElem?_append_right (by omega)]at hm
   have:=flatV_get (xs:=r) (news:=news.drop s) (s:=s) (R:=R) (fun i el hi=>hl (i+1) el (by simpa using hi)) (fun i el j c hi hj=>by
    obtain⟨u,hu,hr⟩:=hg (i+1) el j c (by simpa using hi) hj
    refine⟨u,?_,hr⟩
    rw[List.getElem?_drop]
    rw[Nat.add_mul]at hu
    rw[←hu]
    congr 1
    omega) (m - y.length) x hm
   obtain⟨u,hu,hr⟩:=this
   refine⟨u,?_,hr⟩
   rw[List.getElem?_drop]at hu
   rw[←hu]
   congr 1
   omega
theorem RelW.vecStep{E:Env}{G:Gh}{heap:List VObj}{arr:List Nat}{w0:Base}{w w':World}(h:RelW E G heap arr w0 w){id k gen gen' b hi:Nat}{e:TypeId}{cs cs':List V}{c c':Array Value}{t:TypeId}
  (hid:heap[id]? = some (.vec k gen e cs)) (hρ:G.ρ[k]? = some (b,0,hi)) (hhi:0<hi) (hg:gen<gen') (hc:w.heap[b]? = some (.cells c t (0,0))) (hch:cs'.length≤hi)
  (hr:∀ (j:Nat) x,cs'[j]? = some x→∃ v,c'[j]? = some v∧RV E.P G arr x v∧v.oneCell'=true)
  (hos:w'.os=w.os) (ht:w'.tape=w.tape) (ho:w'.output=w.output) (hsz:w'.heap.size=w.heap.size) (hk:∀ k,k≠b→w'.heap[k]? = w.heap[k]?) (hc':w'.heap[b]? = some (.cells c' t (0,0))) (hcs:c'.size=c.size)
  (hget:∀ j,hi≤j→c'[j]? = c[j]?):Ext G arr G (arr.set k gen')∧RelW E G (heap.set id (.vec k gen' e cs')) (arr.set k gen') w0 w':=by
 have hidl:id<heap.length:=(List.getElem?_eq_some_iff.1 hid).1
 obtain⟨hak,hgg,b0,hi0,hρ0,_,_⟩:=h.vs.at_ id k gen e cs hid
 rw[hρ]at hρ0
 cases hρ0
 have hkl:=(List.getElem?_eq_some_iff.1 hak).1
 have hx:Ext G arr G (arr.set k gen'):=by
  refine⟨fun _ _ _ h=>h,fun _ _ h=>h,fun j n hj=>?_⟩
  by_cases ej:j=k
  ·subst ej
   rw[hak]at hj
   cases hj
   exact⟨gen',List.getElem?_set_self hkl,by omega,fun e=>by omega⟩
  ·exact⟨n,by rw[List.getElem?_set_ne (Ne.symm ej)];exact hj,Nat.le_refl _,fun _=>rfl⟩
 obtain⟨⟨c0,e0,r1,r2⟩,r3,r4,r5⟩:=h.reg k b 0 hi hρ hhi
 rw[hc]at r1
 cases r1
 have hcell:∀ b' o,(b'≠b∨hi≤o)→w'.cell? ⟨b',o,none⟩=w.cell? ⟨b',o,none⟩:=fun b' o hor=>by
  by_cases e:b'=b
  ·subst e
   have hn:hi≤o:=by rcases hor with h | h;exact absurd rfl h;exact h
   unfold World.cell?
   rw[hc',hc]
   simp only[Option.isSome_none,Bool.false_eq_true,if_false]
   exact hget o hn
  ·exact cell_same (hk b' e)
 have hne:∀ (i c:Nat),G.φ[i]? = some c→∀ o,heap[i]? = some o→o.loose=false→c≠b:=fun i c hi' o ho hlo e=>by
  subst e
  rw[VObj.loose_of (r3 i hi' o ho)]at hlo;cases hlo
 have hset:∀ (i:Nat) o,(heap.set id (.vec k gen' e cs'))[i]? = some o→i≠id→heap[i]? = some o:=fun i o hi' hn=>by rwa [List.getElem?_set_ne (Ne.symm hn)]at hi'
 refine⟨hx,⟨h.newF,fun g cs hg=>⟨(h.glob g cs hg).1,(h.glob g cs hg).2.mono hx⟩,h.below.trans ⟨hos,ht,ho,by omega,fun k' hk'=>hk k' (by omega)⟩,fun b' o v hv=>?_,h.one,fun i ob hi'=>?_,by simp[h.lenφ],h.nod,fun i c1 o hc1 hd=>?_,fun i c1 hc1=>by rw[hsz];exact h.geφ i c1 hc1,by simp[h.lenρ],
  fun k' b' lo hi' hk' hlt=>?_,h.regd,h.fre,fun i t' s c1 hi' hc1=>?_,h.ini,?_⟩⟩
 ·rw[hcell b' o]
  ·exact h.frz _ _ _ hv
  ·by_cases e:b'=b
   ·subst e
    refine .inr (Nat.le_of_not_lt fun hh=>?_)
    rw[r4 o (Nat.zero_le _) hh]at hv
    cases hv
   ·exact .inl e
 ·by_cases e1:i=id
  ·subst e1
   rw[List.getElem?_set_self hidl]at hi'
   cases hi'
   obtain⟨c1,hc1,_⟩:=h.obj i _ hid
   exact⟨c1,hc1,trivial⟩
  ·have hi2:=hset i ob hi' e1
   obtain⟨c1,hc1,hr1⟩:=h.obj i ob hi2
   refine⟨c1,hc1,?_⟩
   cases hlo:ob.loose with
   | false=>exact hr1.keep hx (hk c1 (hne i c1 hc1 ob hi2 hlo))
   | true =>
    cases ob <;> simp only[VObj.loose,Bool.false_eq_true]at hlo
    ·trivial
    ·trivial
 ·by_cases e1:i=id
  ·subst e1
   exact h.sep i c1 o hc1 (by rw[hid];intro hh;cases hh)
  ·rw[List.getElem?_set_ne (Ne.symm e1)]at hd
   exact h.sep i c1 o hc1 hd
 ·obtain⟨⟨c1,e1,q1,q2⟩,q3,q4,q5⟩:=h.reg k' b' lo hi' hk' hlt
  refine⟨?_,fun i hi2 o ho2=>?_,q4,q5⟩
  ·by_cases eb:b'=b
   ·subst eb
    rw[hc]at q1
    cases q1
    exact⟨c',t,hc',by omega⟩
   ·exact⟨c1,e1,by rw[hk b' eb];exact q1,q2⟩
  ·by_cases e1:i=id
   ·subst e1
    rw[List.getElem?_set_self hidl]at ho2
    cases ho2
    have:=q3 i hi2 _ hid
    exact this
   ·exact q3 i hi2 o (hset i o ho2 e1)
 ·have e1:i≠id:=fun e1=>by subst e1;rw[List.getElem?_set_self hidl]at hi';cases hi'
  have hi2:=hset i _ hi' e1
  refine(h.bld i t' s c1 hi2 hc1).keep (hk c1 (hne i c1 hc1 _ hi2 rfl)) fun g hg hs=>⟨hk g fun eg=>?_,hs⟩
  subst eg
  have:=hs.2.2 k 0 hi hρ
  omega
 ·refine⟨fun i k1 g1 e1 cs1 hi1=>?_,fun i i' k1 g1 g1' e1 e1' cs1 cs1' hi1 hi1'=>?_⟩
  ·by_cases ei:i=id
   ·subst ei
    rw[List.getElem?_set_self hidl]at hi1
    cases hi1
    refine⟨List.getElem?_set_self hkl,by omega,b,hi,hρ,hch,fun j x hj=>?_⟩
    obtain⟨v,hv,hrv,hov⟩:=hr j x hj
    refine⟨v,?_,hrv.mono hx,hov⟩
    unfold World.cell?
    rw[hc']
    simpa only[Option.isSome_none,Bool.false_eq_true,if_false]using hv
   ·have hi2:=hset i _ hi1 ei
    obtain⟨q1,q2,b1,hi3,q3,q4,q5⟩:=h.vs.at_ i k1 g1 e1 cs1 hi2
    have hkk:k1≠k:=fun ek=>by subst ek;exact ei (h.vs.uni _ _ _ _ _ _ _ _ _ hi2 hid)
    refine⟨by rw[List.getElem?_set_ne (Ne.symm hkk)];exact q1,q2,b1,hi3,q3,q4,fun j x hj=>?_⟩
    obtain⟨v,hv,hrv,hov⟩:=q5 j x hj
    refine⟨v,?_,hrv.mono hx,hov⟩
    rw[hcell b1 j (.inl fun eb=>?_)]
    ·exact hv
    ·subst eb
     have:=h.regd k1 k b1 0 hi3 0 hi hkk q3 hρ (by have:=(List.getElem?_eq_some_iff.1 hj).1;omega) hhi
     have:=(List.getElem?_eq_some_iff.1 hj).1
     omega
  ·have key:∀ (i k1 g1:Nat) e1 cs1,(heap.set id (.vec k gen' e cs'))[i]? = some (.vec k1 g1 e1 cs1)→∃ g e2 cs2,heap[i]? = some (.vec k1 g e2 cs2):=fun i k1 g1 e1 cs1 hq=>by
    by_cases ei:i=id
    ·subst ei
     rw[List.getElem?_set_self hidl]at hq
     cases hq
     exact⟨_,_,_,hid⟩
    ·exact⟨_,_,_,hset i _ hq ei⟩
   obtain⟨_,_,_,a1⟩:=key _ _ _ _ _ hi1
   obtain⟨_,_,_,a2⟩:=key _ _ _ _ _ hi1'
   exact h.vs.uni _ _ _ _ _ _ _ _ _ a1 a2
theorem RelW.vecMove{E:Env}{G:Gh}{heap:List VObj}{arr:List Nat}{w0:Base}{w:World}(h:RelW E G heap arr w0 w){id k gen gen' hi:Nat}{e t:TypeId}{cs cs':List V}{c:Array Value}
  (hid:heap[id]? = some (.vec k gen e cs)) (hg:gen<gen') (hch:cs'.length≤hi) (hhi:hi≤c.size) (hr:∀ (j:Nat) x,cs'[j]? = some x→∃ v,c[j]? = some v∧RV E.P G arr x v∧v.oneCell'=true) :
  Ext G arr { G with ρ:=G.ρ.set k (w.heap.size,0,hi) } (arr.set k gen')∧RelW E { G with ρ:=G.ρ.set k (w.heap.size,0,hi) } (heap.set id (.vec k gen' e cs')) (arr.set k gen') w0 (w.alloc (.cells c t)):=by
 have hidl:id<heap.length:=(List.getElem?_eq_some_iff.1 hid).1
 obtain⟨hak,hgg,b0,hi0,hρ0,_,_⟩:=h.vs.at_ id k gen e cs hid
 have hkl:=(List.getElem?_eq_some_iff.1 hak).1
 have hkr:k<G.ρ.length:=(List.getElem?_eq_some_iff.1 hρ0).1
 have hs:=h.below.size
 have hx:Ext G arr { G with ρ:=G.ρ.set k (w.heap.size,0,hi) } (arr.set k gen'):=by
  refine⟨fun _ _ _ h=>h,fun _ _ h=>h,fun j n hj=>?_⟩
  by_cases ej:j=k
  ·subst ej
   rw[hak]at hj
   cases hj
   exact⟨gen',List.getElem?_set_self hkl,by omega,fun e=>by omega⟩
  ·exact⟨n,by rw[List.getElem?_set_ne (Ne.symm ej)];exact hj,Nat.le_refl _,fun _=>List.getElem?_set_ne (Ne.symm ej)⟩
 have hset:∀ (i:Nat) o,(heap.set id (.vec k gen' e cs'))[i]? = some o→i≠id→heap[i]? = some o:=fun i o hi' hn=>by rwa [List.getElem?_set_ne (Ne.symm hn)]at hi'
 have hρk:(G.ρ.set k (w.heap.size,0,hi))[k]? = some (w.heap.size,0,hi):=List.getElem?_set_self hkr
 have hρj:∀ j:Nat,j≠k→(G.ρ.set k (w.heap.size,0,hi))[j]? = G.ρ[j]?:=fun j hj=>List.getElem?_set_ne (Ne.symm hj)
 have hold:∀ b,b<w.heap.size→(w.alloc (.cells c t)).heap[b]? = w.heap[b]?:=fun b hb=>by rw[heap_alloc,if_neg (by omega)]
 refine⟨hx,⟨h.newF,fun g cs hg=>⟨(h.glob g cs hg).1,(h.glob g cs hg).2.mono hx⟩,h.below.alloc hs _,fun b o v hv=>by rw[cell_same (hold b (cell_lt (h.frz _ _ _ hv)))];exact h.frz _ _ _ hv,h.one,fun i ob hi'=>?_,by simp[h.lenφ],h.nod,fun i c1 o hc1 hd=>?_,fun i c1 hc1=>by have:=h.geφ i c1 hc1;simp;omega,by simp[h.lenρ],
  fun j b lo hi1 hj hlt=>?_,fun i j b lo hi1 lo' hi2 hij hi' hj' hlt hlt'=>?_,fun j b lo hi1 hj=>?_,fun i t' s c1 hi' hc1=>?_,h.ini,?_⟩⟩
 ·by_cases e1:i=id
  ·subst e1
   rw[List.getElem?_set_self hidl]at hi'
   cases hi'
   obtain⟨c1,hc1,_⟩:=h.obj i _ hid
   exact⟨c1,hc1,trivial⟩
  ·obtain⟨c1,hc1,hr1⟩:=h.obj i ob (hset i ob hi' e1)
   exact⟨c1,hc1,hr1.keep hx (hold c1 (h.geφ i c1 hc1).2)⟩
 ·by_cases e1:i=id
  ·subst e1
   exact h.sep i c1 o hc1 (by rw[hid];intro hh;cases hh)
  ·rw[List.getElem?_set_ne (Ne.symm e1)]at hd
   exact h.sep i c1 o hc1 hd
 ·by_cases ej:j=k
  ·subst ej
   rw[show({ G with ρ:=G.ρ.set j (w.heap.size,0,hi) }:Gh).ρ=G.ρ.set j (w.heap.size,0,hi)from rfl,hρk]at hj
   cases hj
   refine⟨⟨c,t,by rw[heap_alloc,if_pos rfl],hhi⟩,fun i hi2=>?_,fun o _ _=>h.F_new o,hs⟩
   have:=(h.geφ i _ hi2).2;omega
  ·rw[show({ G with ρ:=G.ρ.set k (w.heap.size,0,hi) }:Gh).ρ=G.ρ.set k (w.heap.size,0,hi)from rfl,hρj j ej]at hj
   obtain⟨⟨c1,e1,q1,q2⟩,q3,q4,q5⟩:=h.reg j b lo hi1 hj hlt
   refine⟨⟨c1,e1,by rw[hold b (Array.getElem?_eq_some_iff.1 q1).1];exact q1,q2⟩,fun i hi2 o ho2=>?_,q4,q5⟩
   by_cases e1:i=id
   ·subst e1
    rw[List.getElem?_set_self hidl]at ho2
    cases ho2
    have:=q3 i hi2 _ hid
    exact this
   ·exact q3 i hi2 o (hset i o ho2 e1)
 ·have hi3:(G.ρ.set k (w.heap.size,0,hi))[i]? = some (b,lo,hi1):=hi'
  have hj3:(G.ρ.set k (w.heap.size,0,hi))[j]? = some (b,lo',hi2):=hj'
  clear hi' hj'
  have hlt1:∀ (j lo hi1:Nat),G.ρ[j]? = some (w.heap.size,lo,hi1)→lo<hi1→False:=fun j lo hi1 hj hlt=>by
   obtain⟨⟨c1,e1,q1,_⟩,_⟩:=h.reg j _ lo hi1 hj hlt
   have:=(Array.getElem?_eq_some_iff.1 q1).1
   omega
  by_cases ei:i=k
  ·rw[ei,hρk]at hi3
   cases hi3
   rw[hρj j (fun e=>hij (ei.trans e.symm))]at hj3
   exact(hlt1 j lo' hi2 hj3 hlt').elim
  ·rw[hρj i ei]at hi3
   by_cases ej:j=k
   ·rw[ej,hρk]at hj3
    cases hj3
    exact(hlt1 i lo hi1 hi3 hlt).elim
   ·rw[hρj j ej]at hj3
    exact h.regd i j b lo hi1 lo' hi2 hij hi3 hj3 hlt hlt'
 ·have hj:(G.ρ.set k (w.heap.size,0,hi))[j]? = some (b,lo,hi1):=hj
  by_cases ej:j=k
  ·subst ej
   rw[hρk]at hj
   cases hj
   exact .inl hs
  ·rw[hρj j ej]at hj
   exact h.fre j b lo hi1 hj
 ·have e1:i≠id:=fun e1=>by subst e1;rw[List.getElem?_set_self hidl]at hi';cases hi'
  refine(h.bld i t' s c1 (hset i _ hi' e1) hc1).keep (hold c1 (h.geφ i c1 hc1).2) fun g hg ⟨s1,s2,s3⟩=>⟨hold g hg,s1,s2,fun j lo hi1 hj=>?_⟩
  have hj:(G.ρ.set k (w.heap.size,0,hi))[j]? = some (g,lo,hi1):=hj
  by_cases ej:j=k
  ·subst ej
   rw[hρk]at hj
   cases hj
   omega
  ·rw[hρj j ej]at hj
   exact s3 j lo hi1 hj
 ·refine⟨fun i k1 g1 e1 cs1 hi1=>?_,fun i i' k1 g1 g1' e1 e1' cs1 cs1' hi1 hi1'=>?_⟩
  ·by_cases ei:i=id
   ·subst ei
    rw[List.getElem?_set_self hidl]at hi1
    cases hi1
    refine⟨List.getElem?_set_self hkl,by omega,w.heap.size,hi,hρk,hch,fun j x hj=>?_⟩
    obtain⟨v,hv,hrv,hov⟩:=hr j x hj
    exact⟨v,by rw[World.cell?_alloc_new];exact hv,hrv.mono hx,hov⟩
   ·have hi2:=hset i _ hi1 ei
    obtain⟨q1,q2,b1,hi3,q3,q4,q5⟩:=h.vs.at_ i k1 g1 e1 cs1 hi2
    have hkk:k1≠k:=fun ek=>by subst ek;exact ei (h.vs.uni _ _ _ _ _ _ _ _ _ hi2 hid)
    refine⟨by rw[List.getElem?_set_ne (Ne.symm hkk)];exact q1,q2,b1,hi3,(hρj k1 hkk).trans q3,q4,fun j x hj=>?_⟩
    obtain⟨v,hv,hrv,hov⟩:=q5 j x hj
    exact⟨v,by rw[cell_same (hold b1 (cell_lt hv))];exact hv,hrv.mono hx,hov⟩
  ·have key:∀ (i k1 g1:Nat) e1 cs1,(heap.set id (.vec k gen' e cs'))[i]? = some (.vec k1 g1 e1 cs1)→∃ g e2 cs2,heap[i]? = some (.vec k1 g e2 cs2):=fun i k1 g1 e1 cs1 hq=>by
    by_cases ei:i=id
    ·subst ei
     rw[List.getElem?_set_self hidl]at hq
     cases hq
     exact⟨_,_,_,hid⟩
    ·exact⟨_,_,_,hset i _ hq ei⟩
   obtain⟨_,_,_,a1⟩:=key _ _ _ _ _ hi1
   obtain⟨_,_,_,a2⟩:=key _ _ _ _ _ hi1'
   exact h.vs.uni _ _ _ _ _ _ _ _ _ a1 a2
theorem RelW.vecNew{E:Env}{G:Gh}{heap:List VObj}{arr:List Nat}{w0:Base}{w:World}(h:RelW E G heap arr w0 w){hi:Nat}{e t:TypeId}{cs':List V}{c:Array Value}
  (hch:cs'.length≤hi) (hhi:hi≤c.size) (hr:∀ (j:Nat) x,cs'[j]? = some x→∃ v,c[j]? = some v∧RV E.P G arr x v∧v.oneCell'=true) :
  Ext G arr { G with φ:=G.φ++[w.heap.size],ρ:=G.ρ++[(w.heap.size,0,hi)] } (arr++[gen0]) ∧
  RelW E { G with φ:=G.φ++[w.heap.size],ρ:=G.ρ++[(w.heap.size,0,hi)] } (heap++[.vec arr.length gen0 e cs']) (arr++[gen0]) w0 (w.alloc (.cells c t)):=by
 have hs:=h.below.size
 have hlφ:=h.lenφ
 have hlρ:=h.lenρ
 have hx:Ext G arr { G with φ:=G.φ++[w.heap.size],ρ:=G.ρ++[(w.heap.size,0,hi)] } (arr++[gen0]) :=
  ⟨fun _ _ _ h=>h,fun i b hb=>by
   show(G.φ++_)[i]? = _
   rw[List.getElem?_append_left (List.getElem?_eq_some_iff.1 hb).1];exact hb,fun j n hj=>by
   have:=(List.getElem?_eq_some_iff.1 hj).1
   exact⟨n,by rw[List.getElem?_append_left this];exact hj,Nat.le_refl _,fun _=>List.getElem?_append_left (by omega)⟩⟩
 have hget:∀ (i:Nat) b,(G.φ++[w.heap.size])[i]? = some b→(i<heap.length∧G.φ[i]? = some b)∨(i=heap.length∧b=w.heap.size):=fun i b hb=>by
  rcases Nat.lt_trichotomy i heap.length with hl | hl | hl
  ·rw[List.getElem?_append_left (by omega)]at hb;exact .inl ⟨hl,hb⟩
  ·subst hl;rw[List.getElem?_append_right (by omega)]at hb;simp[hlφ]at hb;exact .inr ⟨rfl,hb.symm⟩
  ·rw[List.getElem?_eq_none (by simp;omega)]at hb;cases hb
 have hgeto:∀ (i:Nat) o,(heap++[.vec arr.length gen0 e cs'])[i]? = some o→(i<heap.length∧heap[i]? = some o)∨(i=heap.length∧o = .vec arr.length gen0 e cs'):=fun i o ho=>by
  rcases Nat.lt_trichotomy i heap.length with hl | hl | hl
  ·rw[List.getElem?_append_left hl]at ho;exact .inl ⟨hl,ho⟩
  ·subst hl;rw[List.getElem?_append_right (Nat.le_refl _)]at ho;simp at ho;exact .inr ⟨rfl,ho.symm⟩
  ·rw[List.getElem?_eq_none (by simp;omega)]at ho;cases ho
 have hgetr:∀ (j b lo hi1:Nat),(G.ρ++[(w.heap.size,0,hi)])[j]? = some (b,lo,hi1)→(j<arr.length∧G.ρ[j]? = some (b,lo,hi1))∨(j=arr.length∧b=w.heap.size∧lo=0∧hi1=hi):=fun j b lo hi1 hj=>by
  rcases Nat.lt_trichotomy j arr.length with hl | hl | hl
  ·rw[List.getElem?_append_left (by omega)]at hj;exact .inl ⟨hl,hj⟩
  ·subst hl;rw[List.getElem?_append_right (by omega)]at hj;simp[hlρ]at hj;exact .inr ⟨rfl,hj.1.symm,hj.2.1.symm,hj.2.2.symm⟩
  ·rw[List.getElem?_eq_none (by simp;omega)]at hj;cases hj
 have hlt1:∀ (j lo hi1:Nat),G.ρ[j]? = some (w.heap.size,lo,hi1)→lo<hi1→False:=fun j lo hi1 hj hlt=>by
  obtain⟨⟨c1,e1,q1,_⟩,_⟩:=h.reg j _ lo hi1 hj hlt
  have:=(Array.getElem?_eq_some_iff.1 q1).1
  omega
 have hold:∀ b,b<w.heap.size→(w.alloc (.cells c t)).heap[b]? = w.heap[b]?:=fun b hb=>by rw[heap_alloc,if_neg (by omega)]
 refine⟨hx,⟨h.newF,fun g cs hg=>⟨(h.glob g cs hg).1,(h.glob g cs hg).2.mono hx⟩,h.below.alloc hs _,fun b o v hv=>by rw[cell_same (hold b (cell_lt (h.frz _ _ _ hv)))];exact h.frz _ _ _ hv,h.one,fun i ob hi'=>?_,by simp[hlφ],fun i j b hi1 hj1=>?_,fun i c1 o hc1 hd=>?_,fun i c1 hc1=>?_,by simp[hlρ],
  fun j b lo hi1 hj hlt=>?_,fun i j b lo hi1 lo' hi2 hij hi' hj' hlt hlt'=>?_,fun j b lo hi1 hj=>?_,fun i t' s c1 hi' hc1=>?_,h.ini,⟨fun i k1 g1 e1 cs1 hi1=>?_,fun i i' k1 g1 g1' e1 e1' cs1 cs1' hi1 hi1'=>?_⟩⟩⟩
 ·rcases hgeto i ob hi' with⟨h1,h2⟩ | ⟨rfl,rfl⟩
  ·obtain⟨c1,hc1,hr1⟩:=h.obj i ob h2
   exact⟨c1,hx.φ _ _ hc1,hr1.keep hx (hold c1 (h.geφ i c1 hc1).2)⟩
  ·exact⟨w.heap.size,by show(G.φ++_)[_]? = _;rw[List.getElem?_append_right (by omega)];simp[hlφ],trivial⟩
 ·rcases hget i b hi1 with⟨h1,h2⟩ | ⟨h1,h2⟩ <;> rcases hget j b hj1 with⟨h3,h4⟩ | ⟨h3,h4⟩
  ·exact h.nod i j b h2 h4
  ·have:=(h.geφ i b h2).2;omega
  ·have:=(h.geφ j b h4).2;omega
  ·omega
 ·rcases hget i c1 hc1 with⟨h1,h2⟩ | ⟨h1,h2⟩
  ·exact h.sep i c1 o h2 (by rwa [List.getElem?_append_left h1]at hd)
  ·subst h2;exact h.F_new o
 ·rcases hget i c1 hc1 with⟨h1,h2⟩ | ⟨h1,h2⟩
  ·have:=h.geφ i c1 h2;simp;omega
  ·subst h2;simp;omega
 ·rcases hgetr j b lo hi1 hj with⟨h1,h2⟩ | ⟨h1,rfl,rfl,rfl⟩
  ·obtain⟨⟨c1,e1,q1,q2⟩,q3,q4,q5⟩:=h.reg j b lo hi1 h2 hlt
   have hbl:=(Array.getElem?_eq_some_iff.1 q1).1
   refine⟨⟨c1,e1,by rw[hold b hbl];exact q1,q2⟩,fun i hi2 o ho2=>?_,q4,q5⟩
   rcases hget i b hi2 with⟨h3,h4⟩ | ⟨h3,h4⟩
   ·rcases hgeto i o ho2 with⟨h5,h6⟩ | ⟨h5,h6⟩
    ·exact q3 i h4 o h6
    ·omega
   ·omega
  ·refine⟨⟨c,t,by rw[heap_alloc,if_pos rfl],hhi⟩,fun i hi2 o ho2=>?_,fun o _ _=>h.F_new o,hs⟩
   rcases hget i _ hi2 with⟨h3,h4⟩ | ⟨h3,h4⟩
   ·have:=(h.geφ i _ h4).2;omega
   ·rcases hgeto i o ho2 with⟨h5,h6⟩ | ⟨h5,h6⟩
    ·omega
    ·subst h6
     subst h1
     simp[VObj.looseAt]
 ·rcases hgetr i b lo hi1 hi' with⟨h1,h2⟩ | ⟨h1,rfl,rfl,rfl⟩ <;> rcases hgetr j _ lo' hi2 hj' with⟨h3,h4⟩ | ⟨h3,h4,h5,h6⟩
  ·exact h.regd i j b lo hi1 lo' hi2 hij h2 h4 hlt hlt'
  ·subst h4
   exact(hlt1 i lo hi1 h2 hlt).elim
  ·exact(hlt1 j lo' hi2 h4 hlt').elim
  ·omega
 ·rcases hgetr j b lo hi1 hj with⟨h1,h2⟩ | ⟨h1,rfl,rfl,rfl⟩
  ·exact h.fre j b lo hi1 h2
  ·exact .inl hs
 ·rcases hgeto i _ hi' with⟨h1,h2⟩ | ⟨h1,h2⟩
  ·rcases hget i c1 hc1 with⟨_,h4⟩ | ⟨h3,_⟩
   ·refine(h.bld i t' s c1 h2 h4).keep (hold c1 (h.geφ i c1 h4).2) fun g hg ⟨s1,s2,s3⟩=>⟨hold g hg,s1,fun i hi2=>?_,fun j lo hi1 hj=>?_⟩
    ·rcases hget i g hi2 with⟨_,h6⟩ | ⟨_,h6⟩
     ·exact s2 i h6
     ·omega
    ·rcases hgetr j g lo hi1 hj with⟨_,h6⟩ | ⟨_,h6,_,_⟩
     ·exact s3 j lo hi1 h6
     ·omega
   ·omega
  ·cases h2
 ·rcases hgeto i _ hi1 with⟨h1,h2⟩ | ⟨h1,h2⟩
  ·obtain⟨q1,q2,b1,hi3,q3,q4,q5⟩:=h.vs.at_ i k1 g1 e1 cs1 h2
   have hkl:=(List.getElem?_eq_some_iff.1 q1).1
   refine⟨by rw[List.getElem?_append_left hkl];exact q1,q2,b1,hi3,by show(G.ρ++_)[_]? = _;rw[List.getElem?_append_left (by omega)];exact q3,q4,fun j x hj=>?_⟩
   obtain⟨v,hv,hrv,hov⟩:=q5 j x hj
   exact⟨v,by rw[cell_same (hold b1 (cell_lt hv))];exact hv,hrv.mono hx,hov⟩
  ·cases h2
   refine⟨by simp,Nat.le_refl _,w.heap.size,hi,by show(G.ρ++_)[_]? = _;rw[List.getElem?_append_right (by omega)];simp[hlρ],hch,fun j x hj=>?_⟩
   obtain⟨v,hv,hrv,hov⟩:=hr j x hj
   exact⟨v,by rw[World.cell?_alloc_new];exact hv,hrv.mono hx,hov⟩
 ·have hk:∀ (i k1 g1:Nat) e1 cs1,heap[i]? = some (.vec k1 g1 e1 cs1)→k1<arr.length:=fun i k1 g1 e1 cs1 hq=>(List.getElem?_eq_some_iff.1 (h.vs.at_ i k1 g1 e1 cs1 hq).1).1
  rcases hgeto i _ hi1 with⟨h1,h2⟩ | ⟨h1,h2⟩ <;> rcases hgeto i' _ hi1' with⟨h3,h4⟩ | ⟨h3,h4⟩
  ·exact h.vs.uni _ _ _ _ _ _ _ _ _ h2 h4
  ·cases h4
   have:=hk _ _ _ _ _ h2;omega
  ·cases h2
   have:=hk _ _ _ _ _ h4;omega
  ·omega
def Own.fresh:Own→Bool
 | .full | .nil=>true
 | _=>false
def vAppV(E:Env)(heap:List VObj)(arr:List Nat)(sT xT:TypeId)(s x:V)(K:V→List VObj→List Nat→Prop):Prop :=
 match E.P.underlying sT,E.P.underlying xT,x with
 | some (.slice e),some (.slice _),.slice _ e2 xs=>(xs≠[]∧e2=e∧elemOK E.P e=true)∧match s with
  | .vec id k gen len e1=>match heap[id]? with
   | some (.vec k' gen' e' cs)=>(k'=k∧gen'=gen∧e1=e∧e'=e∧cs.length=len * E.P.cellsOf e∧(len+xs.length) * E.P.bytesOf e≤140737488355328) ∧
     K (.vec id k (gen+1) (len+xs.length) e) (heap.set id (.vec k (gen+1) e (cs++xs.flatten))) (arr.set k (gen+1))
   | _=>False
  | .slice o e1 es=>(o.fresh=true∧(es=[]∨e1=e)∧(es.length+xs.length) * E.P.bytesOf e≤140737488355328) ∧
    K (.vec heap.length arr.length gen0 (es.length+xs.length) e) (heap++[.vec arr.length gen0 e (es.flatten++xs.flatten)]) (arr++[gen0])
  | _=>False
 | _,_,_=>False
theorem grow_fit{P:Program}{e:TypeId}{i:TypeInfo}{n cap:Nat}(hib:i.bytes=P.bytesOf e)(hb:n * P.bytesOf e≤140737488355328)(hb2:P.bytesOf e≤1048576)(hcap:cap<n):Builtin.nextslicecap n cap * i.bytes≤281474976710656:=by
 have hnc:=nextslicecap_le n cap hcap
 rw[hib]
 have h1:Builtin.nextslicecap n cap * P.bytesOf e≤(n+n / 4+512) * P.bytesOf e:=Nat.mul_le_mul_right _ hnc
 have h2:n / 4 * P.bytesOf e≤140737488355328 / 4:=by
  have:n / 4 * P.bytesOf e≤n * P.bytesOf e / 4:=by
   rw[Nat.le_div_iff_mul_le (by omega)]
   have:=Nat.div_mul_le_self n 4
   calc n / 4 * P.bytesOf e * 4=n / 4 * 4 * P.bytesOf e:=by rw[Nat.mul_right_comm]
    _≤n * P.bytesOf e:=Nat.mul_le_mul_right _ this
  omega
 have h3:512 * P.bytesOf e≤536870912:=by omega
 rw[Nat.add_mul,Nat.add_mul]at h1
 omega
theorem appendV_out{E:Env}{G:Gh}{heap:List VObj}{arr:List Nat}{w0:Base}{w:World}(h:RelW E G heap arr w0 w){s x:V}{vs vx:Value}{t:TypeId}{sT xT:TypeId}
  {K:V→List VObj→List Nat→Prop} (hs:RV E.P G arr s vs) (hx:RV E.P G arr x vx) (hK:vAppV E heap arr sT xT s x K) :
  ∃ u y heap' arr' G' w',(Builtin.append_ #[sT,xT] t #[vs,vx]).run E.P w = .ok u w'∧K y heap' arr'∧Ext G arr G' arr'∧RelW E G' heap' arr' w0 w'∧RV E.P G' arr' y u:=by
 unfold vAppV at hK
 split at hK
 case h_2=>exact hK.elim
 rename_i e ex o2 e2 xs hsT hxT
 obtain⟨⟨hx0,he2,hok⟩,hK⟩:=hK
 subst he2
 obtain⟨i,z,hi,hz,hz1,hzs,his,hib,hs1,hb1,hb2⟩:=elemOK_spec hok
 obtain⟨hlen2,hsh2⟩:=elen hx (.inr rfl)
 obtain⟨news,hsn,hget2⟩:=elems_src h hxT hsh2
 have hpos:0<xs.length:=List.length_pos_iff.2 hx0
 have hnl:=hsn.newsLen
 have hxp:1≤xs.length * E.P.cellsOf e2:=Nat.mul_pos hpos hs1
 have hxf:=flat_len hlen2
 have hone:∀ {ol:List Value},(∀ v∈ol,v.oneCell'=true)→∀ v∈ol++news,v.oneCell'=true:=fun ho v hv=>by
  rcases List.mem_append.1 hv with hm | hm
  ·exact ho v hm
  ·exact hsn.one v hm
 split at hK
 ·-- it grows already
  rename_i id k gen len e1
  split at hK
  case h_2=>exact hK.elim
  rename_i k' gen' e' cs hid
  obtain⟨⟨rfl,rfl,rfl,rfl,hcl,hbytes⟩,hK⟩:=hK
  obtain⟨hak,hgg,b,hi0,hρ,hch,hcells⟩:=h.vs.at_ _ _ _ _ _ hid
  have hneed:len+xs.length≤140737488355328:=Nat.le_trans (Nat.le_mul_of_pos_right _ hb1) hbytes
  cases hs with
  | vec _ _ _ _ _ b1 o1 cap hv hl1 hl2 =>
   obtain⟨n,g1,g2,g3⟩:=hv
   rw[hak]at g1
   cases g1
   obtain⟨b',hi',g4,g5,g6,g7,g8⟩:=g3 rfl
   rw[hρ]at g4
   cases g4
   subst g5 g7 g8
   have holds:∃ olds:List Value,olds.length=len * E.P.cellsOf e'∧∀ (j:Nat) x,cs[j]? = some x→∃ v,olds[j]? = some v∧w.cell? ⟨b,0+j,none⟩=some v∧RV E.P G arr x v∧v.oneCell'=true:=by
    refine⟨(List.range (len * E.P.cellsOf e')).map fun j=>(w.cell? ⟨b,j,none⟩).getD undef,by simp,fun j x hj=>?_⟩
    obtain⟨v,hv,hr,ho⟩:=hcells j x hj
    have hjl:=(List.getElem?_eq_some_iff.1 hj).1
    refine⟨v,?_,by rw[Nat.zero_add];exact hv,hr,ho⟩
    rw[List.getElem?_map,List.getElem?_range (by omega)]
    simp[hv]
   obtain⟨olds,hol,hog⟩:=holds
   have hog':∀ (j:Nat) u,olds[j]? = some u→∃ x,cs[j]? = some x∧w.cell? ⟨b,0+j,none⟩=some u∧RV E.P G arr x u∧u.oneCell'=true:=fun j u hu=>by
    have hjl:=(List.getElem?_eq_some_iff.1 hu).1
    obtain⟨v,q1,q2⟩:=hog j cs[j] (List.getElem?_eq_getElem (by omega))
    rw[hu]at q1
    cases q1
    exact⟨_,List.getElem?_eq_getElem (by omega),q2⟩
   have holdOne:∀ u∈olds,u.oneCell'=true:=fun u hu=>by
    obtain⟨j,hj,rfl⟩:=List.getElem_of_mem hu
    obtain⟨_,_,_,_,q⟩:=hog' j _ (List.getElem?_eq_getElem hj)
    exact q
   have hso:Src E.P (E.P.cellsOf e') sT (.slice (some ⟨b,0,none⟩) len cap) len olds w:=Src.ofSlice w hsT ⟨b,0,none⟩ len cap olds hol (fun j u hu=>by
    obtain⟨_,_,q,_⟩:=hog' j u hu
    rw[Addr.add_mk];exact q) holdOne
   have hall:∀ (j:Nat) x,(cs++xs.flatten)[j]? = some x→∃ v,(olds++news)[j]? = some v∧RV E.P G arr x v∧v.oneCell'=true:=fun j x hj=>by
    by_cases hjl:j<cs.length
    ·rw[List.getElem?_append_left hjl]at hj
     obtain⟨v,q1,_,q2,q3⟩:=hog j x hj
     exact⟨v,by rw[List.getElem?_append_left (by omega)];exact q1,q2,q3⟩
    ·rw[List.getElem?_append_right (by omega)]at hj
     obtain⟨u,hu,hr⟩:=flatV_get hlen2 hget2 _ _ hj
     refine⟨u,by rw[List.getElem?_append_right (by omega)];rw[hol,←hcl];exact hu,hr,hsn.one u (List.mem_of_getElem? hu)⟩
   by_cases hcap:cap<len+xs.length
   ·have hrun:=run_append_grow_src (P:=E.P) w sT xT t e' i z hsT hi hz (some ⟨b,0,none⟩) len cap olds (by rw[his];exact hso.cellsD) vx xs.length news (by rw[his];exact hsn) hcap (by omega) (grow_fit hib hbytes hb2 hcap)
    generalize hcapN:grownCap w (len+xs.length) cap e'=newCap at hrun
    have hge:len+xs.length≤newCap:=by
     rw[←hcapN];simp only[grownCap,Question.cut];omega
    have hmul:(len+xs.length) * E.P.cellsOf e'≤newCap * E.P.cellsOf e':=Nat.mul_le_mul_right _ hge
    have hsz:((olds++news).toArray++Builtin.zeroCells z.cells (newCap - (len+xs.length))).size=newCap * E.P.cellsOf e':=by
     have:newCap=(len+xs.length)+(newCap - (len+xs.length)):=by omega
     rw[Array.size_append,size_zeroCells,hzs]
     simp only[List.size_toArray,List.length_append,hol,hnl]
     conv=>rhs;rw[this,Nat.add_mul,Nat.add_mul]
    obtain⟨hx',hr'⟩:=(h.drew (w.drawn+1)).vecMove (gen':=gen'+1) (hi:=newCap * E.P.cellsOf e') (t:=e') (cs':=cs++xs.flatten) (c:=(olds++news).toArray++Builtin.zeroCells z.cells (newCap - (len+xs.length))) hid (by omega)
     (by rw[List.length_append,hcl,hxf,←Nat.add_mul];exact hmul) (by omega) (fun j x hj=>by
      obtain⟨v,q1,q2⟩:=hall j x hj
      refine⟨v,?_,q2⟩
      have:=(List.getElem?_eq_some_iff.1 q1).1
      rw[Array.getElem?_append_left (by simpa using this)]
      simpa using q1)
    refine⟨_,_,_,_,_,_,hrun,hK,hx',hr',.vec _ _ _ _ _ _ _ _ ⟨gen'+1,List.getElem?_set_self (List.getElem?_eq_some_iff.1 hak).1,Nat.le_refl _,fun _=>⟨w.heap.size,newCap * E.P.cellsOf e',?_,rfl,hge,rfl,rfl⟩⟩ hneed hbytes⟩
    exact List.getElem?_set_self (List.getElem?_eq_some_iff.1 hρ).1
   ·have hmul:(len+xs.length) * E.P.cellsOf e'≤cap * E.P.cellsOf e':=Nat.mul_le_mul_right _ (by omega)
    rw[Nat.add_mul]at hmul
    obtain⟨⟨cb,eb,hb1',hb2'⟩,r3,r4,r5⟩:=h.reg _ b 0 _ hρ (by omega)
    have hrun:=run_append_room_src (P:=E.P) w sT xT t e' i hsT hi b 0 len cap vx xs.length news (by rw[his];exact hsn) (by omega)
     (fun j hj=>by rw[his];simp only[World.cell?,hb1'];simp;omega) (fun j hj=>by rw[his];simp[World.frozen?,hb1'])
    obtain⟨w',cb',q1,q2,q3,q4,q5,q6,q7,q8,q9⟩:=run_storeCells (P:=E.P) news w b (0+len * E.P.cellsOf e') 0 cb eb hb1' (by omega) (fun v hv=>by
     have:=hsn.one v hv
     exact⟨fun cs e=>by subst e;simp[Value.oneCell']at this,fun cs e=>by subst e;simp[Value.oneCell']at this⟩)
    have hw':w.setCells b (0+len * E.P.cellsOf e') news=w':=by
     have:=run_storeCells_cells (P:=E.P) b (0+len * E.P.cellsOf e') news 0 w (fun j hj=>by simp only[World.cell?,hb1'];simp;omega) (fun j hj=>by simp[World.frozen?,hb1']) hsn.one
     rw[q1]at this
     simp only[Nat.add_zero]at this
     injection this with _ this
     exact this.symm
    rw[his,hw']at hrun
    obtain⟨hx',hr'⟩:=h.vecStep (gen':=gen'+1) (cs':=cs++xs.flatten) hid hρ (by omega) (by omega) hb1' (by rw[List.length_append,hcl,hxf];exact hmul) (fun j x hj=>by
     obtain⟨v,p1,p2⟩:=hall j x hj
     refine⟨v,?_,p2⟩
     have hpl:=(List.getElem?_eq_some_iff.1 p1).1
     rw[List.length_append]at hpl
     rw[q9]
     by_cases hjl:j<olds.length
     ·rw[if_neg (by omega)]
      rw[List.getElem?_append_left hjl]at p1
      obtain⟨_,_,p3,_⟩:=hog' j v p1
      simp only[World.cell?,hb1',Option.isSome_none,Bool.false_eq_true,if_false,Nat.zero_add]at p3
      exact p3
     ·rw[if_pos (by omega)]
      rw[List.getElem?_append_right (by omega)]at p1
      rw[←p1]
      congr 1
      omega) q2 q3 q4 q5 q6 q7 q8 (fun j hj=>by rw[q9,if_neg (by omega)])
    refine⟨_,_,_,_,_,_,hrun,hK,hx',hr',.vec _ _ _ _ _ _ _ _ ⟨gen'+1,List.getElem?_set_self (List.getElem?_eq_some_iff.1 hak).1,Nat.le_refl _,fun _=>⟨b,cap * E.P.cellsOf e',hρ,rfl,by omega,rfl,rfl⟩⟩ hneed hbytes⟩
 ·-- it is made
  rename_i o e1 es
  obtain⟨⟨hfr,he1,hbytes⟩,hK⟩:=hK
  obtain⟨hlen1,hsh1⟩:=elen hs he1
  obtain⟨olds,hso,hget1⟩:=elems_src h hsT hsh1
  have hneed:es.length+xs.length≤140737488355328:=Nat.le_trans (Nat.le_mul_of_pos_right _ hb1) hbytes
  obtain⟨a,cap,hvs,hcap⟩:∃ a cap,vs = .slice a es.length cap∧cap<es.length+xs.length:=by
   cases hs with
   | snil=>exact⟨none,0,rfl,by simpa using hpos⟩
   | sodd=>cases hfr
   | slice _ _ _ b off cap ho _ _ _ h4 =>
    cases o <;> simp only[Own.fresh,Bool.false_eq_true]at hfr
    ·exact⟨_,cap,rfl,by have:cap=es.length:=ho;omega⟩
    ·exact ho.elim
  subst hvs
  have hol:=hso.newsLen
  have hrun:=run_append_grow_src (P:=E.P) w sT xT t e2 i z hsT hi hz a es.length cap olds (by rw[his];exact hso.cellsD) vx xs.length news (by rw[his];exact hsn) hcap (by omega) (grow_fit hib hbytes hb2 hcap)
  generalize hcapN:grownCap w (es.length+xs.length) cap e2=newCap at hrun
  have hge:es.length+xs.length≤newCap:=by
   rw[←hcapN];simp only[grownCap,Question.cut];omega
  have hmul:(es.length+xs.length) * E.P.cellsOf e2≤newCap * E.P.cellsOf e2:=Nat.mul_le_mul_right _ hge
  have hsz:((olds++news).toArray++Builtin.zeroCells z.cells (newCap - (es.length+xs.length))).size=newCap * E.P.cellsOf e2:=by
   have:newCap=(es.length+xs.length)+(newCap - (es.length+xs.length)):=by omega
   rw[Array.size_append,size_zeroCells,hzs]
   simp only[List.size_toArray,List.length_append,hol,hnl]
   conv=>rhs;rw[this,Nat.add_mul,Nat.add_mul]
  have hef:=flat_len hlen1
  have hget:=join_getL hol hget1 hget2
  obtain⟨hx',hr'⟩:=(h.drew (w.drawn+1)).vecNew (hi:=newCap * E.P.cellsOf e2) (e:=e2) (t:=e2) (cs':=es.flatten++xs.flatten) (c:=(olds++news).toArray++Builtin.zeroCells z.cells (newCap - (es.length+xs.length)))
   (by rw[List.length_append,hef,hxf,←Nat.add_mul];exact hmul) (by omega) (fun j x hj=>by
    rw[←List.flatten_append]at hj
    obtain⟨u,hu,hr⟩:=flatV_get (app_len hlen1 hlen2) hget j x hj
    have hul:=(List.getElem?_eq_some_iff.1 hu).1
    refine⟨u,?_,hr,hone (fun v hv=>hso.one v hv) u (List.mem_of_getElem? hu)⟩
    rw[Array.getElem?_append_left (by simpa using hul)]
    simpa using hu)
  refine⟨_,_,_,_,_,_,hrun,hK,hx',hr',.vec _ _ _ _ _ _ _ _ ⟨gen0,by simp,Nat.le_refl _,fun _=>⟨w.heap.size,newCap * E.P.cellsOf e2,?_,rfl,hge,rfl,rfl⟩⟩ hneed hbytes⟩
  have:=h.lenρ
  show(G.ρ++_)[_]? = _
  rw[List.getElem?_append_right (by omega)]
  simp[this]
 ·exact hK.elim
end Go.Vg
namespace Go.Vg
open Go.RowKit
def vCopy(E:Env)(heap:List VObj)(dT sT:TypeId)(x y:V)(K:V→List VObj→Prop):Prop :=
 match E.P.underlying dT,E.P.underlying sT,x,y with
 | some (.slice e),some (.slice _),.mslice id off len _ _,.slice _ e' es=>match heap[id]? with
  | some ob=>match ob.cs? with
   | some cs=>((es=[]∨e'=e)∧infoOK E.P e=true∧es.length≤len∧off+es.flatten.length≤cs.length)∧K (.int .i64 es.length) (heap.set id (ob.put (over cs off es.flatten)))
   | none=>False
  | none=>False
 | _,_,_,_=>False
theorem copy_out{E:Env}{G:Gh}{heap:List VObj}{arr:List Nat}{w0:Base}{w:World}(h:RelW E G heap arr w0 w){x y:V}{vx vy:Value}{t:TypeId}{dT sT:TypeId}
  {K:V→List VObj→Prop} (hx:RV E.P G arr x vx) (hy:RV E.P G arr y vy) (hK:vCopy E heap dT sT x y K) :
  ∃ u z heap' w',(Builtin.copy_ #[dT,sT] t #[vx,vy]).run E.P w = .ok u w'∧K z heap'∧RelW E G heap' arr w0 w'∧RV E.P G arr z u:=by
 unfold vCopy at hK
 split at hK
 case h_2=>exact hK.elim
 rename_i e ex id off len cp e1 o e' es hd hs
 split at hK
 case h_2=>exact hK.elim
 rename_i ob hid
 split at hK
 case h_2=>exact hK.elim
 rename_i cs hcs
 obtain⟨⟨h2,h3,h4,h5⟩,hk⟩:=hK
 obtain⟨i,hi⟩:=Option.isSome_iff_exists.1 h3
 obtain⟨hlen,hsh⟩:=elen hy h2
 obtain⟨news,hsn,hget⟩:=elems_src h hs hsh
 have hnl:=hsn.newsLen
 have hfl:=flat_len hlen
 have hnf:=flatV_get (R:=fun c u=>RV E.P G arr c u) hlen hget
 cases hx with
 | mslice _ _ _ cap _ b hb g1 g2 g3 =>
  obtain⟨b',hb',hro⟩:=h.obj id _ hid
  obtain⟨c,et,hc1,hc2,hc3,hput⟩:=hro.un hcs
  rw[hb]at hb';cases hb'
  have hcells:∀ v∈news,(∀ cs,v ≠ .agg cs)∧∀ cs,v ≠ .tuple cs:=fun v hv=>by
   have:=hsn.one v hv
   exact⟨fun cs e=>by subst e;simp[Value.oneCell']at this,fun cs e=>by subst e;simp[Value.oneCell']at this⟩
  obtain⟨w',c',q1,q2,q3,q4,q5,q6,q7,q8,q9⟩:=run_storeCells (P:=E.P) news w b off 0 c et hc1 (by omega) hcells
  have hmin:Nat.min es.length len=es.length:=Nat.min_eq_left h4
  refine⟨.int .i64 es.length,_,_,w',?_,hk,h.change (hbl:=by intro t s hh;unfold VObj.put at hh;split at hh <;> cases hh) (hnv:=by intro _ _ _ _ hh;unfold VObj.put at hh;split at hh <;> cases hh) (hnl:=by intro _ _ _ _ hh;rw[hid]at hh;cases hh;cases hcs) hb (List.getElem?_eq_some_iff.1 hid).1 (by rw[hid];intro hd;cases hd;cases hcs) q2 q3 q4 q5 q6 (hput w' c' _ q7 (by rw[q8,hc2,over_length _ _ _ h5]) fun j z hz=>?_),.int _ _⟩
  ·simp[Builtin.copy_,run_und hd,hsn.len,hmin,run_sizeOf hi,hsn.cells,q1,goInt]
  ·rw[over_get _ _ _ h5]at hz
   have:=q9 j
   simp only[Nat.add_zero]at this
   by_cases hin:off≤j∧j<off+es.flatten.length
   ·rw[if_pos hin]at hz
    rw[if_pos (by omega)]at this
    obtain⟨u,hu,hr⟩:=hnf _ _ hz
    exact⟨u,by rw[this];exact hu,hr⟩
   ·rw[if_neg hin]at hz
    rw[if_neg (by omega)]at this
    obtain⟨u,hu,hru⟩:=hc3 j z hz
    exact⟨u,by rw[this];exact hu,hru⟩
end Go.Vg
