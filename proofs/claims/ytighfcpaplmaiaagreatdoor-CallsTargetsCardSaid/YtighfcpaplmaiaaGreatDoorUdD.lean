import Derived.Test.YtighfcpaplmaiaaGreatDoorUcH
import Derived.Test.YtighfcpaplmaiaaGreatDoorUcK
set_option linter.unusedVariables false
set_option linter.unusedSimpArgs false
set_option maxRecDepth 20000
namespace Go.Vg
def f0q(rs:List Rw)(b i:Nat):Prop:=∃ (q j:Nat) (r s:Rw),rs[i]? = some r∧r.parent=((b+q:Nat):Int)∧q<i∧rs[q]? = some s∧s.kids[j]? = some (b+i)
theorem d2G{rs rs':List Rw}{b i:Nat}(h:f0q rs b i):f0q (rs++rs') b i:=by
 obtain⟨q,j,r,s,h1,h2,h3,h4,h5⟩:=h
 refine⟨q,j,r,s,?_,h2,h3,?_,h5⟩
 ·rw[g9a (g8Y.1 h1).1];exact h1
 ·rw[g9a (g8Y.1 h4).1];exact h4
theorem c8J{rs rs':List Rw}{b i:Nat}(h:f0q rs' (b+rs.length) i):f0q (rs++rs') b (rs.length+i):=by
 obtain⟨q,j,r,s,h1,h2,h3,h4,h5⟩:=h
 refine⟨rs.length+q,j,r,s,?_,by rw[h2];congr 1;omega,by omega,?_,by rw[h5,h0n]⟩
 ·rw[g9c (by omega)];simpa using h1
 ·rw[g9c (by omega)];simpa using h4
theorem d0i:∀ (n:Nd) (p:Int) (b i:Nat),0<i→i<(b0o n).length→f0q (b0z n p b) b i:=by
 refine Nd.all fun k t g ks ih p b i h0 hi=>?_
 have hs:∀ l:List Nd,(∀ x∈l,∀ (p:Int) (b i:Nat),0<i→i<(b0o x).length→f0q (b0z x p b) b i)→∀ (p b i:Nat),i<(b0l l).length →
   (∃ (j:Nat) (r:Rw),(b1b l p b)[i]? = some r∧r.parent=p∧(b0H l b)[j]? = some (b+i))∨f0q (b1b l p b) b i:=by
  intro l
  induction l with
  | nil=>intro _ p b i h;simp[b0l]at h
  | cons x r ihr =>
   intro hx p b i hi
   rw[b1b]
   have hlen:(b0z x p b).length=(b0o x).length:=b0N ..
   rcases h0v i (b0o x).length with hl | hl
   ·rcases Nat.eq_zero_or_pos i with h0 | h0
    ·subst h0
     left
     refine⟨0,(b0z x p b)[0],?_,?_,?_⟩
     ·rw[g9a (by omega)];exact g9b _
     ·obtain⟨k,t,g,ks⟩:=x
      simp[b0z]
     ·simp[b0H]
    ·exact .inr (d2G (hx x (by simp) p b i h0 hl))
   ·rw[b0l,g9d]at hi
    rcases ihr (fun y hy=>hx y (by simp[hy])) p (b+(b0o x).length) (i - (b0o x).length) (by omega)with⟨j,rr,h1,h2,h3⟩ | h
    ·left
     refine⟨j+1,rr,?_,h2,?_⟩
     ·rw[g9c (by omega),hlen];exact h1
     ·rw[b0H,g8V,h3];congr 1;omega
    ·right
     have:=c8J (rs:=b0z x p b) (rs':=b1b r p (b+(b0o x).length)) (b:=b) (i:=i - (b0o x).length) (by rw[hlen];exact h)
     rw[hlen,show(b0o x).length+(i - (b0o x).length)=i by omega]at this
     exact this
 rw[b6L]
 obtain⟨i,rfl⟩:∃ m,i=m+1:=⟨i - 1,by omega⟩
 rw[b0Y]at hi
 rcases hs ks ih b (b+1) i (by omega)with⟨j,r,h1,h2,h3⟩ | ⟨q,j,r,s,h1,h2,h3,h4,h5⟩
 ·exact⟨0,j,r,_,by simpa using h1,by rw[h2];simp,by omega,rfl,by rw[h3];congr 1;omega⟩
 ·exact⟨q+1,j,r,s,by simpa using h1,by rw[h2];congr 1;omega,by omega,by simpa using h4,by rw[h5];congr 1;omega⟩
theorem b3G:∀ (ks:List Nd) (b j:Nat),j<ks.length→(b0H ks b)[j]? = some (b+(b0l (ks.take j)).length)
 | [],b,j,h=>by simp at h
 | x::r,b,0,h=>by simp[b0H,b0l]
 | x::r,b,j+1,h=>by
  rw[b0H,g8V,b3G r _ j (by simpa using h),List.take_succ_cons,b0l,g9d,h0n]
def c9s(n:Nd)(i:Nat):Nat:=i+(((b0o n)[i]?).map fun y=>(b0o y).length).getD 0
theorem c2A{n y:Nd}{i:Nat}(h:(b0o n)[i]? = some y):c9s n i=i+(b0o y).length:=by simp[c9s,h]
theorem c4n(n:Nd):0<(b0o n).length:=by obtain⟨k,t,g,ks⟩:=n;rw[b0Y];omega
theorem b7v{n:Nd}{i j c:Nat}{k:Int}{t g}{ks:List Nd}(h:(b0o n)[i]? = some (.mk k t g ks))(hc:(b0H ks (i+1))[j]? = some c) :
  ∃ z,ks[j]? = some z∧(b0o n)[c]? = some z∧i<c∧c9s n c≤c9s n i∧(∀ c',(b0H ks (i+1))[j+1]? = some c'→c'=c9s n c):=by
 have hl:=(g8Y.1 hc).1
 rw[b0V]at hl
 obtain⟨c',h1,h2⟩:=b7X h (g9b hl)
 have:c'=c:=by rw[hc]at h1;simpa using h1.symm
 subst this
 rw[b3G ks _ j hl]at hc
 simp at hc
 have hsum:(b0l (ks.take j)).length+(b0o ks[j]).length≤(b0l ks).length:=by
  have:ks=ks.take j++ks[j]::ks.drop (j+1):=by simp
  have h3:(b0l ks).length=(b0l (ks.take j++ks[j]::ks.drop (j+1))).length:=by rw[←this]
  rw[b1n,g9d,b0l,g9d]at h3
  omega
 refine⟨_,g9b hl,h2,by omega,?_,fun c2 h3=>?_⟩
 ·rw[c2A h2,c2A h,b0Y];omega
 ·have hl2:=(g8Y.1 h3).1
  rw[b0V]at hl2
  rw[b3G ks _ _ hl2,List.take_add_one,g9b hl,Option.toList_some,b1u,g9d]at h3
  simp at h3
  rw[c2A h2];omega
theorem c9C{n:Nd}{i j j' c c':Nat}{k:Int}{t g}{ks:List Nd}(h:(b0o n)[i]? = some (.mk k t g ks))(hc:(b0H ks (i+1))[j]? = some c)(hc':(b0H ks (i+1))[j']? = some c')(hj:j<j'):c9s n c≤c':=by
 obtain⟨z,h1,h2,h3,h4,h5⟩:=b7v h hc
 have hl:=(g8Y.1 hc).1
 have hl':=(g8Y.1 hc').1
 rw[b0V]at hl hl'
 have h6:=h5 _ (b3G ks (i+1) (j+1) (by omega))
 rw[←h6]
 rw[b3G ks _ j' hl']at hc'
 simp at hc'
 have:ks.take j'=ks.take (j+1)++(ks.drop (j+1)).take (j' - (j+1)):=by
  rw[←List.take_add];congr 1;omega
 rw[this,b1n,g9d]at hc'
 omega
theorem c3S:∀ (ks:List Nd) (p b j:Nat),j<ks.length→∃ o r,(b0H ks b)[j]? = some (b+o)∧(b1b ks p b)[o]? = some r∧r.parent=p
 | [],p,b,j,h=>by simp at h
 | x::r,p,b,0,h=>by
  obtain⟨k,t,g,ks⟩:=x
  exact⟨0,⟨p,k,t,g,b0H ks (b+1)⟩,by simp[b0H],by simp[b1b,b0z],rfl⟩
 | x::r,p,b,j+1,h=>by
  obtain⟨o,s,h1,h2,h3⟩:=c3S r p (b+(b0o x).length) j (by simpa using h)
  refine⟨(b0o x).length+o,s,by rw[b0H,g8V,h1,h0n],?_,h3⟩
  rw[b1b,g9c (by rw[b0N];omega),b0N]
  simpa using h2
theorem d9f{n:Nd}{i j c:Nat}{k:Int}{t g}{ks:List Nd}(h:(b0o n)[i]? = some (.mk k t g ks))(hc:(b0H ks (i+1))[j]? = some c):∃ r,(b0z n (-1) 0)[c]? = some r∧r.parent=i:=by
 have hl:=(g8Y.1 hc).1
 rw[b0V]at hl
 obtain⟨A,B,h1,h2,h3⟩:=c2v n i _ h
 obtain⟨q,A',B',g1,g2⟩:=h3 (-1) 0
 obtain⟨o,r,f1,f2,f3⟩:=c3S ks i (i+1) j hl
 refine⟨r,?_,f3⟩
 rw[hc]at f1
 have hco:c=i+1+o:=by simpa using f1
 have hol:=(g8Y.1 f2).1
 rw[g1,b6L,g9s,g9t,g9c (by omega),g2,hco,show i+1+o - i=o+1 by omega,g8X,g8V,g9a hol]
 exact f2
theorem b3Y{l:List Rw}{i j:Nat}(h:j<(b0j l i).kids.length):(b0j l i).kids[j]? = some (b1d l i j):=by
 rw[b1d,g8Z,g9b h];rfl
theorem b7f{l:List Rw}{i:Nat}{r:Rw}(h:l[i]? = some r):b0j l i=r:=by simp[b0j,g8Z,h]
theorem b1L{n:Nd}{i:Nat}(hi:i<(b0z n (-1) 0).length):∃ k t g ks,(b0o n)[i]? = some (.mk k t g ks)∧(b0j (b0z n (-1) 0) i).kind=k∧(b0j (b0z n (-1) 0) i).text=t∧(b0j (b0z n (-1) 0) i).kids=b0H ks (i+1):=by
 have hlen:(b0z n (-1) 0).length=(b0o n).length:=b0N ..
 have hn:(b0o n)[i]? = some (b0o n)[i]:=g9b (by omega)
 generalize(b0o n)[i]=y at hn
 obtain⟨k,t,g,ks⟩:=y
 exact⟨k,t,g,ks,hn,b3M hn⟩
theorem d3A{n:Nd}(hc:b3K n=0)(hl:(b0o n).length≤1000)(h1:n.kind=1):gramL (b0z n (-1) 0):=by
 have hsh:=b8U hc
 have hlen:(b0z n (-1) 0).length=(b0o n).length:=b0N ..
 have hkid:∀ i<(b0z n (-1) 0).length,∀ j<(b0j (b0z n (-1) 0) i).kids.length,i<b1d (b0z n (-1) 0) i j∧b1d (b0z n (-1) 0) i j<(b0z n (-1) 0).length∧(b0j (b0z n (-1) 0) (b1d (b0z n (-1) 0) i j)).parent=i ∧
   b3P (b0j (b0z n (-1) 0) i).kind j (b0j (b0z n (-1) 0) (b1d (b0z n (-1) 0) i j)).kind=true:=by
  intro i hi j hj
  obtain⟨k,t,g,ks,e1,e2,e3,e4⟩:=b1L hi
  have hg:=b3Y hj
  rw[e4]at hg
  obtain⟨z,g1,g2,g3,g4,_⟩:=b7v e1 hg
  have hcl:=(g8Y.1 g2).1
  refine⟨g3,by omega,?_,?_⟩
  ·obtain⟨r,f1,f2⟩:=d9f e1 hg
   rw[b7f f1,f2]
  ·rw[e2]
   have hf:=(b3d (hsh _ (g9f e1))).2.1
   have:=b3m hf j z g1
   obtain⟨zk,zt,zg,zks⟩:=z
   rw[(b3M g2).1]
   rw[Int.zero_add]at this
   exact this
 have hshp:∀ i<(b0z n (-1) 0).length,∃ k t g ks,(b0o n)[i]? = some (.mk k t g ks)∧(Nd.mk k t g ks).shape=true∧(b0j (b0z n (-1) 0) i).kind=k∧(b0j (b0z n (-1) 0) i).text=t∧(b0j (b0z n (-1) 0) i).kids=b0H ks (i+1):=by
  intro i hi
  obtain⟨k,t,g,ks,e1,e2⟩:=b1L hi
  exact⟨k,t,g,ks,e1,hsh _ (g9f e1),e2⟩
 refine⟨b9S (by omega),fun i hi=>?_,fun i hi=>?_,fun i hi j hj=>?_,fun i hi=>?_,fun i hi j hj=>?_,fun hi=>?_,fun i hi h0=>?_,fun i hi h2=>?_⟩
 ·obtain⟨k,t,g,ks,e1,e2,e3,e4⟩:=hshp i hi
  rw[e3]
  unfold Nd.shape at e2
  simp only[g9g,Bool.not_eq_true',h0l]at e2
  obtain⟨⟨⟨⟨⟨h1,h2⟩,h3⟩,h4⟩,h5⟩,h6⟩:=e2
  have:(Nd.mk k t g ks).kind=k:=rfl
  omega
 ·obtain⟨k,t,g,ks,e1,e2,e3,e4,e5⟩:=hshp i hi
  rw[e3,e5,b0V]
  exact(b3d e2).1
 ·exact(hkid i hi j hj).2.2.2
 ·obtain⟨k,t,g,ks,e1,e2,e3,e4,e5⟩:=hshp i hi
  rw[e3,e4]
  exact(b3d e2).2.2
 ·exact⟨(hkid i hi j hj).1,(hkid i hi j hj).2.1,(hkid i hi j hj).2.2.1⟩
 ·obtain⟨k,t,g,ks⟩:=n
  exact h1
 ·obtain⟨q,j,r,s,f1,f2,f3,f4,f5⟩:=d0i n (-1) 0 i h0 (by omega)
  refine⟨q,by rw[b7f f1,f2,g9s],f3,j,?_,?_⟩
  ·rw[b7f f4];exact(g8Y.1 f5).1
  ·rw[b1d,b7f f4,g8Z,f5,g9s];rfl
 ·obtain⟨k,t,g,ks,e1,e2,e3,e4⟩:=b1L hi
  exact d8i hc hl e1 (by rw[e2]at h2;exact h2)
theorem c0M(k:Int)(n:ByteArray):∀ (l M:List Dl),(l.foldl c9n M).find? (b5f k n)=(M.find? (b5f k n)).or (l.find? (b5f k n))
 | [],M=>by simp
 | d::r,M=>by
  rw[g9G,c0M k n r,g9S]
  unfold c9n
  by_cases h:M.any (b5f d.kind d.name)=false
  ·rw[if_pos h,List.find?_append,g9S,List.find?_nil,Option.or_assoc]
   cases b5f k n d <;> simp
  ·rw[if_neg h]
   cases hk:b5f k n d with
   | false=>rfl
   | true =>
    have h':M.any (b5f d.kind d.name)=true:=by simpa using h
    have e:k=d.kind∧n=d.name:=by simpa[b5f]using hk
    obtain⟨rfl,rfl⟩:=e
    have:(M.find? (b5f d.kind d.name)).isSome=true:=by
     rw[List.find?_isSome]
     obtain⟨x,hx,hp⟩:=g9W.1 h'
     exact⟨x,hx,hp⟩
    obtain⟨y,hy⟩:=g9E.1 this
    rw[hy];rfl
theorem b9q(k:Int)(n:ByteArray)(l:List Dl):(b1Y l).find? (b5f k n)=l.find? (b5f k n):=by
 unfold b1Y
 rw[c0M];rfl
theorem c3I{α:Type}{p q:α→Bool}:∀ (l:List α),(∀ x∈l,p x=true→q x=true)→(∃ x∈l,q x=true∧p x=false)→(l.filter p).length<(l.filter q).length:=by
 have le:∀ l:List α,(∀ x∈l,p x=true→q x=true)→(l.filter p).length≤(l.filter q).length:=by
  intro l
  induction l with
  | nil=>intro _;simp
  | cons a r ih =>
   intro h
   have:=ih fun x hx=>h x (by simp[hx])
   have ha:=h a (by simp)
   rw[List.filter_cons,List.filter_cons]
   cases hp:p a <;> cases hq:q a <;> simp_all <;> omega
 intro l
 induction l with
 | nil=>rintro _ ⟨x,hx,_⟩;cases hx
 | cons a r ih =>
  intro h h2
  have h1:=le r fun x hx=>h x (by simp[hx])
  have ha:=h a (by simp)
  rw[List.filter_cons,List.filter_cons]
  obtain⟨x,hx,hxq,hxp⟩:=h2
  rcases g9y.1 hx with rfl | hx
  ·rw[hxp,hxq];simp;omega
  ·have:=ih (fun x hx=>h x (by simp[hx])) ⟨x,hx,hxq,hxp⟩
   cases hp:p a <;> cases hq:q a <;> simp_all <;> omega
def bfN(n:Nd)(q i:Nat):Bool:=decide (c9s n q<c9s n i∨(c9s n q=c9s n i∧i<q))
def f1N(n:Nd)(i:Nat):Nat:=((List.range (b0o n).length).filter fun j=>bfN n j i).length
theorem f0K{n:Nd}{i:Nat}(hi:i<(b0o n).length):f1N n i<(b0o n).length:=by
 have:=c3I (p:=fun j=>bfN n j i) (q:=fun _=>true) (List.range (b0o n).length) (fun _ _ _=>rfl) ⟨i,by simpa using hi,rfl,by simp[bfN]⟩
 rw[List.filter_eq_self.2 (fun _ _=>rfl:∀ a∈List.range (b0o n).length,(fun _=>true) a=true)]at this
 simpa[f1N]using this
theorem c4y{n:Nd}{q i:Nat}(hq:q<(b0o n).length)(h:bfN n q i=true):f1N n q<f1N n i:=by
 refine c3I _ (fun x _ hx=>?_) ⟨q,by simpa using hq,h,by simp[bfN]⟩
 simp only[bfN,g9h]at h hx ⊢
 omega
theorem c1k{k c:Nat}:∀ {ks:List Nat},c∈b2u k ks→∃ j:Nat,ks[j]? = some c∧∀ j':Nat,ks[j']? = some k→j<j'
 | [],h=>by simp[b2u]at h
 | x::r,h=>by
  unfold b2u at h
  rw[List.takeWhile_cons]at h
  split at h
  ·rename_i hx
   have hxk:¬ x=k:=by simpa using hx
   rcases g9y.1 h with rfl | h
   ·refine⟨0,rfl,fun j' hj=>?_⟩
    cases j' with
    | zero=>simp at hj;exact(hxk hj).elim
    | succ j'=>omega
   ·obtain⟨j,h1,h2⟩:=c1k (ks:=r) h
    refine⟨j+1,by simpa using h1,fun j' hj=>?_⟩
    cases j' with
    | zero=>simp at hj;exact(hxk hj).elim
    | succ j'=>have:=h2 j' (by simpa using hj);omega
  ·cases h
theorem f1a{n:Nd}(hg:gramL (b0z n (-1) 0)):∀ (f k:Nat),k<(b0z n (-1) 0).length→∀ d∈b7r (b0z n (-1) 0) f k,d<(b0z n (-1) 0).length∧((b0j (b0z n (-1) 0) d).kind=10∧c9s n d≤k∨(b0j (b0z n (-1) 0) d).kind=4):=by
 intro f
 induction f with
 | zero=>intro k _ d h;simp[b7r]at h
 | succ f ih =>
  intro k hk d h
  rw[b7r]at h
  split at h
  ·cases h
  rename_i h0
  have hp:=(hg.ok.par k hk).1
  have hk0:0<k:=by omega
  obtain⟨p,hpe,hpk,jk,hjk,hkk⟩:=hg.par k hk hk0
  rw[hpe,g9j]at h
  have hpl:p<(b0z n (-1) 0).length:=by omega
  rcases g9A.1 h with h | h
  ·obtain⟨c,hc,hd⟩:=List.mem_flatMap.1 h
   obtain⟨j,hj,hj2⟩:=c1k hc
   have hjl:=(g8Y.1 hj).1
   have hkg:=b3Y hjk
   rw[hkk]at hkg
   have hlt:=hj2 jk hkg
   obtain⟨pk,pt,pg,pks,e1,e2,e3,e4⟩:=b1L hpl
   rw[e4]at hj hkg
   have hend:=c9C e1 hj hkg hlt
   obtain⟨z,_,hz,_⟩:=b7v e1 hj
   have hlen:(b0z n (-1) 0).length=(b0o n).length:=b0N ..
   have hcl:=(g8Y.1 hz).1
   unfold b2g at hd
   rcases g9A.1 hd with hd | hd
   ·split at hd
    ·rename_i hcond
     have:=g9N.1 hd
     subst this
     exact⟨by omega,.inl ⟨hcond.2,hend⟩⟩
    ·cases hd
   ·split at hd
    ·rename_i hcond
     obtain⟨h1,h2⟩:=List.mem_filter.1 hd
     have:=(hg.ok.kids c (by omega)).2 d h1
     exact⟨this,.inr (by simpa using h2)⟩
    ·cases hd
  ·split at h
   ·cases h
   ·obtain⟨h1,h2⟩:=ih p hpl d h
    refine⟨h1,h2.imp (fun⟨h3,h4⟩=>⟨h3,by omega⟩) id⟩
theorem d1n{l:List Rw}{t:ByteArray}{vs:List Nat}(h:0≤b1j l t vs):∃ v∈vs,b1j l t vs=v∧(b0j l v).text=t:=by
 unfold b1j at h ⊢
 cases hf:vs.find? fun n=>decide ((b0j l n).text=t)with
 | none=>rw[hf]at h;simp at h
 | some v=>exact⟨v,g9V hf,rfl,by simpa using List.find?_some hf⟩
theorem d5p:∀ (n:Nd) (u:Int) (m:Nat) (x:Ar) (d:Dl),d∈b1J n u m x→∃ (j:Nat) (y:Nd) (a:Ar),(b0o n)[j]? = some y∧b2S y.kind y.text u ((m+j:Nat):Int) a=some d:=by
 refine Nd.all fun k t g ks ih u m x d hd=>?_
 have hs:∀ (l:List Nd),(∀ y∈l,∀ (u:Int) (m:Nat) (x:Ar) (d:Dl),d∈b1J y u m x→∃ (j:Nat) (z:Nd) (a:Ar),(b0o y)[j]? = some z∧b2S z.kind z.text u ((m+j:Nat):Int) a=some d)→∀ (m:Nat) (x:Ar) (d:Dl),d∈b0Z l u m x →
   ∃ (j:Nat) (z:Nd) (a:Ar),(b0l l)[j]? = some z∧b2S z.kind z.text u ((m+j:Nat):Int) a=some d:=by
  intro l
  induction l with
  | nil=>intro _ m x d hd;simp[b0Z]at hd
  | cons z r ihr =>
   intro h m x d hd
   rw[b0Z,g9A]at hd
   rcases hd with hd | hd
   ·obtain⟨j,y,a,h2,h3⟩:=h z (by simp) u m x d hd
    exact⟨j,y,a,by rw[b0l,g9a (g8Y.1 h2).1];exact h2,h3⟩
   ·obtain⟨j,y,a,h2,h3⟩:=ihr (fun y hy=>h y (by simp[hy])) _ x d hd
    refine⟨(b0o z).length+j,y,a,by rw[b0l,g9c (by omega)];simpa using h2,?_⟩
    rw[←h3];congr 2;omega
 rw[b1J,g9A]at hd
 rcases hd with hd | hd
 ·cases hdt:b2S k t u m x with
  | none=>rw[hdt]at hd;cases hd
  | some d' =>
   rw[hdt]at hd
   simp at hd
   subst hd
   exact⟨0,.mk k t g ks,x,by simp[b0o],by rw[h0h];exact hdt⟩
 ·obtain⟨j,y,a,h2,h3⟩:=hs ks ih _ _ d hd
  refine⟨j+1,y,a,by simpa[b0o]using h2,?_⟩
  rw[←h3];congr 2;omega
theorem b4z:∀ (u:List Un) (i:Nat) (d:Dl),d∈b0f u i→∃ (un:Nat) (x:Un) (j:Nat) (y:Nd) (a:Ar),u[un]? = some x∧x.broken=false∧(b0o x.tree)[j]? = some y∧b2S y.kind y.text ((i+un:Nat):Int) (j:Int) a=some d
 | [],i,d,h=>by simp[b0f]at h
 | x::r,i,d,h=>by
  rw[b0f,g9A]at h
  rcases h with h | h
  ·split at h
   ·cases h
   ·rename_i hb
    obtain⟨j,y,a,h1,h2⟩:=d5p x.tree i 0 Ar.none d h
    exact⟨0,x,j,y,a,rfl,by simpa using hb,h1,by simpa using h2⟩
  ·obtain⟨un,y,j,z,a,h1,h2,h3,h4⟩:=b4z r (i+1) d h
   refine⟨un+1,y,j,z,a,by simpa using h1,h2,h3,?_⟩
   rw[←h4];congr 2;omega
theorem c1l{k:Int}{t:ByteArray}{u m:Int}{x:Ar}{d:Dl}(h:b2S k t u m x=some d):d.unit=u∧d.node=m∧d.name=t∧((k=2∧(d.kind=1∨d.kind=4))∨(k=7∧d.kind=2)∨(k=9∧d.kind=3)∨(k=4∧d.kind=5)∨(k=10∧d.kind=6)):=by
 unfold b2S at h
 repeat' split at h
 all_goals first | (cases h;done) | (cases h;simp_all)
end Go.Vg
namespace Go.Proofs.YtighfcpaplmaiaaGreatDoor
open Go Go.Vg Go.Proofs
theorem b2R{u:List Un}(hb:∀ x∈u,x.broken=false){un:Nat}{l:List Rw}(h:(b0e u)[un]? = some l):∃ x,u[un]? = some x∧l=b0z x.tree (-1) 0:=by
 unfold b0e at h
 rw[g9q]at h
 obtain⟨x,h1,h2⟩:=g9l.1 h
 refine⟨x,h1,?_⟩
 rw[if_neg (by rw[hb x (g9f h1)];simp)]at h2
 exact h2.symm
theorem c1N{u:List Un}(hb:∀ x∈u,x.broken=false){un:Nat}{x:Un}(h:u[un]? = some x):(b0e u)[un]? = some (b0z x.tree (-1) 0):=by
 unfold b0e
 rw[g9q,h,g9z,if_neg (by rw[hb x (g9f h)];simp)]
theorem c4d{k d:Int×Int}:∀ (us:List Us) (M:List ((Int×Int)×(Int×Int))),b1s (us.foldl d6l M) k=some d→(∃ x∈us,k=((x.un:Int),(x.nd:Int))∧x.to=some d)∨b1s M k=some d
 | [],M,h => .inr h
 | x::r,M,h=>by
  rw[g9G]at h
  rcases c4d r _ h with⟨y,h1,h2⟩ | h
  ·exact .inl ⟨y,by simp[h1],h2⟩
  ·unfold d6l at h
   split at h
   ·rename_i d' hd
    rw[b7B]at h
    split at h
    ·rename_i hk
     simp only[Option.some.injEq]at h
     subst h
     exact .inl ⟨x,by simp,hk,hd⟩
    ·exact .inr h
   ·exact .inr h
theorem b9L{M:List Dl}{x:Us}:∀ (tb:List (List Rw)) (n:Nat),x∈b2J M tb n→∃ (un i:Nat) (l:List Rw),tb[un]? = some l∧i<l.length∧(b6I (b0j l i).kind (b0j l i).text).2=true∧x=⟨n+un,i,c2T l M (n+un) i (b6I (b0j l i).kind (b0j l i).text).1⟩
 | [],n,h=>by simp[b2J]at h
 | l::r,n,h=>by
  rw[b2J,g9A]at h
  rcases h with h | h
  ·obtain⟨i,hi,h⟩:=List.mem_flatMap.1 h
   unfold b5r at h
   split at h
   ·rename_i hu
    exact⟨0,i,l,rfl,by simpa using hi,hu,g9N.1 h⟩
   ·cases h
  ·obtain⟨un,i,l',h1,h2,h3,h4⟩:=b9L r (n+1) h
   exact⟨un+1,i,l',by simpa using h1,h2,h3,by rw[h4,show n+1+un=n+(un+1)by omega]⟩
theorem b8E{u:List Un}{un i:Nat}{l:List Rw}(hl:(b0e u)[un]? = some l){d:Int×Int}(h:b1s (b2q u) ((un:Int),(i:Int))=some d) :
  (b6I (b0j l i).kind (b0j l i).text).2=true∧c2T l (b1Y (b0f u 0)) un i (b6I (b0j l i).kind (b0j l i).text).1=some d:=by
 rcases c4d _ _ h with⟨x,h1,h2,h3⟩ | h
 ·obtain⟨un',i',l',g1,g2,g3,g4⟩:=b9L _ _ h1
  subst g4
  simp only[g9s,Prod.mk.injEq]at h2 h3 ⊢
  obtain⟨e1,e2⟩:=h2
  have e1':un=un':=by omega
  have e2':i=i':=by omega
  subst e1' e2'
  rw[hl]at g1
  cases g1
  exact⟨g3,h3⟩
 ·simp[b1s]at h
structure SndU(u:List Un):Prop where
 fit:b2T u
 snd:∀ x∈u,b1q x=true
theorem SndU.br{u:List Un}(h:SndU u):∀ x∈u,x.broken=false:=fun x hx=>by
 have:=h.snd x hx
 simp only[b1q,g9g,Bool.not_eq_true']at this
 exact this.1.1
theorem SndU.gram{u:List Un}(h:SndU u):∀ l∈b0e u,gramL l:=by
 intro l hl
 obtain⟨un,hun⟩:=List.mem_iff_getElem?.1 hl
 obtain⟨x,hx,rfl⟩:=b2R h.br hun
 have hxm:=g9f hx
 have:=h.snd x hxm
 simp only[b1q,g9g,g9h]at this
 exact d3A this.2 (h.fit.2 x hxm).1 this.1.2
theorem SndU.decl{u:List Un}(h:SndU u){d:Dl}(hd:d∈b0f u 0):∃ (un nd:Nat) (l:List Rw),d.unit=(un:Int)∧d.node=(nd:Int)∧(b0e u)[un]? = some l∧nd<l.length∧d.name=(b0j l nd).text ∧
  (((b0j l nd).kind=2∧(d.kind=1∨d.kind=4))∨((b0j l nd).kind=7∧d.kind=2)∨((b0j l nd).kind=9∧d.kind=3)∨((b0j l nd).kind=4∧d.kind=5)∨((b0j l nd).kind=10∧d.kind=6)):=by
 obtain⟨un,x,j,y,a,h1,h2,h3,h4⟩:=b4z u 0 d hd
 obtain⟨g1,g2,g3,g4⟩:=c1l h4
 obtain⟨k,t,g,ks⟩:=y
 obtain⟨e1,e2,e3⟩:=b3M h3
 have hlen:(b0z x.tree (-1) 0).length=(b0o x.tree).length:=b0N ..
 have hj:=(g8Y.1 h3).1
 refine⟨un,j,_,by simpa using g1,g2,c1N h.br h1,by omega,by rw[e2,g3];rfl,?_⟩
 rw[e1]
 exact g4
theorem c6K{k:Int}{t:ByteArray}(h:k=19∨k=11):b6I k t=(3,true):=by rw[b6I,if_pos h]
theorem d1E{t:ByteArray}:b6I 20 t=(1,true):=by simp[b6I]
theorem SndU.var{u:List Un}(h:SndU u){un i:Nat}{l:List Rw}(hl:(b0e u)[un]? = some l)(hi:i<l.length)(hk:(b0j l i).kind=19∨(b0j l i).kind=11){d:Int×Int}(hd:b1s (b2q u) ((un:Int),(i:Int))=some d) :
  (∃ (v:Nat) (x:Un),d=((un:Int),(v:Int))∧v<l.length∧u[un]? = some x∧l=b0z x.tree (-1) 0∧v∈b7r l (i+1) i∧(b0j l v).text=(b0j l i).text∧((b0j l v).kind=10∧c9s x.tree v≤i∨(b0j l v).kind=4)) ∨
  (Val (b0e u) d∧(rwK (b0e u) d).kind=9):=by
 obtain⟨h1,h2⟩:=b8E hl hd
 rw[c6K hk]at h2
 obtain⟨x,hx,rfl⟩:=b2R h.br hl
 have hg:=h.gram _ (g9f hl)
 unfold c2T at h2
 split at h2
 ·rename_i hc
  obtain⟨v,hv,he,ht⟩:=d1n hc.2
  cases h2
  obtain⟨g1,g2⟩:=f1a hg (i+1) i hi v hv
  exact .inl ⟨v,x,by rw[he],g1,hx,rfl,hv,ht,g2⟩
 ·right
  rw[b9q]at h2
  obtain⟨dd,hdd,rfl⟩:=g9l.1 h2
  have hkey:=List.find?_some hdd
  simp only[b5f,g9g,g9h]at hkey
  obtain⟨un',nd',l',q1,q2,q3,q4,q5,q6⟩:=h.decl (g9V hdd)
  rw[q1,q2,b0T q3]
  exact⟨⟨un',nd',l',rfl,q3,q4⟩,by omega⟩
theorem SndU.fnc{u:List Un}(h:SndU u){un i:Nat}{l:List Rw}(hl:(b0e u)[un]? = some l)(hk:(b0j l i).kind=20){d:Int×Int}(hd:b1s (b2q u) ((un:Int),(i:Int))=some d) :
  Val (b0e u) d∧(rwK (b0e u) d).kind=2∧∃ dd,(b0f u 0).find? (b5f 1 (b0j l i).text)=some dd∧d=(dd.unit,dd.node):=by
 obtain⟨h1,h2⟩:=b8E hl hd
 rw[hk,d1E]at h2
 unfold c2T at h2
 rw[if_neg (by simp),b9q]at h2
 obtain⟨dd,hdd,rfl⟩:=g9l.1 h2
 have hkey:=List.find?_some hdd
 simp only[b5f,g9g,g9h]at hkey
 obtain⟨un',nd',l',q1,q2,q3,q4,q5,q6⟩:=h.decl (g9V hdd)
 refine⟨?_,?_,dd,hdd,rfl⟩
 ·rw[q1,q2];exact⟨un',nd',l',rfl,q3,q4⟩
 ·rw[q1,q2,b0T q3];omega
def f9a(u:List Un)(k:Int×Int):Nat:=match u[k.1.toNat]? with
 | some x=>f1N x.tree k.2.toNat
 | none=>0
theorem SndU.ckT{u:List Un}(h:SndU u):CkT u:=by
 have hW:CkW u:=⟨h.fit,h.br,h.gram,fun d hd hk=>by
  obtain⟨un,nd,l,h1,h2,h3,h4,h5,h6⟩:=h.decl hd
  exact⟨un,nd,l,h1,h2,h3,h4,by omega⟩⟩
 refine⟨hW,⟨f9a u,?_⟩,?_,?_⟩
 ·rintro k ⟨un,i,l,rfl,hl,hi⟩
  have hg:=h.gram _ (g9f hl)
  have hle:=hg.least i hi
  obtain⟨x,hx,hlx⟩:=b2R h.br hl
  have hlen:l.length=(b0o x.tree).length:=by rw[hlx];exact b0N ..
  have hmu:∀ j:Nat,f9a u ((un:Int),(j:Int))=f1N x.tree j:=fun j=>by simp[f9a,hx]
  rw[b5v hl,hmu]
  refine⟨by rw[hlen];exact f0K (by omega),fun q hq=>?_⟩
  unfold tgt at hq
  rw[b0T hl,b3y hl]at hq
  rcases hq with⟨hk,rfl⟩ | ⟨hk,d,hd,h10,rfl⟩
  ·have hk1:0<(b0j l i).kids.length:=by rcases hk with hk | hk <;> (rw[hk]at hle;simp[b0U]at hle;omega)
   have hkd:=hg.kid i hi 0 hk1
   refine⟨⟨un,_,l,rfl,hl,hkd.2.1⟩,rfl,?_⟩
   rw[hmu]
   have hgt:=b3Y hk1
   subst hlx
   obtain⟨k,t,g,ks,e1,e2,e3,e4⟩:=b1L hi
   rw[e4]at hgt
   obtain⟨z,g1,g2,g3,g4,_⟩:=b7v e1 hgt
   refine c4y (by omega) ?_
   simp only[bfN,g9h]
   omega
  ·rcases h.var hl hi (.inl hk) hd with⟨v,x',rfl,hv,hx',hl',hvis,ht,hc⟩ | ⟨_,h9⟩
   ·rw[hx]at hx'
    cases hx'
    rw[b0T hl]at h10
    rw[b3y hl]
    rcases hc with⟨_,hend⟩ | hc
    ·have hlv:=hg.least v hv
     have hk1:0<(b0j l v).kids.length:=by rw[h10]at hlv;simp[b0U]at hlv;omega
     have hkd:=hg.kid v hv 0 hk1
     refine⟨⟨un,_,l,rfl,hl,hkd.2.1⟩,rfl,?_⟩
     rw[hmu]
     have hgt:=b3Y hk1
     subst hlx
     obtain⟨k,t,g,ks,e1,e2,e3,e4⟩:=b1L hv
     rw[e4]at hgt
     obtain⟨z,g1,g2,g3,g4,_⟩:=b7v e1 hgt
     obtain⟨ki,ti,gi,ksi,f1,_⟩:=b1L hi
     refine c4y (by omega) ?_
     simp only[bfN,g9h]
     have h1:=c2A f1
     have h2:=c4n (.mk ki ti gi ksi)
     omega
    ·omega
   ·omega
 ·intro k d hk hkk hd
  obtain⟨un,i,l,rfl,hl,hi⟩:=hk
  rw[b0T hl]at hkk
  rcases h.var hl hi hkk hd with⟨v,x',rfl,hv,hx',hl',hvis,ht,hc⟩ | ⟨h1,h9⟩
  ·rw[b0T hl]
   exact⟨⟨un,v,l,rfl,hl,hv⟩,hc.elim (fun h => .inr (.inr h.1)) .inl⟩
  ·exact⟨h1,.inr (.inl h9)⟩
 ·intro k d hk hkk hd
  obtain⟨un,i,l,rfl,hl,hi⟩:=hk
  rw[b0T hl]at hkk
  obtain⟨h1,h2,_⟩:=h.fnc hl hkk hd
  exact⟨h1,h2⟩
def c9Q(u:List Un)(un:Nat)(l:List Rw)(i:Nat):Bool :=
 if(b0j l i).kind=23 then(match b8I l i with | some p=>decide (c6Q l p=⟨#[]⟩) | none=>true)
 else if(b0j l i).kind=9 then !b1T l l.length (b1d l i 0)
 else if(b0j l i).kind=11 then(match b1s (b2q u) ((un:Int),(i:Int))with | some d=>decide ((rwK (b0e u) d).kind=9) | none=>false)
 else false
theorem c8i{u:List Un}(hT:CkT u)(ub:List Us)(pre:List VObj){un i:Nat}{l:List Rw}(hl:(b0e u)[un]? = some l)(hi:i<l.length) :
  b5C u ub pre 95 [.agg [.int .i64 un,.int .i64 i]] (.bool (c9Q u un l i)):=by
 intro kn sg ab z a K hm hK
 simp only[c9Q]at hK
 have hvk:Val (b0e u) ((un:Int),(i:Int)):=⟨un,i,l,rfl,hl,hi⟩
 have hd19:=hT.d19 ((un:Int),(i:Int))
 rw[b0T hl]at hd19
 have hg:=hT.gram l (g9f hl)
 have hle:=hg.least i hi
 have hkd:=hg.kid i hi
 refine b0r.tidyCk ?_
 refine b0A (fn:=Tryz.f95) Tryz.func95 rfl (by rw[Tryz.ntmps95];simp) ?_
 by_cases h23:(b0j l i).kind=23
 ·rw[if_pos h23]at hK
  simp -implicitDefEqProofs only[go_sem,Tryz.f95,ck4,b0d,b0b,b0c,b0a,g8V,g8W,g8X]
  refine b0E.callsS (b5o u (b0e u) ub pre.length hl hi) (by simp -implicitDefEqProofs only[go_sem]) ?_
  simp -implicitDefEqProofs only[go_sem,b0d,b0b,b0c,b0a,g8V,g8W,g8X,h23]
  have hJ:=c0l u (b0e u) ub pre.length hl hi hg.ok
  cases hfr:b8I l i with
  | none =>
   rw[hfr]at hJ hK
   refine b0E.callsS hJ (by simp -implicitDefEqProofs only[go_sem]) ?_
   simp -implicitDefEqProofs only[go_sem,b0d,b0b,b0c,b0a,g8V,g8W,g8X,g9u]
   exact⟨kn,sg,ab,_,[],rfl,by simp,hK _ _ _ hm⟩
  | some p =>
   rw[hfr]at hJ hK
   obtain⟨hp1,hp2,hp3⟩:=b5s hg hi hfr
   refine b0E.callsS hJ (by simp -implicitDefEqProofs only[go_sem]) ?_
   simp -implicitDefEqProofs only[go_sem,b0d,b0b,b0c,b0a,g8V,g8W,g8X,g9H,g9w]
   refine b0E.callsS (d2Z u (b0e u) ub pre.length hl hp1 hg.ok hp3) (by simp -implicitDefEqProofs only[go_sem]) ?_
   simp -implicitDefEqProofs only[go_sem,b0d,b0b,b0c,b0a,g8V,g8W,g8X]
   exact⟨kn,sg,ab,_,[],rfl,by simp,hK _ _ _ hm⟩
 rw[if_neg h23]at hK
 by_cases h9:(b0j l i).kind=9
 ·rw[if_pos h9]at hK
  have hk1:0<(b0j l i).kids.length:=by rw[h9]at hle;simp[b0U]at hle;omega
  simp -implicitDefEqProofs only[go_sem,Tryz.f95,ck4,b0d,b0b,b0c,b0a,g8V,g8W,g8X]
  refine b0E.callsS (b5o u (b0e u) ub pre.length hl hi) (by simp -implicitDefEqProofs only[go_sem]) ?_
  simp -implicitDefEqProofs only[go_sem,b0d,b0b,b0c,b0a,g8V,g8W,g8X,h9]
  refine b0E.callsS (d3g u (b0e u) ub pre.length (k:=0) hl hi hk1) (by simp -implicitDefEqProofs only[go_sem];rfl) ?_
  simp -implicitDefEqProofs only[go_sem,b0d,b0b,b0c,b0a,g8V,g8W,g8X]
  refine b0E.callsS (d1O u (b0e u) ub pre.length hl (hkd 0 hk1).2.1 hg) (by simp -implicitDefEqProofs only[go_sem]) ?_
  simp -implicitDefEqProofs only[go_sem,b0d,b0b,b0c,b0a,g8V,g8W,g8X]
  exact⟨kn,sg,ab,_,[],rfl,by simp,hK _ _ _ hm⟩
 rw[if_neg h9]at hK
 by_cases h11:(b0j l i).kind=11
 ·rw[if_pos h11]at hK
  simp -implicitDefEqProofs only[go_sem,Tryz.f95,ck4,b0d,b0b,b0c,b0a,g8V,g8W,g8X]
  refine b0E.callsS (b5o u (b0e u) ub pre.length hl hi) (by simp -implicitDefEqProofs only[go_sem]) ?_
  simp -implicitDefEqProofs only[go_sem,b0d,b0b,b0c,b0a,g8V,g8W,g8X,h11]
  refine b0h (cs:=[]) b0v (by kernel_rfl) ?_
  cases hd:b1s (b2q u) ((un:Int),(i:Int))with
  | none =>
   rw[hd]at hK
   simp -implicitDefEqProofs only[go_sem,b0d,b0b,b0c,b0a,g8V,g8W,g8X,b1M,b6p,hd,h0m,h0a,g9u]
   exact⟨kn,sg,ab,_,[],rfl,by simp,hK _ _ _ hm⟩
  | some d =>
   obtain⟨hdv,hdk⟩:=hd19 d hvk (.inr h11) hd
   rw[hd]at hK
   simp -implicitDefEqProofs only[go_sem,b0d,b0b,b0c,b0a,g8V,g8W,g8X,b1M,b6p,hd,g9z,g9w,g9H,b6C]
   obtain⟨un',i',l',rfl,hl',hi'⟩:=id hdv
   simp only at hK
   rw[b0T hl']at hK
   refine b0E.callsS (b5o u (b0e u) ub pre.length hl' hi') (by simp -implicitDefEqProofs only[go_sem]) ?_
   simp -implicitDefEqProofs only[go_sem,b0d,b0b,b0c,b0a,g8V,g8W,g8X]
   exact⟨kn,sg,ab,_,[],rfl,by simp,hK _ _ _ hm⟩
 rw[if_neg h11]at hK
 simp -implicitDefEqProofs only[go_sem,Tryz.f95,ck4,b0d,b0b,b0c,b0a,g8V,g8W,g8X]
 refine b0E.callsS (b5o u (b0e u) ub pre.length hl hi) (by simp -implicitDefEqProofs only[go_sem]) ?_
 simp -implicitDefEqProofs only[go_sem,b0d,b0b,b0c,b0a,g8V,g8W,g8X,h23,h9,h11]
 exact⟨kn,sg,ab,_,[],rfl,by simp,hK _ _ _ hm⟩
end Go.Proofs.YtighfcpaplmaiaaGreatDoor
namespace Go.Vg
def b2f(q:Nat→Bool):Nat→Nat→Option Nat
 | 0,_=>none
 | n+1,i=>if q i=true then some i else b2f q n (i+1)
def b0P(p:Nat→Nat→Bool):List (List Rw)→Nat→Option (Nat×Nat)
 | [],_=>none
 | l::r,un=>match b2f (p un) l.length 0 with
  | some i=>some (un,i)
  | none=>b0P p r (un+1)
def d0e(o:Option (Nat×Nat)):V := .tuple [.agg [.int .i64 ((o.map (·.1)).getD 0:Nat),.int .i64 ((o.map (·.2)).getD 0:Nat)],.bool o.isSome]
end Go.Vg
namespace Go.Proofs.YtighfcpaplmaiaaGreatDoor
open Go Go.Vg Go.Proofs
def c3c(u:List Un)(pre z:List VObj)(T:V)(p:Nat→Nat→Bool):Prop:=∀ (un i:Nat) (l:List Rw),(b0e u)[un]? = some l→i<l.length→∀ (kn:KnM) (sg:SgM) (ab:AbM) (z':List VObj) (a:List Nat) (K:b1z),Mems u kn sg ab →
 (∀ kn' sg' ab',Mems u kn' sg' ab'→K (.bool (p un i)) (pre++ck4 (b2q u) kn' sg' ab' (z++z')) a)→vFn env T [.agg [.int .i64 un,.int .i64 i]] (pre++ck4 (b2q u) kn sg ab (z++z')) a K
theorem d0p{u:List Un}(hu:b2T u)(ub:List Us)(pre z:List VObj)(T:V)(p:Nat→Nat→Bool)(hT:c3c u pre z T p)(kn:KnM)(sg:SgM)(ab:AbM)(a:List Nat)(K:b1z)(hm:Mems u kn sg ab)
  (hK:∀ kn' sg' ab',Mems u kn' sg' ab'→K (d0e (b0P p (b0e u) 0)) (pre++ck4 (b2q u) kn' sg' ab' z) a) :
  b0r env 92 [.fptr (ckF u (b0e u) ub pre.length),T] (pre++ck4 (b2q u) kn sg ab z) a K:=by
 have htl0:(b0e u).length≤1000:=by unfold b0e;rw[g9r];exact hu.1
 have htk:=b8R hu
 unfold c3c at hT
 refine b0r.tidyCk ?_
 refine b0A (fn:=Tryz.f92) Tryz.func92 rfl (by rw[Tryz.ntmps92];simp) ?_
 simp -implicitDefEqProofs only[go_sem,Tryz.f92,ck4,b0d,b0b,b0c,b0a,g8V,g8W,g8X]
 intro _ _
 generalize hgoal:b0P p (b0e u) 0=goal at hK
 refine b0n (β:=KnM×SgM×AbM×List VObj) (b0e u) (fun q b=>⟨[(15,.int .i64 q.length),(14,.int .i64 (b0e u).length),(13,sl 45 (List.map b0q (b0e u))),(4,.ptr (pre.length+(z.length+1+1+1+1)) 0),(5,.bool false),(0,.fptr (ckF u (b0e u) ub pre.length)),(1,T)],
   pre++ck4 (b2q u) b.1 b.2.1 b.2.2.1 (z ++ .cells [.int .i64 0,.int .i64 0]::b.2.2.2),a⟩)
  (fun q r b=>Mems u b.1 b.2.1 b.2.2.1∧b0P p r q.length=goal) (kn,sg,ab,[]) ?_ ⟨hm,hgoal⟩ ?_ ?_
 ·simp -implicitDefEqProofs only[go_sem,ck4]
  exact⟨rfl,by omega⟩
 ·rintro⟨kn1,sg1,ab1,zz⟩ ⟨hm1,he⟩
  simp -implicitDefEqProofs only[go_sem,ck4,b0d,b0b,b0c,b0a,g8V,g8W,g8X]
  rw[←he]at hK
  exact⟨kn1,sg1,ab1,_,[],rfl,by simp,hK _ _ _ hm1⟩
 ·rintro q l r ⟨kn1,sg1,ab1,zz⟩ hx ⟨hm1,he⟩
  have hpl:(b0e u).length=q.length+1+r.length:=by rw[hx];simp;omega
  have hgx:((b0e u).map b0q).getD (q.length:Int).toNat []=b0q l:=by rw[hx];simp[g8Z]
  have hlt:((q.length:Int)<(b0e u).length)=True:=by simp;omega
  have hw:IntKind.i64.wrap (↑q.length+1)=↑(q.length+1):=b0g (by omega)
  have hll:=(htk l (by rw[hx];simp)).len
  have hul:(b0e u)[q.length]? = some l:=by rw[hx];simp
  simp only at hm1 he ⊢
  simp -implicitDefEqProofs only[go_sem,hgx,hlt,b0q,ck4,b0d,b0b,b0c,b0a,g8V,g8W,g8X]
  intro _ _
  have he0:b0P p (l::r) q.length=match b2f (p q.length) l.length 0 with | some i=>some (q.length,i) | none=>b0P p r (q.length+1):=rfl
  rw[he0]at he
  refine b0n (β:=KnM×SgM×AbM×List VObj) l (fun m b=>⟨[(22,.int .i64 m.length),(21,.int .i64 l.length),(20,sl 48 (l.map Rw.enc)),(6,.int .i64 q.length),(15,.int .i64 q.length),(14,.int .i64 (b0e u).length),(13,sl 45 (List.map b0q (b0e u))),(4,.ptr (pre.length+(z.length+1+1+1+1)) 0),(5,.bool false),(0,.fptr (ckF u (b0e u) ub pre.length)),(1,T)],
   pre++ck4 (b2q u) b.1 b.2.1 b.2.2.1 (z ++ .cells [.int .i64 0,.int .i64 0]::b.2.2.2),a⟩)
   (fun m post b=>Mems u b.1 b.2.1 b.2.2.1∧(match b2f (p q.length) post.length m.length with | some i=>some (q.length,i) | none=>b0P p r (q.length+1))=goal) (kn1,sg1,ab1,zz) ?_ ⟨hm1,he⟩ ?_ ?_
  ·simp -implicitDefEqProofs only[go_sem,ck4]
   exact⟨rfl,by omega⟩
  ·rintro⟨kn2,sg2,ab2,zz2⟩ ⟨hm2,he2⟩
   simp -implicitDefEqProofs only[go_sem,ck4,b0d,b0b,b0c,b0a,g8V,g8W,g8X]
   exact⟨(kn2,sg2,ab2,zz2),⟨hm2,he2⟩,hw,⟨rfl,rfl,rfl,b0s⟩,by simp only[];omega,.inl (by simp)⟩
  ·rintro m x post ⟨kn2,sg2,ab2,zz2⟩ hx2 ⟨hm2,he2⟩
   have hpl2:l.length=m.length+1+post.length:=by rw[hx2];simp;omega
   have hlt2:((m.length:Int)<l.length)=True:=by simp;omega
   have hw2:IntKind.i64.wrap (↑m.length+1)=↑(m.length+1):=b0g (by omega)
   simp only at hm2 he2 ⊢
   simp -implicitDefEqProofs only[go_sem,hlt2,ck4,b0d,b0b,b0c,b0a,g8V,g8W,g8X]
   refine hT q.length m.length l hul (by omega) kn2 sg2 ab2 _ _ _ hm2 ?_
   intro kn3 sg3 ab3 hm3
   have hfi:b2f (p q.length) (x::post).length m.length=if p q.length m.length=true then some m.length else b2f (p q.length) post.length (m.length+1):=rfl
   rw[hfi]at he2
   simp -implicitDefEqProofs only[go_sem,ck4,b0d,b0b,b0c,b0a,g8V,g8W,g8X]
   refine⟨fun hp=>?_,fun hp=>?_⟩
   ·rw[if_pos hp]at he2
    rw[←he2]at hK
    exact⟨kn3,sg3,ab3,_,[],rfl,by simp,hK _ _ _ hm3⟩
   ·rw[hp]at he2
    exact⟨(kn3,sg3,ab3,zz2++[.cells [.int .i64 q.length,.int .i64 m.length]]),⟨hm3,he2⟩,hw2,⟨rfl,rfl,rfl,b0s⟩,by simp only[];omega,.inl (by simp)⟩
end Go.Proofs.YtighfcpaplmaiaaGreatDoor
