import Derived.Test.YtighfcpaplmaiaaGreatDoorTnF
import Derived.Test.YtighfcpaplmaiaaGreatDoorShelf
import Derived.Lib.ItoaNum
import Derived.Lib.IndexMore
set_option linter.unusedVariables false
set_option linter.unusedSimpArgs false
namespace Go.Vg
mutual
theorem c3K:∀ (n:Nd) (p:Int) (a j:Nat) (r:Rw),(b0u n p a)[j]? = some r→(j=0∧r.parent=p)∨((a:Int)≤r.parent∧r.parent<a+j)
 | .mk k t g ks,p,a,j,r,h=>by
  rw[b0u]at h;cases j with
  | zero=>simp at h;subst h;exact .inl ⟨rfl,rfl⟩
  | succ j =>
   rw[g9Y]at h;have:=c5g ks a (a+1) j r (Nat.lt_succ_self _) h;exact .inr ⟨this.1,by omega⟩
theorem c5g:∀ (ks:List Nd) (p a j:Nat) (r:Rw),p<a→(b0X ks p a)[j]? = some r→(p:Int)≤r.parent∧r.parent<a+j
 | [],p,a,j,r,_,h=>by simp[b0X]at h
 | x::q,p,a,j,r,hpa,h=>by
  rw[b0X]at h;have hl:=b0K x p a;by_cases hj:j<(b0u x p a).length
  ·rw[h0e hj]at h;rcases c3K x p a j r h with⟨h1,h2⟩ | ⟨h1,h2⟩
   ·omega
   ·omega
  ·rw[h0g (by omega)]at h;have:=c5g q p (a+(b0o x).length) _ r (by omega) h;omega
end
mutual
theorem c1R:∀ (n:Nd) (p:Int) (a:Nat),(b0u n p a).map Rw.text=(b0o n).map Nd.text
 | .mk k t g ks,p,a=>by rw[b0u,b0o,h0s,h0s,c1l ks];rfl
theorem c1l:∀ (ks:List Nd) (p a:Nat),(b0X ks p a).map Rw.text=(b0k ks).map Nd.text
 | [],_,_=>rfl
 | x::q,p,a=>by rw[b0X,b0k,h0M,h0M,c1R x,c1l q]
end
theorem f1t(n:Nd)(hn:(b0o n).length≤1000000)(hs:b9u n):okR (b0u n (-1) 0):=by
 refine⟨by rw[b0K];exact hn,fun i r h=>?_⟩;have hp:=c3K n (-1) 0 i r h;have ht:r.text∈(b0o n).map Nd.text:=by
  rw[←c1R n (-1) 0];exact h1p.2 ⟨r,h0j h,rfl⟩
 obtain⟨x,hx,he⟩:=h1p.1 ht;have:=hs x hx;rw[he]at this;refine⟨by omega,by omega,this⟩
end Go.Vg
namespace Go.Proofs.YtighfcpaplmaiaaGreatDoor
open Go Go.Vg Go.Proofs
def c5B(l:List Rw)(u:Int)(at_:Nat)(r:Rw):Option Dl:=(b5x r.kind).map fun kd =>
 ⟨if kd=1∧(b3C l at_).isSome=true then 4 else kd,if kd=1 then(b3C l at_).getD ⟨#[]⟩else if kd=5∨kd=6 then fnR l (l.length+1) r.parent else⟨#[]⟩,r.text,u,at_⟩
def b2d(l:List Rw)(u:Int):List Rw→Nat→List Dl
 | [],_=>[]
 | r::q,i=>(c5B l u i r).toList++b2d l u q (i+1)
theorem c0r(l:List Rw)(u:Int)(x:Rw):∀ (pre:List Rw) i,b2d l u (pre++[x]) i=b2d l u pre i++(c5B l u (i+pre.length) x).toList
 | [],i=>by simp[b2d]
 | y::r,i=>by
  simp only[h0a,b2d,c0r l u x r,h0x,h0o];rw[show i+1+r.length=i+(r.length+1)by omega]
def b2g:List Un→Nat→List Dl
 | [],_=>[]
 | x::r,i=>(if x.broken=true then []else b2d (b0u x.tree (-1) 0) i (b0u x.tree (-1) 0) 0)++b2g r (i+1)
theorem d3p{l u i r}:(c5B l u i r).toList.length≤1:=by cases c5B l u i r <;> simp
theorem b7P(l:List Rw)(u:Int):∀ (q:List Rw) i,(b2d l u q i).length≤q.length
 | [],_=>h0q _
 | r::q,i=>by
  have:=b7P l u q (i+1);have:=d3p (l:=l) (u:=u) (i:=i) (r:=r);rw[b2d,h0h,h0o];omega
theorem b8t(x:Un):∀ (pre:List Un) i,b2g (pre++[x]) i=b2g pre i++(if x.broken=true then []else b2d (b0u x.tree (-1) 0) (i+pre.length:Nat) (b0u x.tree (-1) 0) 0)
 | [],i=>by simp[b2g]
 | y::r,i=>by
  simp only[h0a,b2g,b8t x r,h0x,h0o];rw[show i+1+r.length=i+(r.length+1)by omega]
theorem b9Z:∀ (u:List Un) i,(∀ x∈u,(b0o x.tree).length≤1000)→(b2g u i).length≤u.length * 1000
 | [],_,_=>by simp[b2g]
 | x::r,i,h=>by
  have h1:=b9Z r (i+1) fun y hy=>h y (by simp[hy])
  have h2:=b7P (b0u x.tree (-1) 0) i (b0u x.tree (-1) 0) 0;have h3:=h x (by simp);rw[b0K]at h2;rw[b2g,h0h,h0o];have h4:(if x.broken=true then []else b2d (b0u x.tree (-1) 0) i (b0u x.tree (-1) 0) 0).length≤1000:=by
   by_cases hb:x.broken=true
   ·rw[if_pos hb,h0J];omega
   ·rw[if_neg hb];omega
  omega
theorem c9Q(k:Int):∃ o,d8T (.int .i64) (.int .i64 k) (.int .i64 1) [(.int .i64 7,.int .i64 2),(.int .i64 9,.int .i64 3),(.int .i64 4,.int .i64 5),(.int .i64 10,.int .i64 6)] 0 (some (k == 2))=some o∧(b5x k=none→o=none)∧∀ kd,b5x k=some kd→∃ i,o=some (i,.int .i64 kd):=by
 by_cases h1:k=2
 ·subst h1;exact⟨_,rfl,by simp[b5x],fun kd h=>⟨0,by simp[b5x]at h;subst h;rfl⟩⟩
 by_cases h2:k=7
 ·subst h2;exact⟨_,rfl,by simp[b5x],fun kd h=>⟨1,by simp[b5x]at h;subst h;rfl⟩⟩
 by_cases h3:k=9
 ·subst h3;exact⟨_,rfl,by simp[b5x],fun kd h=>⟨2,by simp[b5x]at h;subst h;rfl⟩⟩
 by_cases h4:k=4
 ·subst h4;exact⟨_,rfl,by simp[b5x],fun kd h=>⟨3,by simp[b5x]at h;subst h;rfl⟩⟩
 by_cases h5:k=10
 ·subst h5;exact⟨_,rfl,by simp[b5x],fun kd h=>⟨4,by simp[b5x]at h;subst h;rfl⟩⟩
 have b1:=beq_false_of_ne h1;have b2:=beq_false_of_ne h2;have b3:=beq_false_of_ne h3;have b4:=beq_false_of_ne h4;have b5:=beq_false_of_ne h5;refine⟨none,?_,fun _=>rfl,fun kd h=>by simp[b5x,h1,h2,h3,h4,h5]at h⟩;simp -implicitDefEqProofs only[go_sem,b1,b2,b3,b4,b5]
theorem d3g(u:List Un)(hu:b2D u):b0s env 28 [sl 70 (u.map Un.enc)] (sl 54 ((b2g u 0).map Dl.enc)):=by
 refine b0i (fn:=Tryz.f28) Tryz.func28 rfl (by rw[Tryz.ntmps28];simp) (by simp -implicitDefEqProofs only[go_sem];exact b0v _) (by simp -implicitDefEqProofs only[go_sem];exact b0D _) ?_;simp -implicitDefEqProofs only[go_sem,Tryz.f28];refine f4R _ _ _ ?_;simp -implicitDefEqProofs only[go_sem];intro _ _;have hul:=hu.1;refine b0l (β:=Unit) u (fun pre _=>⟨[(18,.int .i64 pre.length),(17,.int .i64 u.length),(16,sl 70 (u.map Un.enc)),(4,.slice (.arr 0) 54 ((b2g pre 0).map Dl.enc)),(3,.map 0),(2,.slice .nil 0 [])],[b8G],[(b2g pre 0).length]⟩)
  (fun _ _ _=>True) () ?_ trivial ?_ ?_
 ·simp only[b2g];simp -implicitDefEqProofs only[go_sem,b8G];rfl
 ·intro _ _;simp -implicitDefEqProofs only[go_sem]
 ·rintro pre x post _ rfl _;have hx:=hu.2 x b1x;have hpl:(pre++x::post).length=pre.length+1+post.length:=by simp;omega
  simp -implicitDefEqProofs only[go_sem,b8G];have hdl:=b9Z pre 0 fun y hy=>(hu.2 y (by simp[hy])).1
  have hsn:=b8t x pre 0;refine⟨fun hbr=>?_,fun hbr=>?_⟩
  ·rw[if_pos hbr,h0F]at hsn;exact⟨(),⟨b0g (by omega),by rw[hsn]⟩,by rw[hsn],.inr ⟨rfl,by rw[b0m _ _ _ (b0D _),b0m _ _ _ (b0v _)];rfl⟩⟩
  ·rw[if_neg (by rw[hbr];decide),h0w]at hsn;have hok:=f1t x.tree (by omega) hx.2;have hrl:=b0K x.tree (-1) 0;refine(d4H x.tree (by omega)).calls (by simp -implicitDefEqProofs only[go_sem]) ?_;generalize b0u x.tree (-1) 0=R at hsn hok hrl ⊢;simp -implicitDefEqProofs only[go_sem];intro hb2 hl2;refine b0l (β:=Unit) R (fun p2 _=>⟨[(30,.int .i64 p2.length),(29,.int .i64 R.length),(28,sl 48 (R.map Rw.enc)),(7,sl 48 (R.map Rw.enc)),(5,.int .i64 pre.length),(18,.int .i64 pre.length),(17,.int .i64 (pre++x::post).length),(16,sl 70 ((pre++x::post).map Un.enc)),
     (4,.slice (.arr 0) 54 ((b2g pre 0++b2d R pre.length p2 0).map Dl.enc)),(3,.map 0),(2,.slice .nil 0 [])],[b8G,.dead],[(b2g pre 0++b2d R pre.length p2 0).length]⟩) (fun _ _ _=>True) () ?_ trivial ?_ ?_
   ·simp only[b2d,h0F];simp -implicitDefEqProofs only[go_sem,b8G];rfl
   ·intro _ _;simp -implicitDefEqProofs only[go_sem,b8G];exact⟨(),⟨b0g (by omega),by rw[hsn]⟩,by rw[hsn],.inr ⟨rfl,by rw[b0m _ _ _ (b0D _),b0m _ _ _ (b0v _)];rfl⟩⟩
   ·intro p2 r q _ hR _;have hg:R[p2.length]? = some r:=by rw[hR];simp
    have hlp:R.length=p2.length+1+q.length:=by rw[hR];simp;omega
    simp -implicitDefEqProofs only[go_sem,b8G,b7x hg,c3y hg];refine⟨fun _=>⟨by omega,?_⟩,fun h=>absurd (show(p2.length:Int)<R.length by omega) h⟩;obtain⟨o,ho,hn0,hs0⟩:=c9Q r.kind;rw[ho];have hsr:=c0r R pre.length r p2 0;rw[h0w]at hsr;have hd:c5B R pre.length p2.length r=(b5x r.kind).map fun kd=>⟨if kd=1∧(b3C R p2.length).isSome=true then 4 else kd,if kd=1 then(b3C R p2.length).getD ⟨#[]⟩else if kd=5∨kd=6 then fnR R (R.length+1) r.parent else⟨#[]⟩,r.text,pre.length,p2.length⟩:=rfl
    cases hk:b5x r.kind with
    | none =>
     rw[hn0 hk];rw[hk,h1r]at hd;rw[hd]at hsr;simp only[Option.toList,h0F]at hsr;simp -implicitDefEqProofs only[go_sem];exact⟨(),⟨b0g (by omega),by rw[hsr]⟩,by rw[hsr],.inr ⟨rfl,by rw[b0m _ _ _ (b0T _),b0m _ _ _ (b0D _),b0m _ _ _ (b0v _)];rfl⟩⟩
    | some kd =>
     obtain⟨i,rfl⟩:=hs0 kd hk;rw[hk,h0D]at hd;rw[hd]at hsr;simp only[Option.toList]at hsr;simp -implicitDefEqProofs only[go_sem,b7x hg,c3y hg];have hcl:=d7C R hok p2.length (by omega);have hkd:kd=1∨kd=2∨kd=3∨kd=5∨kd=6:=by
      unfold b5x at hk
      repeat' split at hk
      all_goals(cases hk <;> simp)
     have hln:(b2g pre 0++b2d R pre.length p2 0).length+1≤100000000:=by
      have:=b7P R pre.length p2 0;rw[h0h];omega
     have hfn:=d2i R hok p2.length r hg;refine hcl.cq ?_;generalize b3C R p2.length=co at hsr ⊢;generalize fnR R (R.length+1) r.parent=fo at hsr hfn ⊢;rcases hkd with rfl | rfl | rfl | rfl | rfl
     ·cases co with
      | none =>
       simp -implicitDefEqProofs only[go_sem,b8J,Option.isSome,Option.getD,Int.reduceEq,Int.reduceBEq];refine⟨by omega,(),⟨b0g (by omega),?_⟩,?_,.inr ⟨rfl,by rw[b0m _ _ _ (b0T _),b0m _ _ _ (b0D _),b0m _ _ _ (b0v _)];rfl⟩⟩
       ·rw[hsr];simp[Dl.enc]
       ·rw[hsr];simp;try omega
      | some c =>
       simp -implicitDefEqProofs only[go_sem,b8J,Option.isSome,Option.getD,Int.reduceEq,Int.reduceBEq];refine⟨by omega,(),⟨b0g (by omega),?_⟩,?_,.inr ⟨rfl,by rw[b0m _ _ _ (b0T _),b0m _ _ _ (b0D _),b0m _ _ _ (b0v _)];rfl⟩⟩
       ·rw[hsr];simp[Dl.enc]
       ·rw[hsr];simp;try omega
     ·simp -implicitDefEqProofs only[go_sem,b8J,Int.reduceEq,Int.reduceBEq];refine⟨fun _=>?_,fun _=>?_⟩;all_goals
       refine⟨by omega,(),⟨b0g (by omega),?_⟩,?_,.inr ⟨rfl,by rw[b0m _ _ _ (b0T _),b0m _ _ _ (b0D _),b0m _ _ _ (b0v _)];rfl⟩⟩
       ·rw[hsr];simp[Dl.enc]
       ·rw[hsr];simp;try omega
     ·simp -implicitDefEqProofs only[go_sem,b8J,Int.reduceEq,Int.reduceBEq];refine⟨fun _=>?_,fun _=>?_⟩;all_goals
       refine⟨by omega,(),⟨b0g (by omega),?_⟩,?_,.inr ⟨rfl,by rw[b0m _ _ _ (b0T _),b0m _ _ _ (b0D _),b0m _ _ _ (b0v _)];rfl⟩⟩
       ·rw[hsr];simp[Dl.enc]
       ·rw[hsr];simp;try omega
     ·simp -implicitDefEqProofs only[go_sem,b8J,Int.reduceEq,Int.reduceBEq];refine⟨fun _=>?_,fun _=>?_⟩;all_goals
       refine hfn.cq ?_;simp -implicitDefEqProofs only[go_sem,b8J,Int.reduceEq,Int.reduceBEq];refine⟨by omega,(),⟨b0g (by omega),?_⟩,?_,.inr ⟨rfl,by rw[b0m _ _ _ (b0T _),b0m _ _ _ (b0D _),b0m _ _ _ (b0v _)];rfl⟩⟩
       ·rw[hsr];simp[Dl.enc]
       ·rw[hsr];simp;try omega
     ·simp -implicitDefEqProofs only[go_sem,b8J,Int.reduceEq,Int.reduceBEq];refine⟨fun _=>?_,fun _=>?_⟩;all_goals
       refine hfn.cq ?_;simp -implicitDefEqProofs only[go_sem,b8J,Int.reduceEq,Int.reduceBEq];refine⟨by omega,(),⟨b0g (by omega),?_⟩,?_,.inr ⟨rfl,by rw[b0m _ _ _ (b0T _),b0m _ _ _ (b0D _),b0m _ _ _ (b0v _)];rfl⟩⟩
       ·rw[hsr];simp[Dl.enc]
       ·rw[hsr];simp;try omega
def d5Y(l:List Rw)(p:Int):Option ByteArray:=if p<0 then none else match l[p.toNat]? with
 | none=>none
 | some q=>if q.kind=7 then some q.text else none
theorem c4Q{l:List Rw}{i:Nat}{r:Rw}(h:l[i]? = some r):b3C l i=d5Y l r.parent:=by rw[b3C,h];rfl
def d2N(R:List Rw)(p:Int)(x:Ar):Prop:=d5Y R p=(if x.method=true then some x.cls else none)∧∀ f:Nat,p<f→fnR R f p=x.fn
theorem c1p(l:List Rw)(u:Int):∀ (X Y:List Rw) i,b2d l u (X++Y) i=b2d l u X i++b2d l u Y (i+X.length)
 | [],Y,i=>by simp[b2d]
 | r::X,Y,i=>by
  simp only[h0a,b2d,c1p l u X Y,h0x,h0o];rw[show i+1+X.length=i+(X.length+1)by omega]
theorem c5o{R:List Rw}{p:Int}{a:Nat}{r:Rw}{x:Ar}(hg:R[a]? = some r)(hp:r.parent=p)(hpa:p<a)(h:d2N R p x):d2N R a (b4b r.kind r.text x):=by
 obtain⟨h1,h2⟩:=h;refine⟨?_,fun f hf=>?_⟩
 ·rw[d5Y,if_neg (by omega),show(a:Int).toNat=a by omega,hg];simp[b4b]
 ·obtain⟨g,rfl⟩:∃ g,f=g+1:=⟨f - 1,by omega⟩
  rw[fnR,if_neg (by omega),show(a:Int).toNat=a by omega,hg,c4Q hg,hp,h1];simp only[b4b];by_cases hk:r.kind=2
  ·rw[if_pos hk,if_pos hk];cases hm:x.method <;> simp
  ·rw[if_neg hk,if_neg hk];show fnR R g r.parent=x.fn;rw[hp];exact h2 g (by omega)
theorem d5S{R:List Rw}{u:Int}{p:Int}{a:Nat}{r:Rw}{x:Ar}(hg:R[a]? = some r)(hp:r.parent=p)(hpa:p<a)(h:d2N R p x):c5B R u a r=b2u r.kind r.text u a x:=by
 obtain⟨h1,h2⟩:=h;have hal:=(h0b.1 hg).1;rw[c5B,c4Q hg,hp,h1,h2 _ (by omega)];unfold b5x b2u;by_cases k1:r.kind=2
 ·simp only[k1,if_true,h0D];cases hm:x.method <;> simp
 rw[if_neg k1,if_neg k1];by_cases k2:r.kind=7
 ·simp[k2]
 rw[if_neg k2,if_neg k2];by_cases k3:r.kind=9
 ·simp[k3]
 rw[if_neg k3,if_neg k3];by_cases k4:r.kind=4
 ·simp[k4]
 rw[if_neg k4,if_neg k4];by_cases k5:r.kind=10
 ·simp[k5]
 rw[if_neg k5,if_neg k5];rfl
mutual
theorem eqN(R:List Rw)(u:Int):∀ (n:Nd) (p:Int) (a:Nat) (x:Ar) (A B:List Rw),R=A++b0u n p a++B→A.length=a→p<a→d2N R p x→b2d R u (b0u n p a) a=b1z n u a x
 | .mk k t g ks,p,a,x,A,B,hR,hA,hpa,hag=>by
  have hg:R[a]? = some ⟨p,k,t,g,b0E ks (a+1)⟩:=by
   rw[hR,b0u,h0x,h0g (by omega),hA];simp
  rw[b0u]at hR ⊢;rw[b2d,b1z,d5S hg rfl hpa hag];congr 1;refine eqL R u ks a (a+1) (b4b k t x) (A++[⟨p,k,t,g,b0E ks (a+1)⟩]) B (by rw[hR];simp) (by simp[hA]) (by omega) (c5o hg rfl hpa hag)
theorem eqL(R:List Rw)(u:Int):∀ (ks:List Nd) (p a:Nat) (x:Ar) (A B:List Rw),R=A++b0X ks p a++B→A.length=a→p<a→d2N R p x→b2d R u (b0X ks p a) a=b0V ks u a x
 | [],p,a,x,A,B,_,_,_,_=>rfl
 | y::q,p,a,x,A,B,hR,hA,hpa,hag=>by
  have hl:=b0K y p a;rw[b0X]at hR ⊢;rw[c1p,b0V,hl];rw[eqN R u y p a x A (b0X q p (a+(b0o y).length)++B) (by rw[hR];simp) hA (by omega) hag];rw[eqL R u q p (a+(b0o y).length) x (A++b0u y p a) B (by rw[hR];simp) (by rw[h0h,hA,hl]) (by omega) hag]
end
theorem d4B(n:Nd)(u:Int):b2d (b0u n (-1) 0) u (b0u n (-1) 0) 0=b1z n u 0 Ar.none:=by
 refine eqN (b0u n (-1) 0) u n (-1) 0 Ar.none [] [] (by simp) rfl (by omega) ⟨?_,fun f hf=>?_⟩
 ·simp[d5Y,Ar.none]
 ·cases f <;> simp[fnR,Ar.none]
theorem b6r:∀ (u:List Un) i,b2g u i=b0e u i
 | [],_=>rfl
 | x::r,i=>by rw[b2g,b0e,d4B,b6r r]
end Go.Proofs.YtighfcpaplmaiaaGreatDoor
set_option maxRecDepth 20000
namespace Go.Vg
def Nd.node(n:Nd):Int:=if !n.shape then 7 else if(decide (n.kind=17) && !c2n n.text) || (!decide (n.kind=17) && b2s n.kind n.text && !b0F n.text)then 4
 else if 0<n.gaps.length∧(n.gaps.length:Int)≠n.own then 7 else if n.gaps.all b2V then 0 else 7
end Go.Vg
namespace Go.Proofs.YtighfcpaplmaiaaGreatDoor
open Go Go.Vg Go.Proofs
theorem d9Q(n:Nd)(hg:∀ s∈n.gaps,s.size≤1000000000):b0s env 220 [.agg n.enc] (.int .i64 n.node):=by
 obtain⟨k,t,g,ks⟩:=n;refine d2F (fn:=Tryz.f220) Tryz.func220 rfl (by rw[Tryz.ntmps220];simp) (by simp -implicitDefEqProofs only[go_sem]) rfl ?_;simp only[Tryz.f220];have e:List.map share [V.agg [V.int .i64 k,V.str t,sl 9 (g.map b0n),sl 66 (ks.map Nd.enc)]]=[V.agg (Nd.mk k t g ks).enc]:=by simp -implicitDefEqProofs only[go_sem]
 have hI:=c9O t;have hN:=c7C (.mk k t g ks);have hV:=d4K t;have hO:=f4z (.mk k t g ks);refine c3h ⟨[(1,.ptr 0 0)],[VObj.cells (Nd.mk k t g ks).enc],[]⟩ (by simp -implicitDefEqProofs only[go_sem]) ?_;by_cases hsh:(Nd.mk k t g ks).shape=true
 ·refine c3h ⟨[(1,.ptr 0 0)],[VObj.cells (Nd.mk k t g ks).enc],[]⟩ ?_ ?_
  ·simp -implicitDefEqProofs only[go_sem];refine(c7q (.mk k t g ks)).calls e ?_;simp -implicitDefEqProofs only[go_sem,hsh]
  ·have hnode:(Nd.mk k t g ks).node=if((decide (k=17) && !c2n t) || (!decide (k=17) && b2s k t && !b0F t))=true then 4 else if 0<g.length∧(g.length:Int)≠(Nd.mk k t g ks).own then 7 else if g.all b2V=true then 0 else 7:=by
    unfold Nd.node;rw[hsh];rfl
   have hN':b0s env 230 [.agg (Nd.mk k t g ks).enc] (.bool (b2s k t)):=hN;by_cases hb:((decide (k=17) && !c2n t) || (!decide (k=17) && b2s k t && !b0F t))=true
   ·rw[if_pos hb]at hnode;rw[hnode];refine b5p _ _ _ ?_;simp -implicitDefEqProofs only[go_sem];refine⟨fun h17=>?_,fun h17=>⟨fun _=>?_,fun h=>absurd h (by simp[h17])⟩⟩
    ·refine hI.calls rfl ?_;simp -implicitDefEqProofs only[go_sem,h17];refine fun h=>?_
     exfalso;simp_all
    ·refine hN'.calls e ?_;simp -implicitDefEqProofs only[go_sem,h17];refine⟨fun hnm=>?_,fun hnm=>?_⟩
     ·refine hV.calls rfl ?_;simp -implicitDefEqProofs only[go_sem,h17];refine fun h=>?_
      exfalso;simp_all
     ·exfalso;simp_all
   ·rw[if_neg hb]at hnode;refine c3h ⟨[(1,.ptr 0 0)],[VObj.cells (Nd.mk k t g ks).enc],[]⟩ ?_ ?_
    ·simp -implicitDefEqProofs only[go_sem];refine⟨fun h17=>?_,fun h17 _=>?_⟩
     ·refine hI.calls rfl ?_;simp -implicitDefEqProofs only[go_sem,h17];refine fun h=>?_
      exfalso;simp[h17]at hb;simp[hb]at h
     ·refine hN'.calls e ?_;simp -implicitDefEqProofs only[go_sem,h17];refine fun hnm=>?_
      refine hV.calls rfl ?_;simp -implicitDefEqProofs only[go_sem,h17];refine fun h=>?_
      exfalso;simp[h17,hnm]at hb;simp[hb]at h
    ·rw[hnode];by_cases hgo:0<g.length∧(g.length:Int)≠(Nd.mk k t g ks).own
     ·rw[if_pos hgo];refine b5p _ _ _ ?_;simp -implicitDefEqProofs only[go_sem];refine sdq ?_;simp -implicitDefEqProofs only[go_sem];refine⟨fun h0=>b0L hO e ?_,fun h0=>absurd (show(0:Int)<g.length by omega) h0⟩;simp -implicitDefEqProofs only[go_sem];intro h;exfalso;have:=hgo.2;simp_all
     ·rw[if_neg hgo];refine c3h ⟨[(1,.ptr 0 0)],[VObj.cells (Nd.mk k t g ks).enc],[]⟩ ?_ ?_
      ·simp -implicitDefEqProofs only[go_sem];refine sdq ?_;simp -implicitDefEqProofs only[go_sem];intro h0;refine b0L hO e ?_;simp -implicitDefEqProofs only[go_sem];intro h;exfalso;refine hgo ⟨by omega,?_⟩;simpa using h
      ·refine b5p _ _ _ ?_;simp -implicitDefEqProofs only[go_sem];refine b0l (β:=Unit) g (fun pre _=>⟨[(3,.int .i64 pre.length),(1,.ptr 0 0)],[VObj.cells (Nd.mk k t g ks).enc],[]⟩) (fun pre post _=>g.all b2V=post.all b2V) () ?_ rfl ?_ ?_
       ·simp -implicitDefEqProofs only[go_sem];rfl
       ·intro _ hi;simp -implicitDefEqProofs only[go_sem];intro _ _;rw[hi];rfl
       ·intro pre x post _ hgg hi;have hxl:g.length=pre.length+1+post.length:=by rw[hgg];simp;omega
        simp -implicitDefEqProofs only[go_sem,hgg];intro hb1 hb2;have hgx:x.size≤1000000000:=hg x (by show x∈g;rw[hgg];simp);have hpl:(pre++x::post).length=pre.length+1+post.length:=by simp;omega
        rw[hgg]at hi;simp -implicitDefEqProofs only[go_sem,b0n];refine(d6x x hgx).calls rfl ?_;simp -implicitDefEqProofs only[go_sem];refine⟨fun h=>?_,fun h=>?_⟩
        ·rw[hi];simp_all
        ·refine⟨(),?_,b0g (by omega)⟩;rw[hi];simp_all
 ·refine b5p _ _ _ ?_;simp -implicitDefEqProofs only[go_sem];refine(c7q (.mk k t g ks)).calls e ?_;have hsh':(Nd.mk k t g ks).shape=false:=by simpa using hsh
  simp -implicitDefEqProofs only[go_sem,hsh'];simp[Nd.node,hsh']
end Go.Proofs.YtighfcpaplmaiaaGreatDoor
namespace Go.Vg
mutual
def b5n:Nd→Int
 | .mk k t g ks=>if(Nd.mk k t g ks).node=0 then b5k ks else(Nd.mk k t g ks).node
def b5k:List Nd→Int
 | []=>0
 | x::r=>if b5n x=0 then b5k r else b5n x
end
def b5D(n:Nd):Prop:=∀ x∈b0o n,∀ s∈x.gaps,s.size≤1000000000
theorem d1n{k t g}{ks:List Nd}{x y:Nd}(hx:x∈ks)(hy:y∈b0o x):y∈b0o (.mk k t g ks):=by
 rw[b0o];refine List.mem_cons_of_mem _ ?_;induction ks with
 | nil=>cases hx
 | cons z r ih =>
  rw[b0k];rcases h0C.1 hx with rfl | hx
  ·exact h1e _ hy
  ·exact h1j _ (ih hx)
theorem c1M{k t g}{ks:List Nd}{x:Nd}(h:b5D (.mk k t g ks))(hx:x∈ks):b5D x:=fun y hy=>h y (d1n hx hy)
def b3T(n:Nd):Int:=if 4000<b5J n 1 then 3 else b5n n
end Go.Vg
namespace Go.Proofs.YtighfcpaplmaiaaGreatDoor
open Go Go.Vg Go.Proofs
theorem d6P:(n:Nd)→b5D n→b0s env 199 [.agg n.enc] (.int .i64 (b5n n)):=by
 refine Nd.all fun k t g ks ih hs=>?_
 have hnd:=d9Q (.mk k t g ks) (hs _ (by rw[b0o];exact List.mem_cons_self ..));refine b0i (fn:=Tryz.f199) Tryz.func199 rfl (by rw[Tryz.ntmps199];simp) (by simp -implicitDefEqProofs only[go_sem]) rfl ?_;simp -implicitDefEqProofs only[go_sem,Tryz.f199];refine hnd.cq ?_;simp -implicitDefEqProofs only[go_sem];refine b0l (β:=Int) ks (fun pre e=>⟨[(4,.int .i64 pre.length),(3,.int .i64 e),(2,.int .i64 0),(1,.ptr 0 0)],[VObj.cells (Nd.mk k t g ks).enc],[]⟩)
  (fun pre post e=>b5n (.mk k t g ks)=if e=0 then b5k post else e) (Nd.mk k t g ks).node ?_ ?_ ?_ ?_
 ·simp -implicitDefEqProofs only[go_sem];rfl
 ·rw[b5n]
 ·intro e hi;simp -implicitDefEqProofs only[go_sem];intro _ _;rw[hi,b5k];congr 1;split <;> simp_all
 ·rintro pre x post e rfl hi;have hxl:(pre++x::post).length=pre.length+1+post.length:=by simp;omega
  simp -implicitDefEqProofs only[go_sem];intro hb hl;refine⟨fun he=>?_,fun he=>by rw[hi,if_neg he]⟩;refine(ih x b1x (c1M hs b1x)).calls (by simp -implicitDefEqProofs only[go_sem]) ?_;simp -implicitDefEqProofs only[go_sem];refine⟨_,?_,b0g (by omega),rfl⟩;rw[hi,if_pos he,b5k]
theorem d5T(n:Nd)(hs:b5D n):b0s env 158 [.agg n.enc] (.int .i64 (b3T n)):=by
 refine b0i (fn:=Tryz.f158) Tryz.func158 rfl (by rw[Tryz.ntmps158];simp) (by simp -implicitDefEqProofs only[go_sem]) rfl ?_;simp -implicitDefEqProofs only[go_sem,Tryz.f158];refine(d9i n 1 (by omega) (by omega)).calls (by simp -implicitDefEqProofs only[go_sem]) ?_;simp -implicitDefEqProofs only[go_sem];refine⟨fun h=>?_,fun h=>?_⟩
 ·rw[b3T,if_pos (by omega)]
 ·refine(d6P n hs).calls (by simp -implicitDefEqProofs only[go_sem]) ?_;simp -implicitDefEqProofs only[go_sem];rw[b3T,if_neg (by omega)]
end Go.Proofs.YtighfcpaplmaiaaGreatDoor
namespace Go.Vg
def b1q(x:Un):Bool := !x.broken && decide (x.tree.kind=1) && decide (b3T x.tree=0)
def Un.sound(x:Un):Un:=if b1q x=true then x else { x with tree:=Nd.zero,broken:=true }
def b7O(u:List Un):Prop:=∀ x∈u,b5D x.tree
end Go.Vg
namespace Go.Proofs.YtighfcpaplmaiaaGreatDoor
open Go Go.Vg Go.Proofs
theorem d5x(x:Un)(hs:b5D x.tree):b0s env 100 [.agg x.enc] (.bool (b1q x)):=by
 refine b0i (fn:=Tryz.f100) Tryz.func100 rfl (by rw[Tryz.ntmps100];simp) (by simp -implicitDefEqProofs only[go_sem]) rfl ?_;simp -implicitDefEqProofs only[go_sem,Tryz.f100];refine⟨fun hb=>⟨fun hk=>?_,fun hk=>by simp[b1q,hk]⟩,fun hb=>by simp_all [b1q]⟩;refine(d5T x.tree hs).calls (by simp -implicitDefEqProofs only[go_sem]) ?_;simp -implicitDefEqProofs only[go_sem];simp_all [b1q]
end Go.Proofs.YtighfcpaplmaiaaGreatDoor
namespace Go.Vg
structure Fi where
 kind:Int
 path:ByteArray
 name:ByteArray
 text:ByteArray
 deriving DecidableEq
def Fi.enc(x:Fi):List V:=[.int .i64 x.kind,.str x.path,.str x.name,.str x.text]
@[go_sem] theorem f6W(s:ByteArray){K:V→Prop}:vHead (b0n s) K=K (.str s):=rfl
def firstD:List Dl→ByteArray→Nat→Int
 | [],_,_ => -1
 | d::r,name,i=>if d.kind=2∧d.name=name then i else firstD r name (i+1)
def g0A(n:Nd):Prop:=∀ x∈b0o n,x.kind=26→x.kids≠[]
def b6W(u:List Un)(m n b:Int):Bool:=decide ((u.length:Int)≤m) && u.all fun x=>decide (0≤left x.tree n 60) && decide (0≤b3u x.tree b)
end Go.Vg
namespace Go.Proofs.YtighfcpaplmaiaaGreatDoor
open Go Go.Vg Go.Proofs
theorem b7y(l:List Dl)(name:ByteArray):b0s env 114 [sl 54 (l.map Dl.enc),.str name] (.int .i64 (firstD l name 0)):=by
 refine b0i (fn:=Tryz.f114) Tryz.func114 rfl (by rw[Tryz.ntmps114];simp) (by simp -implicitDefEqProofs only[go_sem];exact b0D _) rfl ?_;simp -implicitDefEqProofs only[go_sem,Tryz.f114];refine b0l (β:=Unit) l (fun pre _=>⟨[(5,.int .i64 pre.length),(4,.int .i64 0),(0,sl 54 (l.map Dl.enc)),(1,.str name)],[],[]⟩) (fun pre post _=>firstD l name 0=firstD post name pre.length) () ?_ rfl ?_ ?_
 ·simp -implicitDefEqProofs only[go_sem];rfl
 ·intro _ hi;simp -implicitDefEqProofs only[go_sem];intro _ _;rw[hi];rfl
 ·rintro pre x post _ rfl hi;have hpl:(pre++x::post).length=pre.length+1+post.length:=by simp;omega
  simp -implicitDefEqProofs only[go_sem];intro _ hl;have hw:IntKind.i64.wrap (↑pre.length+1)=↑(pre.length+1):=b0g (by omega);rw[hi,firstD];refine⟨fun h1=>⟨fun h2=>by rw[if_pos ⟨h1,h2⟩],fun h2=>⟨(),?_,hw⟩⟩,fun h1=>⟨(),?_,hw⟩⟩
  ·rw[if_neg (fun h=>h2 h.2)]
  ·rw[if_neg (fun h=>h1 h.1)]
theorem f1B(u:List Un)(m n b:Int)(hn:n≤1000000)(hb:b≤1000000):b0s env 23 [sl 70 (u.map Un.enc),.int .i64 m,.int .i64 n,.int .i64 b] (.bool (b6W u m n b)):=by
 refine b0i (fn:=Tryz.f23) Tryz.func23 rfl (by rw[Tryz.ntmps23];simp) (by simp -implicitDefEqProofs only[go_sem,b0v]) rfl ?_;simp -implicitDefEqProofs only[go_sem,Tryz.f23];intro _ hl;refine⟨fun h=>by simp[b6W];omega,fun h=>?_⟩;have hm:decide ((u.length:Int)≤m)=true:=by simp;omega
 rw[b6W,hm,h0S];refine b0l (β:=Unit) u (fun pre _=>⟨[(9,.int .i64 pre.length),(8,.bool false),(0,sl 70 (u.map Un.enc)),(1,.int .i64 m),(2,.int .i64 n),(3,.int .i64 b)],[],[]⟩) (fun pre post _=>(u.all fun x=>decide (0≤left x.tree n 60) && decide (0≤b3u x.tree b))=post.all fun x=>decide (0≤left x.tree n 60) && decide (0≤b3u x.tree b)) () ?_ rfl ?_ ?_
 ·simp -implicitDefEqProofs only[go_sem];rfl
 ·intro _ hi;simp -implicitDefEqProofs only[go_sem];rw[hi];intro _ _;rfl
 ·rintro pre x post _ rfl hi;have hpl:(pre++x::post).length=pre.length+1+post.length:=by simp;omega
  simp -implicitDefEqProofs only[go_sem];intro _ _;refine(d6M x.tree n 60 b hn (by omega) hb).calls (by simp -implicitDefEqProofs only[go_sem]) ?_;simp -implicitDefEqProofs only[go_sem];have hw:IntKind.i64.wrap (↑pre.length+1)=↑(pre.length+1):=b0g (by omega);rw[hi,List.all_cons];generalize(decide (0≤left x.tree n 60) && decide (0≤b3u x.tree b))=c;refine⟨fun h=>?_,fun h=>⟨(),?_,hw⟩⟩
  ·have h':c=false:=by simpa using h
   rw[h'];rfl
  ·have h':c=true:=by simpa using h
   rw[h'];rfl
end Go.Proofs.YtighfcpaplmaiaaGreatDoor
namespace Go.Vg
def Rw.zero:Rw:=⟨0,0,⟨#[]⟩,[],[]⟩
def b0h(l:List Rw)(i:Nat):Rw:=l.getD i Rw.zero
def b1c(l:List Rw)(i j:Nat):Nat:=(b0h l i).kids.getD j 0
def b6u(l:List Rw)(ks:List Nat):List ByteArray:=ks.map fun k=>(b0h l (b1c l k 0)).text
def c2c(l:List Rw)(i:Nat):Prop:=l.length≤1000000∧i<l.length∧2≤(b0h l i).kids.length∧b1c l i 0<l.length∧b1c l i 1<l.length∧(b0h l (b1c l i 0)).kids.length≤1000000 ∧
 ∀ k∈(b0h l (b1c l i 0)).kids,k<l.length∧0<(b0h l k).kids.length∧b1c l k 0<l.length
structure Sg where
 params:List ByteArray
 result:ByteArray
def Sg.enc(s:Sg):List V:=[sl 9 (s.params.map b0n),.str s.result]
@[go_sem] theorem g8u(d:Sg):d.enc.length=2:=rfl
@[go_sem] theorem g1v(d:Sg):List.take 2 d.enc=d.enc:=rfl
@[go_sem] theorem f8L(d:Sg):List.map share1 d.enc=d.enc:=by simp -implicitDefEqProofs only[Sg.enc,go_sem]
@[go_sem] theorem g0Z(d:Sg):d.enc.all V.cell=true:=by simp -implicitDefEqProofs only[Sg.enc,go_sem]
def b2W(l:List Rw)(i:Nat):Sg:=⟨b6u l (b0h l (b1c l i 0)).kids,(b0h l (b1c l i 1)).text⟩
theorem c7P{l:List Rw}{i:Nat}(h:i<l.length):(l.map Rw.enc).getD i []=(b0h l i).enc:=by
 simp[b0h,h0c,h]
theorem b0z{l:List Rw}{i:Nat}(h:i<l.length):(l.map Rw.enc).getD (i:Int).toNat []=(b0h l i).enc:=c7P h
theorem b2p{l:List Rw}{i j:Nat}(h:j<(b0h l i).kids.length):((b0h l i).kids.map b0J).getD j []=[.int .i64 (b1c l i j)]:=by
 simp[b1c,h0c,h,b0J]
theorem b3V{l:List Rw}{i j:Nat}(h:j<(b0h l i).kids.length):((b0h l i).kids.map b0J).getD (j:Int).toNat []=[.int .i64 (b1c l i j)]:=b2p h
theorem b5L:∀ l:List ByteArray,b0P (l.map b0n)=true
 | []=>rfl
 | x::r=>by simp only[h0s,b0P,b5L r,h1g];rfl
end Go.Vg
namespace Go.Proofs.YtighfcpaplmaiaaGreatDoor
open Go Go.Vg Go.Proofs
theorem c3r(l:List Rw)(i:Nat)(h:c2c l i):b0s env 110 [sl 48 (l.map Rw.enc),.int .i64 i] (.agg (b2W l i).enc):=by
 obtain⟨h0,h1,h2,h3,h4,h6,h5⟩:=h;refine b0i (fn:=Tryz.f110) Tryz.func110 rfl (by rw[Tryz.ntmps110];simp) (by simp -implicitDefEqProofs only[go_sem];exact b0T _) (by simp -implicitDefEqProofs only[go_sem,Sg.enc]) ?_;simp -implicitDefEqProofs only[go_sem,Tryz.f110,b0z h1,b2p (j:=0) (show 0<(b0h l i).kids.length by omega),b3V (j:=0) (show 0<(b0h l i).kids.length by omega),b0z h3];refine⟨by omega,by omega,by omega,?_⟩;have hks:=h5;generalize hq:(b0h l (b1c l i 0)).kids=ks at h6 h5 hks ⊢;refine b0l (β:=Unit) ks (fun pre _=>⟨[(7,.int .i64 pre.length),(6,sl 3 (ks.map b0J)),(5,.ptr 1 0),(4,.ptr 0 0),(0,sl 48 (l.map Rw.enc)),(1,.int .i64 i)],
   [.cells [.slice .nil 0 [],.str ⟨#[]⟩],.cells [.slice (.arr 0) 9 ((b6u l pre).map b0n),.str ⟨#[]⟩]],[pre.length]⟩) (fun _ _ _=>True) () ?_ trivial ?_ ?_
 ·simp only[b6u,h0T];simp -implicitDefEqProofs only[go_sem];rfl
 ·intro _ _;simp -implicitDefEqProofs only[go_sem,b0z h1,b2p (j:=1) (show 1<(b0h l i).kids.length by omega),b3V (j:=1) (show 1<(b0h l i).kids.length by omega),b0z h4];intro _ _;refine⟨by omega,by omega,by omega,?_⟩;simp[b2W,Sg.enc,hq]
 ·rintro pre x post _ rfl _;have hpl:(pre++x::post).length=pre.length+1+post.length:=by simp;omega
  obtain⟨g1,g2,g3⟩:=h5 x (by simp);have hgx:((pre++x::post).map b0J).getD (pre.length:Int).toNat []=[.int .i64 x]:=by
   simp[h0c,b0J]
  have hpp:b6u l (pre++[x])=b6u l pre++[(b0h l (b1c l x 0)).text]:=by simp[b6u]
  have hppl:(b6u l pre).length=pre.length:=by simp[b6u]
  simp -implicitDefEqProofs only[go_sem,hppl];intro _ _;refine sdq ?_;simp -implicitDefEqProofs only[go_sem,hgx,b0J,b0z g1,b2p (j:=0) g2,b3V (j:=0) g2,b0z g3,hppl];refine⟨by omega,by omega,by omega,by omega,(),b0g (by omega),?_⟩;rw[hpp,h0M];rfl
def f4d(u:List Un)(d:Dl):Prop:=0≤d.unit∧0≤d.node∧∃ x,u[d.unit.toNat]? = some x∧c2c (b0u x.tree (-1) 0) d.node.toNat
def ofU(u:List Un)(kind:Int)(owner name:ByteArray):Option Sg:=(c6E (b0e u 0) kind owner name).bind fun d=>(u[d.unit.toNat]?).map fun x=>b2W (b0u x.tree (-1) 0) d.node.toNat
theorem f1S{u:List Un}{i:Int}{x:Un}(h:u[i.toNat]? = some x):(u.map Un.enc).getD i.toNat []=x.enc:=by
 rw[h0c,h0u,h];rfl
end Go.Proofs.YtighfcpaplmaiaaGreatDoor
namespace Go.Vg
def d8f(owner:ByteArray):Int:=if owner=⟨#[]⟩then 1 else 4
end Go.Vg
namespace Go.Proofs.YtighfcpaplmaiaaGreatDoor
open Go Go.Vg Go.Proofs
def f4g(u:List Un)(owner name:ByteArray):Option Sg:=ofU (u.map Un.sound) (d8f owner) owner name
theorem c8g(k:Int):b0s env 204 [.int .i64 k] (.bool (decide (1≤k) && decide (k<27))):=by
 refine b0i (fn:=Tryz.f204) Tryz.func204 rfl (by rw[Tryz.ntmps204];simp) (by simp -implicitDefEqProofs only[go_sem]) rfl ?_;simp -implicitDefEqProofs only[go_sem,Tryz.f204];exact⟨fun h=>by simp[h],fun h=>by simp[h]⟩
theorem d0J(k:Int):b0s env 59 [.int .i64 k] (.int .i64 (b1D k)):=by
 refine b0i (fn:=Tryz.f59) Tryz.func59 rfl (by rw[Tryz.ntmps59];simp) (by simp -implicitDefEqProofs only[go_sem]) rfl ?_;simp -implicitDefEqProofs only[go_sem,Tryz.f59]
 repeat' (first | apply And.intro | intro)
 all_goals(first | contradiction | omega | (congr 1;unfold b1D;grind))
theorem g2c(k:Int):b0s env 203 [.int .i64 k] (.int .i64 (b9M k)):=by
 refine b0i (fn:=Tryz.f203) Tryz.func203 rfl (by rw[Tryz.ntmps203];simp) (by simp -implicitDefEqProofs only[go_sem]) rfl ?_;simp -implicitDefEqProofs only[go_sem,Tryz.f203]
 repeat' (first | apply And.intro | intro)
 all_goals(first | contradiction | omega | (congr 1;unfold b9M;grind))
theorem b8r(n:Nd):b0s env 222 [.agg n.enc] (.int .i64 n.level):=by
 obtain⟨k,t,g,ks⟩:=n;refine b0i (fn:=Tryz.f222) Tryz.func222 rfl (by rw[Tryz.ntmps222];simp) (by simp -implicitDefEqProofs only[go_sem]) rfl ?_;simp -implicitDefEqProofs only[go_sem,Tryz.f222];refine(d0J k).calls (by simp -implicitDefEqProofs only[go_sem]) ?_;simp -implicitDefEqProofs only[go_sem];have e:(Nd.mk k t g ks).level=b3s k t:=rfl;rw[e];have h24:b1D 24=3:=by decide
 have h25:b1D 25=3:=by decide
 repeat' (first | apply And.intro | intro)
 all_goals(first | contradiction | (congr 1;unfold b3s b9P;grind))
end Go.Proofs.YtighfcpaplmaiaaGreatDoor
namespace Go.Vg
mutual
def b3w:Nd→Int→Int→Int
 | .mk k t g ks,l,d=>if l≤0∨d≤0∨b9M k<(ks.length:Int)then -1 else b2U ks (l - 1) (d - 1)
def b2U:List Nd→Int→Int→Int
 | [],l,_=>l
 | x::r,l,d=>if b3w x l d<0 then -1 else b2U r (b3w x l d) d
end
mutual
theorem c1P:∀ (n:Nd) (l d:Int),l≤1000000 → -1≤b3w n l d∧b3w n l d≤1000000
 | .mk k t g ks,l,d,h=>by
  rw[b3w];split
  ·omega
  ·rename_i hc;exact b9l ks (l - 1) (d - 1) (by omega) (by omega)
theorem b9l:∀ (ks:List Nd) (l d:Int),-1≤l→l≤1000000 → -1≤b2U ks l d∧b2U ks l d≤1000000
 | [],l,d,h0,h=>⟨h0,h⟩
 | x::r,l,d,h0,h=>by
  have h1:=c1P x l d h;rw[b2U];split
  ·omega
  ·exact b9l r _ d h1.1 h1.2
end
end Go.Vg
namespace Go.Proofs.YtighfcpaplmaiaaGreatDoor
open Go Go.Vg Go.Proofs
theorem f0t:(n:Nd)→∀ (l d:Int),l≤1000000→d≤1000000 → -1000000≤d→b0s env 180 [.agg n.enc,.int .i64 l,.int .i64 d] (.int .i64 (b3w n l d)):=by
 refine Nd.all fun k t g ks ih l d h1 h2 h3=>?_
 refine b0i (fn:=Tryz.f180) Tryz.func180 rfl (by rw[Tryz.ntmps180];simp) (by simp -implicitDefEqProofs only[go_sem]) rfl ?_;simp -implicitDefEqProofs only[go_sem,Tryz.f180];rw[b3w];refine sdq ?_;simp -implicitDefEqProofs only[go_sem];refine⟨fun a1=>⟨fun a2=>?_,fun a2=>by rw[if_pos (by omega)]⟩,fun a1=>by rw[if_pos (by omega)]⟩;refine b0L (g2c k) rfl ?_;simp -implicitDefEqProofs only[go_sem];refine⟨fun a3=>by rw[if_pos (by omega)],fun a3=>?_⟩;rw[if_neg (by omega)];intro hb hl;refine b0l (β:=Int) ks (fun pre m=>⟨[(29,.int .i64 pre.length),(28,.int .i64 ks.length),(27,sl 66 (ks.map Nd.enc)),(1,.int .i64 m),(2,.int .i64 d)],[.dead],[]⟩)
  (fun pre post m=>b2U ks (l - 1) (d - 1)=b2U post m (d - 1)∧0≤m∧m≤1000000) (l - 1) ?_ ⟨rfl,by omega,by omega⟩ ?_ ?_
 ·simp -implicitDefEqProofs only[go_sem];exact⟨rfl,Vg.wrap_small (by omega) (by omega)⟩
 ·rintro m ⟨hi,_⟩;simp -implicitDefEqProofs only[go_sem];rw[hi];rfl
 ·rintro pre x post m rfl ⟨hi,hm0,hm⟩;have hpl:(pre++x::post).length=pre.length+1+post.length:=by simp;omega
  simp -implicitDefEqProofs only[go_sem];rw[Vg.wrap_small (x:=d - 1) (by omega) (by omega)];have hle:=c1P x m (d - 1) hm;refine(ih x b1x m (d - 1) hm (by omega) (by omega)).calls (by simp -implicitDefEqProofs only[go_sem]) ?_;simp -implicitDefEqProofs only[go_sem];rw[hi,b2U];refine⟨fun h=>by rw[if_pos h],fun h=>⟨_,⟨?_,?_,?_⟩,b0g (by omega),rfl⟩⟩
  ·rw[if_neg h]
  ·omega
  ·omega
theorem f2g(n:Nd)(h0:n.kind=24→2≤n.kids.length)(h1:n.kind=25∨n.kind=21→1≤n.kids.length):b0s env 207 [.agg n.enc] (.bool n.levels):=by
 obtain⟨k,t,g,ks⟩:=n;simp only[Nd.kind,Nd.kids]at h0 h1;refine b0i (fn:=Tryz.f207) Tryz.func207 rfl (by rw[Tryz.ntmps207];simp) (by simp -implicitDefEqProofs only[go_sem]) rfl ?_;rcases ks with _ | ⟨a,_ | ⟨b,r⟩⟩
 ·have hk:¬ k=24∧¬ k=25∧¬ k=21:=⟨fun h=>by simp at h0;omega,fun h=>by simp at h1;omega,fun h=>by simp at h1;omega⟩
  simp -implicitDefEqProofs only[go_sem,Tryz.f207,hk.1,hk.2.1,hk.2.2];rfl
 ·have hk:¬ k=24:=fun h=>by simp at h0;omega
  simp -implicitDefEqProofs only[go_sem,Tryz.f207,hk];refine⟨fun h=>⟨by omega,?_⟩,fun h=>⟨fun h2=>⟨by omega,?_⟩,fun h2=>?_⟩⟩
  ·refine(b8r a).calls (by simp -implicitDefEqProofs only[go_sem]) ?_;simp -implicitDefEqProofs only[go_sem];simp[Nd.levels,b2K,Nd.kind,Nd.text,Nd.kids,h]
  ·refine(b8r a).calls (by simp -implicitDefEqProofs only[go_sem]) ?_;simp -implicitDefEqProofs only[go_sem];simp[Nd.levels,b2K,Nd.kind,Nd.text,Nd.kids,h2]
  ·simp[Nd.levels,b2K,Nd.kind,Nd.text,Nd.kids,h,h2]
 ·simp -implicitDefEqProofs only[go_sem,Tryz.f207];refine⟨fun h=>?_,fun h=>⟨fun h2=>⟨by omega,?_⟩,fun h2=>⟨fun h3=>⟨by omega,?_⟩,fun h3=>?_⟩⟩⟩
  ·refine sdq ?_;simp -implicitDefEqProofs only[go_sem];refine b0L (b8r (.mk k t g (a::b::r))) (by simp -implicitDefEqProofs only[go_sem]) ?_;simp -implicitDefEqProofs only[go_sem];refine⟨by omega,?_⟩;refine vPd (b8r a) ?_;simp -implicitDefEqProofs only[go_sem];have hlv:(Nd.mk k t g (a::b::r)).level=b3s 24 t:=by simp[Nd.level,Nd.kind,Nd.text,h]
   rw[hlv];have hm:(Nd.mk k t g (a::b::r)).levels=(if b3s 24 t=3∧a.level=3 then false else decide (b3s 24 t≤a.level∧b3s 24 t<b.level)):=by simp[Nd.levels,b2K,Nd.kind,Nd.text,Nd.kids,h]
   rw[hm];have e:∀ x:Nd,List.map share [V.agg x.enc]=[V.agg x.enc]:=fun x=>by simp -implicitDefEqProofs only[go_sem]
   repeat' (first | apply And.intro | (refine(b8r a).calls (e a) ?_;simp -implicitDefEqProofs only[go_sem]) | (refine(b8r b).calls (e b) ?_;simp -implicitDefEqProofs only[go_sem]) | omega | intro)
   all_goals(try simp_all)
   all_goals omega
  ·refine(b8r a).calls (by simp -implicitDefEqProofs only[go_sem]) ?_;simp -implicitDefEqProofs only[go_sem];simp[Nd.levels,b2K,Nd.kind,Nd.text,Nd.kids,h2]
  ·refine(b8r a).calls (by simp -implicitDefEqProofs only[go_sem]) ?_;simp -implicitDefEqProofs only[go_sem];simp[Nd.levels,b2K,Nd.kind,Nd.text,Nd.kids,h3]
  ·simp[Nd.levels,b2K,Nd.kind,Nd.text,Nd.kids,h,h2,h3]
end Go.Proofs.YtighfcpaplmaiaaGreatDoor
namespace Go.Vg
def c6l(a b:Int):Int×Int:=if b<((shp a).first.length:Int)then(shp a).first.getD b.toNat (0,0)else((shp a).rk,(shp a).rg)
def b1w(k:Int):Bool:=decide (1≤k) && decide (k<27)
def b7X(a b c:Int):Bool:=b1w a && decide (0≤b) && b1w c && (if(c6l a b).2=0 then decide ((c6l a b).1=c)else decide ((c6l a b).2=b1D c))
theorem d9w{l:List (Int×Int)}{i:Nat}(h:i<l.length):(l.map d5u).getD i []=d5u (l.getD i (0,0)):=by
 simp[h0c,h]
end Go.Vg
namespace Go.Proofs.YtighfcpaplmaiaaGreatDoor
open Go Go.Vg Go.Proofs
theorem g0Y(a b c:Int):b0s env 221 [.int .i64 a,.int .i64 b,.int .i64 c] (.bool (b7X a b c)):=by
 have hGg:=d0J c;refine b0i (fn:=Tryz.f221) Tryz.func221 rfl (by rw[Tryz.ntmps221];simp) (by simp -implicitDefEqProofs only[go_sem]) rfl ?_;simp -implicitDefEqProofs only[go_sem,Tryz.f221];refine(c8g a).calls rfl ?_;by_cases ha:1≤a∧a<27
 ·have h1:(decide (1≤a) && decide (a<27))=true:=by simp[ha]
  have hd:=b3W (k:=a) (by omega) ha.2;rw[h1];simp -implicitDefEqProofs only[go_sem];refine⟨fun hb0=>?_,fun hb0=>?_⟩
  ·refine(c8g c).calls rfl ?_;by_cases hc:1≤c∧c<27
   ·have h2:(decide (1≤c) && decide (c<27))=true:=by simp[hc]
    rw[h2];have hf:b7X a b c=(if(c6l a b).2=0 then decide ((c6l a b).1=c)else decide ((c6l a b).2=b1D c)):=by
     unfold b7X b1w;rw[h1,h2];simp;omega
    simp -implicitDefEqProofs only[go_sem,hd,Shp.enc,h0a,h0Q];refine⟨⟨by omega,by omega⟩,fun _ _=>⟨fun hbl=>?_,fun hbl=>?_⟩⟩
    ·have hp:c6l a b=(shp a).first.getD b.toNat (0,0):=by unfold c6l;rw[if_pos hbl]
     have hpt:=d9w (l:=(shp a).first) (i:=b.toNat) (by omega);rw[←hp]at hpt;simp -implicitDefEqProofs only[go_sem,hpt,d5u];refine⟨⟨by omega,by omega⟩,fun hg=>?_,fun hg=>?_⟩
     ·refine sdq ?_;simp -implicitDefEqProofs only[go_sem];refine b0L hGg rfl ?_;simp -implicitDefEqProofs only[go_sem];have hg':¬ (c6l a b).2=0:=by simpa using hg
      rw[hf,if_neg hg']
     ·have hg':(c6l a b).2=0:=by simpa using hg
      rw[hf,if_pos hg']
    ·have hp:c6l a b=((shp a).rk,(shp a).rg):=by unfold c6l;rw[if_neg hbl]
     rw[hp]at hf;refine⟨fun hg=>?_,fun hg=>?_⟩
     ·refine sdq ?_;simp -implicitDefEqProofs only[go_sem];refine b0L hGg rfl ?_;simp -implicitDefEqProofs only[go_sem];have hg':¬ (shp a).rg=0:=by simpa using hg
      rw[hf,if_neg hg']
     ·have hg':(shp a).rg=0:=by simpa using hg
      rw[hf,if_pos hg']
   ·have h2:(decide (1≤c) && decide (c<27))=false:=by simp;omega
    rw[h2];simp -implicitDefEqProofs only[go_sem];simp[b7X,b1w,h2]
  ·have:¬ 0≤b:=by omega
   simp[b7X,this]
 ·have h1:(decide (1≤a) && decide (a<27))=false:=by simp;omega
  rw[h1];simp -implicitDefEqProofs only[go_sem];simp[b7X,b1w,h1]
end Go.Proofs.YtighfcpaplmaiaaGreatDoor
namespace Go.Vg
@[go_sem] theorem f9l(n:Nd){K:V→Prop}:vHead n.enc K=K (.int .i64 n.kind):=by cases n;rfl
def b5i(k:Int):List Nd→Nat→Bool
 | [],_=>true
 | x::r,i=>b7X k i x.kind && b5i k r (i+1)
def b6X(k:Int)(ks:List Nd):Bool:=(decide (k=14) && decide (ks.length=0)) || (!(decide (ks.length<(shp k).first.length) || (decide ((shp k).first.length<ks.length) && decide ((shp k).rk=0∧(shp k).rg=0))) && b5i k ks 0)
end Go.Vg
namespace Go.Proofs.YtighfcpaplmaiaaGreatDoor
open Go Go.Vg Go.Proofs
theorem g2H(k:Int)(t:ByteArray)(g:List ByteArray)(ks:List Nd)(hk:1≤k∧k<27):b0s env 205 [.agg (Nd.mk k t g ks).enc] (.bool (b6X k ks)):=by
 have hd:=b3W (k:=k) (by omega) hk.2;refine b0i (fn:=Tryz.f205) Tryz.func205 rfl (by rw[Tryz.ntmps205];simp) (by simp -implicitDefEqProofs only[go_sem]) rfl ?_;simp -implicitDefEqProofs only[go_sem,Tryz.f205,hd,Shp.enc,h0a,h0Q];have hfl:flatK Tryz.prog 256=some [1,1]:=by kernel_rfl
 have hfv:c8Z (flatK Tryz.prog 256) [V.int .i64 (shp k).rk,.int .i64 (shp k).rg] [V.int .i64 0,.int .i64 0]:=by rw[hfl];simp[c8Z,b3F,d1W]
 refine⟨⟨by omega,by omega⟩,?_⟩;have hkg:b6X k ks=((decide (k=14) && decide (ks.length=0)) || (!(decide (ks.length<(shp k).first.length) || (decide ((shp k).first.length<ks.length) && decide ((shp k).rk=0∧(shp k).rg=0))) && b5i k ks 0)):=rfl
 repeat' (first | apply And.intro | (with_reducible intro))
 all_goals(try exact hfv)
 all_goals(try(congr 1;rw[hkg];simp_all;done))
 all_goals(try(congr 1;rw[hkg];simp_all;omega))
 all_goals
  have hkf:b6X k ks=b5i k ks 0:=by
   rw[hkg];first | (simp_all;done) | grind
  rw[hkf];refine b0l (β:=Unit) ks (fun pre _=>⟨[(44,.int .i64 pre.length),(43,.int .i64 ks.length),(42,sl 66 (ks.map Nd.enc)),(1,.ptr 0 0),(2,.bool false)],[VObj.cells (Nd.mk k t g ks).enc,.dead],[]⟩) (fun pre post _=>b5i k ks 0=b5i k post pre.length) () ?_ rfl ?_ ?_
  ·simp -implicitDefEqProofs only[go_sem];rfl
  ·intro _ hi;simp -implicitDefEqProofs only[go_sem];rw[hi];rfl
  ·intro pre x post _ hks hi;have hpl:ks.length=pre.length+1+post.length:=by rw[hks];simp;omega
   have hgx:(ks.map Nd.enc).getD (pre.length:Int).toNat []=x.enc:=by rw[hks];simp[h0c]
   have hw:IntKind.i64.wrap (↑pre.length+1)=↑(pre.length+1):=b0g (by omega);rw[hi,b5i];simp -implicitDefEqProofs only[go_sem,hgx];refine⟨fun _=>⟨by omega,?_⟩,fun h=>absurd (show(pre.length:Int)<ks.length by omega) h⟩;refine(g0Y k pre.length x.kind).calls rfl ?_;simp -implicitDefEqProofs only[go_sem];refine⟨fun h=>?_,fun h=>⟨(),?_,hw⟩⟩
   ·have h':b7X k pre.length x.kind=false:=by simpa using h
    rw[h'];rfl
   ·have h':b7X k pre.length x.kind=true:=by simpa using h
    rw[h'];rfl
theorem g9j(k:Int)(t:ByteArray)(g:List ByteArray)(ks:List Nd)(hk:1≤k∧k<27):b0s env 226 [.agg (Nd.mk k t g ks).enc] (.int .i64 (Nd.mk k t g ks).own):=by
 have hd:=b3W (k:=k) (by omega) hk.2;have h1:(decide (1≤k) && decide (k<27))=true:=by simp[hk]
 refine b0i (fn:=Tryz.f226) Tryz.func226 rfl (by rw[Tryz.ntmps226];simp) (by simp -implicitDefEqProofs only[go_sem]) rfl ?_;simp -implicitDefEqProofs only[go_sem,Tryz.f226];refine(c8g k).calls rfl ?_;rw[h1];simp -implicitDefEqProofs only[go_sem,hd,Shp.enc,h0a,h0Q];intro _ hl;have e:(Nd.mk k t g ks).own=f7e k t ks.length:=rfl;rw[e];have w1:IntKind.i64.wrap ((ks.length:Int) - 1)=ks.length - 1:=Vg.wrap_small (by omega) (by omega);have w2:IntKind.i64.wrap ((ks.length:Int) - 1 - 1)=ks.length - 1 - 1:=Vg.wrap_small (by omega) (by omega);rw[w1,w2];have hs:(shp k).own=if k=8 then 2 else if k=14 then 1 else if k=3 then 2 else if k=20 then 3 else if k=21 then 4 else if k=7∨k=9∨k=10∨k=22 then 4 else if k=11 then 3 else if k=2∨k=6∨k=12∨k=26 then 2 else 1:=by
  have:k=1∨k=2∨k=3∨k=4∨k=5∨k=6∨k=7∨k=8∨k=9∨k=10∨k=11∨k=12∨k=13∨k=14∨k=15∨k=16∨k=17∨k=18∨k=19∨k=20∨k=21∨k=22∨k=23∨k=24∨k=25∨k=26:=by omega
  rcases this with rfl | rfl | rfl | rfl | rfl | rfl | rfl | rfl | rfl | rfl | rfl | rfl | rfl | rfl | rfl | rfl | rfl | rfl | rfl | rfl | rfl | rfl | rfl | rfl | rfl | rfl <;> rfl
 rw[hs]
 repeat' (first | apply And.intro | (with_reducible intro))
 all_goals(try omega)
 all_goals(try contradiction)
 all_goals
  congr 1;unfold f7e;first
   | (simp_all;done)
   | (simp_all;omega)
   | (subst_vars;simp;split <;> rw[Vg.wrap_small (by omega) (by omega)] <;> omega)
   | grind
end Go.Proofs.YtighfcpaplmaiaaGreatDoor
namespace Go.Vg
open Go
theorem d2V{a b:ByteArray}(h:a.data.toList=b.data.toList):a=b:=by
 obtain⟨⟨a⟩⟩:=a;obtain⟨⟨b⟩⟩:=b;simp at h;simp[h]
theorem d3b{s:ByteArray}{pre post:List UInt8}{x:UInt8}(h:s.data.toList=pre++x::post):s.get! (pre.length+0)=x:=by
 have h1:s.data.toList[pre.length]? = some x:=by rw[h];simp
 have h2:s.data[pre.length]? = some x:=by simpa using h1
 obtain⟨d⟩:=s;show d[pre.length+0]! = x;rw[h1m,getElem!_def,h2]
theorem f1o{s:ByteArray}{pre post:List UInt8}{x:UInt8}(h:s.data.toList=pre++x::post)(hx:x.toNat<128):Utf8.decode s pre.length=(x.toNat,1):=by
 unfold Utf8.decode;simp only[d3b h];rw[if_pos hx]
theorem d7f{s:ByteArray}{pre post:List UInt8}{x:UInt8}(h:s.data.toList=pre++x::post)(hx:¬ x.toNat<128):128≤(Utf8.decode s pre.length).1:=by
 unfold Utf8.decode;simp only[d3b h];rw[if_neg hx];simp only[Utf8.runeError]
 repeat' split
 all_goals simp_all
 all_goals omega
theorem c1N{c:Int}(h:128≤c):b3Y c=false∧b1K c=false:=by
 unfold b3Y b1K;constructor
 ·simp;omega
 ·simp;omega
theorem d9o{s:ByteArray}{l0 cur r:List UInt8}(h:s.data.toList=l0++cur++r):(s.extract l0.length (l0++cur).length).data.toList=cur:=by
 obtain⟨⟨d⟩⟩:=s;simp only at h;subst h;simp[ByteArray.extract,ByteArray.copySlice]
theorem c3L{c:Int}(h:b3Y c=true):b1K c=false:=by
 unfold b3Y at h;unfold b1K;simp at h ⊢;omega
theorem c7w{s:ByteArray}{pre post:List UInt8}{x:UInt8}(h:s.data.toList=pre++x::post)(hx:b6x x.toNat=false):b0F s=false:=by
 have:(s.data.toList.all fun c=>b6x c.toNat)=false:=by rw[h];simp_all
 unfold b0F;rw[this];simp
theorem d6A{s:ByteArray}{post:List UInt8}{x:UInt8}(h:s.data.toList=x::post)(hx:b3Y x.toNat=false):b0F s=false:=by
 cases hd:b1K (x.toNat:Int)
 ·exact c7w (pre:=[]) h (by simp[b6x,hx,hd])
 ·simp[b0F,c0n h,hd]
theorem c4y{x:UInt8}(h:¬ x.toNat<128):b6x x.toNat=false:=by
 have:=c1N (c:=x.toNat) (by omega);simp[b6x,this]
end Go.Vg
namespace Go.Proofs.YtighfcpaplmaiaaGreatDoor
open Go Go.Vg Go.Proofs
theorem d8L(c:Int):b0s env 236 [.int .i32 c] (.bool (b1K c)):=by
 refine b0i (fn:=Tryz.f236) Tryz.func236 rfl (by rw[Tryz.ntmps236];simp) rfl rfl ?_;simp -implicitDefEqProofs only[go_sem,Tryz.f236,b1K]
 grind
theorem d3W(c:Int):b0s env 235 [.int .i32 c] (.bool (b3Y c)):=by
 refine b0i (fn:=Tryz.f235) Tryz.func235 rfl (by rw[Tryz.ntmps235];simp) rfl rfl ?_;simp -implicitDefEqProofs only[go_sem,Tryz.f235,b3Y]
 grind
theorem d5G(s:ByteArray):b0s env 234 [.str s] (.bool (b9o s)):=by
 refine b0i (fn:=Tryz.f234) Tryz.func234 rfl (by rw[Tryz.ntmps234];simp) rfl rfl ?_;simp -implicitDefEqProofs only[go_sem,Tryz.f234,b9o];simp +contextual
theorem d8I(s:ByteArray):b0s env 223 [.str s] (.bool (b0F s)):=by
 refine b0i (fn:=Tryz.f223) Tryz.func223 rfl (by rw[Tryz.ntmps223];simp) rfl rfl ?_;simp -implicitDefEqProofs only[go_sem,Tryz.f223];refine⟨fun a1 hs=>⟨fun a2=>(d5G s).calls rfl ?_,fun a2=>?_⟩,fun a1=>?_⟩
 rotate_left
 ·simp[b0F,a2]
 ·subst a1;rfl
 have hne:s.data.toList≠[]:=fun h=>a1 (d2V h)
 have hpos:¬ (s.size:Int)<1:=by
  rw[b3Q];have:=List.length_pos_iff.2 hne;omega
 simp -implicitDefEqProofs only[go_sem];refine⟨fun a3=>?_,fun a3=>?_⟩
 ·simp[b0F,a3]
 refine b0l (β:=Unit) s.data.toList (fun pre _=>⟨[(17,.ptr 0 0),(0,.str s)],[.siter s pre.length],[]⟩) (fun pre _ _=>(pre.all fun c=>b6x c.toNat)∧(pre≠[]→b1K (b5q s 0)=false)) () ?_ ?_ ?_ ?_
 ·simp -implicitDefEqProofs only[go_sem]
 ·exact⟨rfl,fun h=>absurd rfl h⟩
 ·intro _ ⟨i1,i2⟩;simp -implicitDefEqProofs only[go_sem,←b3Q];have:=i2 hne;have i1':s.data.toList.all (fun c=>b6x c.toNat)=true:=i1;simp only[b0F,hpos,a2,a3,this,i1',decide_false,Bool.not_false,Bool.and_self,Nat.lt_irrefl,if_false]
 ·rintro pre x post _ hx ⟨i1,i2⟩;have hz:=b2Q hx;have hl:pre.length<(pre++x::post).length:=by simp
  by_cases hx8:x.toNat<128
  ·simp -implicitDefEqProofs only[go_sem,hz,hl,f1o hx hx8];refine(d3W _).calls rfl ?_;simp -implicitDefEqProofs only[go_sem]
   repeat' (first | apply And.intro | (refine(d8L _).calls rfl ?_;simp -implicitDefEqProofs only[go_sem]) | (refine fun(_:@Eq Bool _ _)=>?_)  | (refine fun(_:@Eq Int _ _)=>?_) | (refine fun(_:¬ (@Eq Int _ _))=>?_))
   ·rename_i b1 b2 b3;rw[c7w hx (by simp_all [b6x])]
   ·rename_i b1 b2 b3;have hp:pre≠[]:=by rintro rfl;simp at b2
    exact⟨(),by simp_all [b6x],fun _=>i2 hp⟩
   ·rename_i b1 b2;have hp:pre=[]:=h0G (by omega);subst hp;rw[d6A hx (by simpa using b1)]
   ·rename_i b1;have b1:b3Y x.toNat=true:=by simpa using b1
    refine⟨(),by simp_all [b6x],fun _=>?_⟩;by_cases hp:pre=[]
    ·subst hp;rw[c0n hx];exact c3L b1
    ·exact i2 hp
  ·have hd:=c1N (c:=(Utf8.decode s pre.length).1) (by have:=d7f hx hx8;omega);simp -implicitDefEqProofs only[go_sem,hz,hl];refine(d3W _).calls rfl ?_;simp only[hd.1];simp -implicitDefEqProofs only[go_sem];refine⟨fun _=>(d8L _).calls rfl ?_,fun _=>?_⟩
   ·simp only[hd.2];simp -implicitDefEqProofs only[go_sem];rw[c7w hx (c4y hx8)]
   ·rw[c7w hx (c4y hx8)]
end Go.Proofs.YtighfcpaplmaiaaGreatDoor
namespace Go.Vg
def b2P(l:List Dl):Nat:=(l.filter fun d=>decide (d.kind=2)).length
end Go.Vg
namespace Go.Proofs.YtighfcpaplmaiaaGreatDoor
open Go Go.Vg Go.Proofs
theorem f4G(u:List Un)(hu:b2D u)(n:Int)(hn:n≤1000000)(h0:0≤n):b0s env 24 [sl 70 (u.map Un.enc),.int .i64 n] (.bool (decide ((b2P (b0e u 0):Int)≤n))):=by
 refine b0i (fn:=Tryz.f24) Tryz.func24 rfl (by rw[Tryz.ntmps24];simp) (by simp -implicitDefEqProofs only[go_sem];exact b0v _) rfl ?_;simp -implicitDefEqProofs only[go_sem,Tryz.f24];refine(b7j u hu).calls (by simp -implicitDefEqProofs only[go_sem]) ?_;have hdl:=b0H u 0 fun y hy=>(hu.2 y hy).1
 have hul:=hu.1;generalize b0e u 0=l at hdl ⊢;simp -implicitDefEqProofs only[go_sem];refine b0l (β:=Unit) l (fun pre _=>⟨[(6,.int .i64 pre.length),(5,sl 54 (l.map Dl.enc)),(4,.bool false),(1,.int .i64 (n - b2P pre))],[],[]⟩) (fun _ _ _=>True) () ?_ trivial ?_ ?_
 ·simp only[b2P,List.filter_nil,h0J];simp -implicitDefEqProofs only[go_sem];exact⟨rfl,by omega⟩
 ·intro _ _;simp -implicitDefEqProofs only[go_sem];intro _ _;congr 1;rw[h1k];simp
 ·rintro pre x post _ rfl _;have hpl:(pre++x::post).length=pre.length+1+post.length:=by simp;omega
  have hcl:b2P pre≤pre.length:=h1o ..;have hw:IntKind.i64.wrap (↑pre.length+1)=↑(pre.length+1):=b0g (by omega);simp -implicitDefEqProofs only[go_sem];intro _ _;refine⟨fun h=>⟨(),hw,?_⟩,fun h=>⟨(),hw,?_⟩⟩
  ·have:b2P (pre++[x])=b2P pre+1:=by simp[b2P,h]
   rw[this,Vg.wrap_small (by omega) (by omega)];omega
  ·have:b2P (pre++[x])=b2P pre:=by simp[b2P,h]
   rw[this]
end Go.Proofs.YtighfcpaplmaiaaGreatDoor
namespace Go.Vg
def f4T(n:Int):ByteArray:=⟨(Lib.itoa n).toArray⟩
end Go.Vg
namespace Go.Proofs.YtighfcpaplmaiaaGreatDoor
open Go Go.Vg Go.Proofs Go.Shelf Go.RowKit
theorem d2m(s:ByteArray)(c:Int):b0s env 252 [.str s,.int .u8 c] (.int .i64 (Lib.indexByte s.data.toList c.toNat.toUInt8)):=by
 refine b9h (val := .int .i64 (Lib.indexByte s.data.toList c.toNat.toUInt8)) rfl rfl (fun G arr => .int _ _) fun G w0 w vals hr ha=>?_
 obtain⟨v,vs,rfl,hv,ha⟩:=ha.cons;obtain⟨v2,vs,rfl,hv2,ha⟩:=ha.cons;rw[ha.nil];cases hv
 cases hv2
 exact(Tryz.strings_IndexByte s c w).mono fun e w' ⟨he,hw⟩=>⟨he,hw ▸ Below.refl _ _⟩
theorem d1B(s p:ByteArray):b0s env 251 [.str s,.str p] (.bool (Lib.hasPrefix s.data.toList p.data.toList)):=by
 refine b9h (val := .bool (Lib.hasPrefix s.data.toList p.data.toList)) rfl rfl (fun G arr => .bool _) fun G w0 w vals hr ha=>?_
 obtain⟨v,vs,rfl,hv,ha⟩:=ha.cons;obtain⟨v2,vs,rfl,hv2,ha⟩:=ha.cons;rw[ha.nil];cases hv
 cases hv2
 exact(Tryz.strings_HasPrefix s p w).mono fun e w' ⟨he,hw⟩=>⟨he,hw ▸ Below.refl _ _⟩
end Go.Proofs.YtighfcpaplmaiaaGreatDoor
namespace Go.Vg
open Go
theorem d3j{l:List UInt8}{n:Nat}(h:adv l=n)(hn:n≠0):b3i l=n+b3i (l.drop n):=by
 rw[b3i,dif_neg (by omega),h]
theorem c3J{l:List UInt8}(h:adv l=0):b3i l=0:=by rw[b3i,dif_pos h]
theorem c3H(c:UInt8)(r:List UInt8):Lib.hasPrefix (c::r) [47,47]=(decide (c.toNat=47) && b4t r):=by
 have e:∀ x:UInt8,((47:UInt8) == x)=decide (x.toNat=47):=fun x=>by
  rw[h1k,beq_iff_eq,←UInt8.toNat_inj,h0l];exact eq_comm
 cases r with
 | nil=>simp[Lib.hasPrefix,List.isPrefixOf,b4t]
 | cons d r=>simp only[Lib.hasPrefix,List.isPrefixOf,b4t,e,h1g]
theorem c1z:∀ l:List UInt8,Lib.indexByte l 10=match b2f l with | some n=>(n:Int) - 1 | none => -1
 | []=>rfl
 | c::r=>by
  have ih:=c1z r;have e:(c == (10:UInt8))=decide (c.toNat=10):=by
   rw[h1k];simp[←UInt8.toNat_inj]
  rw[Lib.indexByte,b2f,e];by_cases h:c.toNat=10
  ·simp[h]
  ·simp only[h,decide_false,h0r,if_false];rw[ih];cases hl:b2f r with
   | none=>simp
   | some n =>
    have:=b6s r n hl;have:((n:Int) - 1 == -1)=false:=by simp;omega
    simp[this]
end Go.Vg
namespace Go.Proofs.YtighfcpaplmaiaaGreatDoor
open Go Go.Vg Go.Proofs
theorem g3V(s:ByteArray):b0s env 247 [.str s] (.tuple []):=by
 refine b0i (fn:=Tryz.f247) Tryz.func247 rfl (by rw[Tryz.ntmps247];simp) rfl rfl ?_;simp -implicitDefEqProofs only[go_sem,Tryz.f247]
theorem f9N(s:ByteArray)(pre l:List UInt8)(hs:s.data.toList=pre++l)(hb:s.size≤1000000000):b0s env 246 [.str s,.int .i64 pre.length,.func 247 []] (.int .i64 (pre.length+b3i l:Nat)):=by
 refine b0i (fn:=Tryz.f246) Tryz.func246 rfl (by rw[Tryz.ntmps246];simp) (by simp -implicitDefEqProofs only[go_sem]) rfl ?_;simp -implicitDefEqProofs only[go_sem,Tryz.f246];refine b1u (α:=List UInt8×List UInt8) (fun a=>⟨[(2,.func 247 []),(0,.str s),(1,.int .i64 a.1.length)],[],[]⟩) (fun a=>s.data.toList=a.1++a.2∧a.1.length+b3i a.2=pre.length+b3i l) (fun a=>a.2.length) (pre,l) ?_ ⟨hs,rfl⟩ ?_
 ·simp -implicitDefEqProofs only[go_sem]
 ·rintro⟨p,q⟩ ⟨i1,i2⟩;simp only at i1 i2;have hzq:s.size=p.length+q.length:=by rw[b2Q i1];simp
  have hw:IntKind.i64.wrap ((p.length:Int)+1)=((p.length+1:Nat):Int):=b0g (by omega);have hext:(s.extract (p.length:Int).toNat (s.size:Int).toNat).data.toList=q:=by
   have:=d9o (s:=s) (l0:=p) (cur:=q) (r:=[]) (by rw[i1];simp);simp only[h0n];rw[b2Q i1];exact this
  generalize ht:s.extract (p.length:Int).toNat (s.size:Int).toNat=t at hext;rcases q with _ | ⟨c,r⟩
  ·have hlt:((p.length:Int)<s.size)=False:=by simp at hzq ⊢;omega
   have h0:b3i []=0:=by rw[b3i];simp[adv]
   simp -implicitDefEqProofs only[go_sem,hlt];intro _;rw[←i2,h0];simp
  ·have hlt:((p.length:Int)<s.size)=True:=by simp at hzq ⊢;omega
   have hle:((p.length:Int)≤s.size)=True:=by simp;omega
   have hbl:∀ b:b2A c=true,(p.length+1)+b3i r=pre.length+b3i l:=fun b=>by
    have h1:adv (c::r)=1:=by simp[adv,b]
    rw[←i2,d3j h1 (by omega)];simp;omega
   have hnx:s.data.toList=(p++[c])++r:=by rw[i1];simp
   by_cases h32:c.toNat=32
   ·have h32':((c.toNat:Int)=32)=True:=by simp;omega
    simp -implicitDefEqProofs only[go_sem,hlt,b1W i1,h32'];exact fun _=>⟨(p++[c],r),by simp,⟨hnx,by simpa using hbl (by simp[b2A,h32])⟩,by rw[hw];simp⟩
   have h32':((c.toNat:Int)=32)=False:=by simp;omega
   by_cases h9:c.toNat=9
   ·have h9':((c.toNat:Int)=9)=True:=by simp;omega
    simp -implicitDefEqProofs only[go_sem,hlt,b1W i1,h32',h9'];exact fun _=>⟨(p++[c],r),by simp,⟨hnx,by simpa using hbl (by simp[b2A,h9])⟩,by rw[hw];simp⟩
   have h9':((c.toNat:Int)=9)=False:=by simp;omega
   by_cases h10:c.toNat=10
   ·have h10':((c.toNat:Int)=10)=True:=by simp;omega
    simp -implicitDefEqProofs only[go_sem,hlt,b1W i1,h32',h9',h10'];exact fun _=>⟨(p++[c],r),by simp,⟨hnx,by simpa using hbl (by simp[b2A,h10])⟩,by rw[hw];simp⟩
   have h10':((c.toNat:Int)=10)=False:=by simp;omega
   have hnb:b2A c=false:=by simp[b2A,h32,h9,h10]
   simp -implicitDefEqProofs only[go_sem,hlt,hle,b1W i1,h32',h9',h10',ht];refine fun _=>⟨by omega,(d1B _ _).calls rfl ?_⟩
   rw[hext,show(⟨#[47,47]⟩:ByteArray).data.toList=[47,47]from rfl,c3H];cases hp:(decide (c.toNat=47) && b4t r)
   ·simp -implicitDefEqProofs only[go_sem];rw[←i2,c3J (by simp only[adv,hnb,hp,h0r,if_false])];simp
   ·have hadv:adv (c::r)=(b2f (c::r)).getD 0:=by simp only[adv,hnb,hp,h0r,if_false,if_true]
    simp -implicitDefEqProofs only[go_sem,hle,ht];refine⟨by omega,(d2m _ _).calls rfl ?_⟩;rw[hext,show(10:Int).toNat.toUInt8=10 from rfl,c1z];cases hl:b2f (c::r)with
    | none =>
     simp -implicitDefEqProofs only[go_sem];rw[←i2,c3J (by rw[hadv,hl];rfl)];simp
    | some n =>
     have hn:=b6s _ _ hl;simp only[];have hw2:IntKind.i64.wrap ((p.length:Int)+((n:Int) - 1))=(p.length:Int)+((n:Int) - 1):=b1M (by omega) (by omega);have hn0:((n:Int) - 1<0)=False:=by simp;omega
     simp -implicitDefEqProofs only[go_sem,hn0,hw2];refine⟨by omega,(g3V _).calls rfl ?_⟩;simp -implicitDefEqProofs only[go_sem];refine⟨(p++(c::r).take n,(c::r).drop n),?_,⟨by rw[i1];simp,?_⟩,?_⟩
     ·simp only[h1i,h0o]at hn ⊢;omega
     ·have:b3i (c::r)=n+b3i ((c::r).drop n):=d3j (by rw[hadv,hl];rfl) (by omega);have hl2:(p++(c::r).take n).length=p.length+n:=by rw[h0h,List.length_take];omega
      simp only[];rw[hl2];omega
     ·have hl2:(p++(c::r).take n).length=p.length+n:=by rw[h0h,List.length_take];omega
      simp only[];rw[hl2,b1M (x:=(n:Int) - 1+1) (by omega) (by omega),b1M (by omega) (by omega)];omega
theorem g9x(s:ByteArray)(hb:s.size≤1000000000):b0s env 237 [.str s,.int .i64 0] (.int .i64 (b3i s.data.toList:Nat)):=by
 refine b0i (fn:=Tryz.f237) Tryz.func237 rfl (by rw[Tryz.ntmps237];simp) rfl rfl ?_;have hz:((s.size:Int)<0)=False:=by simp
 simp -implicitDefEqProofs only[go_sem,Tryz.f237,hz];intro _;have h:=f9N s [] s.data.toList rfl hb;simp only[h0J,h0w]at h;refine b0s.calls h rfl ?_;simp -implicitDefEqProofs only[go_sem]
theorem f4b(s:ByteArray)(hb:s.size≤1000000000):b0s env 225 [.str s] (.bool (b2V s)):=by
 refine b0i (fn:=Tryz.f225) Tryz.func225 rfl (by rw[Tryz.ntmps225];simp) rfl rfl ?_;simp -implicitDefEqProofs only[go_sem,Tryz.f225];refine(g9x s hb).calls rfl ?_;simp -implicitDefEqProofs only[go_sem];intro _;unfold b2V;congr 1;by_cases e:b3i s.data.toList=s.size
 ·simp[e]
 ·rw[h0z e];simp;omega
end Go.Proofs.YtighfcpaplmaiaaGreatDoor
namespace Go.Vg
def b2l(k:Int)(t:ByteArray):Bool:=if(shp k).text=0 then decide (t=⟨#[]⟩)else if(shp k).text=4 then(shp k).words.any (fun w=>decide (w=t))else true
def b3A(k:Int)(t:ByteArray):Bool:=if(shp k).text=2 then(decide (t=⟨#[]⟩) || b0F t)else if(shp k).text=1 then b0F t else if(shp k).text=3 then c2n t else true
def b8H(n:Nd):Bool:=decide (n.gaps.length=0) || (n.gaps.all b2V && decide ((n.gaps.length:Int)=n.own))
def f1p:List ByteArray→ByteArray→Nat→Int
 | [],_,_ => -1
 | w::r,s,i=>if w=s then i else f1p r s (i+1)
theorem c8k(s:ByteArray):∀ (l:List ByteArray) (i:Nat),decide (0≤f1p l s i)=l.any fun w=>decide (w=s)
 | [],_=>rfl
 | w::r,i=>by
  rw[f1p,List.any_cons,←c8k s r (i+1)];by_cases h:w=s
  ·simp[h]
  ·simp[h]
theorem c9L{s:ByteArray}{pre post:List UInt8}{x:UInt8}(h:s.data.toList=pre++x::post):(b2r s).getD (pre.length:Int).toNat []=[.int .u8 x.toNat]:=by
 simp[b2r,h,h0c]
theorem c1v{s:ByteArray}:(b2r s).length=s.size:=by simp[b2r]
end Go.Vg
namespace Go.Proofs.YtighfcpaplmaiaaGreatDoor
open Go Go.Vg Go.Proofs
theorem f6N(l:List ByteArray)(s:ByteArray):b0s env 212 [sl 9 (l.map b0n),.str s] (.int .i64 (f1p l s 0)):=by
 refine b0i (fn:=Tryz.f212) Tryz.func212 rfl (by rw[Tryz.ntmps212];simp) (by simp -implicitDefEqProofs only[go_sem]) rfl ?_;simp -implicitDefEqProofs only[go_sem,Tryz.f212];intro _ _;refine b0l (β:=Unit) l (fun pre _=>⟨[(8,.int .i64 pre.length),(7,.int .i64 l.length),(6,sl 9 (l.map b0n)),(4,.int .i64 0),(0,sl 9 (l.map b0n)),(1,.str s)],[],[]⟩) (fun pre post _=>f1p l s 0=f1p post s pre.length) () ?_ rfl ?_ ?_
 ·simp -implicitDefEqProofs only[go_sem];rfl
 ·intro _ hi;simp -implicitDefEqProofs only[go_sem];rw[hi];rfl
 ·intro pre x post _ hx hi;have hpl:l.length=pre.length+1+post.length:=by rw[hx];simp;omega
  have hgx:(l.map b0n).getD (pre.length:Int).toNat []=[V.str x]:=by rw[hx];simp[h0c,b0n]
  have hw:IntKind.i64.wrap (↑pre.length+1)=↑(pre.length+1):=b0g (by omega);have hlt:((pre.length:Int)<l.length)=True:=by simp;omega
  rw[hi,f1p];simp -implicitDefEqProofs only[go_sem,hgx,hlt];refine⟨fun h=>by rw[if_pos h.symm],fun h=>⟨(),by rw[if_neg (Ne.symm h)],hw⟩⟩
theorem c4h(l:List ByteArray)(s:ByteArray):b0s env 187 [sl 9 (l.map b0n),.str s] (.bool (l.any fun w=>decide (w=s))):=by
 refine b0i (fn:=Tryz.f187) Tryz.func187 rfl (by rw[Tryz.ntmps187];simp) (by simp -implicitDefEqProofs only[go_sem]) rfl ?_;simp -implicitDefEqProofs only[go_sem,Tryz.f187];refine(f6N l s).calls (by simp -implicitDefEqProofs only[go_sem]) ?_;rw[←c8k s l 0];simp -implicitDefEqProofs only[go_sem]
theorem d4U(k:Int)(t:ByteArray)(g:List ByteArray)(ks:List Nd)(hk:1≤k∧k<27):b0s env 206 [.agg (Nd.mk k t g ks).enc] (.bool (b2l k t)):=by
 have hd:=b3W (k:=k) (by omega) hk.2;refine b0i (fn:=Tryz.f206) Tryz.func206 rfl (by rw[Tryz.ntmps206];simp) (by simp -implicitDefEqProofs only[go_sem]) rfl ?_;simp -implicitDefEqProofs only[go_sem,Tryz.f206,hd,Shp.enc,h0a,h0Q];refine⟨by omega,fun h0=>by simp[b2l,h0],fun h0=>⟨fun h4=>?_,fun h4=>by simp[b2l,h0,h4]⟩⟩;refine(c4h (shp k).words t).calls (by simp -implicitDefEqProofs only[go_sem]) ?_;simp -implicitDefEqProofs only[go_sem];simp[b2l,h0,h4]
theorem d6F(s:ByteArray):b0s env 224 [.str s] (.bool (c2n s)):=by
 refine b0i (fn:=Tryz.f224) Tryz.func224 rfl (by rw[Tryz.ntmps224];simp) rfl rfl ?_;simp -implicitDefEqProofs only[go_sem,Tryz.f224];refine⟨fun a1 hs=>⟨fun a2 _=>?_,fun a2=>by simp[c2n,a2]⟩,fun a1=>by subst a1;rfl⟩;have a1':¬ ((s.size:Int)=0):=fun h=>a1 (d2V (h0G (by rw[←b3Q];omega)))
 refine⟨fun a3=>⟨by omega,fun a4=>by simp[c2n,a3,a4],fun a4=>⟨by omega,fun _ _=>?_⟩⟩,fun a3=>⟨by omega,fun _ _=>?_⟩⟩;all_goals
  refine b0l (β:=Int) s.data.toList (fun pre n=>⟨[(26,.int .i64 pre.length),(25,.int .i64 s.size),(24,sl 5 (b2r s)),(3,.int .i64 n),(0,.str s)],[],[]⟩)
   (fun pre post n=>(pre.all fun c=>b1K c.toNat)=true∧b5Q post n=b5Q s.data.toList 0∧0≤n∧n.toNat<10 ^ pre.length) 0 ?_ ?_ ?_ ?_
  ·simp -implicitDefEqProofs only[go_sem,c1v];try trivial
  ·simp
  ·rintro n ⟨i1,i2,i3,i4⟩;have hlt:((s.data.toList.length:Int)<s.size)=False:=by rw[b3Q];simp
   simp -implicitDefEqProofs only[go_sem,hlt];have hd:b5Q s.data.toList 0=n:=by rw[←i2];rfl
   unfold c2n;rw[i1,hd];simp_all
  ·rintro pre x post n hx ⟨i1,i2,i3,i4⟩;have hz:=b2Q hx;have hlt:((pre.length:Int)<s.size)=True:=by rw[hz];simp;omega
   simp -implicitDefEqProofs only[go_sem,hlt,c9L hx];have hno:b1K (x.toNat:Int)=false→V.bool false=V.bool (c2n s):=by
    intro hf;have:(s.data.toList.all fun c=>b1K c.toNat)=false:=by rw[hx];simp[hf]
    unfold c2n;rw[this];simp
   refine⟨by rw[c1v,hz];simp;omega,fun c=>⟨fun d=>hno (by unfold b1K;simp;omega),fun d=>?_⟩,fun c=>hno (by unfold b1K;simp;omega)⟩;have hp:pre.length≤12:=by rw[hz]at a2;simp at a2;omega
   have h10:(10:Nat) ^ pre.length≤10 ^ 12:=Nat.pow_le_pow_right (by decide) hp;have h12:(10:Nat) ^ 12=1000000000000:=by decide
   rw[h12]at h10;have hdig:b1K (x.toNat:Int)=true:=by unfold b1K;simp;omega
   refine⟨10 * n+((x.toNat:Int) - 48),⟨by simp[i1,hdig],by rw[←i2];rfl,by omega,?_⟩,b0g (by omega),?_⟩
   ·rw[Nat.pow_succ];omega
   ·rw[f5F (by omega) (by omega),b1M (x:=n * 10) (by omega) (by omega),b1M (x:=(x.toNat:Int) - 48) (by omega) (by omega),b1M (by omega) (by omega)];omega
theorem f0X(k:Int)(t:ByteArray)(g:List ByteArray)(ks:List Nd)(hk:1≤k∧k<27):b0s env 208 [.agg (Nd.mk k t g ks).enc] (.bool (b3A k t)):=by
 have hd:=b3W (k:=k) (by omega) hk.2;refine b0i (fn:=Tryz.f208) Tryz.func208 rfl (by rw[Tryz.ntmps208];simp) (by simp -implicitDefEqProofs only[go_sem]) rfl ?_;simp -implicitDefEqProofs only[go_sem,Tryz.f208,hd,Shp.enc,h0a,h0Q];refine⟨by omega,fun h2=>⟨fun ht=>by simp[b3A,h2,ht],fun ht=>?_⟩,fun h2=>⟨fun h1=>?_,fun h1=>⟨fun h3=>?_,fun h3=>by simp[b3A,h1,h2,h3]⟩⟩⟩
 ·refine(d8I t).calls rfl ?_;simp -implicitDefEqProofs only[go_sem];simp[b3A,h2,ht]
 ·refine(d8I t).calls rfl ?_;simp -implicitDefEqProofs only[go_sem];simp[b3A,h1]
 ·refine(d6F t).calls rfl ?_;simp -implicitDefEqProofs only[go_sem];simp[b3A,h3]
theorem g4W(n:Nd)(hk:1≤n.kind∧n.kind<27)(hg:∀ s∈n.gaps,s.size≤1000000000):b0s env 209 [.agg n.enc] (.bool (b8H n)):=by
 obtain⟨k,t,g,ks⟩:=n;refine b0i (fn:=Tryz.f209) Tryz.func209 rfl (by rw[Tryz.ntmps209];simp) (by simp -implicitDefEqProofs only[go_sem]) rfl ?_;simp -implicitDefEqProofs only[go_sem,Tryz.f209];intro _ _;refine⟨fun h0=>by simp[b8H,Nd.gaps];left;simpa using h0,fun h0 _ _=>?_⟩;refine b0l (β:=Unit) g (fun pre _=>⟨[(12,.int .i64 pre.length),(11,.int .i64 g.length),(10,sl 9 (g.map b0n)),(1,.ptr 0 0),(2,.bool false)],[VObj.cells (Nd.mk k t g ks).enc],[]⟩) (fun pre post _=>pre.all b2V=true) () ?_ rfl ?_ ?_
 ·simp -implicitDefEqProofs only[go_sem];try trivial
 ·intro _ hi;simp -implicitDefEqProofs only[go_sem];refine sdq ?_;simp -implicitDefEqProofs only[go_sem];refine vPd (g9j k t g ks hk) ?_;simp -implicitDefEqProofs only[go_sem];have hne:g≠[]:=by rintro rfl;simp at h0
  have e:b8H (.mk k t g ks)=decide ((g.length:Int)=(Nd.mk k t g ks).own):=by
   have h1:((Nd.mk k t g ks).gaps.length=0)=False:=by simp[Nd.gaps,hne]
   unfold b8H;simp only[h1,decide_false,h0Y];rw[show(Nd.mk k t g ks).gaps=g from rfl,hi];rfl
  rw[e]
 ·intro pre x post _ hx hi;have hpl:g.length=pre.length+1+post.length:=by rw[hx];simp;omega
  have hgx:(g.map b0n).getD (pre.length:Int).toNat []=[V.str x]:=by rw[hx];simp[h0c,b0n]
  have hw:IntKind.i64.wrap (↑pre.length+1)=↑(pre.length+1):=b0g (by omega);have hlt:((pre.length:Int)<g.length)=True:=by simp;omega
  simp -implicitDefEqProofs only[go_sem,hgx,hlt];have hxg:x.size≤1000000000:=hg x (by rw[show(Nd.mk k t g ks).gaps=g from rfl,hx];simp);refine(f4b x hxg).calls rfl ?_;simp -implicitDefEqProofs only[go_sem];refine⟨fun h=>?_,fun h=>⟨(),by simp_all,hw⟩⟩;have:g.all b2V=false:=by rw[hx];simp_all
  simp[b8H,Nd.gaps,this];try(intro e;subst e;simp at hx)
end Go.Proofs.YtighfcpaplmaiaaGreatDoor
namespace Go.Vg
def c3Z(n:Nd):Int:=if !(b1w n.kind && b6X n.kind n.kids && b2l n.kind n.text && n.levels)then 7 else if !b3A n.kind n.text then 4 else if !b8H n then 7 else 0
mutual
def b6E:Nd→Int
 | .mk k t g ks=>if c3Z (.mk k t g ks)=0 then b5T ks else c3Z (.mk k t g ks)
def b5T:List Nd→Int
 | []=>0
 | x::r=>if b6E x=0 then b5T r else b6E x
end
theorem b9J{k:Int}{ks:List Nd}(h:b6X k ks=true)(h0:(shp k).first.length≠0→k≠14):(shp k).first.length≤ks.length:=by
 by_cases hz:(shp k).first.length=0
 ·omega
 ·have:=h0 hz;simp[b6X,this]at h;omega
end Go.Vg
namespace Go.Proofs.YtighfcpaplmaiaaGreatDoor
open Go Go.Vg Go.Proofs
theorem c1t{k:Int}{ks:List Nd}(hk:1≤k∧k<27)(h:b6X k ks=true):(k=24→2≤ks.length)∧(k=25∨k=21→1≤ks.length):=by
 refine⟨fun e=>?_,fun e=>?_⟩
 ·subst e;exact b9J h (by decide)
 ·rcases e with rfl | rfl
  ·exact b9J h (by decide)
  ·exact b9J h (by decide)
theorem f6p:(n:Nd)→b5D n→b0s env 181 [.agg n.enc] (.int .i64 (b6E n)):=by
 refine Nd.all fun k t g ks ih hs=>?_
 have hnode:b6E (.mk k t g ks)=if c3Z (.mk k t g ks)=0 then b5T ks else c3Z (.mk k t g ks):=by rw[b6E]
 have hng:c3Z (.mk k t g ks)=if !(b1w k && b6X k ks && b2l k t && (Nd.mk k t g ks).levels)then 7 else if !b3A k t then 4 else if !b8H (.mk k t g ks)then 7 else 0:=rfl
 refine b0i (fn:=Tryz.f181) Tryz.func181 rfl (by rw[Tryz.ntmps181];simp) (by simp -implicitDefEqProofs only[go_sem]) rfl ?_;simp -implicitDefEqProofs only[go_sem,Tryz.f181];refine(c8g k).calls rfl ?_;rw[show(decide (1≤k) && decide (k<27))=b1w k from rfl];cases h1:b1w k
 ·simp -implicitDefEqProofs only[go_sem];rw[hnode,hng,h1];rfl
 have hk:1≤k∧k<27:=by simpa[b1w]using h1
 simp -implicitDefEqProofs only[go_sem];refine(g2H k t g ks hk).calls (by simp -implicitDefEqProofs only[go_sem]) ?_;cases h2:b6X k ks
 ·simp -implicitDefEqProofs only[go_sem];rw[hnode,hng,h1,h2];rfl
 simp -implicitDefEqProofs only[go_sem];refine(d4U k t g ks hk).calls (by simp -implicitDefEqProofs only[go_sem]) ?_;cases h3:b2l k t
 ·simp -implicitDefEqProofs only[go_sem];rw[hnode,hng,h1,h2,h3];rfl
 simp -implicitDefEqProofs only[go_sem];refine(f2g (.mk k t g ks) (c1t hk h2).1 (c1t hk h2).2).calls (by simp -implicitDefEqProofs only[go_sem]) ?_;cases h4:(Nd.mk k t g ks).levels
 ·simp -implicitDefEqProofs only[go_sem];rw[hnode,hng,h1,h2,h3,h4];rfl
 simp -implicitDefEqProofs only[go_sem];refine(f0X k t g ks hk).calls (by simp -implicitDefEqProofs only[go_sem]) ?_;cases h5:b3A k t
 ·simp -implicitDefEqProofs only[go_sem];rw[hnode,hng,h1,h2,h3,h4,h5];rfl
 simp -implicitDefEqProofs only[go_sem];refine(g4W (.mk k t g ks) hk (hs _ (by rw[b0o];exact List.mem_cons_self ..))).calls (by simp -implicitDefEqProofs only[go_sem]) ?_;cases h6:b8H (.mk k t g ks)
 ·simp -implicitDefEqProofs only[go_sem];rw[hnode,hng,h1,h2,h3,h4,h5,h6];rfl
 have hn0:c3Z (.mk k t g ks)=0:=by rw[hng,h1,h2,h3,h4,h5,h6];rfl
 rw[hnode,if_pos hn0];simp -implicitDefEqProofs only[go_sem];intro _ _;refine b0l (β:=Unit) ks (fun pre _=>⟨[(34,.int .i64 pre.length),(33,.int .i64 ks.length),(32,sl 66 (ks.map Nd.enc)),(2,.int .i64 0),(1,.ptr 0 0)],[VObj.cells (Nd.mk k t g ks).enc],[]⟩)
  (fun pre post _=>b5T ks=b5T post) () ?_ rfl ?_ ?_
 ·simp -implicitDefEqProofs only[go_sem];try rfl
 ·intro _ hi;simp -implicitDefEqProofs only[go_sem];rw[hi];rfl
 ·intro pre x post _ hx hi;have hpl:ks.length=pre.length+1+post.length:=by rw[hx];simp;omega
  have hgx:(ks.map Nd.enc).getD (pre.length:Int).toNat []=x.enc:=by rw[hx];simp[h0c]
  have hw:IntKind.i64.wrap (↑pre.length+1)=↑(pre.length+1):=b0g (by omega);have hlt:((pre.length:Int)<ks.length)=True:=by simp;omega
  have hm:x∈ks:=by rw[hx];simp
  rw[hi,b5T];simp -implicitDefEqProofs only[go_sem,hgx,hlt];refine(ih x hm (c1M hs hm)).calls (by simp -implicitDefEqProofs only[go_sem]) ?_;simp -implicitDefEqProofs only[go_sem];refine⟨fun h=>?_,fun h=>⟨(),by rw[if_pos (by simpa using h)],hw⟩⟩;rw[if_neg (by simpa using h)]
theorem f4k(n:Nd)(hs:b5D n):b0s env 140 [.agg n.enc] (.int .i64 (if b3w n 4000 60<0 then 3 else b6E n)):=by
 refine b0i (fn:=Tryz.f140) Tryz.func140 rfl (by rw[Tryz.ntmps140];simp) (by simp -implicitDefEqProofs only[go_sem]) rfl ?_;simp -implicitDefEqProofs only[go_sem,Tryz.f140];refine(f0t n 4000 60 (by omega) (by omega) (by omega)).calls (by simp -implicitDefEqProofs only[go_sem]) ?_;simp -implicitDefEqProofs only[go_sem];refine⟨fun h=>?_,fun h=>?_⟩
 ·rw[if_pos h]
 ·refine(f6p n hs).calls (by simp -implicitDefEqProofs only[go_sem]) ?_;simp -implicitDefEqProofs only[go_sem];rw[if_neg h]
end Go.Proofs.YtighfcpaplmaiaaGreatDoor
namespace Go.Vg
open Go
theorem f9j:shp 1=⟨[],0,1,0,[],1⟩:=rfl
theorem f7u:shp 2=⟨[(3,0),(5,0),(6,0)],0,0,1,[],2⟩:=rfl
theorem f8t:shp 3=⟨[],4,0,0,[],2⟩:=rfl
theorem f9F:shp 4=⟨[(5,0)],0,0,1,[],1⟩:=rfl
theorem f7h:shp 5=⟨[],0,0,1,[],1⟩:=rfl
theorem f7B:shp 6=⟨[],0,2,0,[],2⟩:=rfl
theorem f8V:shp 7=⟨[(8,0)],2,0,1,[],4⟩:=rfl
theorem f8q:shp 8=⟨[],0,0,2,[],2⟩:=rfl
theorem f7o:shp 9=⟨[(0,3)],0,0,1,[],4⟩:=rfl
theorem d5q:shp 10=⟨[(0,3)],0,0,1,[],4⟩:=rfl
theorem d7l:shp 11=⟨[(0,3)],0,0,1,[],3⟩:=rfl
theorem d6w:shp 12=⟨[(0,3)],0,0,0,[],2⟩:=rfl
theorem d5M:shp 13=⟨[(0,3),(6,0),(14,0)],0,0,0,[],1⟩:=rfl
theorem d0i:shp 14=⟨[(6,0)],0,0,0,[],1⟩:=rfl
theorem d5Z:shp 15=⟨[(0,3),(6,0)],0,0,0,[],1⟩:=rfl
theorem d4C:shp 16=⟨[(0,3)],0,0,0,[],1⟩:=rfl
theorem d4G:shp 17=⟨[],0,0,3,[],1⟩:=rfl
theorem d4q:shp 18=⟨[],0,0,4,[⟨#[116,114,117,101]⟩,⟨#[102,97,108,115,101]⟩],1⟩:=rfl
theorem d6R:shp 19=⟨[],0,0,1,[],1⟩:=rfl
theorem d7g:shp 20=⟨[],0,3,1,[],3⟩:=rfl
theorem d4j:shp 21=⟨[(0,3)],0,3,1,[],4⟩:=rfl
theorem d5D:shp 22=⟨[],0,0,1,[],4⟩:=rfl
theorem d4y:shp 23=⟨[],0,0,4,[⟨#[115,101,108,102]⟩],1⟩:=rfl
theorem d5w:shp 24=⟨[(0,3),(0,3)],0,0,4,[⟨#[124]⟩,⟨#[38]⟩,⟨#[61,61]⟩,⟨#[60]⟩,⟨#[43]⟩,⟨#[45]⟩,⟨#[42]⟩,⟨#[47]⟩],1⟩:=rfl
theorem d5B:shp 25=⟨[(0,3)],0,0,4,[⟨#[45]⟩,⟨#[33]⟩],1⟩:=rfl
theorem d5h:shp 26=⟨[(0,3)],0,0,0,[],2⟩:=rfl
theorem b3P{k:Int}(h:b1w k=true):k=1∨k=2∨k=3∨k=4∨k=5∨k=6∨k=7∨k=8∨k=9∨k=10∨k=11∨k=12∨k=13∨k=14∨k=15∨k=16∨k=17∨k=18∨k=19∨k=20∨k=21∨k=22∨k=23∨k=24∨k=25∨k=26:=by
 simp[b1w]at h;omega
theorem d2B{k:Int}(h:b1w k=true)(h14:k≠14):b0S k=((shp k).first.length:Int):=by
 rcases b3P h with rfl | rfl | rfl | rfl | rfl | rfl | rfl | rfl | rfl | rfl | rfl | rfl | rfl | rfl | rfl | rfl | rfl | rfl | rfl | rfl | rfl | rfl | rfl | rfl | rfl | rfl <;> first | rfl | exact absurd rfl h14
theorem d4w(i:Int)(h:0≤i):i=0∨i=1∨i=2∨3≤i:=by omega
theorem c5t(c:Int):b1D c=0∨(1≤c∧c<27):=by
 unfold b1D
 repeat' split
 all_goals omega
theorem c7s{k:Int}(h:b1w k=true)(i c:Int)(hi:0≤i):b7X k i c=b3l k i c:=by
 have hg:=c5t c;rcases d4w i hi with rfl | rfl | rfl | h3
 rotate_right
 ·have n0:¬ i<0:=by omega
  have n1:¬ i<1:=by omega
  have n2:¬ i<2:=by omega
  have n3:¬ i<3:=by omega
  have m0:¬ i=0:=by omega
  have m1:¬ i=1:=by omega
  have m2:¬ i=2:=by omega
  have p0:0<i:=by omega
  rcases b3P h with rfl | rfl | rfl | rfl | rfl | rfl | rfl | rfl | rfl | rfl | rfl | rfl | rfl | rfl | rfl | rfl | rfl | rfl | rfl | rfl | rfl | rfl | rfl | rfl | rfl | rfl
  all_goals(simp only[b7X,c6l,b3l,f9j,f7u,f8t,f9F,f7h,f7B,f8V,f8q,f7o,d5q,d7l,d6w,d5M,d0i,d5Z,d4C,d4G,d4q,d6R,d7g,d4j,d5D,d4y,d5w,d5B,d5h,h0o,h0J];rw[h1k];simp[b1w,n0,n1,n2,n3,m0,m1,m2,p0,hi])
  all_goals omega
 all_goals
  rcases b3P h with rfl | rfl | rfl | rfl | rfl | rfl | rfl | rfl | rfl | rfl | rfl | rfl | rfl | rfl | rfl | rfl | rfl | rfl | rfl | rfl | rfl | rfl | rfl | rfl | rfl | rfl
  all_goals(simp only[b7X,c6l,b3l,f9j,f7u,f8t,f9F,f7h,f7B,f8V,f8q,f7o,d5q,d7l,d6w,d5M,d0i,d5Z,d4C,d4G,d4q,d6R,d7g,d4j,d5D,d4y,d5w,d5B,d5h,h0o,h0J];rw[h1k];simp[b1w])
  all_goals omega
theorem c1u{k:Int}(h:b1w k=true):∀ (ks:List Nd) (i:Nat),b5i k ks i=b1C k ks i
 | [],i=>rfl
 | x::r,i=>by
  rw[b5i,b1C,c7s h _ _ (by omega),c1u h r (i+1)];rfl
theorem c8z{k:Int}(h:b1w k=true)(t:ByteArray):b2l k t=(b2s k t || b5X k t):=by
 rcases b3P h with rfl | rfl | rfl | rfl | rfl | rfl | rfl | rfl | rfl | rfl | rfl | rfl | rfl | rfl | rfl | rfl | rfl | rfl | rfl | rfl | rfl | rfl | rfl | rfl | rfl | rfl
 all_goals(simp only[b2l,b2s,b5X,b3s,b9P,f9j,f7u,f8t,f9F,f7h,f7B,f8V,f8q,f7o,d5q,d7l,d6w,d5M,d0i,d5Z,d4C,d4G,d4q,d6R,d7g,d4j,d5D,d4y,d5w,d5B,d5h])
 all_goals(try(simp;done))
 all_goals(try(simp;grind))
theorem d0m{k:Int}(h:b1w k=true)(t:ByteArray):b3A k t = !((decide (k=17) && !c2n t) || (!decide (k=17) && b2s k t && !b0F t)):=by
 rcases b3P h with rfl | rfl | rfl | rfl | rfl | rfl | rfl | rfl | rfl | rfl | rfl | rfl | rfl | rfl | rfl | rfl | rfl | rfl | rfl | rfl | rfl | rfl | rfl | rfl | rfl | rfl
 all_goals(simp only[b3A,f9j,f7u,f8t,f9F,f7h,f7B,f8V,f8q,f7o,d5q,d7l,d6w,d5M,d0i,d5Z,d4C,d4G,d4q,d6R,d7g,d4j,d5D,d4y,d5w,d5B,d5h])
 all_goals(simp[b2s])
theorem b3t{k:Int}:∀ {ks:List Nd} {i:Int},b1C k ks i=true→∀ (j:Nat) x,ks[j]? = some x→b3l k (i+j) x.kind=true
 | [],i,h,j,x,hx=>by simp at hx
 | y::r,i,h,j,x,hx=>by
  rw[b1C,h0k]at h
  match j with
  | 0=>simp at hx;subst hx;simpa using h.1
  | j+1 =>
   have:=b3t h.2 j x (by simpa using hx);rw[←this];congr 1;omega
theorem d9a{k:Int}(h:b1w k=true)(ks:List Nd):b6X k ks=(!decide ((ks.length:Int)<b0S k) && b1C k ks 0):=by
 have hF:=c1u h ks 0;have hfar:(shp k).rk=0∧(shp k).rg=0→(shp k).first.length<ks.length→b1C k ks 0=false:=fun hr hl=>by
  cases hc:b1C k ks 0 with
  | false=>rfl
  | true =>
   have:=b3t hc (shp k).first.length _ (h0f hl);rw[Int.zero_add,←c7s h _ _ (by omega)]at this;simp[b7X,c6l,hr]at this;have hk:=this.1.2;simp[b1w]at hk;have:=this.2;omega
 unfold b6X;rw[hF];by_cases h14:k=14
 ·subst h14;have hl:b0S 14=0:=rfl;rw[hl,show((0:Nat):Int)=0 from rfl];have hfar:=hfar ⟨rfl,rfl⟩;have hf1:(shp 14).first.length=1:=rfl;rw[hf1]at hfar ⊢;have hr:((shp 14).rk=0∧(shp 14).rg=0)=True:=by simp[d0i]
  simp only[hr];rcases ks with _ | ⟨x,_ | ⟨y,r⟩⟩
  ·simp[b1C]
  ·simp
  ·have:=hfar (by simp);simp[this]
 ·rw[d2B h h14];simp only[h14,decide_false,h0U,h0Y];by_cases hl:ks.length<(shp k).first.length
  ·have:((ks.length:Int)<((shp k).first.length:Int)):=by omega
   simp[hl]
  ·have h':¬ ((ks.length:Int)<((shp k).first.length:Int)):=by omega
   simp only[hl,h',decide_false,h0Y,Bool.not_false,h0S];by_cases hr:(shp k).rk=0∧(shp k).rg=0
   ·by_cases hl2:(shp k).first.length<ks.length
    ·simp[hfar hr hl2]
    ·simp[hl2]
   ·simp[hr]
theorem d9r(n:Nd):c3Z n=n.node:=by
 obtain⟨k,t,g,ks⟩:=n;have e1:(Nd.mk k t g ks).shape=(b1w k && b6X k ks && b2l k t && (Nd.mk k t g ks).levels):=by
  by_cases h:b1w k=true
  ·have hk:1≤k∧k<27:=by simpa[b1w]using h
   have h1:¬ k<1:=by omega
   have h2:¬ 26<k:=by omega
   simp only[Nd.shape,Nd.kind,Nd.kids,Nd.text,h1,h2,h,d9a h,c8z h,decide_false,Bool.not_false,h0S,Bool.and_assoc];rfl
  ·have h':b1w k=false:=by simpa using h
   rw[h'];have:¬ (1≤k∧k<27):=by simpa[b1w]using h
   simp only[Nd.shape,Nd.kind,Nd.kids,Nd.text,h0U];by_cases h1:k<1
   ·simp[h1]
   ·have:26<k:=by omega
    simp[this]
 have hng:c3Z (.mk k t g ks)=if !(b1w k && b6X k ks && b2l k t && (Nd.mk k t g ks).levels)then 7 else if !b3A k t then 4 else if !b8H (.mk k t g ks)then 7 else 0:=rfl
 have hnn:(Nd.mk k t g ks).node=if !(Nd.mk k t g ks).shape then 7 else if(decide (k=17) && !c2n t) || (!decide (k=17) && b2s k t && !b0F t)then 4
  else if 0<g.length∧(g.length:Int)≠(Nd.mk k t g ks).own then 7 else if g.all b2V then 0 else 7:=rfl
 rw[hng,hnn,e1];by_cases hs:(b1w k && b6X k ks && b2l k t && (Nd.mk k t g ks).levels)=true
 ·have hk:b1w k=true:=by simp[h0k]at hs;exact hs.1.1.1
  rw[hs,d0m hk];simp only[Bool.not_true,h0r,if_false,Bool.not_not];congr 1;by_cases hg:g.length=0
  ·have:g=[]:=h0G hg;subst this;simp[b8H,Nd.gaps]
  ·have h0:0<g.length:=by omega
   have e:b8H (.mk k t g ks)=(g.all b2V && decide ((g.length:Int)=(Nd.mk k t g ks).own)):=by
    have:g≠[]:=by rintro rfl;simp at hg
    simp[b8H,Nd.gaps,this];rfl
   rw[e];by_cases ho:(g.length:Int)=(Nd.mk k t g ks).own
   ·simp only[ho,decide_true,h1g,h0,true_and,ne_eq,not_true_eq_false,if_false];cases g.all b2V <;> rfl
   ·simp[ho,h0]
 ·have:(b1w k && b6X k ks && b2l k t && (Nd.mk k t g ks).levels)=false:=by simpa using hs
  rw[this];rfl
theorem d3u:∀ n:Nd,b6E n=b5n n:=by
 refine Nd.all fun k t g ks ih=>?_
 have hs:∀ l:List Nd,(∀ x∈l,b6E x=b5n x)→b5T l=b5k l:=by
  intro l;induction l with
  | nil=>intro _;rfl
  | cons x r ihr =>
   intro h;rw[b5T,b5k,h x (by simp),ihr fun y hy=>h y (by simp[hy])]
 rw[b6E,b5n,d9r,hs ks ih]
mutual
def okN:Nd→Int→Bool
 | .mk k t g ks,d=>decide (0<d) && decide ((ks.length:Int)≤b9M k) && c5m ks (d - 1)
def c5m:List Nd→Int→Bool
 | [],_=>true
 | x::r,d=>okN x d && c5m r d
end
def c0u(n:Nd):Nat:=(b0o n).length
def b5j(l:List Nd):Nat:=(b0k l).length
theorem d2J{k t g ks}:c0u (.mk k t g ks)=b5j ks+1:=by simp[c0u,b5j,b0o]
theorem c7K{x:Nd}{r:List Nd}:b5j (x::r)=c0u x+b5j r:=by simp[c0u,b5j,b0k]
theorem d2f(n:Nd):1≤c0u n:=by obtain⟨k,t,g,ks⟩:=n;rw[d2J];omega
theorem d0L:∀ (n:Nd) (l d:Int),b3w n l d=if okN n d=true∧(c0u n:Int)≤l then l - c0u n else -1:=by
 refine Nd.all fun k t g ks ih l d=>?_
 have hs:∀ (r:List Nd),(∀ x∈r,∀ (l d:Int),b3w x l d=if okN x d=true∧(c0u x:Int)≤l then l - c0u x else -1)→∀ (l d:Int),0≤l→b2U r l d=if c5m r d=true∧(b5j r:Int)≤l then l - b5j r else -1:=by
  intro r;induction r with
  | nil=>intro _ l d hl;simp[b2U,c5m,b5j,b0k,hl]
  | cons x r ihr =>
   intro h l d hl;have ihr:=ihr fun y hy=>h y (by simp[hy])
   rw[b2U,h x (by simp),c5m,c7K];by_cases hx:okN x d=true∧(c0u x:Int)≤l
   ·rw[if_pos hx,if_neg (by omega),ihr _ _ (by omega)];by_cases hr:c5m r d=true∧(b5j r:Int)≤l - c0u x
    ·rw[if_pos hr,if_pos ⟨by simp[hx.1,hr.1],by omega⟩];omega
    ·rw[if_neg hr,if_neg];rintro⟨h1,h2⟩;simp only[h0k]at h1;exact hr ⟨h1.2,by omega⟩
   ·rw[if_neg hx,if_pos (by omega),if_neg];rintro⟨h1,h2⟩;simp only[h0k]at h1;exact hx ⟨h1.1,by omega⟩
 rw[b3w,okN,d2J];by_cases hb:l≤0∨d≤0∨b9M k<(ks.length:Int)
 ·rw[if_pos hb,if_neg];rintro⟨h1,h2⟩;simp only[h0k,h0l]at h1;omega
 ·rw[if_neg hb,hs ks ih _ _ (by omega)];have a1:0<d:=by omega
  have a2:(ks.length:Int)≤b9M k:=by omega
  simp only[a1,a2,decide_true,h0S];by_cases hr:c5m ks (d - 1)=true∧(b5j ks:Int)≤l - 1
  ·rw[if_pos hr,if_pos ⟨hr.1,by omega⟩];omega
  ·rw[if_neg hr,if_neg];rintro⟨h1,h2⟩;exact hr ⟨h1,by omega⟩
theorem d6o:∀ (n:Nd) (l:Int),b5J n l=if okN n (61 - l)=true∧c0u n≤4000 then(c0u n:Int)else 4001:=by
 refine Nd.all fun k t g ks ih l=>?_
 have hs:∀ (r:List Nd),(∀ x∈r,∀ (l:Int),b5J x l=if okN x (61 - l)=true∧c0u x≤4000 then(c0u x:Int)else 4001)→∀ (k l:Int),1≤k→min (b4P r k l) 4001=if c5m r (61 - l)=true∧k+(b5j r:Int)≤4000 then k+(b5j r:Int)else if k≤4000 then 4001 else min k 4001:=by
  intro r;induction r with
  | nil =>
   intro _ k l hk;simp only[b4P,c5m,b5j,b0k,h0J,true_and];by_cases h:k≤4000
   ·rw[if_pos (by omega)];omega
   ·rw[if_neg (by omega),if_neg h]
  | cons x r ihr =>
   intro h k l hk;have ihr:=ihr fun y hy=>h y (by simp[hy])
   have hp:=d2f x;rw[b4P,c5m,c7K,h x (by simp)];by_cases hk4:4000<k
   ·rw[if_pos hk4,if_neg (by omega),if_neg (by omega)]
   ·rw[if_neg hk4];by_cases hx:okN x (61 - l)=true∧c0u x≤4000
    ·rw[if_pos hx,ihr _ _ (by omega)];by_cases hr:c5m r (61 - l)=true∧k+(c0u x:Int)+(b5j r:Int)≤4000
     ·rw[if_pos hr,if_pos ⟨by simp[hx.1,hr.1],by omega⟩];omega
     ·have hn:¬ ((okN x (61 - l) && c5m r (61 - l))=true∧k+((c0u x+b5j r:Nat):Int)≤4000):=by
       rintro⟨h1,h2⟩;simp only[h0k]at h1;exact hr ⟨h1.2,by omega⟩
      rw[if_neg hr,if_neg hn,if_pos (show k≤4000 by omega)];split <;> omega
    ·have hn:¬ ((okN x (61 - l) && c5m r (61 - l))=true∧k+((c0u x+b5j r:Nat):Int)≤4000):=by
      rintro⟨h1,h2⟩;simp only[h0k]at h1;exact hx ⟨h1.1,by omega⟩
     rw[if_neg hx,ihr _ _ (by omega),if_neg (show ¬ (c5m r (61 - l)=true∧k+4001+(b5j r:Int)≤4000)by omega),if_neg (show ¬ k+4001≤4000 by omega),if_neg hn,if_pos (show k≤4000 by omega)];omega
 rw[b5J,okN,d2J];by_cases hb:60<l∨b9M k<(ks.length:Int)
 ·rw[if_pos hb,if_neg];rintro⟨h1,h2⟩;simp only[h0k,h0l]at h1;omega
 ·rw[if_neg hb,hs ks ih _ _ (by omega)];have a1:0<61 - l:=by omega
  have a2:(ks.length:Int)≤b9M k:=by omega
  have a3:61 - (l+1)=61 - l - 1:=by omega
  simp only[a1,a2,decide_true,h0S,a3];by_cases hr:c5m ks (61 - l - 1)=true∧1+(b5j ks:Int)≤4000
  ·rw[if_pos hr,if_pos ⟨hr.1,by omega⟩];omega
  ·have hn:¬ (c5m ks (61 - l - 1)=true∧b5j ks+1≤4000):=by
    rintro⟨h1,h2⟩;exact hr ⟨h1,by omega⟩
   rw[if_neg hr,if_neg hn,if_pos (by decide)]
theorem d6h(n:Nd):(if b3w n 4000 60<0 then 3 else b6E n)=b3T n:=by
 unfold b3T;rw[d0L,d6o,d3u,show(61:Int) - 1=60 from rfl];by_cases h:okN n 60=true∧c0u n≤4000
 ·rw[if_pos (show okN n 60=true∧(c0u n:Int)≤4000 from⟨h.1,by omega⟩),if_pos h,if_neg (by omega),if_neg (by omega)]
 ·rw[if_neg (show ¬ (okN n 60=true∧(c0u n:Int)≤4000)from fun h'=>h ⟨h'.1,by omega⟩),if_neg h];rfl
end Go.Vg
namespace Go.Proofs.YtighfcpaplmaiaaGreatDoor
open Go Go.Vg Go.Proofs
theorem f0h(n:Nd)(hs:b5D n):b0s env 140 [.agg n.enc] (.int .i64 (b3T n)):=by
 rw[←d6h];exact f4k n hs
end Go.Proofs.YtighfcpaplmaiaaGreatDoor
namespace Go.Vg
end Go.Vg
namespace Go.Proofs.YtighfcpaplmaiaaGreatDoor
open Go Go.Vg Go.Proofs
theorem f3W(x:Un)(hs:b5D x.tree):b0s env 87 [.agg x.enc] (.bool (b1q x)):=by
 refine b0i (fn:=Tryz.f87) Tryz.func87 rfl (by rw[Tryz.ntmps87];simp) (by simp -implicitDefEqProofs only[go_sem]) rfl ?_;simp -implicitDefEqProofs only[go_sem,Tryz.f87];refine⟨fun hb=>⟨fun hk=>?_,fun hk=>by simp[b1q,hk]⟩,fun hb=>by simp_all [b1q]⟩;refine(f0h x.tree hs).calls (by simp -implicitDefEqProofs only[go_sem]) ?_;simp -implicitDefEqProofs only[go_sem];simp_all [b1q]
theorem b8O(r:Rw):b0Y r.enc=true:=by
 simp -implicitDefEqProofs only[Rw.enc,go_sem];exact c0J _
theorem b4y(r:Rw):List.map share1 r.enc=r.enc:=by simp -implicitDefEqProofs only[Rw.enc,go_sem]
theorem c0v{tabs:List (List V)}{un:Nat}{x:List V}(h:tabs[un]? = some x):tabs.getD (un:Int).toNat []=x∧((un:Int)<tabs.length)=True:=by
 have:=(h0b.1 h).1;exact⟨by simp[h0c,h],by simp;exact this⟩
end Go.Proofs.YtighfcpaplmaiaaGreatDoor
namespace Go.Vg
def b4u:List Nd→Int→Nd×Int
 | [],_=>(Nd.zero,0)
 | x::r,k=>if x.kind=8 then(x,k)else b4u r (k+(b0o x).length)
theorem d6a{k:Int}{t:ByteArray}{u m:Int}{x:Ar}{d:Dl}(h:b2u k t u m x=some d):d.unit=u∧d.node=m∧d.name=t∧(d.kind=2→k=7)∧(d.kind=1∨d.kind=4→k=2):=by
 unfold b2u at h
 repeat' split at h
 all_goals first | (cases h;done) | (cases h;simp;try omega)
def placed(n:Nd)(m:Nat)(d:Dl):Prop:=∃ j y,d.node=((m+j:Nat):Int)∧(b0o n)[j]? = some y∧d.name=y.text∧(d.kind=2→y.kind=7)∧(d.kind=1∨d.kind=4→y.kind=2)
theorem c2u:∀ (n:Nd) (u:Int) (m:Nat) (x:Ar) (d:Dl),d∈b1z n u m x→d.unit=u∧placed n m d:=by
 refine Nd.all fun k t g ks ih u m x d hd=>?_
 have hs:∀ (l:List Nd),(∀ y∈l,∀ (u:Int) (m:Nat) (x:Ar) (d:Dl),d∈b1z y u m x→d.unit=u∧placed y m d)→∀ (m:Nat) (x:Ar) (d:Dl),d∈b0V l u m x →
   d.unit=u∧∃ j y,d.node=((m+j:Nat):Int)∧(b0k l)[j]? = some y∧d.name=y.text∧(d.kind=2→y.kind=7)∧(d.kind=1∨d.kind=4→y.kind=2):=by
  intro l;induction l with
  | nil=>intro _ m x d hd;simp[b0V]at hd
  | cons z r ihr =>
   intro h m x d hd;rw[b0V,h0E]at hd;rcases hd with hd | hd
   ·obtain⟨h1,j,y,h2,h3,h4⟩:=h z (by simp) u m x d hd;refine⟨h1,j,y,h2,?_,h4⟩;rw[b0k,h0e (h0b.1 h3).1];exact h3
   ·obtain⟨h1,j,y,h2,h3,h4⟩:=ihr (fun y hy=>h y (by simp[hy])) _ x d hd;refine⟨h1,(b0o z).length+j,y,by rw[h2,h1s],?_,h4⟩;rw[b0k,h0g (by omega)];simpa using h3
 rw[b1z,h0E]at hd;rcases hd with hd | hd
 ·cases hdt:b2u k t u m x with
  | none=>rw[hdt]at hd;cases hd
  | some d' =>
   rw[hdt]at hd;simp at hd;subst hd;obtain⟨h1,h2,h3,h4⟩:=d6a hdt;exact⟨h1,0,.mk k t g ks,by simpa using h2,by simp[b0o],h3,h4⟩
 ·obtain⟨h1,j,y,h2,h3,h4⟩:=hs ks ih _ _ d hd;exact⟨h1,j+1,y,by rw[h2];congr 1;omega,by simpa[b0o]using h3,h4⟩
theorem b4w:∀ (u:List Un) (i:Nat) (d:Dl),d∈b0e u i→∃ un x,d.unit=((i+un:Nat):Int)∧u[un]? = some x∧x.broken=false∧placed x.tree 0 d
 | [],i,d,h=>by simp[b0e]at h
 | x::r,i,d,h=>by
  rw[b0e,h0E]at h;rcases h with h | h
  ·split at h
   ·cases h
   ·rename_i hb;obtain⟨h1,h2⟩:=c2u x.tree i 0 Ar.none d h;exact⟨0,x,by simpa using h1,rfl,by simpa using hb,h2⟩
  ·obtain⟨un,y,h1,h2,h3⟩:=b4w r (i+1) d h;exact⟨un+1,y,by rw[h1];congr 1;omega,by simpa using h2,h3⟩
theorem b6m:∀ (n y:Nd),y∈b0o n→(b0o y).length≤(b0o n).length:=by
 refine Nd.all fun k t g ks ih y hy=>?_
 have hs:∀ (l:List Nd),(∀ z∈l,∀ y∈b0o z,(b0o y).length≤(b0o z).length)→∀ y∈b0k l,(b0o y).length≤(b0k l).length:=by
  intro l;induction l with
  | nil=>intro _ y hy;simp[b0k]at hy
  | cons z r ihr =>
   intro h y hy;rw[b0k,h0E]at hy;rw[b0k,h0h];rcases hy with hy | hy
   ·have:=h z (by simp) y hy;omega
   ·have:=ihr (fun w hw=>h w (by simp[hw])) y hy;omega
 rw[b0o]at hy;rcases h0C.1 hy with rfl | hy
 ·exact h0q _
 ·have:=hs ks (fun z hz y hy=>ih z hz y hy) y hy;rw[b0Z];omega
theorem c4x{k t g}{ks:List Nd}{x:Nd}(hx:x∈ks):(b0o x).length≤(b0o (.mk k t g ks)).length:=by
 refine b6m _ _ (d1n hx ?_);obtain⟨a,b,c,d⟩:=x;rw[b0o];simp
theorem b3L:∀ ks:List Nd,ks.length≤(b0k ks).length
 | []=>h0q _
 | x::r=>by
  have:=b3L r;have h1:=d2f x;unfold c0u at h1;rw[b0k,h0h,h0o];omega
theorem c0d:∀ (l:List Nd) (a b:Int),(b4u l a).1=(b4u l b).1
 | [],_,_=>rfl
 | x::r,a,b=>by
  rw[b4u,b4u];split
  ·rfl
  ·exact c0d r _ _
def btU(u:List Un)(d:Dl):ByteArray:=match u[d.unit.toNat]? with
 | some x=>match(b0o x.tree)[d.node.toNat]? with
  | some n=>(b4u n.kids 0).1.text
  | none=>⟨#[]⟩
 | none=>⟨#[]⟩
def b6y(B:List (ByteArray×ByteArray)):List (V×V):=B.map fun p=>(.str p.1,.str p.2)
def b1G(B:List (ByteArray×ByteArray))(n:ByteArray):Option ByteArray:=(B.find? fun p=>decide (p.1=n)).map (·.2)
def b7B(B:List (ByteArray×ByteArray))(cls:ByteArray):Nat→List ByteArray→ByteArray→List ByteArray×ByteArray
 | 0,out,next=>(out,next)
 | f+1,out,next=>if(decide (next=⟨#[]⟩) || !(b1G B next).isSome || (cls::out).any fun x=>decide (x=next))=true then(out,next)else b7B B cls f (out++[next]) ((b1G B next).getD ⟨#[]⟩)
theorem d6q(n:ByteArray):∀ (B:List (ByteArray×ByteArray)) (i:Nat),(∃ j v,b1v .string (.str n) (b6y B) i=some (some (j,.str v))∧b1G B n=some v)∨(b1v .string (.str n) (b6y B) i=some none∧b1G B n=none)
 | [],i => .inr ⟨rfl,rfl⟩
 | (a,b)::r,i=>by
  by_cases h:a=n
  ·subst h;refine .inl ⟨i,b,?_,by simp[b1G]⟩;simp only[b6y,h0s,b1v,b7C];have:(a == a)=true:=(MapKept.bytes_beq a a).2 rfl;rw[this]
  ·have h2:(n == a)=false:=by
    cases hc:(n == a)with
    | false=>rfl
    | true=>exact absurd ((MapKept.bytes_beq n a).1 hc).symm h
   have e:b1v .string (.str n) (b6y ((a,b)::r)) i=b1v .string (.str n) (b6y r) (i+1):=by
    simp only[b6y,h0s,b1v,b7C,h2]
   have e2:b1G ((a,b)::r) n=b1G r n:=by simp[b1G,h]
   rw[e,e2];exact d6q n r (i+1)
theorem b7E{B:List (ByteArray×ByteArray)}{n:ByteArray}(h:(b1G B n).isSome=true):n∈B.map (·.1):=by
 unfold b1G at h;cases hf:B.find? fun p=>decide (p.1=n)with
 | none=>rw[hf]at h;cases h
 | some p =>
  have h1:=h0Z hf;have h2:=List.find?_some hf;exact h1p.2 ⟨p,h1,by simpa using h2⟩
theorem c1x{α:Type}[DecidableEq α]:∀ (l m:List α),l.Nodup→(∀ x∈l,x∈m)→l.length≤m.length
 | [],m,_,_=>Nat.zero_le _
 | x::l,m,hn,hm=>by
  have hx:=hm x (by simp);have h1:=c1x l (m.erase x) (h1t.1 hn).2 fun y hy=>by
   refine(List.mem_erase_of_ne ?_).2 (hm y (by simp[hy]));rintro rfl;exact(h1t.1 hn).1 hy
  have h2:=List.length_erase_of_mem hx;have h3:=List.length_pos_of_mem hx;simp only[h0o];omega
def b2R(l:List ByteArray):List (V×V):=l.map fun x=>(.str x,.bool true)
theorem f1b(n:ByteArray):∀ (l:List ByteArray) (i:Nat),(∃ j,b1v .string (.str n) (b2R l) i=some (some (j,.bool true))∧(l.any fun x=>decide (x=n))=true)∨(b1v .string (.str n) (b2R l) i=some none∧(l.any fun x=>decide (x=n))=false)
 | [],i => .inr ⟨rfl,rfl⟩
 | a::r,i=>by
  by_cases h:a=n
  ·subst h;refine .inl ⟨i,?_,by simp⟩;simp only[b2R,h0s,b1v,b7C];have:(a == a)=true:=(MapKept.bytes_beq a a).2 rfl;rw[this]
  ·have h2:(n == a)=false:=by
    cases hc:(n == a)with
    | false=>rfl
    | true=>exact absurd ((MapKept.bytes_beq n a).1 hc).symm h
   have e:b1v .string (.str n) (b2R (a::r)) i=b1v .string (.str n) (b2R r) (i+1):=by
    simp only[b2R,h0s,b1v,b7C,h2]
   have e2:((a::r).any fun x=>decide (x=n))=r.any fun x=>decide (x=n):=by simp[h]
   rw[e,e2];exact f1b n r (i+1)
end Go.Vg
namespace Go.Proofs.YtighfcpaplmaiaaGreatDoor
open Go Go.Vg Go.Proofs
theorem c1o{B:List (ByteArray×ByteArray)}{n:ByteArray}{K:V→Prop}:b1L env 9 (b1v .string (.str n) (b6y B) 0) false K=K (.str ((b1G B n).getD ⟨#[]⟩)):=by
 rcases d6q n B 0 with⟨j,v,h1,h2⟩ | ⟨h1,h2⟩
 ·rw[h1,h2];simp -implicitDefEqProofs only[go_sem];rfl
 ·rw[h1,h2];simp -implicitDefEqProofs only[go_sem];rfl
theorem b9p{B:List (ByteArray×ByteArray)}{n:ByteArray}{K:V→Prop}:b1L env 9 (b1v .string (.str n) (b6y B) 0) true K=K (.tuple [.str ((b1G B n).getD ⟨#[]⟩),.bool (b1G B n).isSome]):=by
 rcases d6q n B 0 with⟨j,v,h1,h2⟩ | ⟨h1,h2⟩
 ·rw[h1,h2];simp -implicitDefEqProofs only[go_sem];rfl
 ·rw[h1,h2];simp -implicitDefEqProofs only[go_sem];rfl
theorem d3l{l:List ByteArray}{n:ByteArray}{K:V→Prop}:b1L env 4 (b1v .string (.str n) (b2R l) 0) false K=K (.bool (l.any fun x=>decide (x=n))):=by
 rcases f1b n l 0 with⟨j,h1,h2⟩ | ⟨h1,h2⟩
 ·rw[h1,h2];simp -implicitDefEqProofs only[go_sem]
 ·rw[h1,h2];simp -implicitDefEqProofs only[go_sem];rfl
theorem d2C{l:List ByteArray}{n:ByteArray}{h:List VObj}{id:Nat}{L:List VObj→Prop}(hn:(l.any fun x=>decide (x=n))=false):b3Z h id (b2R l) (.str n) (.bool true) (b1v .string (.str n) (b2R l) 0) L=L (h.set id (.map (b2R (l++[n])))):=by
 rcases f1b n l 0 with⟨j,h1,h2⟩ | ⟨h1,h2⟩
 ·rw[h2]at hn;cases hn
 ·rw[h1];simp -implicitDefEqProofs only[go_sem];simp[b2R]
theorem f4f(u:List Un)(hu:b2D u)(un nd:Nat)(x:Un)(n:Nd)(hx:u[un]? = some x)(hn:(b0o x.tree)[nd]? = some n)(hs:∀ k∈n.kids,(b0o k).length≤1000)(hks:n.kids.length≤1000):b0s env 97 [sl 70 (u.map Un.enc),.agg [.int .i64 un,.int .i64 nd]] (.tuple [.agg (b4u n.kids (nd+1)).1.enc,.int .i64 (b4u n.kids (nd+1)).2]):=by
 obtain⟨k,t,g,ks⟩:=n;simp only[Nd.kids]at hs hks ⊢;have hul:un<u.length:=(h0b.1 hx).1;have hxm:x∈u:=h0j hx;have hnl:nd<(b0o x.tree).length:=(h0b.1 hn).1;have hnn:(b0o x.tree).length≤1000:=(hu.2 x hxm).1;have hel:(u.map Un.enc).getD (un:Int).toNat []=x.enc:=f1S (by simpa using hx);have hlt:((un:Int)<(u.length:Int))=True:=by simp;omega
 have hAt:=TAt x.tree (by omega) nd (by omega);rw[if_pos (by omega),h0n,hn]at hAt;refine b0i (fn:=Tryz.f97) Tryz.func97 rfl (by rw[Tryz.ntmps97];simp) (by simp -implicitDefEqProofs only[go_sem];exact b0v _) (by simp -implicitDefEqProofs only[go_sem]) ?_;simp -implicitDefEqProofs only[go_sem,Tryz.f97];refine sdq ?_;simp -implicitDefEqProofs only[go_sem,hel,hlt];refine vPd hAt ?_;simp -implicitDefEqProofs only[go_sem,h0A,Option.isSome];intro _ _;refine b0l (β:=Int) ks (fun pre kk=>⟨[(29,.int .i64 pre.length),(28,.int .i64 ks.length),(27,sl 66 (ks.map Nd.enc)),(8,.int .i64 kk),(5,.int .i64 0),(4,.ptr 1 0)],
   [.dead,.cells [.int .i64 0,.str ⟨#[]⟩,.slice .nil 0 [],.slice .nil 0 []],.cells (Nd.mk k t g ks).enc],[]⟩)
  (fun pre post kk=>b4u ks (nd+1)=b4u post kk∧0≤kk∧kk≤1001+pre.length * 1000) (nd+1) ?_ ⟨rfl,by omega,by simp;omega⟩ ?_ ?_
 ·have:IntKind.i64.wrap ((nd:Int)+1)=nd+1:=b1M (by omega) (by omega);simp -implicitDefEqProofs only[go_sem,this];try rfl
 ·rintro kk ⟨hi,_,_⟩;simp -implicitDefEqProofs only[go_sem];rw[hi];rfl
 ·rintro pre y post kk hy ⟨hi,b0,b1⟩;have hpl:ks.length=pre.length+1+post.length:=by rw[hy];simp;omega
  have hgx:(ks.map Nd.enc).getD (pre.length:Int).toNat []=y.enc:=by rw[hy];simp[h0c]
  have hlt2:((pre.length:Int)<ks.length)=True:=by simp;omega
  have hym:y∈ks:=by rw[hy];simp
  have hyn:=hs y hym;rw[hi,b4u];simp -implicitDefEqProofs only[go_sem,hgx,hlt2];refine⟨fun h8=>?_,fun h8=>?_⟩
  ·rw[if_pos h8]
  ·refine(g2a y (by omega)).calls (by simp -implicitDefEqProofs only[go_sem]) ?_;simp -implicitDefEqProofs only[go_sem];exact⟨_,⟨by rw[if_neg h8],by omega,by omega⟩,b0g (by omega),b1M (by omega) (by omega)⟩
theorem f0x(B:List (ByteArray×ByteArray))(nm ds:V)(es:List (V×V))(a:Nat)(cls:ByteArray)(hB:B.length≤1000000)(hnm:nm.some? = true)(hds:ds.some? = true) :
  b0q env 63 [.ptr 2 0,.str cls] [.map (b6y B),.map es,.cells [nm,.map 0,.map 1,ds]] [a] fun v h' a'=>∃ n z,v = .tuple [.slice (.arr 1) 9 ((b7B B cls (B.length+1) [] ((b1G B cls).getD ⟨#[]⟩)).1.map b0n),.str (b7B B cls (B.length+1) [] ((b1G B cls).getD ⟨#[]⟩)).2]∧h'=[.map (b6y B),.map es,.cells [nm,.map 0,.map 1,ds],z]∧a'=[a,n]:=by
 refine b0y (fn:=Tryz.f63) Tryz.func63 rfl (by rw[Tryz.ntmps63];simp) ?_;simp -implicitDefEqProofs only[go_sem,Tryz.f63,c1o];generalize hgo:b7B B cls (B.length+1) [] ((b1G B cls).getD ⟨#[]⟩)=goal;refine b1u (α:=List ByteArray×ByteArray) (fun s=>⟨[(8,.str s.2),(7,.map 3),(6,.slice (.arr 1) 9 (s.1.map b0n)),(5,.str ⟨#[]⟩),(4,.slice .nil 0 []),(0,.ptr 2 0),(1,.str cls)],
   [.map (b6y B),.map es,.cells [nm,.map 0,.map 1,ds],.map (b2R (cls::s.1))],[a,s.1.length]⟩)
  (fun s=>b7B B cls (B.length+1 - s.1.length) s.1 s.2=goal∧s.1.Nodup∧∀ x∈s.1,(b1G B x).isSome=true) (fun s=>B.length+1 - s.1.length) ([],(b1G B cls).getD ⟨#[]⟩) ?_ ⟨by simpa using hgo,by simp,by simp⟩ ?_
 ·simp -implicitDefEqProofs only[go_sem];rfl
 ·rintro⟨out,next⟩ ⟨i1,i2,i3⟩;simp only at i1 i2 i3;have hle:out.length≤B.length:=by
   have:=c1x out (B.map (·.1)) i2 fun x hx=>b7E (i3 x hx)
   simpa using this
  obtain⟨f,hf⟩:∃ f,B.length+1 - out.length=f+1:=⟨B.length - out.length,by omega⟩
  rw[hf,b7B]at i1;have hstop:(decide (next=⟨#[]⟩) || !(b1G B next).isSome || (cls::out).any fun x=>decide (x=next))=true→∃ n z,V.tuple [.slice (.arr 1) 9 (out.map b0n),.str next]=V.tuple [.slice (.arr 1) 9 (goal.1.map b0n),.str goal.2]∧[VObj.map (b6y B),VObj.map es,VObj.cells [nm,.map 0,.map 1,ds],VObj.map (b2R (cls::out))]=[.map (b6y B),.map es,.cells [nm,.map 0,.map 1,ds],z]∧[a,out.length]=[a,n]:=fun h=>by
   rw[if_pos h]at i1;rw[←i1];exact⟨_,_,rfl,rfl,rfl⟩
  simp -implicitDefEqProofs only[go_sem,c1o,b9p,d3l];refine⟨fun h1=>⟨fun h2=>⟨fun h3=>hstop (by simp[h3]),fun h3=>?_⟩,fun h2=>hstop (by simp[h2])⟩,fun h1=>hstop (by simp[h1])⟩;have hsm:(b1G B next).isSome=true:=by simpa using h2
  have hc:¬ (decide (next=⟨#[]⟩) || !(b1G B next).isSome || (cls::out).any fun x=>decide (x=next))=true:=by
   rw[h3,h2];simp[h1]
  rw[if_neg hc]at i1;rw[d2C h3];simp -implicitDefEqProofs only[go_sem,c1o];have hno:next ∉ out:=fun hm=>by
   have:((cls::out).any fun x=>decide (x=next))=true:=by simp;exact .inr hm
   rw[h3]at this;cases this
  refine⟨by omega,(out++[next],(b1G B next).getD ⟨#[]⟩),by simp;omega,⟨?_,?_,?_⟩,⟨rfl,by simp[b0n]⟩,rfl,by simp⟩
  ·have:B.length+1 - (out++[next]).length=f:=by simp;omega
   simp only[this];exact i1
  ·simp only[];rw[h1v];exact⟨i2,by simp,fun x hx y hy=>by simp at hy;subst hy;rintro rfl;exact hno hx⟩
  ·intro x hx;rcases h0E.1 hx with h | h
   ·exact i3 x h
   ·simp at h;subst h;exact hsm
end Go.Proofs.YtighfcpaplmaiaaGreatDoor
