import Derived.Test.YtighfcpaplmaiaaGreatDoorTnF
set_option linter.unusedVariables false
set_option linter.unusedSimpArgs false
namespace Go.Vg
mutual
theorem c3r:∀ (n:Nd) (p:Int) (a j:Nat) (r:Rw),(b0z n p a)[j]? = some r→(j=0∧r.parent=p)∨((a:Int)≤r.parent∧r.parent<a+j)
 | .mk k t g ks,p,a,j,r,h=>by
  rw[b0z]at h
  cases j with
  | zero=>simp at h;subst h;exact .inl ⟨rfl,rfl⟩
  | succ j =>
   rw[g8V]at h
   have:=c4p ks a (a+1) j r (Nat.lt_succ_self _) h
   exact .inr ⟨this.1,by omega⟩
theorem c4p:∀ (ks:List Nd) (p a j:Nat) (r:Rw),p<a→(b1b ks p a)[j]? = some r→(p:Int)≤r.parent∧r.parent<a+j
 | [],p,a,j,r,_,h=>by simp[b1b]at h
 | x::q,p,a,j,r,hpa,h=>by
  rw[b1b]at h
  have hl:=b0N x p a
  by_cases hj:j<(b0z x p a).length
  ·rw[g9a hj]at h
   rcases c3r x p a j r h with⟨h1,h2⟩ | ⟨h1,h2⟩
   ·omega
   ·omega
  ·rw[g9c (by omega)]at h
   have:=c4p q p (a+(b0o x).length) _ r (by omega) h
   omega
end
mutual
theorem c1f:∀ (n:Nd) (p:Int) (a:Nat),(b0z n p a).map Rw.text=(b0o n).map Nd.text
 | .mk k t g ks,p,a=>by rw[b0z,b0o,g9o,g9o,c0W ks];rfl
theorem c0W:∀ (ks:List Nd) (p a:Nat),(b1b ks p a).map Rw.text=(b0l ks).map Nd.text
 | [],_,_=>rfl
 | x::q,p,a=>by rw[b1b,b0l,g9I,g9I,c1f x,c0W q]
end
theorem d8s(n:Nd)(hn:(b0o n).length≤1000000)(hs:b8Y n):okR (b0z n (-1) 0):=by
 refine⟨by rw[b0N];exact hn,fun i r h=>?_⟩
 have hp:=c3r n (-1) 0 i r h
 have ht:r.text∈(b0o n).map Nd.text:=by
  rw[←c1f n (-1) 0]
  exact h0k.2 ⟨r,g9f h,rfl⟩
 obtain⟨x,hx,he⟩:=h0k.1 ht
 have:=hs x hx
 rw[he]at this
 refine⟨by omega,by omega,this⟩
end Go.Vg
namespace Go.Proofs.YtighfcpaplmaiaaGreatDoor
open Go Go.Vg Go.Proofs
def c5x(l:List Rw)(u:Int)(at_:Nat)(r:Rw):Option Dl:=(b5l r.kind).map fun kd =>
 ⟨if kd=1∧(b3x l at_).isSome=true then 4 else kd,if kd=1 then(b3x l at_).getD ⟨#[]⟩else if kd=5∨kd=6 then fnR l (l.length+1) r.parent else⟨#[]⟩,r.text,u,at_⟩
def b2b(l:List Rw)(u:Int):List Rw→Nat→List Dl
 | [],_=>[]
 | r::q,i=>(c5x l u i r).toList++b2b l u q (i+1)
theorem b9w(l:List Rw)(u:Int)(x:Rw):∀ (pre:List Rw) i,b2b l u (pre++[x]) i=b2b l u pre i++(c5x l u (i+pre.length) x).toList
 | [],i=>by simp[b2b]
 | y::r,i=>by
  simp only[g8X,b2b,b9w l u x r,g9t,g9k]
  rw[show i+1+r.length=i+(r.length+1)by omega]
def b2a:List Un→Nat→List Dl
 | [],_=>[]
 | x::r,i=>(if x.broken=true then []else b2b (b0z x.tree (-1) 0) i (b0z x.tree (-1) 0) 0)++b2a r (i+1)
theorem d0S{l u i r}:(c5x l u i r).toList.length≤1:=by cases c5x l u i r <;> simp
theorem b7N(l:List Rw)(u:Int):∀ (q:List Rw) i,(b2b l u q i).length≤q.length
 | [],_=>g9m _
 | r::q,i=>by
  have:=b7N l u q (i+1)
  have:=d0S (l:=l) (u:=u) (i:=i) (r:=r)
  rw[b2b,g9d,g9k];omega
theorem b8b(x:Un):∀ (pre:List Un) i,b2a (pre++[x]) i=b2a pre i++(if x.broken=true then []else b2b (b0z x.tree (-1) 0) (i+pre.length:Nat) (b0z x.tree (-1) 0) 0)
 | [],i=>by simp[b2a]
 | y::r,i=>by
  simp only[g8X,b2a,b8b x r,g9t,g9k]
  rw[show i+1+r.length=i+(r.length+1)by omega]
theorem b9s:∀ (u:List Un) i,(∀ x∈u,(b0o x.tree).length≤1000)→(b2a u i).length≤u.length * 1000
 | [],_,_=>by simp[b2a]
 | x::r,i,h=>by
  have h1:=b9s r (i+1) fun y hy=>h y (by simp[hy])
  have h2:=b7N (b0z x.tree (-1) 0) i (b0z x.tree (-1) 0) 0
  have h3:=h x (by simp)
  rw[b0N]at h2
  rw[b2a,g9d,g9k]
  have h4:(if x.broken=true then []else b2b (b0z x.tree (-1) 0) i (b0z x.tree (-1) 0) 0).length≤1000:=by
   by_cases hb:x.broken=true
   ·rw[if_pos hb,g9F];omega
   ·rw[if_neg hb];omega
  omega
theorem c8S(k:Int):∃ o,f0Y (.int .i64) (.int .i64 k) (.int .i64 1) [(.int .i64 7,.int .i64 2),(.int .i64 9,.int .i64 3),(.int .i64 4,.int .i64 5),(.int .i64 10,.int .i64 6)] 0 (some (k == 2))=some o∧(b5l k=none→o=none)∧∀ kd,b5l k=some kd→∃ i,o=some (i,.int .i64 kd):=by
 by_cases h1:k=2
 ·subst h1;exact⟨_,rfl,by simp[b5l],fun kd h=>⟨0,by simp[b5l]at h;subst h;rfl⟩⟩
 by_cases h2:k=7
 ·subst h2;exact⟨_,rfl,by simp[b5l],fun kd h=>⟨1,by simp[b5l]at h;subst h;rfl⟩⟩
 by_cases h3:k=9
 ·subst h3;exact⟨_,rfl,by simp[b5l],fun kd h=>⟨2,by simp[b5l]at h;subst h;rfl⟩⟩
 by_cases h4:k=4
 ·subst h4;exact⟨_,rfl,by simp[b5l],fun kd h=>⟨3,by simp[b5l]at h;subst h;rfl⟩⟩
 by_cases h5:k=10
 ·subst h5;exact⟨_,rfl,by simp[b5l],fun kd h=>⟨4,by simp[b5l]at h;subst h;rfl⟩⟩
 have b1:=beq_false_of_ne h1
 have b2:=beq_false_of_ne h2
 have b3:=beq_false_of_ne h3
 have b4:=beq_false_of_ne h4
 have b5:=beq_false_of_ne h5
 refine⟨none,?_,fun _=>rfl,fun kd h=>by simp[b5l,h1,h2,h3,h4,h5]at h⟩
 simp -implicitDefEqProofs only[go_sem,b1,b2,b3,b4,b5]
theorem c9R(u:List Un)(hu:b2T u):b0u env 28 [sl 70 (u.map Un.enc)] (sl 54 ((b2a u 0).map Dl.enc)):=by
 refine b0i (fn:=Tryz.f28) Tryz.func28 rfl (by rw[Tryz.ntmps28];simp) (by simp -implicitDefEqProofs only[go_sem];exact b0x _) (by simp -implicitDefEqProofs only[go_sem];exact b0G _) ?_
 simp -implicitDefEqProofs only[go_sem,Tryz.f28]
 refine f4p _ _ _ ?_
 simp -implicitDefEqProofs only[go_sem]
 intro _ _
 have hul:=hu.1
 refine b0n (β:=Unit) u (fun pre _=>⟨[(18,.int .i64 pre.length),(17,.int .i64 u.length),(16,sl 70 (u.map Un.enc)),(4,.slice (.arr 0) 54 ((b2a pre 0).map Dl.enc)),(3,.map 0),(2,.slice .nil 0 [])],[b7W],[(b2a pre 0).length]⟩)
  (fun _ _ _=>True) () ?_ trivial ?_ ?_
 ·simp only[b2a]
  simp -implicitDefEqProofs only[go_sem,b7W]
  rfl
 ·intro _ _
  simp -implicitDefEqProofs only[go_sem]
 ·rintro pre x post _ rfl _
  have hx:=hu.2 x b1w
  have hpl:(pre++x::post).length=pre.length+1+post.length:=by simp;omega
  simp -implicitDefEqProofs only[go_sem,b7W]
  have hdl:=b9s pre 0 fun y hy=>(hu.2 y (by simp[hy])).1
  have hsn:=b8b x pre 0
  refine⟨fun hbr=>?_,fun hbr=>?_⟩
  ·rw[if_pos hbr,g9B]at hsn
   exact⟨(),⟨b0g (by omega),by rw[hsn]⟩,by rw[hsn],.inr ⟨rfl,by rw[b0m _ _ _ (b0G _),b0m _ _ _ (b0x _)];rfl⟩⟩
  ·rw[if_neg (by rw[hbr];decide),g9s]at hsn
   have hok:=d8s x.tree (by omega) hx.2
   have hrl:=b0N x.tree (-1) 0
   refine(d6d x.tree (by omega)).calls (by simp -implicitDefEqProofs only[go_sem]) ?_
   generalize b0z x.tree (-1) 0=R at hsn hok hrl ⊢
   simp -implicitDefEqProofs only[go_sem]
   intro hb2 hl2
   refine b0n (β:=Unit) R (fun p2 _=>⟨[(30,.int .i64 p2.length),(29,.int .i64 R.length),(28,sl 48 (R.map Rw.enc)),(7,sl 48 (R.map Rw.enc)),(5,.int .i64 pre.length),(18,.int .i64 pre.length),(17,.int .i64 (pre++x::post).length),(16,sl 70 ((pre++x::post).map Un.enc)),
     (4,.slice (.arr 0) 54 ((b2a pre 0++b2b R pre.length p2 0).map Dl.enc)),(3,.map 0),(2,.slice .nil 0 [])],[b7W,.dead],[(b2a pre 0++b2b R pre.length p2 0).length]⟩) (fun _ _ _=>True) () ?_ trivial ?_ ?_
   ·simp only[b2b,g9B]
    simp -implicitDefEqProofs only[go_sem,b7W]
    rfl
   ·intro _ _
    simp -implicitDefEqProofs only[go_sem,b7W]
    exact⟨(),⟨b0g (by omega),by rw[hsn]⟩,by rw[hsn],.inr ⟨rfl,by rw[b0m _ _ _ (b0G _),b0m _ _ _ (b0x _)];rfl⟩⟩
   ·intro p2 r q _ hR _
    have hg:R[p2.length]? = some r:=by rw[hR];simp
    have hlp:R.length=p2.length+1+q.length:=by rw[hR];simp;omega
    simp -implicitDefEqProofs only[go_sem,b7W,b6M hg,c1W hg]
    refine⟨fun _=>⟨by omega,?_⟩,fun h=>absurd (show(p2.length:Int)<R.length by omega) h⟩
    obtain⟨o,ho,hn0,hs0⟩:=c8S r.kind
    rw[ho]
    have hsr:=b9w R pre.length r p2 0
    rw[g9s]at hsr
    have hd:c5x R pre.length p2.length r=(b5l r.kind).map fun kd=>⟨if kd=1∧(b3x R p2.length).isSome=true then 4 else kd,if kd=1 then(b3x R p2.length).getD ⟨#[]⟩else if kd=5∨kd=6 then fnR R (R.length+1) r.parent else⟨#[]⟩,r.text,pre.length,p2.length⟩:=rfl
    cases hk:b5l r.kind with
    | none =>
     rw[hn0 hk]
     rw[hk,h0m]at hd
     rw[hd]at hsr
     simp only[Option.toList,g9B]at hsr
     simp -implicitDefEqProofs only[go_sem]
     exact⟨(),⟨b0g (by omega),by rw[hsr]⟩,by rw[hsr],.inr ⟨rfl,by rw[b0m _ _ _ (b0X _),b0m _ _ _ (b0G _),b0m _ _ _ (b0x _)];rfl⟩⟩
    | some kd =>
     obtain⟨i,rfl⟩:=hs0 kd hk
     rw[hk,g9z]at hd
     rw[hd]at hsr
     simp only[Option.toList]at hsr
     simp -implicitDefEqProofs only[go_sem,b6M hg,c1W hg]
     have hcl:=d6A R hok p2.length (by omega)
     have hkd:kd=1∨kd=2∨kd=3∨kd=5∨kd=6:=by
      unfold b5l at hk
      repeat' split at hk
      all_goals(cases hk <;> simp)
     have hln:(b2a pre 0++b2b R pre.length p2 0).length+1≤100000000:=by
      have:=b7N R pre.length p2 0
      rw[g9d];omega
     have hfn:=d2J R hok p2.length r hg
     refine hcl.calls (by simp -implicitDefEqProofs only[go_sem]) ?_
     generalize b3x R p2.length=co at hsr ⊢
     generalize fnR R (R.length+1) r.parent=fo at hsr hfn ⊢
     rcases hkd with rfl | rfl | rfl | rfl | rfl
     ·cases co with
      | none =>
       simp -implicitDefEqProofs only[go_sem,b8o,Option.isSome,Option.getD,Int.reduceEq,Int.reduceBEq]
       refine⟨by omega,(),⟨b0g (by omega),?_⟩,?_,.inr ⟨rfl,by rw[b0m _ _ _ (b0X _),b0m _ _ _ (b0G _),b0m _ _ _ (b0x _)];rfl⟩⟩
       ·rw[hsr];simp[Dl.enc]
       ·rw[hsr];simp;try omega
      | some c =>
       simp -implicitDefEqProofs only[go_sem,b8o,Option.isSome,Option.getD,Int.reduceEq,Int.reduceBEq]
       refine⟨by omega,(),⟨b0g (by omega),?_⟩,?_,.inr ⟨rfl,by rw[b0m _ _ _ (b0X _),b0m _ _ _ (b0G _),b0m _ _ _ (b0x _)];rfl⟩⟩
       ·rw[hsr];simp[Dl.enc]
       ·rw[hsr];simp;try omega
     ·simp -implicitDefEqProofs only[go_sem,b8o,Int.reduceEq,Int.reduceBEq]
      refine⟨fun _=>?_,fun _=>?_⟩
      all_goals
       refine⟨by omega,(),⟨b0g (by omega),?_⟩,?_,.inr ⟨rfl,by rw[b0m _ _ _ (b0X _),b0m _ _ _ (b0G _),b0m _ _ _ (b0x _)];rfl⟩⟩
       ·rw[hsr];simp[Dl.enc]
       ·rw[hsr];simp;try omega
     ·simp -implicitDefEqProofs only[go_sem,b8o,Int.reduceEq,Int.reduceBEq]
      refine⟨fun _=>?_,fun _=>?_⟩
      all_goals
       refine⟨by omega,(),⟨b0g (by omega),?_⟩,?_,.inr ⟨rfl,by rw[b0m _ _ _ (b0X _),b0m _ _ _ (b0G _),b0m _ _ _ (b0x _)];rfl⟩⟩
       ·rw[hsr];simp[Dl.enc]
       ·rw[hsr];simp;try omega
     ·simp -implicitDefEqProofs only[go_sem,b8o,Int.reduceEq,Int.reduceBEq]
      refine⟨fun _=>?_,fun _=>?_⟩
      all_goals
       refine hfn.calls (by simp -implicitDefEqProofs only[go_sem]) ?_
       simp -implicitDefEqProofs only[go_sem,b8o,Int.reduceEq,Int.reduceBEq]
       refine⟨by omega,(),⟨b0g (by omega),?_⟩,?_,.inr ⟨rfl,by rw[b0m _ _ _ (b0X _),b0m _ _ _ (b0G _),b0m _ _ _ (b0x _)];rfl⟩⟩
       ·rw[hsr];simp[Dl.enc]
       ·rw[hsr];simp;try omega
     ·simp -implicitDefEqProofs only[go_sem,b8o,Int.reduceEq,Int.reduceBEq]
      refine⟨fun _=>?_,fun _=>?_⟩
      all_goals
       refine hfn.calls (by simp -implicitDefEqProofs only[go_sem]) ?_
       simp -implicitDefEqProofs only[go_sem,b8o,Int.reduceEq,Int.reduceBEq]
       refine⟨by omega,(),⟨b0g (by omega),?_⟩,?_,.inr ⟨rfl,by rw[b0m _ _ _ (b0X _),b0m _ _ _ (b0G _),b0m _ _ _ (b0x _)];rfl⟩⟩
       ·rw[hsr];simp[Dl.enc]
       ·rw[hsr];simp;try omega
def d3q(l:List Rw)(p:Int):Option ByteArray:=if p<0 then none else match l[p.toNat]? with
 | none=>none
 | some q=>if q.kind=7 then some q.text else none
theorem c4a{l:List Rw}{i:Nat}{r:Rw}(h:l[i]? = some r):b3x l i=d3q l r.parent:=by rw[b3x,h];rfl
def d1H(R:List Rw)(p:Int)(x:Ar):Prop:=d3q R p=(if x.method=true then some x.cls else none)∧∀ f:Nat,p<f→fnR R f p=x.fn
theorem c1x(l:List Rw)(u:Int):∀ (X Y:List Rw) i,b2b l u (X++Y) i=b2b l u X i++b2b l u Y (i+X.length)
 | [],Y,i=>by simp[b2b]
 | r::X,Y,i=>by
  simp only[g8X,b2b,c1x l u X Y,g9t,g9k]
  rw[show i+1+X.length=i+(X.length+1)by omega]
theorem c4T{R:List Rw}{p:Int}{a:Nat}{r:Rw}{x:Ar}(hg:R[a]? = some r)(hp:r.parent=p)(hpa:p<a)(h:d1H R p x):d1H R a (b4e r.kind r.text x):=by
 obtain⟨h1,h2⟩:=h
 refine⟨?_,fun f hf=>?_⟩
 ·rw[d3q,if_neg (by omega),show(a:Int).toNat=a by omega,hg]
  simp[b4e]
 ·obtain⟨g,rfl⟩:∃ g,f=g+1:=⟨f - 1,by omega⟩
  rw[fnR,if_neg (by omega),show(a:Int).toNat=a by omega,hg,c4a hg,hp,h1]
  simp only[b4e]
  by_cases hk:r.kind=2
  ·rw[if_pos hk,if_pos hk]
   cases hm:x.method <;> simp
  ·rw[if_neg hk,if_neg hk]
   show fnR R g r.parent=x.fn
   rw[hp]
   exact h2 g (by omega)
theorem d3P{R:List Rw}{u:Int}{p:Int}{a:Nat}{r:Rw}{x:Ar}(hg:R[a]? = some r)(hp:r.parent=p)(hpa:p<a)(h:d1H R p x):c5x R u a r=b2S r.kind r.text u a x:=by
 obtain⟨h1,h2⟩:=h
 have hal:=(g8Y.1 hg).1
 rw[c5x,c4a hg,hp,h1,h2 _ (by omega)]
 unfold b5l b2S
 by_cases k1:r.kind=2
 ·simp only[k1,if_true,g9z]
  cases hm:x.method <;> simp
 rw[if_neg k1,if_neg k1]
 by_cases k2:r.kind=7
 ·simp[k2]
 rw[if_neg k2,if_neg k2]
 by_cases k3:r.kind=9
 ·simp[k3]
 rw[if_neg k3,if_neg k3]
 by_cases k4:r.kind=4
 ·simp[k4]
 rw[if_neg k4,if_neg k4]
 by_cases k5:r.kind=10
 ·simp[k5]
 rw[if_neg k5,if_neg k5]
 rfl
mutual
theorem eqN(R:List Rw)(u:Int):∀ (n:Nd) (p:Int) (a:Nat) (x:Ar) (A B:List Rw),R=A++b0z n p a++B→A.length=a→p<a→d1H R p x→b2b R u (b0z n p a) a=b1J n u a x
 | .mk k t g ks,p,a,x,A,B,hR,hA,hpa,hag=>by
  have hg:R[a]? = some ⟨p,k,t,g,b0H ks (a+1)⟩:=by
   rw[hR,b0z,g9t,g9c (by omega),hA];simp
  rw[b0z]at hR ⊢
  rw[b2b,b1J,d3P hg rfl hpa hag]
  congr 1
  refine eqL R u ks a (a+1) (b4e k t x) (A++[⟨p,k,t,g,b0H ks (a+1)⟩]) B (by rw[hR];simp) (by simp[hA]) (by omega) (c4T hg rfl hpa hag)
theorem eqL(R:List Rw)(u:Int):∀ (ks:List Nd) (p a:Nat) (x:Ar) (A B:List Rw),R=A++b1b ks p a++B→A.length=a→p<a→d1H R p x→b2b R u (b1b ks p a) a=b0Z ks u a x
 | [],p,a,x,A,B,_,_,_,_=>rfl
 | y::q,p,a,x,A,B,hR,hA,hpa,hag=>by
  have hl:=b0N y p a
  rw[b1b]at hR ⊢
  rw[c1x,b0Z,hl]
  rw[eqN R u y p a x A (b1b q p (a+(b0o y).length)++B) (by rw[hR];simp) hA (by omega) hag]
  rw[eqL R u q p (a+(b0o y).length) x (A++b0z y p a) B (by rw[hR];simp) (by rw[g9d,hA,hl]) (by omega) hag]
end
theorem d5g(n:Nd)(u:Int):b2b (b0z n (-1) 0) u (b0z n (-1) 0) 0=b1J n u 0 Ar.none:=by
 refine eqN (b0z n (-1) 0) u n (-1) 0 Ar.none [] [] (by simp) rfl (by omega) ⟨?_,fun f hf=>?_⟩
 ·simp[d3q,Ar.none]
 ·cases f <;> simp[fnR,Ar.none]
theorem b5R:∀ (u:List Un) i,b2a u i=b0f u i
 | [],_=>rfl
 | x::r,i=>by rw[b2a,b0f,d5g,b5R r]
end Go.Proofs.YtighfcpaplmaiaaGreatDoor
set_option maxRecDepth 20000
namespace Go.Vg
def Nd.node(n:Nd):Int:=if !n.shape then 7 else if(decide (n.kind=17) && !c1X n.text) || (!decide (n.kind=17) && b2n n.kind n.text && !b0I n.text)then 4
 else if 0<n.gaps.length∧(n.gaps.length:Int)≠n.own then 7 else if n.gaps.all b2P then 0 else 7
end Go.Vg
namespace Go.Proofs.YtighfcpaplmaiaaGreatDoor
open Go Go.Vg Go.Proofs
theorem f0c(n:Nd)(hg:∀ s∈n.gaps,s.size≤1000000000):b0u env 220 [.agg n.enc] (.int .i64 n.node):=by
 obtain⟨k,t,g,ks⟩:=n
 refine d1X (fn:=Tryz.f220) Tryz.func220 rfl (by rw[Tryz.ntmps220];simp) (by simp -implicitDefEqProofs only[go_sem]) rfl ?_
 simp only[Tryz.f220]
 have e:List.map share [V.agg [V.int .i64 k,V.str t,sl 9 (g.map b0p),sl 66 (ks.map Nd.enc)]]=[V.agg (Nd.mk k t g ks).enc]:=by simp -implicitDefEqProofs only[go_sem]
 have hI:=c7N t
 have hN:=c6R (.mk k t g ks)
 have hV:=d4r t
 have hO:=f5t (.mk k t g ks)
 refine c2H ⟨[(1,.ptr 0 0)],[VObj.cells (Nd.mk k t g ks).enc],[]⟩ (by simp -implicitDefEqProofs only[go_sem]) ?_
 by_cases hsh:(Nd.mk k t g ks).shape=true
 ·refine c2H ⟨[(1,.ptr 0 0)],[VObj.cells (Nd.mk k t g ks).enc],[]⟩ ?_ ?_
  ·simp -implicitDefEqProofs only[go_sem]
   refine(c7u (.mk k t g ks)).calls e ?_
   simp -implicitDefEqProofs only[go_sem,hsh]
  ·have hnode:(Nd.mk k t g ks).node=if((decide (k=17) && !c1X t) || (!decide (k=17) && b2n k t && !b0I t))=true then 4 else if 0<g.length∧(g.length:Int)≠(Nd.mk k t g ks).own then 7 else if g.all b2P=true then 0 else 7:=by
    unfold Nd.node
    rw[hsh]
    rfl
   have hN':b0u env 230 [.agg (Nd.mk k t g ks).enc] (.bool (b2n k t)):=hN
   by_cases hb:((decide (k=17) && !c1X t) || (!decide (k=17) && b2n k t && !b0I t))=true
   ·rw[if_pos hb]at hnode
    rw[hnode]
    refine b5h _ _ _ ?_
    simp -implicitDefEqProofs only[go_sem]
    refine⟨fun h17=>?_,fun h17=>⟨fun _=>?_,fun h=>absurd h (by simp[h17])⟩⟩
    ·refine hI.calls rfl ?_
     simp -implicitDefEqProofs only[go_sem,h17]
     refine fun h=>?_
     exfalso
     simp_all
    ·refine hN'.calls e ?_
     simp -implicitDefEqProofs only[go_sem,h17]
     refine⟨fun hnm=>?_,fun hnm=>?_⟩
     ·refine hV.calls rfl ?_
      simp -implicitDefEqProofs only[go_sem,h17]
      refine fun h=>?_
      exfalso
      simp_all
     ·exfalso
      simp_all
   ·rw[if_neg hb]at hnode
    refine c2H ⟨[(1,.ptr 0 0)],[VObj.cells (Nd.mk k t g ks).enc],[]⟩ ?_ ?_
    ·simp -implicitDefEqProofs only[go_sem]
     refine⟨fun h17=>?_,fun h17 _=>?_⟩
     ·refine hI.calls rfl ?_
      simp -implicitDefEqProofs only[go_sem,h17]
      refine fun h=>?_
      exfalso
      simp[h17]at hb
      simp[hb]at h
     ·refine hN'.calls e ?_
      simp -implicitDefEqProofs only[go_sem,h17]
      refine fun hnm=>?_
      refine hV.calls rfl ?_
      simp -implicitDefEqProofs only[go_sem,h17]
      refine fun h=>?_
      exfalso
      simp[h17,hnm]at hb
      simp[hb]at h
    ·rw[hnode]
     by_cases hgo:0<g.length∧(g.length:Int)≠(Nd.mk k t g ks).own
     ·rw[if_pos hgo]
      refine b5h _ _ _ ?_
      simp -implicitDefEqProofs only[go_sem]
      refine b0h (cs:=[]) b0v (by kernel_rfl) ?_
      simp -implicitDefEqProofs only[go_sem]
      refine⟨fun h0=>b0B hO e ?_,fun h0=>absurd (show(0:Int)<g.length by omega) h0⟩
      simp -implicitDefEqProofs only[go_sem]
      intro h
      exfalso
      have:=hgo.2
      simp_all
     ·rw[if_neg hgo]
      refine c2H ⟨[(1,.ptr 0 0)],[VObj.cells (Nd.mk k t g ks).enc],[]⟩ ?_ ?_
      ·simp -implicitDefEqProofs only[go_sem]
       refine b0h (cs:=[]) b0v (by kernel_rfl) ?_
       simp -implicitDefEqProofs only[go_sem]
       intro h0
       refine b0B hO e ?_
       simp -implicitDefEqProofs only[go_sem]
       intro h
       exfalso
       refine hgo ⟨by omega,?_⟩
       simpa using h
      ·refine b5h _ _ _ ?_
       simp -implicitDefEqProofs only[go_sem]
       refine b0n (β:=Unit) g (fun pre _=>⟨[(3,.int .i64 pre.length),(1,.ptr 0 0)],[VObj.cells (Nd.mk k t g ks).enc],[]⟩) (fun pre post _=>g.all b2P=post.all b2P) () ?_ rfl ?_ ?_
       ·simp -implicitDefEqProofs only[go_sem]
        rfl
       ·intro _ hi
        simp -implicitDefEqProofs only[go_sem]
        intro _ _
        rw[hi]
        rfl
       ·intro pre x post _ hgg hi
        have hxl:g.length=pre.length+1+post.length:=by rw[hgg];simp;omega
        simp -implicitDefEqProofs only[go_sem,hgg]
        intro hb1 hb2
        have hgx:x.size≤1000000000:=hg x (by show x∈g;rw[hgg];simp)
        have hpl:(pre++x::post).length=pre.length+1+post.length:=by simp;omega
        rw[hgg]at hi
        simp -implicitDefEqProofs only[go_sem,b0p]
        refine(d3o x hgx).calls rfl ?_
        simp -implicitDefEqProofs only[go_sem]
        refine⟨fun h=>?_,fun h=>?_⟩
        ·rw[hi]
         simp_all
        ·refine⟨(),?_,b0g (by omega)⟩
         rw[hi]
         simp_all
 ·refine b5h _ _ _ ?_
  simp -implicitDefEqProofs only[go_sem]
  refine(c7u (.mk k t g ks)).calls e ?_
  have hsh':(Nd.mk k t g ks).shape=false:=by simpa using hsh
  simp -implicitDefEqProofs only[go_sem,hsh']
  simp[Nd.node,hsh']
end Go.Proofs.YtighfcpaplmaiaaGreatDoor
namespace Go.Vg
mutual
def b5d:Nd→Int
 | .mk k t g ks=>if(Nd.mk k t g ks).node=0 then b4R ks else(Nd.mk k t g ks).node
def b4R:List Nd→Int
 | []=>0
 | x::r=>if b5d x=0 then b4R r else b5d x
end
def b5z(n:Nd):Prop:=∀ x∈b0o n,∀ s∈x.gaps,s.size≤1000000000
theorem d1v{k t g}{ks:List Nd}{x y:Nd}(hx:x∈ks)(hy:y∈b0o x):y∈b0o (.mk k t g ks):=by
 rw[b0o]
 refine List.mem_cons_of_mem _ ?_
 induction ks with
 | nil=>cases hx
 | cons z r ih =>
  rw[b0l]
  rcases g9y.1 hx with rfl | hx
  ·exact g9Z _ hy
  ·exact h0f _ (ih hx)
theorem c0C{k t g}{ks:List Nd}{x:Nd}(h:b5z (.mk k t g ks))(hx:x∈ks):b5z x:=fun y hy=>h y (d1v hx hy)
def b3K(n:Nd):Int:=if 4000<b5H n 1 then 3 else b5d n
end Go.Vg
namespace Go.Proofs.YtighfcpaplmaiaaGreatDoor
open Go Go.Vg Go.Proofs
theorem d4R:(n:Nd)→b5z n→b0u env 199 [.agg n.enc] (.int .i64 (b5d n)):=by
 refine Nd.all fun k t g ks ih hs=>?_
 have hnd:=f0c (.mk k t g ks) (hs _ (by rw[b0o];exact List.mem_cons_self ..))
 refine b0i (fn:=Tryz.f199) Tryz.func199 rfl (by rw[Tryz.ntmps199];simp) (by simp -implicitDefEqProofs only[go_sem]) rfl ?_
 simp -implicitDefEqProofs only[go_sem,Tryz.f199]
 refine hnd.calls (by simp -implicitDefEqProofs only[go_sem]) ?_
 simp -implicitDefEqProofs only[go_sem]
 refine b0n (β:=Int) ks (fun pre e=>⟨[(4,.int .i64 pre.length),(3,.int .i64 e),(2,.int .i64 0),(1,.ptr 0 0)],[VObj.cells (Nd.mk k t g ks).enc],[]⟩)
  (fun pre post e=>b5d (.mk k t g ks)=if e=0 then b4R post else e) (Nd.mk k t g ks).node ?_ ?_ ?_ ?_
 ·simp -implicitDefEqProofs only[go_sem]
  rfl
 ·rw[b5d]
 ·intro e hi
  simp -implicitDefEqProofs only[go_sem]
  intro _ _
  rw[hi,b4R]
  congr 1
  split <;> simp_all
 ·rintro pre x post e rfl hi
  have hxl:(pre++x::post).length=pre.length+1+post.length:=by simp;omega
  simp -implicitDefEqProofs only[go_sem]
  intro hb hl
  refine⟨fun he=>?_,fun he=>by rw[hi,if_neg he]⟩
  refine(ih x b1w (c0C hs b1w)).calls (by simp -implicitDefEqProofs only[go_sem]) ?_
  simp -implicitDefEqProofs only[go_sem]
  refine⟨_,?_,b0g (by omega),rfl⟩
  rw[hi,if_pos he,b4R]
theorem d4n(n:Nd)(hs:b5z n):b0u env 158 [.agg n.enc] (.int .i64 (b3K n)):=by
 refine b0i (fn:=Tryz.f158) Tryz.func158 rfl (by rw[Tryz.ntmps158];simp) (by simp -implicitDefEqProofs only[go_sem]) rfl ?_
 simp -implicitDefEqProofs only[go_sem,Tryz.f158]
 refine(d8V n 1 (by omega) (by omega)).calls (by simp -implicitDefEqProofs only[go_sem]) ?_
 simp -implicitDefEqProofs only[go_sem]
 refine⟨fun h=>?_,fun h=>?_⟩
 ·rw[b3K,if_pos (by omega)]
 ·refine(d4R n hs).calls (by simp -implicitDefEqProofs only[go_sem]) ?_
  simp -implicitDefEqProofs only[go_sem]
  rw[b3K,if_neg (by omega)]
end Go.Proofs.YtighfcpaplmaiaaGreatDoor
namespace Go.Vg
def b1q(x:Un):Bool := !x.broken && decide (x.tree.kind=1) && decide (b3K x.tree=0)
def Un.sound(x:Un):Un:=if b1q x=true then x else { x with tree:=Nd.zero,broken:=true }
def b9R(u:List Un):Prop:=∀ x∈u,b5z x.tree
end Go.Vg
namespace Go.Proofs.YtighfcpaplmaiaaGreatDoor
open Go Go.Vg Go.Proofs
theorem d4E(x:Un)(hs:b5z x.tree):b0u env 100 [.agg x.enc] (.bool (b1q x)):=by
 refine b0i (fn:=Tryz.f100) Tryz.func100 rfl (by rw[Tryz.ntmps100];simp) (by simp -implicitDefEqProofs only[go_sem]) rfl ?_
 simp -implicitDefEqProofs only[go_sem,Tryz.f100]
 refine⟨fun hb=>⟨fun hk=>?_,fun hk=>by simp[b1q,hk]⟩,fun hb=>by simp_all [b1q]⟩
 refine(d4n x.tree hs).calls (by simp -implicitDefEqProofs only[go_sem]) ?_
 simp -implicitDefEqProofs only[go_sem]
 simp_all [b1q]
end Go.Proofs.YtighfcpaplmaiaaGreatDoor
namespace Go.Vg
structure Fi where
 kind:Int
 path:ByteArray
 name:ByteArray
 text:ByteArray
 deriving DecidableEq
def Fi.enc(x:Fi):List V:=[.int .i64 x.kind,.str x.path,.str x.name,.str x.text]
@[go_sem] theorem f3v(s:ByteArray){K:V→Prop}:vHead (b0p s) K=K (.str s):=rfl
def firstD:List Dl→ByteArray→Nat→Int
 | [],_,_ => -1
 | d::r,name,i=>if d.kind=2∧d.name=name then i else firstD r name (i+1)
def g3A(n:Nd):Prop:=∀ x∈b0o n,x.kind=26→x.kids≠[]
def b7x(u:List Un)(m n b:Int):Bool:=decide ((u.length:Int)≤m) && u.all fun x=>decide (0≤left x.tree n 60) && decide (0≤b3r x.tree b)
end Go.Vg
namespace Go.Proofs.YtighfcpaplmaiaaGreatDoor
open Go Go.Vg Go.Proofs
theorem b6V(l:List Dl)(name:ByteArray):b0u env 114 [sl 54 (l.map Dl.enc),.str name] (.int .i64 (firstD l name 0)):=by
 refine b0i (fn:=Tryz.f114) Tryz.func114 rfl (by rw[Tryz.ntmps114];simp) (by simp -implicitDefEqProofs only[go_sem];exact b0G _) rfl ?_
 simp -implicitDefEqProofs only[go_sem,Tryz.f114]
 refine b0n (β:=Unit) l (fun pre _=>⟨[(5,.int .i64 pre.length),(4,.int .i64 0),(0,sl 54 (l.map Dl.enc)),(1,.str name)],[],[]⟩) (fun pre post _=>firstD l name 0=firstD post name pre.length) () ?_ rfl ?_ ?_
 ·simp -implicitDefEqProofs only[go_sem]
  rfl
 ·intro _ hi
  simp -implicitDefEqProofs only[go_sem]
  intro _ _
  rw[hi];rfl
 ·rintro pre x post _ rfl hi
  have hpl:(pre++x::post).length=pre.length+1+post.length:=by simp;omega
  simp -implicitDefEqProofs only[go_sem]
  intro _ hl
  have hw:IntKind.i64.wrap (↑pre.length+1)=↑(pre.length+1):=b0g (by omega)
  rw[hi,firstD]
  refine⟨fun h1=>⟨fun h2=>by rw[if_pos ⟨h1,h2⟩],fun h2=>⟨(),?_,hw⟩⟩,fun h1=>⟨(),?_,hw⟩⟩
  ·rw[if_neg (fun h=>h2 h.2)]
  ·rw[if_neg (fun h=>h1 h.1)]
theorem d9c(u:List Un)(m n b:Int)(hn:n≤1000000)(hb:b≤1000000):b0u env 23 [sl 70 (u.map Un.enc),.int .i64 m,.int .i64 n,.int .i64 b] (.bool (b7x u m n b)):=by
 refine b0i (fn:=Tryz.f23) Tryz.func23 rfl (by rw[Tryz.ntmps23];simp) (by simp -implicitDefEqProofs only[go_sem,b0x]) rfl ?_
 simp -implicitDefEqProofs only[go_sem,Tryz.f23]
 intro _ hl
 refine⟨fun h=>by simp[b7x];omega,fun h=>?_⟩
 have hm:decide ((u.length:Int)≤m)=true:=by simp;omega
 rw[b7x,hm,g9O]
 refine b0n (β:=Unit) u (fun pre _=>⟨[(9,.int .i64 pre.length),(8,.bool false),(0,sl 70 (u.map Un.enc)),(1,.int .i64 m),(2,.int .i64 n),(3,.int .i64 b)],[],[]⟩) (fun pre post _=>(u.all fun x=>decide (0≤left x.tree n 60) && decide (0≤b3r x.tree b))=post.all fun x=>decide (0≤left x.tree n 60) && decide (0≤b3r x.tree b)) () ?_ rfl ?_ ?_
 ·simp -implicitDefEqProofs only[go_sem]
  rfl
 ·intro _ hi
  simp -implicitDefEqProofs only[go_sem]
  rw[hi]
  intro _ _
  rfl
 ·rintro pre x post _ rfl hi
  have hpl:(pre++x::post).length=pre.length+1+post.length:=by simp;omega
  simp -implicitDefEqProofs only[go_sem]
  intro _ _
  refine(d3r x.tree n 60 b hn (by omega) hb).calls (by simp -implicitDefEqProofs only[go_sem]) ?_
  simp -implicitDefEqProofs only[go_sem]
  have hw:IntKind.i64.wrap (↑pre.length+1)=↑(pre.length+1):=b0g (by omega)
  rw[hi,List.all_cons]
  generalize(decide (0≤left x.tree n 60) && decide (0≤b3r x.tree b))=c
  refine⟨fun h=>?_,fun h=>⟨(),?_,hw⟩⟩
  ·have h':c=false:=by simpa using h
   rw[h'];rfl
  ·have h':c=true:=by simpa using h
   rw[h'];rfl
end Go.Proofs.YtighfcpaplmaiaaGreatDoor
namespace Go.Vg
def Rw.zero:Rw:=⟨0,0,⟨#[]⟩,[],[]⟩
def b0j(l:List Rw)(i:Nat):Rw:=l.getD i Rw.zero
def b1d(l:List Rw)(i j:Nat):Nat:=(b0j l i).kids.getD j 0
def b6m(l:List Rw)(ks:List Nat):List ByteArray:=ks.map fun k=>(b0j l (b1d l k 0)).text
def c0H(l:List Rw)(i:Nat):Prop:=l.length≤1000000∧i<l.length∧2≤(b0j l i).kids.length∧b1d l i 0<l.length∧b1d l i 1<l.length∧(b0j l (b1d l i 0)).kids.length≤1000000 ∧
 ∀ k∈(b0j l (b1d l i 0)).kids,k<l.length∧0<(b0j l k).kids.length∧b1d l k 0<l.length
structure Sg where
 params:List ByteArray
 result:ByteArray
def Sg.enc(s:Sg):List V:=[sl 9 (s.params.map b0p),.str s.result]
@[go_sem] theorem g4v(d:Sg):d.enc.length=2:=rfl
@[go_sem] theorem g1I(d:Sg):List.take 2 d.enc=d.enc:=rfl
@[go_sem] theorem f8t(d:Sg):List.map share1 d.enc=d.enc:=by simp -implicitDefEqProofs only[Sg.enc,go_sem]
@[go_sem] theorem f9Y(d:Sg):d.enc.all V.cell=true:=by simp -implicitDefEqProofs only[Sg.enc,go_sem]
def b2O(l:List Rw)(i:Nat):Sg:=⟨b6m l (b0j l (b1d l i 0)).kids,(b0j l (b1d l i 1)).text⟩
theorem c7z{l:List Rw}{i:Nat}(h:i<l.length):(l.map Rw.enc).getD i []=(b0j l i).enc:=by
 simp[b0j,g8Z,h]
theorem b0F{l:List Rw}{i:Nat}(h:i<l.length):(l.map Rw.enc).getD (i:Int).toNat []=(b0j l i).enc:=c7z h
theorem b2l{l:List Rw}{i j:Nat}(h:j<(b0j l i).kids.length):((b0j l i).kids.map b0M).getD j []=[.int .i64 (b1d l i j)]:=by
 simp[b1d,g8Z,h,b0M]
theorem b3T{l:List Rw}{i j:Nat}(h:j<(b0j l i).kids.length):((b0j l i).kids.map b0M).getD (j:Int).toNat []=[.int .i64 (b1d l i j)]:=b2l h
theorem b5F:∀ l:List ByteArray,b0R (l.map b0p)=true
 | []=>rfl
 | x::r=>by simp only[g9o,b0R,b5F r,h0b];rfl
end Go.Vg
namespace Go.Proofs.YtighfcpaplmaiaaGreatDoor
open Go Go.Vg Go.Proofs
theorem c2I(l:List Rw)(i:Nat)(h:c0H l i):b0u env 110 [sl 48 (l.map Rw.enc),.int .i64 i] (.agg (b2O l i).enc):=by
 obtain⟨h0,h1,h2,h3,h4,h6,h5⟩:=h
 refine b0i (fn:=Tryz.f110) Tryz.func110 rfl (by rw[Tryz.ntmps110];simp) (by simp -implicitDefEqProofs only[go_sem];exact b0X _) (by simp -implicitDefEqProofs only[go_sem,Sg.enc]) ?_
 simp -implicitDefEqProofs only[go_sem,Tryz.f110,b0F h1,b2l (j:=0) (show 0<(b0j l i).kids.length by omega),b3T (j:=0) (show 0<(b0j l i).kids.length by omega),b0F h3]
 refine⟨by omega,by omega,by omega,?_⟩
 have hks:=h5
 generalize hq:(b0j l (b1d l i 0)).kids=ks at h6 h5 hks ⊢
 refine b0n (β:=Unit) ks (fun pre _=>⟨[(7,.int .i64 pre.length),(6,sl 3 (ks.map b0M)),(5,.ptr 1 0),(4,.ptr 0 0),(0,sl 48 (l.map Rw.enc)),(1,.int .i64 i)],
   [.cells [.slice .nil 0 [],.str ⟨#[]⟩],.cells [.slice (.arr 0) 9 ((b6m l pre).map b0p),.str ⟨#[]⟩]],[pre.length]⟩) (fun _ _ _=>True) () ?_ trivial ?_ ?_
 ·simp only[b6m,g9P]
  simp -implicitDefEqProofs only[go_sem]
  rfl
 ·intro _ _
  simp -implicitDefEqProofs only[go_sem,b0F h1,b2l (j:=1) (show 1<(b0j l i).kids.length by omega),b3T (j:=1) (show 1<(b0j l i).kids.length by omega),b0F h4]
  intro _ _
  refine⟨by omega,by omega,by omega,?_⟩
  simp[b2O,Sg.enc,hq]
 ·rintro pre x post _ rfl _
  have hpl:(pre++x::post).length=pre.length+1+post.length:=by simp;omega
  obtain⟨g1,g2,g3⟩:=h5 x (by simp)
  have hgx:((pre++x::post).map b0M).getD (pre.length:Int).toNat []=[.int .i64 x]:=by
   simp[g8Z,b0M]
  have hpp:b6m l (pre++[x])=b6m l pre++[(b0j l (b1d l x 0)).text]:=by simp[b6m]
  have hppl:(b6m l pre).length=pre.length:=by simp[b6m]
  simp -implicitDefEqProofs only[go_sem,hppl]
  intro _ _
  refine b0h (cs:=[]) b0v (by kernel_rfl) ?_
  simp -implicitDefEqProofs only[go_sem,hgx,b0M,b0F g1,b2l (j:=0) g2,b3T (j:=0) g2,b0F g3,hppl]
  refine⟨by omega,by omega,by omega,by omega,(),b0g (by omega),?_⟩
  rw[hpp,g9I];rfl
def f4L(u:List Un)(d:Dl):Prop:=0≤d.unit∧0≤d.node∧∃ x,u[d.unit.toNat]? = some x∧c0H (b0z x.tree (-1) 0) d.node.toNat
def ofU(u:List Un)(kind:Int)(owner name:ByteArray):Option Sg:=(c4I (b0f u 0) kind owner name).bind fun d=>(u[d.unit.toNat]?).map fun x=>b2O (b0z x.tree (-1) 0) d.node.toNat
theorem f0R{u:List Un}{i:Int}{x:Un}(h:u[i.toNat]? = some x):(u.map Un.enc).getD i.toNat []=x.enc:=by
 rw[g8Z,g9q,h];rfl
end Go.Proofs.YtighfcpaplmaiaaGreatDoor
namespace Go.Vg
def d7r(owner:ByteArray):Int:=if owner=⟨#[]⟩then 1 else 4
end Go.Vg
namespace Go.Proofs.YtighfcpaplmaiaaGreatDoor
open Go Go.Vg Go.Proofs
def f4a(u:List Un)(owner name:ByteArray):Option Sg:=ofU (u.map Un.sound) (d7r owner) owner name
theorem c6V(k:Int):b0u env 204 [.int .i64 k] (.bool (decide (1≤k) && decide (k<27))):=by
 refine b0i (fn:=Tryz.f204) Tryz.func204 rfl (by rw[Tryz.ntmps204];simp) (by simp -implicitDefEqProofs only[go_sem]) rfl ?_
 simp -implicitDefEqProofs only[go_sem,Tryz.f204]
 exact⟨fun h=>by simp[h],fun h=>by simp[h]⟩
theorem d0Z(k:Int):b0u env 59 [.int .i64 k] (.int .i64 (b1C k)):=by
 refine b0i (fn:=Tryz.f59) Tryz.func59 rfl (by rw[Tryz.ntmps59];simp) (by simp -implicitDefEqProofs only[go_sem]) rfl ?_
 simp -implicitDefEqProofs only[go_sem,Tryz.f59]
 repeat' (first | apply And.intro | intro)
 all_goals(first | contradiction | omega | (congr 1;unfold b1C;grind))
theorem f9x(k:Int):b0u env 203 [.int .i64 k] (.int .i64 (b9H k)):=by
 refine b0i (fn:=Tryz.f203) Tryz.func203 rfl (by rw[Tryz.ntmps203];simp) (by simp -implicitDefEqProofs only[go_sem]) rfl ?_
 simp -implicitDefEqProofs only[go_sem,Tryz.f203]
 repeat' (first | apply And.intro | intro)
 all_goals(first | contradiction | omega | (congr 1;unfold b9H;grind))
theorem b7Z(n:Nd):b0u env 222 [.agg n.enc] (.int .i64 n.level):=by
 obtain⟨k,t,g,ks⟩:=n
 refine b0i (fn:=Tryz.f222) Tryz.func222 rfl (by rw[Tryz.ntmps222];simp) (by simp -implicitDefEqProofs only[go_sem]) rfl ?_
 simp -implicitDefEqProofs only[go_sem,Tryz.f222]
 refine(d0Z k).calls (by simp -implicitDefEqProofs only[go_sem]) ?_
 simp -implicitDefEqProofs only[go_sem]
 have e:(Nd.mk k t g ks).level=b3n k t:=rfl
 rw[e]
 have h24:b1C 24=3:=by decide
 have h25:b1C 25=3:=by decide
 repeat' (first | apply And.intro | intro)
 all_goals(first | contradiction | (congr 1;unfold b3n b8Z;grind))
end Go.Proofs.YtighfcpaplmaiaaGreatDoor
namespace Go.Vg
mutual
def b3u:Nd→Int→Int→Int
 | .mk k t g ks,l,d=>if l≤0∨d≤0∨b9H k<(ks.length:Int)then -1 else b2U ks (l - 1) (d - 1)
def b2U:List Nd→Int→Int→Int
 | [],l,_=>l
 | x::r,l,d=>if b3u x l d<0 then -1 else b2U r (b3u x l d) d
end
mutual
theorem c1v:∀ (n:Nd) (l d:Int),l≤1000000 → -1≤b3u n l d∧b3u n l d≤1000000
 | .mk k t g ks,l,d,h=>by
  rw[b3u]
  split
  ·omega
  ·rename_i hc
   exact b9c ks (l - 1) (d - 1) (by omega) (by omega)
theorem b9c:∀ (ks:List Nd) (l d:Int),-1≤l→l≤1000000 → -1≤b2U ks l d∧b2U ks l d≤1000000
 | [],l,d,h0,h=>⟨h0,h⟩
 | x::r,l,d,h0,h=>by
  have h1:=c1v x l d h
  rw[b2U]
  split
  ·omega
  ·exact b9c r _ d h1.1 h1.2
end
end Go.Vg
namespace Go.Proofs.YtighfcpaplmaiaaGreatDoor
open Go Go.Vg Go.Proofs
theorem d9k:(n:Nd)→∀ (l d:Int),l≤1000000→d≤1000000 → -1000000≤d→b0u env 180 [.agg n.enc,.int .i64 l,.int .i64 d] (.int .i64 (b3u n l d)):=by
 refine Nd.all fun k t g ks ih l d h1 h2 h3=>?_
 refine b0i (fn:=Tryz.f180) Tryz.func180 rfl (by rw[Tryz.ntmps180];simp) (by simp -implicitDefEqProofs only[go_sem]) rfl ?_
 simp -implicitDefEqProofs only[go_sem,Tryz.f180]
 rw[b3u]
 refine b0h (cs:=[]) b0v (by kernel_rfl) ?_
 simp -implicitDefEqProofs only[go_sem]
 refine⟨fun a1=>⟨fun a2=>?_,fun a2=>by rw[if_pos (by omega)]⟩,fun a1=>by rw[if_pos (by omega)]⟩
 refine b0B (f9x k) rfl ?_
 simp -implicitDefEqProofs only[go_sem]
 refine⟨fun a3=>by rw[if_pos (by omega)],fun a3=>?_⟩
 rw[if_neg (by omega)]
 intro hb hl
 refine b0n (β:=Int) ks (fun pre m=>⟨[(29,.int .i64 pre.length),(28,.int .i64 ks.length),(27,sl 66 (ks.map Nd.enc)),(1,.int .i64 m),(2,.int .i64 d)],[.dead],[]⟩)
  (fun pre post m=>b2U ks (l - 1) (d - 1)=b2U post m (d - 1)∧0≤m∧m≤1000000) (l - 1) ?_ ⟨rfl,by omega,by omega⟩ ?_ ?_
 ·simp -implicitDefEqProofs only[go_sem]
  exact⟨rfl,Vg.wrap_small (by omega) (by omega)⟩
 ·rintro m ⟨hi,_⟩
  simp -implicitDefEqProofs only[go_sem]
  rw[hi];rfl
 ·rintro pre x post m rfl ⟨hi,hm0,hm⟩
  have hpl:(pre++x::post).length=pre.length+1+post.length:=by simp;omega
  simp -implicitDefEqProofs only[go_sem]
  rw[Vg.wrap_small (x:=d - 1) (by omega) (by omega)]
  have hle:=c1v x m (d - 1) hm
  refine(ih x b1w m (d - 1) hm (by omega) (by omega)).calls (by simp -implicitDefEqProofs only[go_sem]) ?_
  simp -implicitDefEqProofs only[go_sem]
  rw[hi,b2U]
  refine⟨fun h=>by rw[if_pos h],fun h=>⟨_,⟨?_,?_,?_⟩,b0g (by omega),rfl⟩⟩
  ·rw[if_neg h]
  ·omega
  ·omega
theorem f0l(n:Nd)(h0:n.kind=24→2≤n.kids.length)(h1:n.kind=25∨n.kind=21→1≤n.kids.length):b0u env 207 [.agg n.enc] (.bool n.levels):=by
 obtain⟨k,t,g,ks⟩:=n
 simp only[Nd.kind,Nd.kids]at h0 h1
 refine b0i (fn:=Tryz.f207) Tryz.func207 rfl (by rw[Tryz.ntmps207];simp) (by simp -implicitDefEqProofs only[go_sem]) rfl ?_
 rcases ks with _ | ⟨a,_ | ⟨b,r⟩⟩
 ·have hk:¬ k=24∧¬ k=25∧¬ k=21:=⟨fun h=>by simp at h0;omega,fun h=>by simp at h1;omega,fun h=>by simp at h1;omega⟩
  simp -implicitDefEqProofs only[go_sem,Tryz.f207,hk.1,hk.2.1,hk.2.2]
  rfl
 ·have hk:¬ k=24:=fun h=>by simp at h0;omega
  simp -implicitDefEqProofs only[go_sem,Tryz.f207,hk]
  refine⟨fun h=>⟨by omega,?_⟩,fun h=>⟨fun h2=>⟨by omega,?_⟩,fun h2=>?_⟩⟩
  ·refine(b7Z a).calls (by simp -implicitDefEqProofs only[go_sem]) ?_
   simp -implicitDefEqProofs only[go_sem]
   simp[Nd.levels,b2E,Nd.kind,Nd.text,Nd.kids,h]
  ·refine(b7Z a).calls (by simp -implicitDefEqProofs only[go_sem]) ?_
   simp -implicitDefEqProofs only[go_sem]
   simp[Nd.levels,b2E,Nd.kind,Nd.text,Nd.kids,h2]
  ·simp[Nd.levels,b2E,Nd.kind,Nd.text,Nd.kids,h,h2]
 ·simp -implicitDefEqProofs only[go_sem,Tryz.f207]
  refine⟨fun h=>?_,fun h=>⟨fun h2=>⟨by omega,?_⟩,fun h2=>⟨fun h3=>⟨by omega,?_⟩,fun h3=>?_⟩⟩⟩
  ·refine b0h (cs:=[]) b0v (by kernel_rfl) ?_
   simp -implicitDefEqProofs only[go_sem]
   refine b0B (b7Z (.mk k t g (a::b::r))) (by simp -implicitDefEqProofs only[go_sem]) ?_
   simp -implicitDefEqProofs only[go_sem]
   refine⟨by omega,?_⟩
   refine b0B (b7Z a) (by simp -implicitDefEqProofs only[go_sem]) ?_
   simp -implicitDefEqProofs only[go_sem]
   have hlv:(Nd.mk k t g (a::b::r)).level=b3n 24 t:=by simp[Nd.level,Nd.kind,Nd.text,h]
   rw[hlv]
   have hm:(Nd.mk k t g (a::b::r)).levels=(if b3n 24 t=3∧a.level=3 then false else decide (b3n 24 t≤a.level∧b3n 24 t<b.level)):=by simp[Nd.levels,b2E,Nd.kind,Nd.text,Nd.kids,h]
   rw[hm]
   have e:∀ x:Nd,List.map share [V.agg x.enc]=[V.agg x.enc]:=fun x=>by simp -implicitDefEqProofs only[go_sem]
   repeat' (first | apply And.intro | (refine(b7Z a).calls (e a) ?_;simp -implicitDefEqProofs only[go_sem]) | (refine(b7Z b).calls (e b) ?_;simp -implicitDefEqProofs only[go_sem]) | omega | intro)
   all_goals(try simp_all)
   all_goals omega
  ·refine(b7Z a).calls (by simp -implicitDefEqProofs only[go_sem]) ?_
   simp -implicitDefEqProofs only[go_sem]
   simp[Nd.levels,b2E,Nd.kind,Nd.text,Nd.kids,h2]
  ·refine(b7Z a).calls (by simp -implicitDefEqProofs only[go_sem]) ?_
   simp -implicitDefEqProofs only[go_sem]
   simp[Nd.levels,b2E,Nd.kind,Nd.text,Nd.kids,h3]
  ·simp[Nd.levels,b2E,Nd.kind,Nd.text,Nd.kids,h,h2,h3]
end Go.Proofs.YtighfcpaplmaiaaGreatDoor
namespace Go.Vg
def c4L(a b:Int):Int×Int:=if b<((shp a).first.length:Int)then(shp a).first.getD b.toNat (0,0)else((shp a).rk,(shp a).rg)
def b1v(k:Int):Bool:=decide (1≤k) && decide (k<27)
def b7Q(a b c:Int):Bool:=b1v a && decide (0≤b) && b1v c && (if(c4L a b).2=0 then decide ((c4L a b).1=c)else decide ((c4L a b).2=b1C c))
theorem d8M{l:List (Int×Int)}{i:Nat}(h:i<l.length):(l.map d4u).getD i []=d4u (l.getD i (0,0)):=by
 simp[g8Z,h]
end Go.Vg
namespace Go.Proofs.YtighfcpaplmaiaaGreatDoor
open Go Go.Vg Go.Proofs
theorem g2h(a b c:Int):b0u env 221 [.int .i64 a,.int .i64 b,.int .i64 c] (.bool (b7Q a b c)):=by
 have hGg:=d0Z c
 refine b0i (fn:=Tryz.f221) Tryz.func221 rfl (by rw[Tryz.ntmps221];simp) (by simp -implicitDefEqProofs only[go_sem]) rfl ?_
 simp -implicitDefEqProofs only[go_sem,Tryz.f221]
 refine(c6V a).calls rfl ?_
 by_cases ha:1≤a∧a<27
 ·have h1:(decide (1≤a) && decide (a<27))=true:=by simp[ha]
  have hd:=b3Q (k:=a) (by omega) ha.2
  rw[h1]
  simp -implicitDefEqProofs only[go_sem]
  refine⟨fun hb0=>?_,fun hb0=>?_⟩
  ·refine(c6V c).calls rfl ?_
   by_cases hc:1≤c∧c<27
   ·have h2:(decide (1≤c) && decide (c<27))=true:=by simp[hc]
    rw[h2]
    have hf:b7Q a b c=(if(c4L a b).2=0 then decide ((c4L a b).1=c)else decide ((c4L a b).2=b1C c)):=by
     unfold b7Q b1v;rw[h1,h2];simp;omega
    simp -implicitDefEqProofs only[go_sem,hd,Shp.enc,g8X,g9M]
    refine⟨⟨by omega,by omega⟩,fun _ _=>⟨fun hbl=>?_,fun hbl=>?_⟩⟩
    ·have hp:c4L a b=(shp a).first.getD b.toNat (0,0):=by unfold c4L;rw[if_pos hbl]
     have hpt:=d8M (l:=(shp a).first) (i:=b.toNat) (by omega)
     rw[←hp]at hpt
     simp -implicitDefEqProofs only[go_sem,hpt,d4u]
     refine⟨⟨by omega,by omega⟩,fun hg=>?_,fun hg=>?_⟩
     ·refine b0h (cs:=[]) b0v (by kernel_rfl) ?_
      simp -implicitDefEqProofs only[go_sem]
      refine b0B hGg rfl ?_
      simp -implicitDefEqProofs only[go_sem]
      have hg':¬ (c4L a b).2=0:=by simpa using hg
      rw[hf,if_neg hg']
     ·have hg':(c4L a b).2=0:=by simpa using hg
      rw[hf,if_pos hg']
    ·have hp:c4L a b=((shp a).rk,(shp a).rg):=by unfold c4L;rw[if_neg hbl]
     rw[hp]at hf
     refine⟨fun hg=>?_,fun hg=>?_⟩
     ·refine b0h (cs:=[]) b0v (by kernel_rfl) ?_
      simp -implicitDefEqProofs only[go_sem]
      refine b0B hGg rfl ?_
      simp -implicitDefEqProofs only[go_sem]
      have hg':¬ (shp a).rg=0:=by simpa using hg
      rw[hf,if_neg hg']
     ·have hg':(shp a).rg=0:=by simpa using hg
      rw[hf,if_pos hg']
   ·have h2:(decide (1≤c) && decide (c<27))=false:=by simp;omega
    rw[h2]
    simp -implicitDefEqProofs only[go_sem]
    simp[b7Q,b1v,h2]
  ·have:¬ 0≤b:=by omega
   simp[b7Q,this]
 ·have h1:(decide (1≤a) && decide (a<27))=false:=by simp;omega
  rw[h1]
  simp -implicitDefEqProofs only[go_sem]
  simp[b7Q,b1v,h1]
end Go.Proofs.YtighfcpaplmaiaaGreatDoor
namespace Go.Vg
@[go_sem] theorem f7A(n:Nd){K:V→Prop}:vHead n.enc K=K (.int .i64 n.kind):=by cases n;rfl
def b4K(k:Int):List Nd→Nat→Bool
 | [],_=>true
 | x::r,i=>b7Q k i x.kind && b4K k r (i+1)
def b6D(k:Int)(ks:List Nd):Bool:=(decide (k=14) && decide (ks.length=0)) || (!(decide (ks.length<(shp k).first.length) || (decide ((shp k).first.length<ks.length) && decide ((shp k).rk=0∧(shp k).rg=0))) && b4K k ks 0)
end Go.Vg
namespace Go.Proofs.YtighfcpaplmaiaaGreatDoor
open Go Go.Vg Go.Proofs
theorem g1f(k:Int)(t:ByteArray)(g:List ByteArray)(ks:List Nd)(hk:1≤k∧k<27):b0u env 205 [.agg (Nd.mk k t g ks).enc] (.bool (b6D k ks)):=by
 have hd:=b3Q (k:=k) (by omega) hk.2
 refine b0i (fn:=Tryz.f205) Tryz.func205 rfl (by rw[Tryz.ntmps205];simp) (by simp -implicitDefEqProofs only[go_sem]) rfl ?_
 simp -implicitDefEqProofs only[go_sem,Tryz.f205,hd,Shp.enc,g8X,g9M]
 have hfl:b3f Tryz.prog 256=some [1,1]:=by kernel_rfl
 have hfv:c7O (b3f Tryz.prog 256) [V.int .i64 (shp k).rk,.int .i64 (shp k).rg] [V.int .i64 0,.int .i64 0]:=by rw[hfl];simp[c7O,b3A,d2D]
 refine⟨⟨by omega,by omega⟩,?_⟩
 have hkg:b6D k ks=((decide (k=14) && decide (ks.length=0)) || (!(decide (ks.length<(shp k).first.length) || (decide ((shp k).first.length<ks.length) && decide ((shp k).rk=0∧(shp k).rg=0))) && b4K k ks 0)):=rfl
 repeat' (first | apply And.intro | (with_reducible intro))
 all_goals(try exact hfv)
 all_goals(try(congr 1;rw[hkg];simp_all;done))
 all_goals(try(congr 1;rw[hkg];simp_all;omega))
 all_goals
  have hkf:b6D k ks=b4K k ks 0:=by
   rw[hkg]
   first | (simp_all;done) | grind
  rw[hkf]
  refine b0n (β:=Unit) ks (fun pre _=>⟨[(44,.int .i64 pre.length),(43,.int .i64 ks.length),(42,sl 66 (ks.map Nd.enc)),(1,.ptr 0 0),(2,.bool false)],[VObj.cells (Nd.mk k t g ks).enc,.dead],[]⟩) (fun pre post _=>b4K k ks 0=b4K k post pre.length) () ?_ rfl ?_ ?_
  ·simp -implicitDefEqProofs only[go_sem]
   rfl
  ·intro _ hi
   simp -implicitDefEqProofs only[go_sem]
   rw[hi];rfl
  ·intro pre x post _ hks hi
   have hpl:ks.length=pre.length+1+post.length:=by rw[hks];simp;omega
   have hgx:(ks.map Nd.enc).getD (pre.length:Int).toNat []=x.enc:=by rw[hks];simp[g8Z]
   have hw:IntKind.i64.wrap (↑pre.length+1)=↑(pre.length+1):=b0g (by omega)
   rw[hi,b4K]
   simp -implicitDefEqProofs only[go_sem,hgx]
   refine⟨fun _=>⟨by omega,?_⟩,fun h=>absurd (show(pre.length:Int)<ks.length by omega) h⟩
   refine(g2h k pre.length x.kind).calls rfl ?_
   simp -implicitDefEqProofs only[go_sem]
   refine⟨fun h=>?_,fun h=>⟨(),?_,hw⟩⟩
   ·have h':b7Q k pre.length x.kind=false:=by simpa using h
    rw[h'];rfl
   ·have h':b7Q k pre.length x.kind=true:=by simpa using h
    rw[h'];rfl
theorem g8l(k:Int)(t:ByteArray)(g:List ByteArray)(ks:List Nd)(hk:1≤k∧k<27):b0u env 226 [.agg (Nd.mk k t g ks).enc] (.int .i64 (Nd.mk k t g ks).own):=by
 have hd:=b3Q (k:=k) (by omega) hk.2
 have h1:(decide (1≤k) && decide (k<27))=true:=by simp[hk]
 refine b0i (fn:=Tryz.f226) Tryz.func226 rfl (by rw[Tryz.ntmps226];simp) (by simp -implicitDefEqProofs only[go_sem]) rfl ?_
 simp -implicitDefEqProofs only[go_sem,Tryz.f226]
 refine(c6V k).calls rfl ?_
 rw[h1]
 simp -implicitDefEqProofs only[go_sem,hd,Shp.enc,g8X,g9M]
 intro _ hl
 have e:(Nd.mk k t g ks).own=f7V k t ks.length:=rfl
 rw[e]
 have w1:IntKind.i64.wrap ((ks.length:Int) - 1)=ks.length - 1:=Vg.wrap_small (by omega) (by omega)
 have w2:IntKind.i64.wrap ((ks.length:Int) - 1 - 1)=ks.length - 1 - 1:=Vg.wrap_small (by omega) (by omega)
 rw[w1,w2]
 have hs:(shp k).own=if k=8 then 2 else if k=14 then 1 else if k=3 then 2 else if k=20 then 3 else if k=21 then 4 else if k=7∨k=9∨k=10∨k=22 then 4 else if k=11 then 3 else if k=2∨k=6∨k=12∨k=26 then 2 else 1:=by
  have:k=1∨k=2∨k=3∨k=4∨k=5∨k=6∨k=7∨k=8∨k=9∨k=10∨k=11∨k=12∨k=13∨k=14∨k=15∨k=16∨k=17∨k=18∨k=19∨k=20∨k=21∨k=22∨k=23∨k=24∨k=25∨k=26:=by omega
  rcases this with rfl | rfl | rfl | rfl | rfl | rfl | rfl | rfl | rfl | rfl | rfl | rfl | rfl | rfl | rfl | rfl | rfl | rfl | rfl | rfl | rfl | rfl | rfl | rfl | rfl | rfl <;> rfl
 rw[hs]
 repeat' (first | apply And.intro | (with_reducible intro))
 all_goals(try omega)
 all_goals(try contradiction)
 all_goals
  congr 1
  unfold f7V
  first
   | (simp_all;done)
   | (simp_all;omega)
   | (subst_vars;simp;split <;> rw[Vg.wrap_small (by omega) (by omega)] <;> omega)
   | grind
end Go.Proofs.YtighfcpaplmaiaaGreatDoor
