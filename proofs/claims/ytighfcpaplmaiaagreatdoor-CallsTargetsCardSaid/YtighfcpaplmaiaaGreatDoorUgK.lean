import Derived.Test.YtighfcpaplmaiaaGreatDoorUgH
set_option linter.unusedVariables false
set_option linter.unusedSimpArgs false
set_option maxRecDepth 20000
namespace Go.Proofs.YtighfcpaplmaiaaGreatDoor
open Go Go.Vg Go.Proofs
theorem b0k(u:List Un):b6f u=[sl 70 (u.map Un.enc),sl 45 ((b0e u).map b0q),sl 163 ((b4o u).map Us.enc),sl 54 ((b0f u 0).map Dl.enc)]:=rfl
theorem b1U{u:List Un}{un:Nat}{l:List Rw}(hl:(b0e u)[un]? = some l):((b0e u).map b0q).getD ((un:Int)).toNat []=b0q l∧((un:Int)<(b0e u).length)=True∧(0≤(un:Int))=True:=by
 refine⟨by rw[g8Z,g9q,g9j,hl];rfl,?_,by simp⟩
 have:=(g8Y.1 hl).1
 simp;omega
theorem b1k{l:List Rw}{i:Nat}(hi:i<l.length):(l.map Rw.enc).getD ((i:Int)).toNat []=(b0j l i).enc∧((i:Int)<l.length)=True∧(0≤(i:Int))=True :=
 ⟨b0F hi,by simp;omega,by simp⟩
theorem d6r{u:List Un}(hS:SndU u)(c:ByteArray):c4I (b0f u 0) 2 ⟨#[]⟩ c=(b0f u 0).find? (b4u c):=by
 refine b3H fun d hd=>?_
 obtain⟨un,x,j,y,a,h1,h2,h3,h4⟩:=b4z u 0 d hd
 have ho:d.kind=2→d.owner=⟨#[]⟩:=fun hk=>by
  unfold b2S at h4
  repeat' split at h4
  all_goals first | (cases h4;done) | (cases h4;simp_all)
 rw[h0g]
 simp only[b4u,g9g,g9h]
 constructor
 ·rintro⟨⟨a,_⟩,b⟩;exact⟨a,b⟩
 ·rintro⟨a,b⟩;exact⟨⟨a,ho a⟩,b⟩
theorem c7A{u:List Un}(hS:SndU u){d:Dl}(hd:d∈b0f u 0)(hk:d.kind=2):∃ (un nd:Nat) (l:List Rw),d.unit=(un:Int)∧d.node=(nd:Int)∧(b0e u)[un]? = some l∧nd<l.length∧0<(b0j l nd).kids.length∧b1d l nd 0<l.length∧(b0j l (b1d l nd 0)).text=btU u d:=by
 obtain⟨un,nd,l,q1,q2,q3,q4,q5,q6⟩:=hS.decl hd
 have h7:(b0j l nd).kind=7:=by omega
 have hg:=hS.gram l (g9f q3)
 have hle:=hg.least nd q4
 rw[h7]at hle
 have hk1:0<(b0j l nd).kids.length:=by simp[b0U]at hle;omega
 have hkd:=hg.kid nd q4 0 hk1
 have hf:=hg.fit nd q4 0 hk1
 refine⟨un,nd,l,q1,q2,q3,q4,hk1,hkd.2.1,?_⟩
 obtain⟨x,hx,rfl⟩:=b2R hS.br q3
 obtain⟨k,t,g,ks,e1,e2,e3,e4⟩:=b1L q4
 have hgk:=b3Y hk1
 rw[e4]at hgk
 obtain⟨z,g1,g2,_⟩:=b7v e1 hgk
 unfold btU
 rw[q1,q2,g9j,g9j,hx]
 simp only
 rw[e1]
 simp only
 obtain⟨zk,zt,zg,zks⟩:=z
 obtain⟨r1,r2,r3⟩:=b3M g2
 rw[h7]at hf
 simp[b3P]at hf
 rw[r1]at hf
 subst hf
 rw[r2]
 cases ks with
 | nil=>simp at g1
 | cons y r =>
  simp at g1
  subst g1
  rfl
theorem d0B(u:List Un)(hS:SndU u)(c:ByteArray):b0u env 172 [.agg (b6f u),.str c] (.str (nxB (BU u) c)):=by
 have hF:=c9B u hS.fit 2 ⟨#[]⟩ c
 rw[d6r hS]at hF
 refine b0i (fn:=Tryz.f172) Tryz.func172 rfl (by rw[Tryz.ntmps172];simp) (by simp -implicitDefEqProofs only[go_sem];exact b1p _) rfl ?_
 simp -implicitDefEqProofs only[go_sem,Tryz.f172,b0k]
 refine hF.calls (by simp -implicitDefEqProofs only[go_sem,b0k]) ?_
 have hnx:nxB (BU u) c=(((b0f u 0).find? (b4u c)).map (btU u)).getD ⟨#[]⟩:=by rw[nxB,b1R]
 rw[hnx]
 cases hf:(b0f u 0).find? (b4u c)with
 | none =>
  simp -implicitDefEqProofs only[go_sem,b2s,g9u,h0a]
  rfl
 | some d =>
  have h1:=List.find?_some hf
  simp only[b4u,g9g,g9h]at h1
  obtain⟨un,nd,l,q1,q2,q3,q4,q5,q6,q7⟩:=c7A hS (g9V hf) h1.1
  obtain⟨t1,t2,t3⟩:=b1U q3
  obtain⟨s1,s2,s3⟩:=b1k q4
  obtain⟨r1,r2,r3⟩:=b1k q6
  have hgk:=b2l q5
  obtain⟨dk,do',dn,du,dd⟩:=d
  simp only at q1 q2
  subst q1 q2
  simp -implicitDefEqProofs only[go_sem,b2s,g9H,g9w,Dl.enc,b0q,t1,t2,t3,s1,s2,s3,r1,r2,r3,hgk,b0M,Rw.enc]
  exact⟨by omega,by rw[q7]⟩
theorem c7e(l:List Rw)(hr:rowsOK l)(i:Nat)(hi:i<l.length):b0u env 108 [sl 48 (l.map Rw.enc),.int .i64 i] (.str (f0T l i)):=by
 refine b0i (fn:=Tryz.f108) Tryz.func108 rfl (by rw[Tryz.ntmps108];simp) (by simp -implicitDefEqProofs only[go_sem];exact b0X _) rfl ?_
 simp -implicitDefEqProofs only[go_sem,Tryz.f108]
 refine b1A (α:=Int×Nat) (fun b=>⟨[(5,.int .i64 b.1),(4,.str ⟨#[]⟩),(0,sl 48 (l.map Rw.enc))],[],[]⟩)
  (fun b => -1≤b.1∧b.1+1<b.2∧b.1<l.length∧d3p l i=upF l b.2 b.1) (fun b=>(b.1+1).toNat) (i,l.length+1) ?_ ⟨by omega,by simp;omega,by simp;omega,rfl⟩ ?_
 ·simp -implicitDefEqProofs only[go_sem]
  try rfl
 ·rintro⟨k,f⟩ ⟨h1,h2,h3,h4⟩
  simp only at h1 h2 h3 h4 ⊢
  obtain⟨f,rfl⟩:∃ f',f=f'+1:=⟨f - 1,by omega⟩
  simp -implicitDefEqProofs only[go_sem]
  refine⟨fun hk=>?_,fun hk=>?_⟩
  ·obtain⟨k,rfl⟩:=g9T hk
   have hkl:k<l.length:=by omega
   obtain⟨r1,r2,r3⟩:=b1k hkl
   have hpk:=hr.par k hkl
   rw[upF,if_neg (by omega),g9j]at h4
   simp -implicitDefEqProofs only[go_sem,r1,r2,r3,Rw.enc]
   refine⟨fun g2=>?_,fun g2=>?_⟩
   ·have g2':¬ (b0j l k).kind=2:=by simpa using g2
    rw[if_neg g2']at h4
    exact⟨((b0j l k).parent,f),by simp only;omega,⟨hpk.2,by simp only;omega,by simp only;omega,h4⟩,rfl⟩
   ·have g2':(b0j l k).kind=2:=by simpa using g2
    rw[if_pos g2']at h4
    have hc:f0T l i=if 0≤(b0j l k).parent∧(b0j l (b0j l k).parent.toNat).kind=7 then(b0j l (b0j l k).parent.toNat).text else⟨#[]⟩:=by rw[f0T,h4]
    rw[hc]
    refine⟨fun _=>⟨fun hp=>?_,fun hp=>?_⟩,fun h=>by omega⟩
    ·obtain⟨p,hpe⟩:=g9T (by omega:0≤(b0j l k).parent)
     obtain⟨s1,s2,s3⟩:=b1k (by omega:p<l.length)
     rw[hpe]at hp ⊢
     simp -implicitDefEqProofs only[go_sem,s1,s2,s3,Rw.enc]
     rw[g9j]
     refine⟨fun h7=>by rw[if_neg (by simpa using h7)],fun h7=>?_⟩
     rw[if_pos (by simpa using h7)]
     simp -implicitDefEqProofs only[go_sem,r1,r2,r3,hpe,s1,s2,s3,Rw.enc]
    ·rw[if_neg (by omega)]
  ·have hk':k<0:=by omega
   rw[upF,if_pos hk']at h4
   have hc:f0T l i=⟨#[]⟩:=by rw[f0T,h4]
   rw[hc]
   exact⟨fun h=>absurd hk' h,fun _=>rfl⟩
theorem c2J(r:Rw):b0u env 113 [.agg r.enc] (.str (f4o r.kind r.text)):=by
 refine b0i (fn:=Tryz.f113) Tryz.func113 rfl (by rw[Tryz.ntmps113];simp) (by simp -implicitDefEqProofs only[go_sem];exact b8v _) rfl ?_
 simp -implicitDefEqProofs only[go_sem,Tryz.f113,Rw.enc]
 repeat' (first | apply And.intro | intro)
 all_goals(simp only[V.str.injEq])
 all_goals(unfold f4o)
 all_goals(try unfold opT)
 all_goals simp_all
theorem d3D(l:List Rw)(hg:gramL l)(i:Nat)(hi:i<l.length):b0u env 173 [sl 48 (l.map Rw.enc),.int .i64 i] (.str (b4d l l.length i)):=by
 refine b0i (fn:=Tryz.f173) Tryz.func173 rfl (by rw[Tryz.ntmps173];simp) (by simp -implicitDefEqProofs only[go_sem];exact b0X _) rfl ?_
 simp -implicitDefEqProofs only[go_sem,Tryz.f173]
 generalize hgo:b4d l l.length i=goal
 refine b1A (α:=Nat×Nat) (fun b=>⟨[(5,.int .i64 b.1),(4,.str ⟨#[]⟩),(0,sl 48 (l.map Rw.enc))],[],[]⟩)
  (fun b=>b.1<l.length∧l.length≤b.1+b.2∧goal=b4d l b.2 b.1) (fun b=>b.2) (i,l.length) ?_ ⟨hi,by simp,hgo.symm⟩ ?_
 ·simp -implicitDefEqProofs only[go_sem]
  try rfl
 ·rintro⟨k,f⟩ ⟨h1,h2,h4⟩
  simp only at h1 h2 h4 ⊢
  obtain⟨f,rfl⟩:∃ f',f=f'+1:=⟨f - 1,by omega⟩
  obtain⟨r1,r2,r3⟩:=b1k h1
  rw[b4d]at h4
  have hP:=c2J (b0j l k)
  have hwd:=hg.word k h1
  by_cases h26:(b0j l k).kind=26
  ·rw[if_pos h26]at h4
   have hle:=hg.least k h1
   rw[h26]at hle
   have hk1:0<(b0j l k).kids.length:=by simp[b0U]at hle;omega
   have hkd:=hg.kid k h1 0 hk1
   have hgk:=b2l hk1
   simp -implicitDefEqProofs only[go_sem,r1,r2,r3,hgk,b0M,Rw.enc]
   refine⟨fun _=>⟨by omega,(b1d l k 0,f),by simp only;omega,⟨hkd.2.1,by simp only;omega,h4⟩,rfl⟩,fun h=>absurd h26 h⟩
  ·rw[if_neg h26]at h4
   have hres:((b0j l k).kind=17∨(b0j l k).kind=18∨(b0j l k).kind=24∨(b0j l k).kind=25)→f4o (b0j l k).kind (b0j l k).text=goal:=fun h=>by
    rw[h4]
    rcases h with h | h | h | h
    ·rw[h];rfl
    ·rw[h];rfl
    ·rw[h];rfl
    ·rw[h]at hwd ⊢
     have ht:(b0j l k).text=⟨#[45]⟩∨(b0j l k).text=⟨#[33]⟩:=by simpa[b2n,b5t]using hwd
     rcases ht with ht | ht <;> (rw[ht];rfl)
   have hno:¬ ((b0j l k).kind=17∨(b0j l k).kind=18∨(b0j l k).kind=24∨(b0j l k).kind=25)→goal=⟨#[]⟩:=fun h=>by
    rw[h4,if_neg (by omega),if_neg (by omega),if_neg (by omega)]
   simp -implicitDefEqProofs only[go_sem,r1,r2,r3,Rw.enc]
   refine⟨fun h=>absurd h h26,fun _=>?_⟩
   repeat' (first | apply And.intro | (refine hP.calls (by simp -implicitDefEqProofs only[go_sem,Rw.enc]) ?_;simp -implicitDefEqProofs only[go_sem]) | intro)
   all_goals first
    | (exfalso;omega)
    | (refine congrArg V.str (hres ?_);omega)
    | (refine congrArg V.str (hno ?_).symm;omega)
theorem c1C{B:List (ByteArray×ByteArray)}{c:ByteArray}{p:List ByteArray}(hp:c2X B (nxB B c) p)(he:b4B B (nxB B c) p=⟨#[]⟩):∀ (a:List ByteArray) (s:ByteArray) (R:List ByteArray),c::p=a++s::R→nxB B s=R.headD ⟨#[]⟩:=by
 have key:∀ (s:ByteArray) (R:List ByteArray),c2X B (nxB B s) R→b4B B (nxB B s) R=⟨#[]⟩→nxB B s=R.headD ⟨#[]⟩:=fun s R h1 h2=>by
  cases R with
  | nil=>exact h2
  | cons x r=>exact h1.1.symm
 intro a s R h
 cases a with
 | nil =>
  simp only[g9M,List.cons.injEq]at h
  obtain⟨rfl,rfl⟩:=h
  exact key _ _ hp he
 | cons y a =>
  simp only[g8X,List.cons.injEq]at h
  obtain⟨_,rfl⟩:=h
  rw[b6R]at he
  exact key s R (b5I a hp).1 he
theorem c6o{u:List Un}(hP:PreU u){n:ByteArray}(h:(b1B (BU u) n).isSome=true):n≠tI∧n≠tB:=by
 obtain⟨d,hd,hk,rfl,_⟩:=b8s h
 obtain⟨un,nd,l,q1,q2,q3,q4,q5,q6⟩:=hP.snd.decl hd
 have:=b4f _ 0 hP.nm un nd l q3 q4
 rw[g9s,nmP,b7k q3,nmS]at this
 rw[q5]
 have h7:(b0j l nd).kind=7:=by omega
 simp only[h7,decide_true,g9O,h0w,h0l]at this
 exact this
theorem g2w(u:List Un)(s n:ByteArray):c4I (b0f u 0) 4 s n=(b0f u 0).find? (isM s n):=by
 refine b3H fun d _=>?_
 rw[h0g]
 simp only[isM,d5h,g9g,g9h]
 constructor
 ·rintro⟨⟨a,b⟩,c⟩;exact⟨a,b.symm,c.symm⟩
 ·rintro⟨a,b,c⟩;exact⟨⟨a,b.symm⟩,c.symm⟩
theorem c0e(u:List Un)(hP:PreU u)(c n:ByteArray):b0u env 111 [.agg (b6f u),.str c,.str n] (b6j (mtS u (rcT c,n))):=by
 have hS:=hP.snd
 have hF:=fun s=>c9B u hS.fit 4 s n
 have hB:=fun s=>d0B u hS s
 have hdl:=b0L u 0 fun y hy=>(hS.fit.2 y hy).1
 have hul:=hS.fit.1
 have hbl:=b1i (btU u) (b0f u 0)
 obtain⟨p,p1,p2,p3,p4⟩:=c0a hS hP.cls c
 have hgo:mtS u (rcT c,n)=if c=tI∨c=tB∨c=⟨#[]⟩then none else((c::p).findSome? fun s=>(b0f u 0).find? (isM s n)).map fun d=>b2O ((b0e u).getD d.unit.toNat []) d.node.toNat:=by
  unfold mtS
  simp only
  by_cases h:c=tI∨c=tB∨c=⟨#[]⟩
  ·have:rcT c=⟨#[]⟩:=by
    unfold rcT
    split
    ·rfl
    ·rename_i h'
     rcases h with h | h | h
     ·exact absurd (.inl h) h'
     ·exact absurd (.inr h) h'
     ·exact h
   rw[if_pos h,this,b9Y hS];rfl
  ·have:rcT c=c:=by
    unfold rcT
    rw[if_neg (fun g=>h (g.elim .inl fun g => .inr (.inl g)))]
   rw[if_neg h,this,c2u]
   show(((c::(b3D (BU u) c).1).findSome? _).map _)=_
   rw[p1]
 rw[hgo]
 refine b0i (fn:=Tryz.f111) Tryz.func111 rfl (by rw[Tryz.ntmps111];simp) (by simp -implicitDefEqProofs only[go_sem];exact b1p _) (by unfold b6j;split <;> simp -implicitDefEqProofs only[go_sem,Sg.enc]) ?_
 simp -implicitDefEqProofs only[go_sem,Tryz.f111,b0k]
 generalize hG:(if c=tI∨c=tB∨c=⟨#[]⟩then none else((c::p).findSome? fun s=>(b0f u 0).find? (isM s n)).map fun d=>b2O ((b0e u).getD d.unit.toNat []) d.node.toNat)=goal
 refine b1A (α:=Nat×List ByteArray) (fun b=>⟨[(9,.int .i64 b.1),(8,.str (b.2.headD ⟨#[]⟩)),(7,.bool false),(6,.ptr 1 0),(3,.ptr 0 0),(2,.str n)],[.cells (b6f u),.cells [.slice .nil 0 [],.str ⟨#[]⟩]],[]⟩)
  (fun b=>(∃ a,c::p=a++b.2∧b.1=a.length∧((c=tI∨c=tB∨c=⟨#[]⟩)→a=[]))∧goal=(if c=tI∨c=tB∨c=⟨#[]⟩then none else(b.2.findSome? fun s=>(b0f u 0).find? (isM s n)).map fun d=>b2O ((b0e u).getD d.unit.toNat []) d.node.toNat)) (fun b=>b.2.length) (0,c::p) ?_ ⟨⟨[],rfl,rfl,fun _=>rfl⟩,hG.symm⟩ ?_
 ·simp -implicitDefEqProofs only[go_sem,b0k,List.headD_cons]
  rfl
 ·rintro⟨i,R⟩ ⟨⟨a,h1,h2,h0⟩,h3⟩
  simp only at h1 h2 h3 ⊢
  have p3':p.length≤(b0f u 0).length:=h0i p3 hbl
  have hal:a.length≤p.length+1:=by have:=congrArg List.length h1;simp at this;omega
  have hlen:=congrArg List.length h1
  simp only[g9k,g9d]at hlen
  cases R with
  | nil =>
   have hgn:goal=none:=by rw[h3];split <;> rfl
   rw[hgn]
   simp -implicitDefEqProofs only[go_sem,b0k,List.headD_nil]
   exact fun _ _=>⟨fun _=>rfl,fun _=>rfl⟩
  | cons s R =>
   have hnx:=c1C p2 p4 a s R h1
   simp only[g9k]at hlen
   have hil:((i:Int)≤(b0f u 0).length)=True:=by simp;omega
   have hw:IntKind.i64.wrap (↑i+1)=↑(i+1):=b0g (by omega)
   by_cases hc:c=tI∨c=tB∨c=⟨#[]⟩
   ·rw[if_pos hc]at h3
    rw[h3]
    have ha:=h0 hc
    subst ha
    simp only[g9M,List.cons.injEq]at h1
    obtain⟨rfl,rfl⟩:=h1
    by_cases k1:c=⟨#[]⟩
    ·simp -implicitDefEqProofs only[go_sem,b0k,List.headD_cons,hil,k1]
     exact fun _ _=>rfl
    by_cases k2:c=⟨#[105,110,116]⟩
    ·simp -implicitDefEqProofs only[go_sem,b0k,List.headD_cons,hil,k2]
     exact fun _ _=>⟨fun _=>rfl,fun _=>rfl⟩
    ·have k3:c=⟨#[98,111,111,108]⟩:=by
      rcases hc with h | h | h
      ·exact absurd h k2
      ·exact h
      ·exact absurd h k1
     simp -implicitDefEqProofs only[go_sem,b0k,List.headD_cons,hil,k3]
     exact fun _ _=>⟨fun _=>⟨fun _=>rfl,fun _=>rfl⟩,fun _=>rfl⟩
   ·rw[if_neg hc]at h3
    have hok:s≠⟨#[]⟩∧s≠tI∧s≠tB:=by
     cases a with
     | nil =>
      simp only[g9M,List.cons.injEq]at h1
      rw[←h1.1]
      exact⟨fun h=>hc (.inr (.inr h)),fun h=>hc (.inl h),fun h=>hc (.inr (.inl h))⟩
     | cons y a =>
      simp only[g8X,List.cons.injEq]at h1
      have hm:s∈p:=by rw[h1.2];simp
      have hok:=c2o p p2 s hm
      simp only[b2D,h0w,Bool.not_eq_false',h0l]at hok
      exact⟨hok.1,c6o hP hok.2⟩
    have k1:(s=⟨#[]⟩)=False:=eq_false hok.1
    have k2:(s=⟨#[105,110,116]⟩)=False:=eq_false hok.2.1
    have k3:(s=⟨#[98,111,111,108]⟩)=False:=eq_false hok.2.2
    simp -implicitDefEqProofs only[go_sem,b0k,List.headD_cons,hil,k1,k2,k3]
    intro _ _
    have hFs:=hF s
    rw[g2w]at hFs
    rw[List.findSome?_cons]at h3
    refine hFs.calls (by simp -implicitDefEqProofs only[go_sem,b0k]) ?_
    cases hf:(b0f u 0).find? (isM s n)with
    | some d =>
     rw[hf]at h3
     simp only[g9z]at h3
     have hd:=List.find?_some hf
     simp only[isM,g9g,g9h]at hd
     obtain⟨un,nd,l,q1,q2,q3,q4,q5,q6⟩:=hS.decl (g9V hf)
     have hk2:(b0j l nd).kind=2:=by omega
     have hsg:=c2I l nd ((hS.gram l (g9f q3)).sign nd q4 hk2)
     obtain⟨t1,t2,t3⟩:=b1U q3
     rw[q1,q2,b5v q3,g9j]at h3
     rw[h3]
     obtain⟨dk,do',dn,du,dd⟩:=d
     simp only at q1 q2
     subst q1 q2
     simp -implicitDefEqProofs only[go_sem,b2s,g9H,g9w,Dl.enc,b0k,t1,t2,t3,b0q]
     refine b0h (cs:=[]) b0v (by kernel_rfl) ?_
     simp -implicitDefEqProofs only[go_sem,Dl.enc,b0k,t1,t2,t3,b0q]
     refine b0B hsg (by simp -implicitDefEqProofs only[go_sem]) ?_
     simp -implicitDefEqProofs only[go_sem,Dl.enc,b0k,t1,t2,t3,b0q,b6j]
    | none =>
     rw[hf]at h3
     simp only at h3
     simp -implicitDefEqProofs only[go_sem,b2s,g9u,h0a,Dl.zero,Dl.enc,b0k]
     refine(hB s).calls (by simp -implicitDefEqProofs only[go_sem,b0k]) ?_
     rw[hnx]
     simp -implicitDefEqProofs only[go_sem]
     refine⟨(i+1,R),by simp,⟨⟨a++[s],by simp[h1],by simp;omega,fun h=>absurd h hc⟩,by simp only;rw[if_neg hc];exact h3⟩,⟨hw,rfl⟩,.inr ?_⟩
     rw[b0m _ _ _ (b0x _),b0m _ _ _ (b1e _),b0m _ _ _ (b2B _),b0m _ _ _ (b0G _)]
     rfl
theorem c5D(u:List Un)(hP:PreU u)(t want:ByteArray)(hwt:want≠⟨#[]⟩):b0u env 163 [.agg (b6f u),.str t,.str want] (.bool (b4W u t want)):=by
 have hS:=hP.snd
 have hB:=fun s=>d0B u hS s
 have hdl:=b0L u 0 fun y hy=>(hS.fit.2 y hy).1
 have hul:=hS.fit.1
 have hbl:=b1i (btU u) (b0f u 0)
 obtain⟨p,p1,p2,p3,p4⟩:=c0a hS hP.cls t
 have hgo:b4W u t want=(decide (t=⟨#[]⟩) || (t::p).any fun x=>decide (x=want)):=by
  unfold b4W
  rw[List.any_cons]
  show(_ || (_ || (b3D (BU u) t).1.any _))=_
  rw[p1]
 rw[hgo]
 refine b0i (fn:=Tryz.f163) Tryz.func163 rfl (by rw[Tryz.ntmps163];simp) (by simp -implicitDefEqProofs only[go_sem];exact b1p _) rfl ?_
 simp -implicitDefEqProofs only[go_sem,Tryz.f163,b0k]
 generalize hG:(decide (t=⟨#[]⟩) || (t::p).any fun x=>decide (x=want))=goal
 refine b1A (α:=Nat×List ByteArray) (fun b=>⟨[(8,.int .i64 b.1),(7,.str (b.2.headD ⟨#[]⟩)),(6,.bool false),(3,.ptr 0 0),(1,.str t),(2,.str want)],[.cells (b6f u)],[]⟩)
  (fun b=>(∃ a,t::p=a++b.2∧b.1=a.length)∧goal=(decide (t=⟨#[]⟩) || b.2.any fun x=>decide (x=want))) (fun b=>b.2.length) (0,t::p) ?_ ⟨⟨[],rfl,rfl⟩,hG.symm⟩ ?_
 ·simp -implicitDefEqProofs only[go_sem,b0k,List.headD_cons]
  rfl
 ·rintro⟨i,R⟩ ⟨⟨a,h1,h2⟩,h3⟩
  simp only at h1 h2 h3 ⊢
  have p3':p.length≤(b0f u 0).length:=h0i p3 hbl
  have hlen:=congrArg List.length h1
  simp only[g9k,g9d]at hlen
  have hwf:(⟨#[]⟩:ByteArray)≠want:=fun e=>hwt e.symm
  cases R with
  | nil =>
   rw[List.any_nil,Bool.or_false]at h3
   simp -implicitDefEqProofs only[go_sem,b0k,List.headD_nil]
   have e1:¬ t=⟨#[]⟩→V.bool (decide ((⟨#[]⟩:ByteArray)=want))=V.bool goal:=fun h=>by
    rw[h3,g9v h,g9v hwf]
   have e2:t=⟨#[]⟩→V.bool true=V.bool goal:=fun h=>by rw[h3,g9D h]
   exact fun _ _=>⟨fun _=>⟨e1,e2⟩,fun _=>⟨e1,e2⟩⟩
  | cons s R =>
   have hnx:=c1C p2 p4 a s R h1
   simp only[g9k]at hlen
   have hil:((i:Int)≤(b0f u 0).length)=True:=by simp;omega
   have hw:IntKind.i64.wrap (↑i+1)=↑(i+1):=b0g (by omega)
   rw[List.any_cons]at h3
   have hsn:¬ t=⟨#[]⟩→s≠⟨#[]⟩:=fun ht=>by
    cases a with
    | nil =>
     simp only[g9M,List.cons.injEq]at h1
     rw[←h1.1];exact ht
    | cons y a =>
     simp only[g8X,List.cons.injEq]at h1
     have hok:=c2o p p2 s (by rw[h1.2];simp)
     simp only[b2D,h0w,Bool.not_eq_false',h0l]at hok
     exact hok.1
   have e2:t=⟨#[]⟩→V.bool true=V.bool goal:=fun h=>by rw[h3,g9D h];rfl
   simp -implicitDefEqProofs only[go_sem,b0k,List.headD_cons,hil]
   refine fun _ _=>⟨fun g1=>⟨fun g2=>?_,fun g2=>⟨fun _=>?_,e2⟩⟩,fun g1=>⟨fun ht=>?_,e2⟩⟩
   ·have g2':¬ s=want:=by simpa using g2
    refine(hB s).calls (by simp -implicitDefEqProofs only[go_sem,b0k]) ?_
    rw[hnx]
    simp -implicitDefEqProofs only[go_sem]
    rw[g9v g2',g9U]at h3
    exact⟨(i+1,R),by simp,⟨⟨a++[s],by simp[h1],by simp;omega⟩,h3⟩,hw,rfl⟩
   ·have g2':s=want:=by simpa using g2
    rw[h3,g9D g2'];simp
   ·exact absurd (by simpa using g1) (hsn ht)
theorem c7x{l:List Rw}(hg:gramL l){i:Nat}(hi:i<l.length)(hk:(b0j l i).kind≠2):f0T l i=match b8I l i with | some p=>c6Q l p | none=>⟨#[]⟩:=by
 have hf:d3p l i=b8I l i:=by rw[c3A hg.ok hi,if_neg hk];rfl
 unfold f0T
 rw[hf]
 cases hfr:b8I l i with
 | none=>rfl
 | some p =>
  obtain⟨_,_,h3⟩:=b5s hg hi hfr
  simp only
  unfold c6Q
  by_cases h7:(b0j l (b0j l p).parent.toNat).kind=7
  ·rw[if_pos ⟨h3,h7⟩,if_pos h7]
  ·rw[if_neg (fun h=>h7 h.2),if_neg h7]
def c0i(u:List Un)(k:Int×Int)(d:Nat):Prop:=b0u env 73 [.agg (b6f u),b6C k,.int .i64 d] (.str (tyS u k))
theorem b8P(u:List Un)(hP:PreU u){un i:Nat}{l:List Rw}(hl:(b0e u)[un]? = some l)(hi:i<l.length)(hk:(b0j l i).kind=4∨(b0j l i).kind=9∨(b0j l i).kind=10)(d:Nat)(hd:d≤9000)(hd1:1≤d)
  (hT:(b0j l i).kind=10→c0i u ((un:Int),((b1d l i 0:Nat):Int)) (d - 1)):b0u env 112 [.agg (b6f u),.agg [.int .i64 un,.int .i64 i],.int .i64 d] (.str (c9r (b0e u) (tyS u) ((un:Int),(i:Int)))):=by
 have hS:=hP.snd
 have hg:=hS.gram l (g9f hl)
 obtain⟨t1,t2,t3⟩:=b1U hl
 obtain⟨r1,r2,r3⟩:=b1k hi
 have hle:=hg.least i hi
 have hk1:0<(b0j l i).kids.length:=by rcases hk with hk | hk | hk <;> (rw[hk]at hle;simp[b0U]at hle;omega)
 have hkd:=hg.kid i hi 0 hk1
 obtain⟨s1,s2,s3⟩:=b1k hkd.2.1
 have hgk:=b2l hk1
 have hk0:(0<((b0j l i).kids.length:Int))=True:=by simp;omega
 have hv:c9r (b0e u) (tyS u) ((un:Int),(i:Int))=if(b0j l i).kind=4 then(b0j l (b1d l i 0)).text else if(b0j l i).kind=10 then tyS u ((un:Int),((b1d l i 0:Nat):Int))else if(b0j l i).kind=9 then b4d l l.length (b1d l i 0)else⟨#[]⟩:=by
  unfold c9r
  rw[b0T hl,b3y hl,b0T hl,b5v hl,g9j]
 rw[hv]
 refine b0i (fn:=Tryz.f112) Tryz.func112 rfl (by rw[Tryz.ntmps112];simp) (by simp -implicitDefEqProofs only[go_sem];exact b1p _) rfl ?_
 rcases hk with hk | hk | hk
 ·rw[if_pos hk]
  simp -implicitDefEqProofs only[go_sem,Tryz.f112,b0k]
  refine b0h (cs:=[]) b0v (by kernel_rfl) ?_
  simp -implicitDefEqProofs only[go_sem,b0k,t1,t2,t3,r1,r2,r3,s1,s2,s3,hgk,hk0,hk,b0q,b0M,Rw.enc]
  refine b0h (cs:=[]) b0v (by kernel_rfl) ?_
  simp -implicitDefEqProofs only[go_sem,b0k,t1,t2,t3,r1,r2,r3,s1,s2,s3,hgk,hk0,hk,b0q,b0M,Rw.enc]
 ·rw[if_neg (by omega),if_neg (by omega),if_pos hk]
  simp -implicitDefEqProofs only[go_sem,Tryz.f112,b0k]
  refine b0h (cs:=[]) b0v (by kernel_rfl) ?_
  simp -implicitDefEqProofs only[go_sem,b0k,t1,t2,t3,r1,r2,r3,s1,s2,s3,hgk,hk0,hk,b0q,b0M,Rw.enc]
  refine b0h (cs:=[]) b0v (by kernel_rfl) ?_
  simp -implicitDefEqProofs only[go_sem,b0k,t1,t2,t3,r1,r2,r3,s1,s2,s3,hgk,hk0,hk,b0q,b0M,Rw.enc]
  refine b0B (d3D l hg (b1d l i 0) hkd.2.1) (by simp -implicitDefEqProofs only[go_sem]) ?_
  simp -implicitDefEqProofs only[go_sem]
 ·rw[if_neg (by omega),if_pos hk]
  simp -implicitDefEqProofs only[go_sem,Tryz.f112,b0k]
  refine b0h (cs:=[]) b0v (by kernel_rfl) ?_
  simp -implicitDefEqProofs only[go_sem,b0k,t1,t2,t3,r1,r2,r3,s1,s2,s3,hgk,hk0,hk,b0q,b0M,Rw.enc]
  refine b0h (cs:=[]) b0v (by kernel_rfl) ?_
  simp -implicitDefEqProofs only[go_sem,b0k,t1,t2,t3,r1,r2,r3,s1,s2,s3,hgk,hk0,hk,b0q,b0M,Rw.enc]
  have hw:IntKind.i64.wrap ((d:Int) - 1)=((d - 1:Nat):Int):=by rw[b1H (by omega) (by omega)];omega
  have hTT:=hT hk
  unfold c0i b6C at hTT
  rw[hw]
  refine b0B hTT (by simp -implicitDefEqProofs only[go_sem,b0k]) ?_
  simp -implicitDefEqProofs only[go_sem]
theorem c7H(u:List Un)(hP:PreU u){μ:Int×Int→Nat}(hμ:∀ k,Val (b0e u) k→μ k<((b0e u).getD k.1.toNat []).length∧∀ q,tgt (b0e u) (b2q u) k q→Val (b0e u) q∧q.1=k.1∧μ q<μ k) :
  ∀ (m un i:Nat) (l:List Rw) (d:Nat),μ ((un:Int),(i:Int))<m→(b0e u)[un]? = some l→i<l.length→μ ((un:Int),(i:Int))<d→d≤9000→c0i u ((un:Int),(i:Int)) d:=by
 have hS:=hP.snd
 have hT:=hS.ckT
 intro m
 induction m with
 | zero=>intro _ _ _ _ h;omega
 | succ m ih =>
  intro un i l d hm hl hi hd hd9
  have hV:Val (b0e u) ((un:Int),(i:Int)):=⟨un,i,l,rfl,hl,hi⟩
  have hg:=hS.gram l (g9f hl)
  have ihq:∀ q,tgt (b0e u) (b2q u) ((un:Int),(i:Int)) q→c0i u q (d - 1):=fun q hq=>by
   obtain⟨⟨un',i',l',rfl,g1,g2⟩,g3,g4⟩:=(hμ _ hV).2 q hq
   exact ih un' i' l' (d - 1) (by omega) g1 g2 (by omega) (by omega)
  obtain⟨t1,t2,t3⟩:=b1U hl
  obtain⟨r1,r2,r3⟩:=b1k hi
  have hd1:¬ (d:Int)≤0:=by omega
  have hdf:((d:Int)≤0)=False:=by simp;omega
  have hw:IntKind.i64.wrap ((d:Int) - 1)=((d - 1:Nat):Int):=by rw[b1H (by omega) (by omega)];omega
  have hkid:((b0j l i).kind=26∨(b0j l i).kind=21)→0<(b0j l i).kids.length∧b1d l i 0<l.length:=fun hk=>by
   have hle:=hg.least i hi
   have hk1:0<(b0j l i).kids.length:=by rcases hk with hk | hk <;> (rw[hk]at hle;simp[b0U]at hle;omega)
   exact⟨hk1,(hg.kid i hi 0 hk1).2.1⟩
  unfold c0i b6C
  rw[d2u hT hV]
  unfold tyB
  rw[b0T hl,b3y hl,b5v hl,g9j]
  refine b0i (fn:=Tryz.f73) Tryz.func73 rfl (by rw[Tryz.ntmps73];simp) (by simp -implicitDefEqProofs only[go_sem];exact b1p _) rfl ?_
  by_cases h26:(b0j l i).kind=26
  ·obtain⟨k1,k2⟩:=hkid (.inl h26)
   have hgk:=b2l k1
   have hk0:(0<((b0j l i).kids.length:Int))=True:=by simp;omega
   have hTk:=ihq _ (.inl ⟨by rw[b0T hl];exact .inr h26,rfl⟩)
   rw[b3y hl]at hTk
   unfold c0i b6C at hTk
   have hk:=h26
   rw[if_neg (by omega),if_neg (by omega),if_neg (by omega),if_neg (by omega),if_neg (by omega),if_neg (by omega),if_neg (by omega),if_neg (by omega),if_pos h26]
   simp -implicitDefEqProofs only[go_sem,Tryz.f73,b0k,t1,t2,t3,r1,r2,r3,hdf,hk,b0q,Rw.enc]
   refine b0h (cs:=[]) b0v (by kernel_rfl) ?_
   simp -implicitDefEqProofs only[go_sem,b0k,t1,t2,t3,r1,r2,r3,hdf,hk,b0q,Rw.enc,hgk,hk0,hw,b0M]
   refine b0B hTk (by simp -implicitDefEqProofs only[go_sem,b0k]) ?_
   simp -implicitDefEqProofs only[go_sem]
  by_cases h23:(b0j l i).kind=23
  ·have hC:=c7e l hg.ok i hi
   rw[c7x hg hi (by omega)]at hC
   have hk:=h23
   rw[if_neg (by omega),if_neg (by omega),if_neg (by omega),if_neg (by omega),if_neg (by omega),if_neg (by omega),if_pos h23]
   simp -implicitDefEqProofs only[go_sem,Tryz.f73,b0k,t1,t2,t3,r1,r2,r3,hdf,hk,b0q,Rw.enc]
   refine hC.calls (by simp -implicitDefEqProofs only[go_sem]) ?_
   simp -implicitDefEqProofs only[go_sem]
   try(cases b8I l i <;> rfl)
  by_cases h20:(b0j l i).kind=20
  ·have hR:=b5T u hS hl hi
   have hk:=h20
   rw[if_neg (by omega),if_neg (by omega),if_neg (by omega),if_pos h20]
   simp -implicitDefEqProofs only[go_sem,Tryz.f73,b0k,t1,t2,t3,r1,r2,r3,hdf,hk,b0q,Rw.enc]
   refine hR.calls (by simp -implicitDefEqProofs only[go_sem,b0k]) ?_
   cases hgm:b1s (b2q u) ((un:Int),(i:Int))with
   | none =>
    simp -implicitDefEqProofs only[go_sem,c0R,h0m,h0a,g9u]
   | some dd =>
    obtain⟨⟨un',i',l',rfl,g1,g2⟩,g3,_⟩:=hS.fnc hl h20 hgm
    rw[b0T g1]at g3
    have hsg:=c2I l' i' ((hS.gram l' (g9f g1)).sign i' g2 g3)
    obtain⟨u1,u2,u3⟩:=b1U g1
    simp only
    rw[b5v g1,g9j]
    simp -implicitDefEqProofs only[go_sem,c0R,g9z,g9w,g9H]
    refine b0h (cs:=[]) b0v (by kernel_rfl) ?_
    simp -implicitDefEqProofs only[go_sem,b0k,u1,u2,u3,b0q]
    refine b0B hsg (by simp -implicitDefEqProofs only[go_sem]) ?_
    simp -implicitDefEqProofs only[go_sem,Sg.enc]
  by_cases h21:(b0j l i).kind=21
  ·obtain⟨k1,k2⟩:=hkid (.inr h21)
   have hgk:=b2l k1
   have hk0:(0<((b0j l i).kids.length:Int))=True:=by simp;omega
   have hTk:=ihq _ (.inl ⟨by rw[b0T hl];exact .inl h21,rfl⟩)
   rw[b3y hl]at hTk
   unfold c0i b6C at hTk
   have hk:=h21
   rw[if_neg (by omega),if_neg (by omega),if_neg (by omega),if_neg (by omega),if_pos h21]
   simp -implicitDefEqProofs only[go_sem,Tryz.f73,b0k,t1,t2,t3,r1,r2,r3,hdf,hk,b0q,Rw.enc]
   refine b0h (cs:=[]) b0v (by kernel_rfl) ?_
   simp -implicitDefEqProofs only[go_sem,b0k,t1,t2,t3,r1,r2,r3,hdf,hk,b0q,Rw.enc,hgk,hk0,hw,b0M]
   refine b0B hTk (by simp -implicitDefEqProofs only[go_sem,b0k]) ?_
   simp -implicitDefEqProofs only[go_sem,b0k,t1,t2,t3,r1,r2,r3,hdf,hk,b0q,Rw.enc]
   have hM:=c0e u hP (tyS u ((un:Int),((b1d l i 0:Nat):Int))) (b0j l i).text
   refine b0B hM (by simp -implicitDefEqProofs only[go_sem,b0k]) ?_
   cases mtS u (rcT (tyS u ((un:Int),((b1d l i 0:Nat):Int))),(b0j l i).text)with
   | none =>
    simp -implicitDefEqProofs only[go_sem,b6j]
   | some s =>
    simp -implicitDefEqProofs only[go_sem,b6j,Sg.enc]
  by_cases h19:(b0j l i).kind=19
  ·have hR:=b5T u hS hl hi
   have hk:=h19
   rw[if_neg (by omega),if_neg (by omega),if_pos h19]
   simp -implicitDefEqProofs only[go_sem,Tryz.f73,b0k,t1,t2,t3,r1,r2,r3,hdf,hk,b0q,Rw.enc]
   refine hR.calls (by simp -implicitDefEqProofs only[go_sem,b0k]) ?_
   cases hgm:b1s (b2q u) ((un:Int),(i:Int))with
   | none =>
    simp -implicitDefEqProofs only[go_sem,c0R,h0m,h0a,g9u]
   | some dd =>
    obtain⟨⟨un',i',l',rfl,g1,g2⟩,g3⟩:=hT.d19 _ _ hV (by rw[b0T hl];exact .inl h19) hgm
    rw[b0T g1]at g3
    have hDe:=b8P u hP g1 g2 g3 d hd9 (by omega) fun h10=>by
     have:=ihq _ (.inr ⟨by rw[b0T hl];exact h19,_,hgm,by rw[b0T g1];exact h10,rfl⟩)
     rw[b3y g1]at this
     exact this
    simp only
    simp -implicitDefEqProofs only[go_sem,c0R,g9z,g9w,g9H]
    refine hDe.calls (by simp -implicitDefEqProofs only[go_sem,b0k]) ?_
    simp -implicitDefEqProofs only[go_sem]
  have hPl:=c2J (b0j l i)
  have e26:((b0j l i).kind=26)=False:=eq_false h26
  have e23:((b0j l i).kind=23)=False:=eq_false h23
  have e20:((b0j l i).kind=20)=False:=eq_false h20
  have e21:((b0j l i).kind=21)=False:=eq_false h21
  have e19:((b0j l i).kind=19)=False:=eq_false h19
  simp -implicitDefEqProofs only[go_sem,Tryz.f73,b0k,t1,t2,t3,r1,r2,r3,hdf,e26,e23,e20,e21,e19,b0q,Rw.enc]
  refine hPl.calls (by simp -implicitDefEqProofs only[go_sem,Rw.enc]) ?_
  simp -implicitDefEqProofs only[go_sem]
  congr 1
  obtain⟨g1,g2⟩:=hg.rng i hi
  have hwd:=hg.word i hi
  unfold f4o
  by_cases h17:(b0j l i).kind=17
  ·rw[if_pos h17,if_pos h17];rfl
  by_cases h18:(b0j l i).kind=18
  ·rw[if_neg h17,if_neg h17,if_pos h18,if_pos h18];rfl
  simp only[h17,h18,h19,h20,h21,if_false]
  by_cases h22:(b0j l i).kind=22
  ·rw[if_pos h22,if_pos h22]
  simp only[h22,h23,if_false]
  by_cases h24:(b0j l i).kind=24
  ·simp only[h24,if_true,true_or]
  by_cases h25:(b0j l i).kind=25
  ·simp only[h24,if_false,h25,if_true,or_true]
   rw[h25]at hwd
   have ht:(b0j l i).text=⟨#[45]⟩∨(b0j l i).text=⟨#[33]⟩:=by simpa[b2n,b5t]using hwd
   rcases ht with ht | ht <;> (rw[ht];first | rfl | decide)
  simp only[h24,h25,if_false,or_self]
theorem d2v{u:List Un}(hu:b2T u){un:Nat}{l:List Rw}(hl:(b0e u)[un]? = some l):l.length≤1000:=by
 obtain⟨x,hx,rfl⟩:=h0k.1 (g9f hl)
 split
 ·simp
 ·rw[b0N];exact(hu.2 x hx).1
theorem c5a(u:List Un)(hP:PreU u){un i:Nat}{l:List Rw}(hl:(b0e u)[un]? = some l)(hi:i<l.length):b0u env 73 [.agg (b6f u),.agg [.int .i64 un,.int .i64 i],.int .i64 9000] (.str (tyS u ((un:Int),(i:Int)))):=by
 obtain⟨μ,hμ⟩:=hP.snd.ckT.mu
 have h1:=(hμ ((un:Int),(i:Int)) ⟨un,i,l,rfl,hl,hi⟩).1
 rw[b5v hl]at h1
 have h2:=d2v hP.snd.fit hl
 exact c7H u hP hμ _ un i l 9000 (Nat.lt_succ_self _) hl hi (by omega) (by omega)
theorem d2w(u:List Un)(hP:PreU u){un i:Nat}{l:List Rw}(hl:(b0e u)[un]? = some l)(hi:i<l.length){k:Nat}(hk:k<(b0j l i).kids.length):b0u env 164 [.agg (b6f u),.agg [.int .i64 un,.int .i64 i],.int .i64 k] (.str (tyS u ((un:Int),((b1d l i k:Nat):Int)))):=by
 have hg:=hP.snd.gram l (g9f hl)
 obtain⟨t1,t2,t3⟩:=b1U hl
 obtain⟨r1,r2,r3⟩:=b1k hi
 have hgk:=b3T hk
 have hk0:((k:Int)<((b0j l i).kids.length:Int))=True:=by simp;omega
 have hk1:(0≤(k:Int))=True:=by simp
 have hR:=c5a u hP hl (hg.kid i hi k hk).2.1
 refine b0i (fn:=Tryz.f164) Tryz.func164 rfl (by rw[Tryz.ntmps164];simp) (by simp -implicitDefEqProofs only[go_sem];exact b1p _) rfl ?_
 simp -implicitDefEqProofs only[go_sem,Tryz.f164,b0k]
 refine b0h (cs:=[]) b0v (by kernel_rfl) ?_
 simp -implicitDefEqProofs only[go_sem,b0k,t1,t2,t3,r1,r2,r3,hgk,hk0,hk1,b0q,b0M,Rw.enc]
 refine b0B hR (by simp -implicitDefEqProofs only[go_sem,b0k]) ?_
 simp -implicitDefEqProofs only[go_sem]
theorem d2X(u:List Un)(hP:PreU u){un i:Nat}{l:List Rw}(hl:(b0e u)[un]? = some l)(hi:i<l.length)(fr:Nat)(hfr:fr≤1)(ps:List ByteArray)(hps:∀ p∈ps,p≠⟨#[]⟩):b0u env 166 [.agg (b6f u),.agg [.int .i64 un,.int .i64 i],.int .i64 fr,sl 9 (ps.map b0p)] (.bool (!f1F u un l i fr ps)):=by
 have hg:=hP.snd.gram l (g9f hl)
 have hkb:=(hg.ok.kids i hi).1
 have hks:=hg.kid i hi
 obtain⟨t1,t2,t3⟩:=b1U hl
 obtain⟨r1,r2,r3⟩:=b1k hi
 refine b0i (fn:=Tryz.f166) Tryz.func166 rfl (by rw[Tryz.ntmps166];simp) (by simp -implicitDefEqProofs only[go_sem];exact b1p _) rfl ?_
 simp -implicitDefEqProofs only[go_sem,Tryz.f166,b0k]
 refine b0h (cs:=[]) b0v (by kernel_rfl) ?_
 simp -implicitDefEqProofs only[go_sem,b0k,t1,t2,t3,r1,r2,r3,b0q,Rw.enc]
 have hwr:IntKind.i64.wrap (((b0j l i).kids.length:Int) - fr)=((b0j l i).kids.length:Int) - fr:=b1H (by omega) (by omega)
 rw[hwr,f1F]
 refine fun _ _ _ _=>⟨fun hne=>?_,fun heq=>?_⟩
 ·have hne':¬ ((b0j l i).kids.length:Int) - fr=ps.length:=by simpa using hne
  rw[if_neg (by omega)];rfl
 have heq':((b0j l i).kids.length:Int) - fr=ps.length:=by simpa using heq
 rw[if_pos (by omega)]
 refine b1A (α:=Nat) (fun b=>⟨[(10,.int .i64 b),(9,.ptr 2 0),(8,.bool false),(5,.ptr 1 0),(4,.ptr 0 0),(0,.agg (b6f u)),(2,.int .i64 fr),(3,sl 9 (ps.map b0p))],[.cells (b6f u),.cells [.int .i64 un,.int .i64 i],.cells (b0j l i).enc],[]⟩)
  (fun b=>b≤ps.length∧d4o u un l i fr ps=d4o u un l i (fr+b) (ps.drop b)) (fun b=>ps.length - b) 0 ?_ ⟨by omega,rfl⟩ ?_
 ·simp -implicitDefEqProofs only[go_sem,b0k,Rw.enc]
  try rfl
 ·rintro b ⟨h1,h2⟩
  by_cases hb:b<ps.length
  ·have hx:ps.drop b=ps.getD b ⟨#[]⟩::ps.drop (b+1):=by rw[List.drop_eq_getElem_cons hb];simp[g8Z,hb]
   have hpx:ps.getD b ⟨#[]⟩≠⟨#[]⟩:=hps _ (by rw[g8Z,g9b hb];exact List.getElem_mem hb)
   have hgx:(ps.map b0p).getD (b:Int).toNat []=b0p (ps.getD b ⟨#[]⟩):=by simp[g8Z,hb]
   have hlt:((b:Int)<ps.length)=True:=by simp;omega
   have hw:IntKind.i64.wrap (↑b+1)=↑(b+1):=b0g (by omega)
   have hjl:fr+b<(b0j l i).kids.length:=by omega
   have hkd:=hks _ hjl
   have hwk:IntKind.i64.wrap ((fr:Int)+b)=((fr+b:Nat):Int):=by rw[b1H (by omega) (by omega)];omega
   have hgk:=b3T hjl
   have hk0:(((fr+b:Nat):Int)<((b0j l i).kids.length:Int))=True:=by simp only[eq_iff_iff,iff_true];omega
   have hk1:(0≤((fr+b:Nat):Int))=True:=by simp only[eq_iff_iff,iff_true];omega
   rw[hx,d4o]at h2
   simp -implicitDefEqProofs only[go_sem,b0k,hlt,hgx,b0p,hwk,Rw.enc]
   refine fun _ _=>?_
   refine b0h (cs:=[]) b0v (by kernel_rfl) ?_
   simp -implicitDefEqProofs only[go_sem,b0k,t1,t2,t3,r1,r2,r3,b0q,Rw.enc,hwk,hgk,hk0,hk1,b0M]
   refine b0B (c5a u hP hl hkd.2.1) (by simp -implicitDefEqProofs only[go_sem,b0k]) ?_
   simp -implicitDefEqProofs only[go_sem,b0k,hlt,hgx,b0p]
   have hF:=c5D u hP (tyS u ((un:Int),((b1d l i (fr+b):Nat):Int))) (ps.getD b ⟨#[]⟩) hpx
   cases hf:b4W u (tyS u ((un:Int),((b1d l i (fr+b):Nat):Int))) (ps.getD b ⟨#[]⟩)with
   | true =>
    rw[hf,if_pos rfl,h0n]at h2
    rw[hf]at hF
    refine b0B hF (by simp -implicitDefEqProofs only[go_sem,b0k]) ?_
    simp -implicitDefEqProofs only[go_sem,b0k]
    exact⟨b+1,by omega,⟨by omega,h2⟩,hw⟩
   | false =>
    rw[hf,if_neg (by simp)]at h2
    rw[hf]at hF
    refine b0B hF (by simp -implicitDefEqProofs only[go_sem,b0k]) ?_
    simp -implicitDefEqProofs only[go_sem,b0k]
    rw[h2];rfl
  ·have hlt:((b:Int)<ps.length)=False:=by simp;omega
   rw[List.drop_eq_nil_of_le (by omega),d4o]at h2
   simp -implicitDefEqProofs only[go_sem,b0k,hlt]
   rw[h2]
   exact fun _ _=>rfl
theorem d2N(l:List Rw)(hg:gramL l)(i:Nat)(hi:i<l.length)(hk:(b0j l i).kind≠2):b0u env 165 [sl 48 (l.map Rw.enc),.int .i64 i] (.str (match b8I l i with | some f=>(b2O l f).result | none=>⟨#[]⟩)):=by
 have hr:=hg.ok
 have hfn:d3p l i=b8I l i:=by rw[c3A hg.ok hi,if_neg hk];rfl
 rw[←hfn]
 refine b0i (fn:=Tryz.f165) Tryz.func165 rfl (by rw[Tryz.ntmps165];simp) (by simp -implicitDefEqProofs only[go_sem];exact b0X _) rfl ?_
 simp -implicitDefEqProofs only[go_sem,Tryz.f165]
 refine b1A (α:=Int×Nat) (fun b=>⟨[(5,.int .i64 b.1),(4,.str ⟨#[]⟩),(0,sl 48 (l.map Rw.enc))],[],[]⟩)
  (fun b => -1≤b.1∧b.1+1<b.2∧b.1<l.length∧d3p l i=upF l b.2 b.1) (fun b=>(b.1+1).toNat) (i,l.length+1) ?_ ⟨by omega,by simp;omega,by simp;omega,rfl⟩ ?_
 ·simp -implicitDefEqProofs only[go_sem]
  try rfl
 ·rintro⟨k,f⟩ ⟨h1,h2,h3,h4⟩
  simp only at h1 h2 h3 h4 ⊢
  obtain⟨f,rfl⟩:∃ f',f=f'+1:=⟨f - 1,by omega⟩
  simp -implicitDefEqProofs only[go_sem]
  refine⟨fun hk=>?_,fun hk=>?_⟩
  ·obtain⟨k,rfl⟩:=g9T hk
   have hkl:k<l.length:=by omega
   obtain⟨r1,r2,r3⟩:=b1k hkl
   have hpk:=hr.par k hkl
   rw[upF,if_neg (by omega),g9j]at h4
   simp -implicitDefEqProofs only[go_sem,r1,r2,r3,Rw.enc]
   refine⟨fun g2=>?_,fun g2=>?_⟩
   ·have g2':¬ (b0j l k).kind=2:=by simpa using g2
    rw[if_neg g2']at h4
    exact⟨((b0j l k).parent,f),by simp only;omega,⟨hpk.2,by simp only;omega,by simp only;omega,h4⟩,rfl⟩
   ·have g2':(b0j l k).kind=2:=by simpa using g2
    rw[if_pos g2']at h4
    have hle:=hg.least k hkl
    rw[g2']at hle
    have hk1:1<(b0j l k).kids.length:=by simp[b0U]at hle;omega
    have hkd:=hg.kid k hkl 1 hk1
    have hgk:=b2l hk1
    obtain⟨s1,s2,s3⟩:=b1k hkd.2.1
    have hk1':(1<((b0j l k).kids.length:Int))=True:=by simp;omega
    rw[h4]
    simp -implicitDefEqProofs only[go_sem,r1,r2,r3,Rw.enc,hgk,b0M,s1,s2,s3,hk1',b2O]
    exact fun h=>by omega
  ·have hk':k<0:=by omega
   rw[upF,if_pos hk']at h4
   rw[h4]
   exact⟨fun _=>rfl,fun h=>absurd hk' h⟩
theorem c5B(u:List Un)(hP:PreU u){un i:Nat}{l:List Rw}(hl:(b0e u)[un]? = some l)(hi:i<l.length)(h24:(b0j l i).kind=24):b0u env 167 [.agg (b6f u),.agg [.int .i64 un,.int .i64 i],.str (b0j l i).text] (.bool (f3j u un l i)):=by
 have hg:=hP.snd.gram l (g9f hl)
 have hle:=hg.least i hi
 rw[h24]at hle
 have hk1:1<(b0j l i).kids.length:=by simp[b0U]at hle;omega
 have hK0:=d2w u hP hl hi (k:=0) (by omega)
 have hK1:=d2w u hP hl hi hk1
 have hF:=fun t w h=>c5D u hP t w h
 unfold f3j c4F
 generalize tyS u ((un:Int),((b1d l i 0:Nat):Int))=a at *
 generalize tyS u ((un:Int),((b1d l i 1:Nat):Int))=b at *
 generalize(b0j l i).text=tx
 refine b0i (fn:=Tryz.f167) Tryz.func167 rfl (by rw[Tryz.ntmps167];simp) (by simp -implicitDefEqProofs only[go_sem];exact b1p _) rfl ?_
 by_cases h1:tx=⟨#[61,61]⟩
 ·rw[if_pos h1]
  have e1:(tx=⟨#[61,61]⟩)=True:=eq_true h1
  simp -implicitDefEqProofs only[go_sem,Tryz.f167,b0k]
  refine hK0.calls (by simp -implicitDefEqProofs only[go_sem,b0k];try rfl) ?_
  simp -implicitDefEqProofs only[go_sem,b0k]
  refine hK1.calls (by simp -implicitDefEqProofs only[go_sem,b0k];try rfl) ?_
  simp -implicitDefEqProofs only[go_sem,b0k,e1]
  generalize hR:(!plT a || (!plT b || (!decide (a=⟨#[]⟩) && (!decide (b=⟨#[]⟩) && !decide (a=b)))))=R
  unfold plT tI tB at hR
  repeat' (first | apply And.intro | intro)
  all_goals(simp only[V.bool.injEq])
  all_goals(rw[←hR])
  all_goals(simp_all)
 ·rw[if_neg h1]
  have e1:(tx=⟨#[61,61]⟩)=False:=eq_false h1
  by_cases h2:tx=⟨#[38]⟩∨tx=⟨#[124]⟩
  ·rw[if_pos h2]
   have hFa:=hF a tB (by decide)
   have hFb:=hF b tB (by decide)
   simp -implicitDefEqProofs only[go_sem,Tryz.f167,b0k]
   refine hK0.calls (by simp -implicitDefEqProofs only[go_sem,b0k];try rfl) ?_
   simp -implicitDefEqProofs only[go_sem,b0k]
   refine hK1.calls (by simp -implicitDefEqProofs only[go_sem,b0k];try rfl) ?_
   simp -implicitDefEqProofs only[go_sem,b0k,e1]
   cases hfa:b4W u a tB <;> rw[hfa]at hFa <;> cases hfb:b4W u b tB <;> rw[hfb]at hFb
   all_goals(refine⟨fun g1=>⟨fun g2=>?_,fun g2=>absurd h2 (fun h=>h.elim g1 g2)⟩,fun g1=>?_⟩)
   all_goals(
    refine hFa.calls (by simp -implicitDefEqProofs only[go_sem,b0k];try rfl) ?_
    simp -implicitDefEqProofs only[go_sem,b0k]
    try(
     refine hFb.calls (by simp -implicitDefEqProofs only[go_sem,b0k];try rfl) ?_
     simp -implicitDefEqProofs only[go_sem,b0k])
    try rfl)
  ·rw[if_neg h2]
   have hFa:=hF a tI (by decide)
   have hFb:=hF b tI (by decide)
   simp -implicitDefEqProofs only[go_sem,Tryz.f167,b0k]
   refine hK0.calls (by simp -implicitDefEqProofs only[go_sem,b0k];try rfl) ?_
   simp -implicitDefEqProofs only[go_sem,b0k]
   refine hK1.calls (by simp -implicitDefEqProofs only[go_sem,b0k];try rfl) ?_
   simp -implicitDefEqProofs only[go_sem,b0k,e1]
   cases hfa:b4W u a tI <;> rw[hfa]at hFa <;> cases hfb:b4W u b tI <;> rw[hfb]at hFb
   all_goals(refine⟨fun g1=>⟨fun g2=>absurd (Or.inr g2) h2,fun g2=>?_⟩,fun g1=>absurd (Or.inl g1) h2⟩)
   all_goals(
    refine hFa.calls (by simp -implicitDefEqProofs only[go_sem,b0k];try rfl) ?_
    simp -implicitDefEqProofs only[go_sem,b0k]
    try(
     refine hFb.calls (by simp -implicitDefEqProofs only[go_sem,b0k];try rfl) ?_
     simp -implicitDefEqProofs only[go_sem,b0k])
    try rfl)
end Go.Proofs.YtighfcpaplmaiaaGreatDoor
