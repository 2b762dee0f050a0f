import Derived.Test.YtighfcpaplmaiaaGreatDoorUgK
set_option linter.unusedVariables false
set_option linter.unusedSimpArgs false
set_option maxRecDepth 20000
namespace Go.Vg
theorem d2z:∀ (n:Nd) (i m:Nat) (u:Int) (x:Ar) (z:Nd),(b0o n)[i]? = some z→z.kind=7→⟨2,⟨#[]⟩,z.text,u,((m+i:Nat):Int)⟩∈b1J n u m x:=by
 refine Nd.all fun k t g ks ih i m u x z=>?_
 have hs:∀ l:List Nd,(∀ y∈l,∀ (i m:Nat) (u:Int) (x:Ar) (z:Nd),(b0o y)[i]? = some z→z.kind=7→⟨2,⟨#[]⟩,z.text,u,((m+i:Nat):Int)⟩∈b1J y u m x)→∀ (i m:Nat) (u:Int) (x:Ar) (z:Nd),(b0l l)[i]? = some z→z.kind=7→⟨2,⟨#[]⟩,z.text,u,((m+i:Nat):Int)⟩∈b0Z l u m x:=by
  intro l
  induction l with
  | nil=>intro _ i m u x z h;simp[b0l]at h
  | cons y l ihl =>
   intro hx i m u x z hi hk
   rw[b0l]at hi
   rw[b0Z]
   rcases h0v i (b0o y).length with hl | hl
   ·rw[g9a hl]at hi
    exact g9Z _ (hx y (by simp) i m u x z hi hk)
   ·rw[g9c hl]at hi
    have:=ihl (fun w hw=>hx w (by simp[hw])) _ (m+(b0o y).length) u x z hi hk
    rw[show m+(b0o y).length+(i - (b0o y).length)=m+i by omega]at this
    exact h0f _ this
 intro hi hk
 rw[b0o]at hi
 rw[b1J]
 cases i with
 | zero =>
  simp at hi
  subst hi
  simp only[Nd.kind]at hk
  subst hk
  exact g9Z _ (by simp[b2S,Nd.text])
 | succ i =>
  rw[g8V]at hi
  have:=hs ks ih i (m+1) u (b4e k t x) z hi hk
  rw[show m+1+i=m+(i+1)by omega]at this
  exact h0f _ this
theorem c7M(d:Dl):b5n d d=true:=by simp[b5n]
theorem c2q:∀ (l acc:List Dl),b1V acc l=none→∀ d∈l,c0z d=true→acc.any (b5n d)=false∧l.find? (fun e=>c0z e && b5n d e)=some d
 | [],_,_,d,hd,_=>by simp at hd
 | x::r,acc,h,d,hd,hc=>by
  rw[b1V]at h
  by_cases hx:c0z x=true
  ·rw[if_pos hx]at h
   split at h
   ·cases h
   ·rename_i hn
    have ih:=c2q r _ h
    rcases g9y.1 hd with rfl | hd
    ·exact⟨by simpa using hn,by rw[g9S,hx,c7M];rfl⟩
    ·obtain⟨h1,h2⟩:=ih d hd hc
     rw[List.any_append,h0w]at h1
     have h3:b5n d x=false:=by simpa using h1.2
     exact⟨h1.1,by rw[g9S,h3,Bool.and_false];exact h2⟩
  ·rw[if_neg hx]at h
   have hxf:c0z x=false:=by simpa using hx
   rcases g9y.1 hd with rfl | hd
   ·exact absurd hc hx
   ·obtain⟨h1,h2⟩:=c2q r acc h d hd hc
    exact⟨h1,by rw[g9S,hxf,g9Q];exact h2⟩
end Go.Vg
namespace Go.Proofs.YtighfcpaplmaiaaGreatDoor
open Go Go.Vg Go.Proofs
theorem d3B{u:List Un}(hP:PreU u){un p:Nat}{l:List Rw}(hl:(b0e u)[un]? = some l)(hp:p<l.length)(h7:(b0j l p).kind=7):(b0j l (b1d l p 0)).text=nxB (BU u) (b0j l p).text:=by
 have hS:=hP.snd
 obtain⟨x,hx,rfl⟩:=b2R hS.br hl
 obtain⟨k,t,g,ks,e1,e2,e3,e4⟩:=b1L hp
 have hd:=c0X u 0 un x _ hx (hS.br x (g9f hx)) (d2z x.tree p 0 ((0+un:Nat):Int) Ar.none _ e1 (by rw[e2]at h7;exact h7))
 rw[g9s,g9s]at hd
 simp only[Nd.text]at hd
 have ht:(b0j (b0z x.tree (-1) 0) p).text=t:=e3
 rw[ht]
 have hrep:b1V [] (b0f u 0)=none:=by
  have:=hP.cls
  unfold b3p at this
  split at this
  ·simp at this
  ·assumption
 obtain⟨_,hf⟩:=c2q _ _ hrep _ hd rfl
 have hfc:(b0f u 0).find? (b4u t)=some ⟨2,⟨#[]⟩,t,(un:Int),(p:Int)⟩:=by
  rw[←hf]
  refine b3H fun e he=>?_
  unfold b4u c0z b5n
  by_cases h2:e.kind=2
  ·have ho:e.owner=⟨#[]⟩:=by
    obtain⟨un1,x1,j1,y1,a1,g1,g2,g3,g4⟩:=b4z u 0 e he
    unfold b2S at g4
    repeat' split at g4
    all_goals(first | (cases g4;rfl) | (cases g4;simp at h2) | cases g4)
   rw[h2,ho]
   simp[eq_comm]
  ·have:(2=e.kind)=False:=by simp;omega
   simp[h2,this]
 obtain⟨un',nd',l',q1,q2,q3,q4,q5,q6,q7⟩:=c7A hS hd rfl
 simp only at q1 q2
 have hu':un'=un:=by omega
 have hn':nd'=p:=by omega
 subst hu' hn'
 rw[hl]at q3
 cases q3
 rw[q7,nxB,b1R,hfc]
 rfl
theorem f5c{u:List Un}(hP:PreU u){un i p:Nat}{l:List Rw}(hl:(b0e u)[un]? = some l)(hp:p<l.length)(hpr:(b0j l i).parent=(p:Int))(h7:(b0j l p).kind=7):d6S u l i=if(b0j l (b1d l p 0)).text=⟨#[]⟩then false else match mtS u (rcT (b0j l (b1d l p 0)).text,(b0j l i).text)with
  | some s => !f9w s (b2O l i)
  | none=>false:=by
 rw[d3B hP hl hp h7]
 have hc:c6Q l i=(b0j l p).text:=by rw[c6Q,hpr,g9j,if_pos h7]
 have hne:=b6B hP.snd hl hp (by omega)
 obtain⟨q,q1,q2,q3,q4⟩:=c0a hP.snd hP.cls (b0j l p).text
 have hsu:b8z u (b0j l p).text=q:=q1
 unfold d6S
 rw[hc,if_neg hne,hsu]
 cases q with
 | nil =>
  rw[b4B]at q4
  rw[if_pos q4]
 | cons x r =>
  obtain⟨rfl,g2,g3,_⟩:=q2
  rw[if_neg g2]
  obtain⟨n1,n2⟩:=c6o hP g3
  rw[rcT,if_neg (fun h=>h.elim n1 n2)]
  rfl
theorem c3i(u:List Un)(hP:PreU u){un i:Nat}{l:List Rw}(hl:(b0e u)[un]? = some l)(hi:i<l.length)(h2:(b0j l i).kind=2):b0u env 162 [.agg (b6f u),.agg [.int .i64 un,.int .i64 i]] (.bool (d6S u l i)):=by
 have hg:=hP.snd.gram l (g9f hl)
 obtain⟨t1,t2,t3⟩:=b1U hl
 obtain⟨r1,r2,r3⟩:=b1k hi
 have hi0:0<i:=by
  rcases Nat.eq_zero_or_pos i with rfl | h
  ·rw[hg.root hi]at h2;cases h2
  ·exact h
 obtain⟨p,hpr,hpi,_⟩:=hg.par i hi hi0
 have hpl:p<l.length:=by omega
 obtain⟨s1,s2,s3⟩:=b1k hpl
 have hsg:=c2I l i (hg.sign i hi h2)
 by_cases h7:(b0j l p).kind=7
 ·rw[f5c hP hl hpl hpr h7]
  have hle:=hg.least p hpl
  rw[h7]at hle
  have hk1:0<(b0j l p).kids.length:=by simp[b0U]at hle;omega
  have hkd:=hg.kid p hpl 0 hk1
  have hgk:=b2l hk1
  have hk0:(0<((b0j l p).kids.length:Int))=True:=by simp;omega
  obtain⟨v1,v2,v3⟩:=b1k hkd.2.1
  have hM:=c0e u hP (b0j l (b1d l p 0)).text (b0j l i).text
  refine b0i (fn:=Tryz.f162) Tryz.func162 rfl (by rw[Tryz.ntmps162];simp) (by simp -implicitDefEqProofs only[go_sem];exact b1p _) rfl ?_
  simp -implicitDefEqProofs only[go_sem,Tryz.f162,b0k,t1,t2,t3,r1,r2,r3,hpr,s1,s2,s3,h7,hgk,hk0,v1,v2,v3,b0q,b0M,Rw.enc]
  refine⟨fun _=>⟨fun h0=>by rw[if_pos h0],fun h0=>?_⟩,fun h=>absurd h (by omega)⟩
  rw[if_neg h0]
  refine b0h (cs:=[]) b0v (by kernel_rfl) ?_
  simp -implicitDefEqProofs only[go_sem,b0k,t1,t2,t3,r1,r2,r3,hpr,s1,s2,s3,h7,hgk,hk0,v1,v2,v3,b0q,b0M,Rw.enc]
  refine b0B hM (by simp -implicitDefEqProofs only[go_sem,b0k]) ?_
  cases mtS u (rcT (b0j l (b1d l p 0)).text,(b0j l i).text)with
  | none =>
   simp -implicitDefEqProofs only[go_sem,b6j]
   refine b0h (cs:=[]) b0v (by kernel_rfl) ?_
   simp -implicitDefEqProofs only[go_sem,b0k,t1,t2,t3,r1,r2,r3,b0q,b0M,Rw.enc]
  | some s =>
   have hss:=c5e s (b2O l i)
   simp -implicitDefEqProofs only[go_sem,b6j,Sg.enc]
   refine b0h (cs:=[]) b0v (by kernel_rfl) ?_
   simp -implicitDefEqProofs only[go_sem,b0k,t1,t2,t3,r1,r2,r3,b0q,b0M,Rw.enc]
   refine b0B hsg (by simp -implicitDefEqProofs only[go_sem]) ?_
   simp -implicitDefEqProofs only[go_sem,Sg.enc]
   unfold Sg.enc at hss
   refine b0B hss (by simp -implicitDefEqProofs only[go_sem]) ?_
   simp -implicitDefEqProofs only[go_sem,f9w]
 ·have hov:d6S u l i=false:=by
   have hc:c6Q l i=⟨#[]⟩:=by rw[c6Q,hpr,g9j,if_neg h7]
   unfold d6S;rw[if_pos hc]
  rw[hov]
  have e7:((b0j l p).kind=7)=False:=eq_false h7
  refine b0i (fn:=Tryz.f162) Tryz.func162 rfl (by rw[Tryz.ntmps162];simp) (by simp -implicitDefEqProofs only[go_sem];exact b1p _) rfl ?_
  simp -implicitDefEqProofs only[go_sem,Tryz.f162,b0k,t1,t2,t3,r1,r2,r3,hpr,s1,s2,s3,e7,b0q,Rw.enc]
theorem c5d(l:List Rw)(hg:gramL l):∀ (f i:Nat),i<l.length→l.length≤i+f→b0u env 168 [sl 48 (l.map Rw.enc),.int .i64 i] (.bool (b1T l f i)):=by
 intro f
 induction f with
 | zero=>intro i hi hf;omega
 | succ f ih =>
  intro i hi hf
  obtain⟨r1,r2,r3⟩:=b1k hi
  refine b0i (fn:=Tryz.f168) Tryz.func168 rfl (by rw[Tryz.ntmps168];simp) (by simp -implicitDefEqProofs only[go_sem];exact b0X _) rfl ?_
  by_cases hc:(b0j l i).kind=17∨(b0j l i).kind=18∨(b0j l i).kind=24∨(b0j l i).kind=25∨(b0j l i).kind=26
  ·have hc2:=hc
   have hcon:b1T l (f+1) i=(b0j l i).kids.all fun k=>b1T l f k:=by rw[b1T,g9D hc,g9O]
   rcases hc2 with h | h | h | h | h
   all_goals(
    simp -implicitDefEqProofs only[go_sem,Tryz.f168,r1,r2,r3,h,Rw.enc])
   all_goals(
    have hkd:=hg.kid i hi
    rw[hcon]
    have hki:∀ j,j<(b0j l i).kids.length→b1d l i j=(b0j l i).kids.getD j 0:=fun _ _=>rfl
    have hkg:∀ j,j<(b0j l i).kids.length→((b0j l i).kids.map b0M).getD (j:Int).toNat []=[.int .i64 (b1d l i j)]:=fun j hj=>b3T hj
    have hkb:=(hg.ok.kids i hi).1
    refine b1A (α:=Nat) (fun b=>⟨[(5,.int .i64 b),(4,.bool false),(0,sl 48 (l.map Rw.enc)),(1,.int .i64 i)],[],[]⟩)
     (fun b=>b≤(b0j l i).kids.length∧((b0j l i).kids.all fun k=>b1T l f k)=((b0j l i).kids.drop b).all fun k=>b1T l f k) (fun b=>(b0j l i).kids.length - b) 0 ?_ ⟨by omega,rfl⟩ ?_
    ·simp -implicitDefEqProofs only[go_sem]
     try rfl
    ·rintro b ⟨g1,g2⟩
     by_cases hb:b<(b0j l i).kids.length
     ·have hx:(b0j l i).kids.drop b=b1d l i b::(b0j l i).kids.drop (b+1):=by rw[List.drop_eq_getElem_cons hb];simp[b1d,g8Z,hb]
      have hlt:((b:Int)<((b0j l i).kids.length:Int))=True:=by simp;omega
      have hge:(0≤(b:Int))=True:=by simp
      have hw:IntKind.i64.wrap (↑b+1)=↑(b+1):=b0g (by omega)
      have hkd2:=hkd b hb
      rw[hx,List.all_cons]at g2
      simp -implicitDefEqProofs only[go_sem,r1,r2,r3,h,Rw.enc,hlt,hge,hkg b hb,b0M]
      refine fun _ _=>?_
      have hI:=ih _ hkd2.2.1 (by omega)
      cases hcx:b1T l f (b1d l i b)with
      | true =>
       rw[hcx]at hI g2
       refine hI.calls (by simp -implicitDefEqProofs only[go_sem]) ?_
       simp -implicitDefEqProofs only[go_sem]
       exact⟨b+1,by omega,⟨by omega,by rw[g2];rfl⟩,hw⟩
      | false =>
       rw[hcx]at hI g2
       refine hI.calls (by simp -implicitDefEqProofs only[go_sem]) ?_
       simp -implicitDefEqProofs only[go_sem]
       rw[g2];rfl
     ·have hlt:((b:Int)<((b0j l i).kids.length:Int))=False:=by simp;omega
      rw[List.drop_eq_nil_of_le (by omega)]at g2
      simp -implicitDefEqProofs only[go_sem,r1,r2,r3,h,Rw.enc,hlt]
      rw[g2]
      exact fun _ _=>rfl)
  ·have hcon:b1T l (f+1) i=false:=by rw[b1T,g9v hc,g9Q]
   rw[hcon]
   have e1:((b0j l i).kind=17)=False:=eq_false fun h=>hc (.inl h)
   have e2:((b0j l i).kind=18)=False:=eq_false fun h=>hc (.inr (.inl h))
   have e3:((b0j l i).kind=24)=False:=eq_false fun h=>hc (.inr (.inr (.inl h)))
   have e4:((b0j l i).kind=25)=False:=eq_false fun h=>hc (.inr (.inr (.inr (.inl h))))
   have e5:((b0j l i).kind=26)=False:=eq_false fun h=>hc (.inr (.inr (.inr (.inr h))))
   simp -implicitDefEqProofs only[go_sem,Tryz.f168,r1,r2,r3,e1,e2,e3,e4,e5,Rw.enc]
theorem c3p{u:List Un}(h:SndU u){un i:Nat}{l:List Rw}(hl:(b0e u)[un]? = some l)(hi:i<l.length)(hk:(b0j l i).kind=2):∀ p∈(b2O l i).params,p≠⟨#[]⟩:=by
 have hg:=h.gram l (g9f hl)
 have hle:=hg.least i hi
 rw[hk]at hle
 have hk0:0<(b0j l i).kids.length:=by simp[b0U]at hle;omega
 have hkd:=hg.kid i hi 0 hk0
 have hf:=hg.fit i hi 0 hk0
 rw[hk]at hf
 simp[b3P]at hf
 intro p hp
 simp only[b2O,b6m,h0k]at hp
 obtain⟨k,hk1,rfl⟩:=hp
 obtain⟨j,hj,hje⟩:=List.mem_iff_getElem.1 hk1
 have hkj:b1d l (b1d l i 0) j=k:=by rw[←hje];show(b0j l (b1d l i 0)).kids.getD j 0=_;rw[g8Z,g9b hj];rfl
 have hf2:=hg.fit _ hkd.2.1 j hj
 rw[hf,hkj]at hf2
 simp[b3P]at hf2
 have hkd2:=hg.kid _ hkd.2.1 j hj
 rw[hkj]at hkd2
 have hle2:=hg.least k hkd2.2.1
 rw[hf2]at hle2
 have hk2:0<(b0j l k).kids.length:=by simp[b0U]at hle2;omega
 have hkd3:=hg.kid k hkd2.2.1 0 hk2
 have hf3:=hg.fit k hkd2.2.1 0 hk2
 rw[hf2]at hf3
 simp[b3P]at hf3
 exact b6B h hl hkd3.2.1 (by omega)
theorem f4g{u:List Un}(h:SndU u){c n:ByteArray}{s:Sg}(hs:mtS u (c,n)=some s):∀ p∈s.params,p≠⟨#[]⟩:=by
 unfold mtS at hs
 obtain⟨d,hd,rfl⟩:=g9l.1 hs
 obtain⟨h1,h2⟩:=b4A hd
 obtain⟨un,nd,l,q1,q2,q3,q4,q5,q6⟩:=h.decl h1
 rw[q1,q2,b5v q3,g9j]
 exact c3p h q3 q4 (by omega)
theorem c3W(u:List Un)(hP:PreU u){un i:Nat}{l:List Rw}(hl:(b0e u)[un]? = some l)(hi:i<l.length)(hk:(b0j l i).kind=4∨(b0j l i).kind=9∨(b0j l i).kind=10):b0u env 112 [.agg (b6f u),.agg [.int .i64 un,.int .i64 i],.int .i64 9000] (.str (c9r (b0e u) (tyS u) ((un:Int),(i:Int)))):=by
 have hg:=hP.snd.gram l (g9f hl)
 refine b8P u hP hl hi hk 9000 (by omega) (by omega) fun h10=>?_
 have hle:=hg.least i hi
 rw[h10]at hle
 have hkd:=hg.kid i hi 0 (by simp[b0U]at hle;omega)
 obtain⟨μ,hμ⟩:=hP.snd.ckT.mu
 have h1:=(hμ ((un:Int),((b1d l i 0:Nat):Int)) ⟨un,_,l,rfl,hl,hkd.2.1⟩).1
 rw[b5v hl]at h1
 have h2:=d2v hP.snd.fit hl
 exact c7H u hP hμ _ un _ l (9000 - 1) (Nat.lt_succ_self _) hl hkd.2.1 (by omega) (by omega)
theorem d5o(u:List Un)(hP:PreU u){un i:Nat}{l:List Rw}(hl:(b0e u)[un]? = some l)(hi:i<l.length):b0u env 104 [.agg (b6f u),.agg [.int .i64 un,.int .i64 i]] (.bool (wrS u un l i)):=by
 have hS:=hP.snd
 have hT:=hS.ckT
 have hvk:Val (b0e u) ((un:Int),(i:Int)):=⟨un,i,l,rfl,hl,hi⟩
 have hg:=hS.gram l (g9f hl)
 have hle:=hg.least i hi
 have hkd:=hg.kid i hi
 have hwd:=hg.word i hi
 have hR:=b5T u hS hl hi
 obtain⟨t1,t2,t3⟩:=b1U hl
 obtain⟨r1,r2,r3⟩:=b1k hi
 have hK0:=fun h=>d2w u hP hl hi (k:=0) h
 have hF:=fun t w h=>c5D u hP t w h
 refine b0i (fn:=Tryz.f104) Tryz.func104 rfl (by rw[Tryz.ntmps104];simp) (by simp -implicitDefEqProofs only[go_sem];exact b1p _) rfl ?_
 unfold wrS
 generalize hty:tyS u ((un:Int),((b1d l i 0:Nat):Int))=k0 at *
 simp only
 by_cases h2:(b0j l i).kind=2
 ·rw[if_pos h2]
  have hO:=c3i u hP hl hi h2
  simp -implicitDefEqProofs only[go_sem,Tryz.f104,b0k]
  refine b0h (cs:=[]) b0v (by kernel_rfl) ?_
  simp -implicitDefEqProofs only[go_sem,b0k,t1,t2,t3,r1,r2,r3,h2,b0q,Rw.enc]
  first | refine b0B hO (by simp -implicitDefEqProofs only[go_sem,b0k];try rfl) ?_ | refine hO.calls (by simp -implicitDefEqProofs only[go_sem,b0k];try rfl) ?_
  simp -implicitDefEqProofs only[go_sem]
 rw[if_neg h2]
 by_cases h11:(b0j l i).kind=11
 ·rw[if_pos h11]
  have hk1:0<(b0j l i).kids.length:=by rw[h11]at hle;simp[b0U]at hle;omega
  have hK0:=hK0 hk1
  simp -implicitDefEqProofs only[go_sem,Tryz.f104,b0k]
  refine b0h (cs:=[]) b0v (by kernel_rfl) ?_
  simp -implicitDefEqProofs only[go_sem,b0k,t1,t2,t3,r1,r2,r3,h11,b0q,Rw.enc]
  first | refine b0B hR (by simp -implicitDefEqProofs only[go_sem,b0k];try rfl) ?_ | refine hR.calls (by simp -implicitDefEqProofs only[go_sem,b0k];try rfl) ?_
  cases hgm:b1s (b2q u) ((un:Int),(i:Int))with
  | none =>
   simp -implicitDefEqProofs only[go_sem,c0R,h0m,h0a,g9u]
   refine b0h (cs:=[]) b0v (by kernel_rfl) ?_
   simp -implicitDefEqProofs only[go_sem,b0k,t1,t2,t3,r1,r2,r3,b0q,Rw.enc]
  | some dd =>
   obtain⟨⟨un',i',l',rfl,g1,g2⟩,g3⟩:=hT.d19 _ _ hvk (by rw[b0T hl];exact .inr h11) hgm
   rw[b0T g1]at g3
   have hDe:=c3W u hP g1 g2 g3
   obtain⟨u1,u2,u3⟩:=b1U g1
   obtain⟨w1,w2,w3⟩:=b1k g2
   simp only
   rw[b0T g1]
   simp -implicitDefEqProofs only[go_sem,c0R,g9z,g9w,g9H]
   refine b0h (cs:=[]) b0v (by kernel_rfl) ?_
   simp -implicitDefEqProofs only[go_sem,b0k,u1,u2,u3,w1,w2,w3,b0q,Rw.enc]
   refine⟨fun h9=>by rw[if_pos h9],fun h9=>?_⟩
   rw[if_neg h9]
   generalize c9r (b0e u) (tyS u) ((un':Int),(i':Int))=wt at *
   refine hDe.calls (by simp -implicitDefEqProofs only[go_sem,b0k];try rfl) ?_
   simp -implicitDefEqProofs only[go_sem,b0k]
   refine b0h (cs:=[]) b0v (by kernel_rfl) ?_
   simp -implicitDefEqProofs only[go_sem,b0k,t1,t2,t3,r1,r2,r3,b0q,Rw.enc]
   refine⟨fun hn=>?_,fun hn=>by rw[hn];rfl⟩
   have hwt:wt≠⟨#[]⟩:=by simpa using hn
   have hFx:=hF k0 wt hwt
   refine b0B hK0 (by simp -implicitDefEqProofs only[go_sem,b0k];try rfl) ?_
   simp -implicitDefEqProofs only[go_sem,b0k]
   refine b0B hFx (by simp -implicitDefEqProofs only[go_sem,b0k];try rfl) ?_
   simp -implicitDefEqProofs only[go_sem]
   rw[hn];rfl
 rw[if_neg h11]
 by_cases h12:(b0j l i).kind=12
 ·rw[if_pos h12]
  have hk1:0<(b0j l i).kids.length:=by rw[h12]at hle;simp[b0U]at hle;omega
  have hK0:=hK0 hk1
  have hRe:=d2N l hg i hi (by omega)
  simp -implicitDefEqProofs only[go_sem,Tryz.f104,b0k]
  refine b0h (cs:=[]) b0v (by kernel_rfl) ?_
  simp -implicitDefEqProofs only[go_sem,b0k,t1,t2,t3,r1,r2,r3,h12,b0q,Rw.enc]
  refine b0h (cs:=[]) b0v (by kernel_rfl) ?_
  simp -implicitDefEqProofs only[go_sem,b0k,t1,t2,t3,r1,r2,r3,b0q,Rw.enc]
  refine b0B hRe (by simp -implicitDefEqProofs only[go_sem]) ?_
  cases hfr:b8I l i with
  | none =>
   simp -implicitDefEqProofs only[go_sem]
   refine b0h (cs:=[]) b0v (by kernel_rfl) ?_
   simp -implicitDefEqProofs only[go_sem,b0k,t1,t2,t3,r1,r2,r3,b0q,Rw.enc]
  | some p =>
   obtain⟨hp1,hp2,hp3⟩:=b5s hg hi hfr
   have hne:=b9M hS hl hp1 hp2
   have hFx:=hF k0 _ hne
   have hne2:((b2O l p).result=⟨#[]⟩)=False:=eq_false hne
   simp -implicitDefEqProofs only[go_sem,hne2]
   refine b0h (cs:=[]) b0v (by kernel_rfl) ?_
   simp -implicitDefEqProofs only[go_sem,b0k,t1,t2,t3,r1,r2,r3,b0q,Rw.enc]
   refine⟨fun _=>?_,fun h=>absurd h (by simp[hne])⟩
   refine b0B hK0 (by simp -implicitDefEqProofs only[go_sem,b0k];try rfl) ?_
   simp -implicitDefEqProofs only[go_sem,b0k]
   refine b0B hFx (by simp -implicitDefEqProofs only[go_sem,b0k];try rfl) ?_
   simp -implicitDefEqProofs only[go_sem]
 rw[if_neg h12]
 by_cases h13:(b0j l i).kind=13∨(b0j l i).kind=15
 ·rw[if_pos h13]
  have hk1:0<(b0j l i).kids.length:=by rcases h13 with h13 | h13 <;> (rw[h13]at hle;simp[b0U]at hle;omega)
  have hK0:=hK0 hk1
  have hFx:=hF k0 tB (by decide)
  rcases h13 with h13 | h13
  all_goals(
   simp -implicitDefEqProofs only[go_sem,Tryz.f104,b0k]
   refine b0h (cs:=[]) b0v (by kernel_rfl) ?_
   simp -implicitDefEqProofs only[go_sem,b0k,t1,t2,t3,r1,r2,r3,h13,b0q,Rw.enc]
   refine b0h (cs:=[]) b0v (by kernel_rfl) ?_
   simp -implicitDefEqProofs only[go_sem,b0k,t1,t2,t3,r1,r2,r3,b0q,Rw.enc]
   refine b0B hK0 (by simp -implicitDefEqProofs only[go_sem,b0k];try rfl) ?_
   simp -implicitDefEqProofs only[go_sem,b0k]
   refine b0B hFx (by simp -implicitDefEqProofs only[go_sem,b0k];try rfl) ?_
   simp -implicitDefEqProofs only[go_sem])
 rw[if_neg h13]
 rw[not_or]at h13
 by_cases h20:(b0j l i).kind=20
 ·rw[if_pos h20]
  simp -implicitDefEqProofs only[go_sem,Tryz.f104,b0k]
  refine b0h (cs:=[]) b0v (by kernel_rfl) ?_
  simp -implicitDefEqProofs only[go_sem,b0k,t1,t2,t3,r1,r2,r3,h20,b0q,Rw.enc]
  first | refine b0B hR (by simp -implicitDefEqProofs only[go_sem,b0k];try rfl) ?_ | refine hR.calls (by simp -implicitDefEqProofs only[go_sem,b0k];try rfl) ?_
  cases hgm:b1s (b2q u) ((un:Int),(i:Int))with
  | none =>
   simp -implicitDefEqProofs only[go_sem,c0R,h0m,h0a,g9u]
  | some dd =>
   obtain⟨⟨un',i',l',rfl,g1,g2⟩,g3,_⟩:=hS.fnc hl h20 hgm
   rw[b0T g1]at g3
   have hsg:=c2I l' i' ((hS.gram l' (g9f g1)).sign i' g2 g3)
   have hA:=d2X u hP hl hi 0 (by omega) (b2O l' i').params (c3p hS g1 g2 g3)
   obtain⟨u1,u2,u3⟩:=b1U g1
   simp only
   rw[b5v g1,g9j]
   simp -implicitDefEqProofs only[go_sem,c0R,g9z,g9w,g9H]
   refine b0h (cs:=[]) b0v (by kernel_rfl) ?_
   simp -implicitDefEqProofs only[go_sem,b0k,u1,u2,u3,b0q]
   refine b0B hsg (by simp -implicitDefEqProofs only[go_sem]) ?_
   simp -implicitDefEqProofs only[go_sem,Sg.enc]
   refine b0B hA (by simp -implicitDefEqProofs only[go_sem,b0k];try rfl) ?_
   simp -implicitDefEqProofs only[go_sem]
   try simp
 rw[if_neg h20]
 by_cases h21:(b0j l i).kind=21
 ·rw[if_pos h21]
  have hk1:0<(b0j l i).kids.length:=by rw[h21]at hle;simp[b0U]at hle;omega
  have hK0:=hK0 hk1
  have hM:=c0e u hP k0 (b0j l i).text
  simp -implicitDefEqProofs only[go_sem,Tryz.f104,b0k]
  refine b0h (cs:=[]) b0v (by kernel_rfl) ?_
  simp -implicitDefEqProofs only[go_sem,b0k,t1,t2,t3,r1,r2,r3,h21,b0q,Rw.enc]
  first | refine b0B hK0 (by simp -implicitDefEqProofs only[go_sem,b0k];try rfl) ?_ | refine hK0.calls (by simp -implicitDefEqProofs only[go_sem,b0k];try rfl) ?_
  simp -implicitDefEqProofs only[go_sem,b0k]
  cases hms:mtS u (rcT k0,(b0j l i).text)with
  | none =>
   rw[hms]at hM
   first | refine b0B hM (by simp -implicitDefEqProofs only[go_sem,b0k];try rfl) ?_ | refine hM.calls (by simp -implicitDefEqProofs only[go_sem,b0k];try rfl) ?_
   simp -implicitDefEqProofs only[go_sem,b6j]
   by_cases h0:k0=⟨#[]⟩
   ·rw[if_pos h0,g9D h0];rfl
   ·rw[if_neg h0,g9v h0];rfl
  | some s =>
   rw[hms]at hM
   have hA:=d2X u hP hl hi 1 (by omega) s.params (f4g hS hms)
   have hne:k0≠⟨#[]⟩:=by
    intro h0
    rw[h0,mtS,rcT,if_neg (by decide),b9Y hS]at hms
    cases hms
   rw[if_neg hne]
   first | refine b0B hM (by simp -implicitDefEqProofs only[go_sem,b0k];try rfl) ?_ | refine hM.calls (by simp -implicitDefEqProofs only[go_sem,b0k];try rfl) ?_
   simp -implicitDefEqProofs only[go_sem,b6j,Sg.enc]
   refine hA.calls (by simp -implicitDefEqProofs only[go_sem,b0k];try rfl) ?_
   simp -implicitDefEqProofs only[go_sem]
   try simp
 rw[if_neg h21]
 by_cases h24:(b0j l i).kind=24
 ·rw[if_pos h24]
  have hO:=c5B u hP hl hi h24
  simp -implicitDefEqProofs only[go_sem,Tryz.f104,b0k]
  refine b0h (cs:=[]) b0v (by kernel_rfl) ?_
  simp -implicitDefEqProofs only[go_sem,b0k,t1,t2,t3,r1,r2,r3,h24,b0q,Rw.enc]
  first | refine b0B hO (by simp -implicitDefEqProofs only[go_sem,b0k];try rfl) ?_ | refine hO.calls (by simp -implicitDefEqProofs only[go_sem,b0k];try rfl) ?_
  simp -implicitDefEqProofs only[go_sem]
 rw[if_neg h24]
 by_cases h25:(b0j l i).kind=25
 ·rw[if_pos h25]
  have hk1:0<(b0j l i).kids.length:=by rw[h25]at hle;simp[b0U]at hle;omega
  have hK0:=hK0 hk1
  have hPl:=c2J (b0j l i)
  rw[h25]at hwd
  have ht:(b0j l i).text=⟨#[45]⟩∨(b0j l i).text=⟨#[33]⟩:=by simpa[b2n,b5t]using hwd
  have hpe:f4o (b0j l i).kind (b0j l i).text=if(b0j l i).text=⟨#[33]⟩then tB else tI:=by
   rw[h25]
   rcases ht with ht | ht <;> (rw[ht];first | rfl | decide)
  rw[hpe]at hPl
  have hFx:=hF k0 (if(b0j l i).text=⟨#[33]⟩then tB else tI) (by split <;> decide)
  simp -implicitDefEqProofs only[go_sem,Tryz.f104,b0k]
  refine b0h (cs:=[]) b0v (by kernel_rfl) ?_
  simp -implicitDefEqProofs only[go_sem,b0k,t1,t2,t3,r1,r2,r3,h25,b0q,Rw.enc]
  refine b0h (cs:=[]) b0v (by kernel_rfl) ?_
  simp -implicitDefEqProofs only[go_sem,b0k,t1,t2,t3,r1,r2,r3,b0q,Rw.enc]
  refine b0B hK0 (by simp -implicitDefEqProofs only[go_sem,b0k];try rfl) ?_
  simp -implicitDefEqProofs only[go_sem,b0k]
  refine b0B hPl (by simp -implicitDefEqProofs only[go_sem,Rw.enc,h25];try rfl) ?_
  simp -implicitDefEqProofs only[go_sem,b0k]
  refine b0B hFx (by simp -implicitDefEqProofs only[go_sem,b0k];try rfl) ?_
  simp -implicitDefEqProofs only[go_sem]
 rw[if_neg h25]
 have e2:((b0j l i).kind=2)=False:=eq_false h2
 have e11:((b0j l i).kind=11)=False:=eq_false h11
 have e12:((b0j l i).kind=12)=False:=eq_false h12
 have e13:((b0j l i).kind=13)=False:=eq_false h13.1
 have e15:((b0j l i).kind=15)=False:=eq_false h13.2
 have e20:((b0j l i).kind=20)=False:=eq_false h20
 have e21:((b0j l i).kind=21)=False:=eq_false h21
 have e24:((b0j l i).kind=24)=False:=eq_false h24
 have e25:((b0j l i).kind=25)=False:=eq_false h25
 simp -implicitDefEqProofs only[go_sem,Tryz.f104,b0k]
 refine b0h (cs:=[]) b0v (by kernel_rfl) ?_
 simp -implicitDefEqProofs only[go_sem,b0k,t1,t2,t3,r1,r2,r3,e2,e11,e12,e13,e15,e20,e21,e24,e25,b0q,Rw.enc]
def d0A(u:List Un):Int×Int×Int:=if ¬ (c0h u (b0f u 0)).1=0 then c0h u (b0f u 0)else match b0P (nmP u) (b0e u) 0 with
 | some p=>(4,p.1,p.2)
 | none=>f1g u
def d9l(u:List Un):Int×Int×Int:=match c4B u 0 with
 | some i=>(17,i,0)
 | none=>d0A u
theorem d7V{u:List Un}(hu:b2T u):(d9l u).1=(b5g u).1:=by
 unfold d9l b5g
 cases c4B u 0 with
 | some i=>rfl
 | none =>
  simp only
  unfold d0A d8A
  rw[d3a hu]
  by_cases h:(b3p u (b0f u 0)).1=0
  ·rw[if_neg (by simp[h]),if_neg (by simp[h])]
   rfl
  ·rw[if_pos h,if_pos h,d3a hu]
theorem d3b(u:List Un)(hP:PreU u){un i:Nat}{l:List Rw}(hl:(b0e u)[un]? = some l)(hi:i<l.length):b0u env 105 [.agg (b6f u),.agg [.int .i64 un,.int .i64 i]] (.bool (!c9Q u un l i)):=by
 have hS:=hP.snd
 have hT:=hS.ckT
 have hvk:Val (b0e u) ((un:Int),(i:Int)):=⟨un,i,l,rfl,hl,hi⟩
 have hg:=hS.gram l (g9f hl)
 have hle:=hg.least i hi
 have hkd:=hg.kid i hi
 have hR:=b5T u hS hl hi
 obtain⟨t1,t2,t3⟩:=b1U hl
 obtain⟨r1,r2,r3⟩:=b1k hi
 refine b0i (fn:=Tryz.f105) Tryz.func105 rfl (by rw[Tryz.ntmps105];simp) (by simp -implicitDefEqProofs only[go_sem];exact b1p _) rfl ?_
 unfold c9Q
 by_cases h23:(b0j l i).kind=23
 ·rw[if_pos h23]
  have hC:=c7e l hg.ok i hi
  rw[c7x hg hi (by omega)]at hC
  simp -implicitDefEqProofs only[go_sem,Tryz.f105,b0k]
  refine b0h (cs:=[]) b0v (by kernel_rfl) ?_
  simp -implicitDefEqProofs only[go_sem,b0k,t1,t2,t3,r1,r2,r3,h23,b0q,Rw.enc]
  refine b0h (cs:=[]) b0v (by kernel_rfl) ?_
  simp -implicitDefEqProofs only[go_sem,b0k,t1,t2,t3,r1,r2,r3,b0q,Rw.enc]
  refine b0B hC (by simp -implicitDefEqProofs only[go_sem]) ?_
  simp -implicitDefEqProofs only[go_sem]
  cases b8I l i <;> simp
 rw[if_neg h23]
 by_cases h9:(b0j l i).kind=9
 ·rw[if_pos h9]
  have hk1:0<(b0j l i).kids.length:=by rw[h9]at hle;simp[b0U]at hle;omega
  have hgk:=b2l hk1
  have hk0:(0<((b0j l i).kids.length:Int))=True:=by simp;omega
  have hC:=c5d l hg l.length (b1d l i 0) (hkd 0 hk1).2.1 (by omega)
  simp -implicitDefEqProofs only[go_sem,Tryz.f105,b0k]
  refine b0h (cs:=[]) b0v (by kernel_rfl) ?_
  simp -implicitDefEqProofs only[go_sem,b0k,t1,t2,t3,r1,r2,r3,h9,b0q,Rw.enc]
  refine b0h (cs:=[]) b0v (by kernel_rfl) ?_
  simp -implicitDefEqProofs only[go_sem,b0k,t1,t2,t3,r1,r2,r3,hgk,hk0,b0M,b0q,Rw.enc]
  refine b0B hC (by simp -implicitDefEqProofs only[go_sem]) ?_
  simp -implicitDefEqProofs only[go_sem]
  rw[Bool.not_not]
 rw[if_neg h9]
 by_cases h11:(b0j l i).kind=11
 ·rw[if_pos h11]
  simp -implicitDefEqProofs only[go_sem,Tryz.f105,b0k]
  refine b0h (cs:=[]) b0v (by kernel_rfl) ?_
  simp -implicitDefEqProofs only[go_sem,b0k,t1,t2,t3,r1,r2,r3,h11,b0q,Rw.enc]
  first | refine b0B hR (by simp -implicitDefEqProofs only[go_sem,b0k];try rfl) ?_ | refine hR.calls (by simp -implicitDefEqProofs only[go_sem,b0k];try rfl) ?_
  cases hgm:b1s (b2q u) ((un:Int),(i:Int))with
  | none =>
   simp -implicitDefEqProofs only[go_sem,c0R,h0m,h0a,g9u]
   refine b0h (cs:=[]) b0v (by kernel_rfl) ?_
   simp -implicitDefEqProofs only[go_sem,b0k,t1,t2,t3,r1,r2,r3,b0q,Rw.enc]
  | some dd =>
   obtain⟨⟨un',i',l',rfl,g1,g2⟩,g3⟩:=hT.d19 _ _ hvk (by rw[b0T hl];exact .inr h11) hgm
   rw[b0T g1]at g3
   obtain⟨u1,u2,u3⟩:=b1U g1
   obtain⟨w1,w2,w3⟩:=b1k g2
   simp only
   rw[b0T g1]
   simp -implicitDefEqProofs only[go_sem,c0R,g9z,g9w,g9H]
   refine b0h (cs:=[]) b0v (by kernel_rfl) ?_
   simp -implicitDefEqProofs only[go_sem,b0k,u1,u2,u3,w1,w2,w3,b0q,Rw.enc]
 rw[if_neg h11]
 have e23:((b0j l i).kind=23)=False:=eq_false h23
 have e9:((b0j l i).kind=9)=False:=eq_false h9
 have e11:((b0j l i).kind=11)=False:=eq_false h11
 simp -implicitDefEqProofs only[go_sem,Tryz.f105,b0k]
 refine b0h (cs:=[]) b0v (by kernel_rfl) ?_
 simp -implicitDefEqProofs only[go_sem,b0k,t1,t2,t3,r1,r2,r3,e23,e9,e11,b0q,Rw.enc]
theorem d4V(u:List Un)(hu:b2T u)(hgp:b9R u):b0u env 71 [sl 70 (u.map Un.enc)] (c2U (d9l u)):=by
 have hul:=hu.1
 have hC:=d5s u hu
 refine b0i (fn:=Tryz.f71) Tryz.func71 rfl (by rw[Tryz.ntmps71];simp) (by simp -implicitDefEqProofs only[go_sem];exact b0x _) (by simp -implicitDefEqProofs only[go_sem,c2U]) ?_
 simp -implicitDefEqProofs only[go_sem,Tryz.f71]
 refine b0n (β:=Unit) u (fun q _=>⟨[(4,.int .i64 q.length),(3,.ptr 0 0),(2,.int .i64 0),(0,sl 70 (u.map Un.enc))],[.cells [.int .i64 0,.int .i64 0]],[]⟩)
  (fun q r _=>c4B r q.length=c4B u 0) () ?_ rfl ?_ ?_
 ·simp -implicitDefEqProofs only[go_sem]
  try rfl
 ·intro _ he
  have hsn:∀ x∈u,b1q x=true:=b6K u 0 (by rw[←he];rfl)
  have hS:SndU u:=⟨hu,hsn⟩
  have hck:d9l u=d0A u:=by unfold d9l;rw[←he];rfl
  rw[hck]
  have hW:=d0k u hS
  simp -implicitDefEqProofs only[go_sem]
  refine fun _ _=>?_
  refine hC.calls (by simp -implicitDefEqProofs only[go_sem]) ?_
  unfold c2U
  simp -implicitDefEqProofs only[go_sem]
  refine⟨fun hc=>?_,fun hc=>?_⟩
  ·have hc':¬ (c0h u (b0f u 0)).1=0:=by simpa using hc
   refine b0h (cs:=[]) b0v (by kernel_rfl) ?_
   simp -implicitDefEqProofs only[go_sem]
   rw[d0A,if_pos hc']
  ·have hc':(c0h u (b0f u 0)).1=0:=by simpa using hc
   refine hW.calls (by simp -implicitDefEqProofs only[go_sem]) ?_
   have htl:(b0e u).length=u.length:=by unfold b0e;rw[g9r]
   have htk:=b8R hu
   rw[d0A,if_neg (by rw[hc'];simp)]
   simp -implicitDefEqProofs only[go_sem,b0k]
   refine b0n (β:=List VObj) (b0e u) (fun q z=>⟨[(8,.int .i64 q.length),(7,.ptr 2 0),(3,.ptr 0 0),(2,.int .i64 0),(0,sl 70 (u.map Un.enc))],.cells [.int .i64 0,.int .i64 0] :: .dead :: .cells (b6f u)::z,[]⟩)
    (fun q r z=>b0P (nmP u) r q.length=b0P (nmP u) (b0e u) 0) [] ?_ rfl ?_ ?_
   ·simp -implicitDefEqProofs only[go_sem,b0k]
    try rfl
   ·intro z he2
    have hnmn:b0P (nmP u) (b0e u) 0=none:=by rw[←he2];rfl
    rw[hnmn]
    simp only
    simp -implicitDefEqProofs only[go_sem,b0k,htl]
    refine fun _ _=>?_
    have hDb:=c8A u hu
    refine hDb.calls (by simp -implicitDefEqProofs only[go_sem]) ?_
    simp -implicitDefEqProofs only[go_sem,b0k]
    rw[f1g,d9V]
    refine fun _ _=>?_
    cases hdd:b4Y (b0e u) [] (b0f u 0)with
    | cons d ds =>
     have h0:(0<((d::ds).length:Int))=True:=by simp only[g9k,eq_iff_iff,iff_true];omega
     refine⟨fun _=>?_,fun h=>absurd (by rw[h0];trivial) h⟩
     refine b0h (cs:=[]) b0v (by kernel_rfl) ?_
     simp -implicitDefEqProofs only[go_sem,h0,d7q,g9o]
     omega
    | nil =>
     refine⟨fun h=>absurd h (by simp),fun _=>?_⟩
     have hUn:=c8t u hu
     rw[c6M hS]at hUn
     refine hUn.calls (by simp -implicitDefEqProofs only[go_sem]) ?_
     simp -implicitDefEqProofs only[go_sem,b0k]
     refine fun _ _=>?_
     cases huu:b6s (b4o u)with
     | cons d ds =>
      have h0:(0<((d::ds).length:Int))=True:=by simp only[g9k,eq_iff_iff,iff_true];omega
      refine⟨fun _=>?_,fun h=>absurd (by rw[h0];trivial) h⟩
      refine b0h (cs:=[]) b0v (by kernel_rfl) ?_
      simp -implicitDefEqProofs only[go_sem,h0,atE,g9o]
      omega
     | nil =>
      refine⟨fun h=>absurd h (by simp),fun _=>?_⟩
      have hP:PreU u:=⟨hS,by rw[←d3a hu];exact hc',hnmn,huu⟩
      simp only
      rw[f8i]
      refine b0n (β:=List VObj) (b0e u) (fun q z=>⟨[(12,.int .i64 q.length),(7,.ptr 2 0),(3,.ptr 0 0),(2,.int .i64 0),(0,sl 70 (u.map Un.enc))],.cells [.int .i64 0,.int .i64 0] :: .dead :: .cells (b6f u)::z,[]⟩)
       (fun q r z=>b0P (wrP u) r q.length=b0P (wrP u) (b0e u) 0) z ?_ rfl ?_ ?_
      ·simp -implicitDefEqProofs only[go_sem,b0k]
       try rfl
      ·intro z he2
       have hnmn2:b0P (wrP u) (b0e u) 0=none:=by rw[←he2];rfl
       rw[hnmn2]
       simp only
       simp -implicitDefEqProofs only[go_sem,b0k,htl]
       refine fun _ _=>?_
       refine b0n (β:=List VObj) (b0e u) (fun q z=>⟨[(14,.int .i64 q.length),(7,.ptr 2 0),(3,.ptr 0 0),(2,.int .i64 0),(0,sl 70 (u.map Un.enc))],.cells [.int .i64 0,.int .i64 0] :: .dead :: .cells (b6f u)::z,[]⟩)
        (fun q r z=>b0P (miP u) r q.length=b0P (miP u) (b0e u) 0) z ?_ rfl ?_ ?_
       ·simp -implicitDefEqProofs only[go_sem,b0k]
        try rfl
       ·intro z he2
        have hnmn3:b0P (miP u) (b0e u) 0=none:=by rw[←he2];rfl
        rw[hnmn3]
        simp only
        simp -implicitDefEqProofs only[go_sem,b0k,htl]
       ·rintro q l r z hx he2
        have hpl:(b0e u).length=q.length+1+r.length:=by rw[hx];simp;omega
        have hlt:((q.length:Int)<u.length)=True:=by simp;omega
        have hlt2:((q.length:Int)<(b0e u).length)=True:=by simp;omega
        have hge:(0≤(q.length:Int))=True:=by simp
        have hgx:((b0e u).map b0q).getD (q.length:Int).toNat []=b0q l:=by rw[hx];simp[g8Z]
        have hw:IntKind.i64.wrap (↑q.length+1)=↑(q.length+1):=b0g (by omega)
        have hll:=(htk l (by rw[hx];simp)).len
        have hul2:(b0e u)[q.length]? = some l:=by rw[hx];simp
        have he0:b0P (miP u) (l::r) q.length=match b2f (miP u q.length) l.length 0 with | some i=>some (q.length,i) | none=>b0P (miP u) r (q.length+1):=rfl
        rw[he0]at he2
        simp -implicitDefEqProofs only[go_sem,b0k,hgx,hlt,hlt2,hge,b0q]
        refine fun _ _=>?_
        refine b0n (β:=List VObj) l (fun m z=>⟨[(15,.int .i64 m.length),(14,.int .i64 q.length),(7,.ptr 2 0),(3,.ptr 0 0),(2,.int .i64 0),(0,sl 70 (u.map Un.enc))],.cells [.int .i64 0,.int .i64 0] :: .dead :: .cells (b6f u)::z,[]⟩)
         (fun m post z=>(match b2f (miP u q.length) post.length m.length with | some i=>some (q.length,i) | none=>b0P (miP u) r (q.length+1))=b0P (miP u) (b0e u) 0) z ?_ he2 ?_ ?_
        ·simp -implicitDefEqProofs only[go_sem,b0k]
         try rfl
        ·intro z2 he3
         rw[g9F,b2f]at he3
         simp -implicitDefEqProofs only[go_sem,b0k,hgx,hlt,hlt2,hge,b0q]
         exact fun _ _=>⟨z2,he3,hw,b0s,.inl (g9m _)⟩
        ·rintro m x post z2 hx2 he3
         have hpl2:l.length=m.length+1+post.length:=by rw[hx2];simp;omega
         have hml:m.length<l.length:=by omega
         have hltm:((m.length:Int)<l.length)=True:=by simp;omega
         have hwm:IntKind.i64.wrap (↑m.length+1)=↑(m.length+1):=b0g (by omega)
         have hfi:b2f (miP u q.length) (x::post).length m.length=if miP u q.length m.length=true then some m.length else b2f (miP u q.length) post.length (m.length+1):=rfl
         have hcl:=d3b u hP hul2 hml
         have hpe:miP u q.length m.length=c9Q u q.length l m.length:=by rw[miP,b7k hul2]
         rw[hfi,hpe]at he3
         simp -implicitDefEqProofs only[go_sem,b0k,hgx,hlt,hlt2,hge,b0q,hltm]
         refine fun _ _=>?_
         cases hww:c9Q u q.length l m.length with
         | true =>
          rw[hww]at hcl he3
          rw[if_pos rfl]at he3
          refine hcl.calls (by simp -implicitDefEqProofs only[go_sem,b0k]) ?_
          simp -implicitDefEqProofs only[go_sem,b0k]
          rw[←he3]
         | false =>
          rw[hww]at hcl he3
          rw[if_neg (by simp)]at he3
          refine hcl.calls (by simp -implicitDefEqProofs only[go_sem,b0k]) ?_
          simp -implicitDefEqProofs only[go_sem,b0k]
          exact⟨z2,he3,hwm,b0s,.inl (g9m _)⟩
      ·rintro q l r z hx he2
       have hpl:(b0e u).length=q.length+1+r.length:=by rw[hx];simp;omega
       have hlt:((q.length:Int)<u.length)=True:=by simp;omega
       have hlt2:((q.length:Int)<(b0e u).length)=True:=by simp;omega
       have hge:(0≤(q.length:Int))=True:=by simp
       have hgx:((b0e u).map b0q).getD (q.length:Int).toNat []=b0q l:=by rw[hx];simp[g8Z]
       have hw:IntKind.i64.wrap (↑q.length+1)=↑(q.length+1):=b0g (by omega)
       have hll:=(htk l (by rw[hx];simp)).len
       have hul2:(b0e u)[q.length]? = some l:=by rw[hx];simp
       have he0:b0P (wrP u) (l::r) q.length=match b2f (wrP u q.length) l.length 0 with | some i=>some (q.length,i) | none=>b0P (wrP u) r (q.length+1):=rfl
       rw[he0]at he2
       simp -implicitDefEqProofs only[go_sem,b0k,hgx,hlt,hlt2,hge,b0q]
       refine fun _ _=>?_
       refine b0n (β:=List VObj) l (fun m z=>⟨[(13,.int .i64 m.length),(12,.int .i64 q.length),(7,.ptr 2 0),(3,.ptr 0 0),(2,.int .i64 0),(0,sl 70 (u.map Un.enc))],.cells [.int .i64 0,.int .i64 0] :: .dead :: .cells (b6f u)::z,[]⟩)
        (fun m post z=>(match b2f (wrP u q.length) post.length m.length with | some i=>some (q.length,i) | none=>b0P (wrP u) r (q.length+1))=b0P (wrP u) (b0e u) 0) z ?_ he2 ?_ ?_
       ·simp -implicitDefEqProofs only[go_sem,b0k]
        try rfl
       ·intro z2 he3
        rw[g9F,b2f]at he3
        simp -implicitDefEqProofs only[go_sem,b0k,hgx,hlt,hlt2,hge,b0q]
        exact fun _ _=>⟨z2,he3,hw,b0s,.inl (g9m _)⟩
       ·rintro m x post z2 hx2 he3
        have hpl2:l.length=m.length+1+post.length:=by rw[hx2];simp;omega
        have hml:m.length<l.length:=by omega
        have hltm:((m.length:Int)<l.length)=True:=by simp;omega
        have hwm:IntKind.i64.wrap (↑m.length+1)=↑(m.length+1):=b0g (by omega)
        have hfi:b2f (wrP u q.length) (x::post).length m.length=if wrP u q.length m.length=true then some m.length else b2f (wrP u q.length) post.length (m.length+1):=rfl
        have hcl:=d5o u hP hul2 hml
        have hpe:wrP u q.length m.length=wrS u q.length l m.length:=by rw[wrP,b7k hul2]
        rw[hfi,hpe]at he3
        simp -implicitDefEqProofs only[go_sem,b0k,hgx,hlt,hlt2,hge,b0q,hltm]
        refine fun _ _=>?_
        cases hww:wrS u q.length l m.length with
        | true =>
         rw[hww]at hcl he3
         rw[if_pos rfl]at he3
         refine hcl.calls (by simp -implicitDefEqProofs only[go_sem,b0k]) ?_
         simp -implicitDefEqProofs only[go_sem,b0k]
         rw[←he3]
        | false =>
         rw[hww]at hcl he3
         rw[if_neg (by simp)]at he3
         refine hcl.calls (by simp -implicitDefEqProofs only[go_sem,b0k]) ?_
         simp -implicitDefEqProofs only[go_sem,b0k]
         exact⟨z2,he3,hwm,b0s,.inl (g9m _)⟩
   ·rintro q l r z hx he2
    have hpl:(b0e u).length=q.length+1+r.length:=by rw[hx];simp;omega
    have hlt:((q.length:Int)<u.length)=True:=by simp;omega
    have hlt2:((q.length:Int)<(b0e u).length)=True:=by simp;omega
    have hge:(0≤(q.length:Int))=True:=by simp
    have hgx:((b0e u).map b0q).getD (q.length:Int).toNat []=b0q l:=by rw[hx];simp[g8Z]
    have hw:IntKind.i64.wrap (↑q.length+1)=↑(q.length+1):=b0g (by omega)
    have hll:=(htk l (by rw[hx];simp)).len
    have hul2:(b0e u)[q.length]? = some l:=by rw[hx];simp
    have he0:b0P (nmP u) (l::r) q.length=match b2f (nmP u q.length) l.length 0 with | some i=>some (q.length,i) | none=>b0P (nmP u) r (q.length+1):=rfl
    rw[he0]at he2
    have hgm:=hS.gram l (g9f hul2)
    simp -implicitDefEqProofs only[go_sem,b0k,hgx,hlt,hlt2,hge,b0q]
    refine fun _ _=>?_
    refine b0n (β:=List VObj) l (fun m z=>⟨[(9,.int .i64 m.length),(8,.int .i64 q.length),(7,.ptr 2 0),(3,.ptr 0 0),(2,.int .i64 0),(0,sl 70 (u.map Un.enc))],.cells [.int .i64 0,.int .i64 0] :: .dead :: .cells (b6f u)::z,[]⟩)
     (fun m post z=>(match b2f (nmP u q.length) post.length m.length with | some i=>some (q.length,i) | none=>b0P (nmP u) r (q.length+1))=b0P (nmP u) (b0e u) 0) z ?_ he2 ?_ ?_
    ·simp -implicitDefEqProofs only[go_sem,b0k]
     try rfl
    ·intro z2 he3
     rw[g9F,b2f]at he3
     simp -implicitDefEqProofs only[go_sem,b0k,hgx,hlt,hlt2,hge,b0q]
     exact fun _ _=>⟨z2,he3,hw,b0s,.inl (g9m _)⟩
    ·rintro m x post z2 hx2 he3
     have hpl2:l.length=m.length+1+post.length:=by rw[hx2];simp;omega
     have hml:m.length<l.length:=by omega
     have hltm:((m.length:Int)<l.length)=True:=by simp;omega
     have hgem:(0≤(m.length:Int))=True:=by simp
     have hxr:b0j l m.length=x:=by rw[hx2];simp[b0j,g8Z]
     have hgxm:(l.map Rw.enc).getD (m.length:Int).toNat []=x.enc:=by rw[b0F hml,hxr]
     have hwm:IntKind.i64.wrap (↑m.length+1)=↑(m.length+1):=b0g (by omega)
     have hfi:b2f (nmP u q.length) (x::post).length m.length=if nmP u q.length m.length=true then some m.length else b2f (nmP u q.length) post.length (m.length+1):=rfl
     have hnm:nmP u q.length m.length=(decide (x.kind=7) && (decide (x.text=tI) || decide (x.text=tB))):=by rw[nmP,b7k hul2,nmS,hxr]
     rw[hfi,hnm]at he3
     simp -implicitDefEqProofs only[go_sem,b0k,hgx,hlt,hlt2,hge,b0q,hltm,hgem,hgxm,Rw.enc,b0d,b0b,b0c,b0a,g8V,g8W,g8X]
     refine fun _ _=>⟨fun h7=>⟨fun hI=>⟨fun hB=>?_,fun hB=>?_⟩,fun hI=>?_⟩,fun h7=>?_⟩
     ·rw[if_pos (by simp[h7,hB,tB])]at he3
      rw[←he3]
     ·rw[if_neg (by simp[h7,hI,hB,tI,tB])]at he3
      exact⟨_,he3,hwm,b0s,.inl (by simp)⟩
     ·rw[if_pos (by simp[h7,hI,tI])]at he3
      rw[←he3]
     ·rw[if_neg (by simp[h7])]at he3
      exact⟨_,he3,hwm,b0s,.inl (by simp)⟩
 ·rintro q x r _ hx he
  have hpl:u.length=q.length+1+r.length:=by rw[hx];simp;omega
  have hgx:(u.map Un.enc).getD (q.length:Int).toNat []=x.enc:=by rw[hx];simp[g8Z]
  have hlt:((q.length:Int)<u.length)=True:=by simp;omega
  have hw:IntKind.i64.wrap (↑q.length+1)=↑(q.length+1):=b0g (by omega)
  have hsx:=d4E x (hgp x (by rw[hx];simp))
  rw[c4B]at he
  simp -implicitDefEqProofs only[go_sem,hgx,hlt]
  refine fun _ _=>?_
  refine hsx.calls (by simp -implicitDefEqProofs only[go_sem]) ?_
  simp -implicitDefEqProofs only[go_sem]
  refine⟨fun hs=>?_,fun hs=>?_⟩
  ·have hs':¬ b1q x=true:=by simpa using hs
   rw[if_neg hs']at he
   have hck:d9l u=(17,(q.length:Int),0):=by unfold d9l;rw[←he]
   rw[hck]
   try simp only[c2U]
  ·have hs':b1q x=true:=by simpa using hs
   rw[if_pos hs']at he
   exact⟨(),he,hw⟩
end Go.Proofs.YtighfcpaplmaiaaGreatDoor
