import Derived.Test.YtighfcpaplmaiaaGreatDoorUgG
set_option linter.unusedVariables false
set_option linter.unusedSimpArgs false
set_option maxRecDepth 20000
namespace Go.Vg
def f0I(l:List Rw)(i:Nat):ByteArray:=match c7V l i with
 | some p=>if 0≤(b0h l p).parent∧(b0h l (b0h l p).parent.toNat).kind=7 then(b0h l (b0h l p).parent.toNat).text else⟨#[]⟩
 | none=>⟨#[]⟩
def f6R(k:Int)(t:ByteArray):ByteArray:=if k=17 then⟨#[105,110,116]⟩else if k=18 then⟨#[98,111,111,108]⟩else if k=22 then t else if k=24 then opT t else if k=25 then(if t=⟨#[45]⟩then⟨#[105,110,116]⟩else⟨#[98,111,111,108]⟩)else⟨#[]⟩
end Go.Vg
namespace Go.Proofs.YtighfcpaplmaiaaGreatDoor
open Go Go.Vg Go.Proofs
abbrev BU(u:List Un):List (ByteArray×ByteArray):=b0C (btU u) (b0e u 0)
structure PreU(u:List Un):Prop where
 snd:SndU u
 cls:(b3r u (b0e u 0)).1=0
 nm:b0O (nmP u) (b0f u) 0=none
 unb:b6I (b4r u)=[]
theorem c4m{u:List Un}(h:(b3r u (b0e u 0)).1=0):(b0e u 0).find? (b4j u (BU u))=none∧(b0e u 0).find? (b3D (BU u))=none:=by
 unfold b3r at h;split at h
 ·cases h
 split at h
 ·cases h
 rename_i h2;split at h
 ·cases h
 rename_i h3;exact⟨h2,h3⟩
theorem b9g{u:List Un}{n:ByteArray}(h:(b1G (BU u) n).isSome=true):∃ d∈b0e u 0,d.kind=2∧d.name=n∧b1G (BU u) n=some (btU u d):=by
 rw[b1X,Option.isSome_map]at h;obtain⟨d,hd⟩:=h0I.1 h;have h1:=List.find?_some hd;simp only[b4N,h0k,h0l]at h1;exact⟨d,h0Z hd,h1.1,h1.2,by rw[b1X,hd];rfl⟩
theorem d4P{u:List Un}(hS:SndU u){n:ByteArray}(h:(b1G (BU u) n).isSome=true):n≠⟨#[]⟩:=by
 obtain⟨d,hd,hk,rfl,_⟩:=b9g h;obtain⟨un,nd,l,q1,q2,q3,q4,q5,q6⟩:=hS.decl hd;rw[q5];exact b6V hS q3 q4 (by omega)
theorem d2H{u:List Un}(h:(b3r u (b0e u 0)).1=0)(n:ByteArray):nxB (BU u) n=⟨#[]⟩∨(b1G (BU u) (nxB (BU u) n)).isSome=true:=by
 cases hg:b1G (BU u) n with
 | none=>exact .inl (by rw[nxB,hg];rfl)
 | some b =>
  have hb:nxB (BU u) n=b:=by rw[nxB,hg];rfl
  rw[hb];obtain⟨d,hd,hk,rfl,he⟩:=b9g (by rw[hg];rfl:(b1G (BU u) n).isSome=true);rw[hg]at he;cases he
  have h1:=List.find?_eq_none.1 (c4m h).1 d hd;simp only[b4j,hk,decide_true,h0S,h0k,Bool.not_eq_true',h1q,not_and,Bool.not_eq_false]at h1;by_cases hb0:btU u d=⟨#[]⟩
  ·exact .inl hb0
  ·exact .inr (h1 hb0)
theorem b7r{B:List (ByteArray×ByteArray)}:∀ (a:List ByteArray) {n x:ByteArray} {r:List ByteArray},b4I B n (a++x::r)=b4I B (nxB B x) r
 | [],_,_,_=>rfl
 | y::a,_,_,_=>by rw[h0a,b4I,b7r a]
theorem c0O{u:List Un}(hS:SndU u)(h:(b3r u (b0e u 0)).1=0)(s:ByteArray):∃ p,(b3M (BU u) s).1=p∧c3z (BU u) (nxB (BU u) s) p∧p.length≤(BU u).length∧b4I (BU u) (nxB (BU u) s) p=⟨#[]⟩:=by
 obtain⟨p,h1,h2,h3,h4,h5,h6⟩:=c3i (BU u) s;refine⟨p,h1,h2,h4,?_⟩;generalize hm:b4I (BU u) (nxB (BU u) s) p=m at h6;have hor:m=⟨#[]⟩∨(b1G (BU u) m).isSome=true:=by
  rcases List.eq_nil_or_concat p with hp | ⟨a,x,hp⟩
  ·subst hp;rw[←hm];exact d2H h s
  ·rw[List.concat_eq_append]at hp;rw[hp,b7r]at hm;rw[←hm];exact d2H h x
 rcases hor with hor | hor
 ·exact hor
 exfalso;have hne:=d4P hS hor;have hst:b2L (BU u) m=false:=by simp[b2L,hne,hor]
 have hin:m∈s::p:=h6.resolve_left (by rw[hst];simp);have hring:c2C (BU u) m ((BU u).length+1) (nxB (BU u) m)=true:=by
  rcases h0C.1 hin with rfl | hin
  ·exact c3n hst p _ _ h2 (h1t.1 h3).1 hm (by omega)
  ·obtain⟨a,b,rfl⟩:=List.append_of_mem hin;obtain⟨g1,_⟩:=b5S a h2;rw[b7r]at hm;obtain⟨_,n2⟩:=h1t.1 h3;obtain⟨_,n3,_⟩:=h1v.1 n2;refine c3n hst b _ _ g1 (h1t.1 n3).1 hm ?_;simp only[h0h,h0o]at h4;omega
 rw[d7s _ hst (by omega)]at hring;obtain⟨d,hd,hk,hn,_⟩:=b9g hor;have h7:=List.find?_eq_none.1 (c4m h).2 d hd;rw[b3D,hn,h0H hk]at h7;simp only[h0l]at hring;rw[hring]at h7;simp[hne]at h7
def b5A(u:List Un):List V:=[sl 70 (u.map Un.enc),sl 45 ((b0f u).map b0p),sl 163 ((b4r u).map Us.enc),sl 54 ((b0e u 0).map Dl.enc)]
theorem b1p(u:List Un):b0Y (b5A u)=true:=by
 simp -implicitDefEqProofs only[b5A,go_sem,b0v,b1g,b2I,b0D]
theorem d1Q(u:List Un)(hS:SndU u):b0s env 39 [sl 70 (u.map Un.enc)] (.agg (b5A u)):=by
 have hu:=hS.fit;have hul:=hu.1;have hD:=b7j u hu;have hU:=d0c u hu;rw[c7o hS]at hU;refine b0i (fn:=Tryz.f39) Tryz.func39 rfl (by rw[Tryz.ntmps39];simp) (by simp -implicitDefEqProofs only[go_sem];exact b0v _) (by simp -implicitDefEqProofs only[go_sem];exact b1p _) ?_;simp -implicitDefEqProofs only[go_sem,Tryz.f39];refine hU.cq ?_;simp -implicitDefEqProofs only[go_sem];refine hD.cq ?_;have hbr:=hS.br;have hts:∀ (p:List Un) (x:Un),x.broken=false→b0f (p++[x])=b0f p++[b0u x.tree (-1) 0]:=fun p x h=>c1H h
 have hup:=b2I (b4r u);have hdp:=b0D (b0e u 0);have hwc:b5A u=[sl 70 (u.map Un.enc),sl 45 ((b0f u).map b0p),sl 163 ((b4r u).map Us.enc),sl 54 ((b0e u 0).map Dl.enc)]:=rfl;rw[hwc];generalize(b4r u).map Us.enc=US at hup ⊢;generalize(b0e u 0).map Dl.enc=DS at hdp ⊢;simp -implicitDefEqProofs only[go_sem];refine b0l (β:=Unit) u (fun pre _=>⟨[(4,.int .i64 pre.length),(3,.ptr 1 0),(2,.ptr 0 0),(0,sl 70 (u.map Un.enc))],[.cells [.slice .nil 0 [],.slice .nil 0 [],.slice .nil 0 [],.slice .nil 0 []],.cells [sl 70 (u.map Un.enc),.slice (.arr 0) 45 ((b0f pre).map b0p),sl 163 US,sl 54 DS]],[(b0f pre).length]⟩)
  (fun _ _ _=>True) () ?_ trivial ?_ ?_
 ·simp -implicitDefEqProofs only[go_sem];exact⟨rfl,rfl⟩
 ·intro _ _;simp -implicitDefEqProofs only[go_sem]
 ·rintro pre x post _ hx _;have hpl:u.length=pre.length+1+post.length:=by rw[hx];simp;omega
  have hgx:(u.map Un.enc).getD (pre.length:Int).toNat []=x.enc:=by rw[hx];simp[h0c]
  have hlt:((pre.length:Int)<u.length)=True:=by simp;omega
  have hw:IntKind.i64.wrap (↑pre.length+1)=↑(pre.length+1):=b0g (by omega);have hxm:x∈u:=by rw[hx];simp
  have hxn:=(hu.2 x hxm).1;have htl:(b0f pre).length=pre.length:=by simp[b0f]
  have hsn:=hts pre x (hbr x hxm);simp -implicitDefEqProofs only[go_sem,hgx,hlt];intro _ _;refine sdq ?_;simp -implicitDefEqProofs only[go_sem,hgx,hlt];refine b0L (c5G x.tree (by omega)) (by simp -implicitDefEqProofs only[go_sem]) ?_;simp -implicitDefEqProofs only[go_sem,hgx,hlt];rw[hsn];exact⟨by omega,(),hw,by simp[b0p],by simp⟩
theorem d0X{u:List Un}(hS:SndU u){un i:Nat}{l:List Rw}(hl:(b0f u)[un]? = some l)(hi:i<l.length):((b4r u).find? fun x=>decide (x.un=un∧x.nd=i)).bind (·.to)=b1t (b2v u) ((un:Int),(i:Int)):=by
 cases hf:(b4r u).find? fun x=>decide (x.un=un∧x.nd=i)with
 | some x =>
  have h1:=List.find?_some hf;simp only[h0l]at h1;obtain⟨un',i',l',g1,g2,g3,g4⟩:=b9K _ _ (h0Z hf);subst g4;simp only[h0w]at h1 g1;obtain⟨rfl,rfl⟩:=h1;rw[hl]at g1;cases g1
  show c3B _ _ _ _ _=_;rw[h0w];cases hg:b1t (b2v u) ((un':Int),(i':Int))with
  | some d=>exact(b8Q hl hg).2
  | none =>
   cases hr:c3B l (b2c (b0e u 0)) un' i' (b6Y (b0h l i').kind (b0h l i').text).1 with
   | none=>rfl
   | some d =>
    exfalso;have hm:=b5B (M:=b2c (b0e u 0)) (b0f u) 0 un' i' l hl hi g3;rw[h0w,hr]at hm;have:=c0M (k:=((un':Int),(i':Int))) _ [] (.inl ⟨_,hm,rfl,rfl⟩);rw[show b1t ((b2O (b2c (b0e u 0)) (b0f u) 0).foldl d4D []) ((un':Int),(i':Int))=b1t (b2v u) ((un':Int),(i':Int))from rfl,hg]at this;cases this
 | none =>
  cases hg:b1t (b2v u) ((un:Int),(i:Int))with
  | none=>rfl
  | some d =>
   exfalso;obtain⟨h1,_⟩:=b8Q hl hg;have hm:=b5B (M:=b2c (b0e u 0)) (b0f u) 0 un i l hl hi h1;rw[h0w]at hm;have:=List.find?_eq_none.1 hf _ hm;simp at this
def f5K:Wk := .one 0 (.one 1 (.one 2 (.one 3 (.one 4 (.one 5 (.one 6 (.one 8 (.br 7 (.one 9 (.one 10 (.br 11 (.one 12 (.one 13 (.stop))) (.br 12 (.one 11 (.one 13 (.stop))) (.stop))))) (.br 12 (.one 7 (.one 9 (.one 10 (.one 11 (.one 13 (.stop)))))) (.stop))))))))))
theorem b6l(u:List Un)(hS:SndU u){un i:Nat}{l:List Rw}(hl:(b0f u)[un]? = some l)(hi:i<l.length):b0s env 109 [.agg (b5A u),.agg [.int .i64 un,.int .i64 i]] (c1i (b1t (b2v u) ((un:Int),(i:Int)))):=by
 rw[←d0X hS hl hi];refine b0i (fn:=Tryz.f109) Tryz.func109 rfl (by rw[Tryz.ntmps109];simp) (by simp -implicitDefEqProofs only[go_sem];exact b1p _) (by simp -implicitDefEqProofs only[go_sem,c1i]) ?_;generalize hL:b4r u=L;have hLp:=b2I L;simp -implicitDefEqProofs only[go_sem,Tryz.f109,b5A,hL];refine b0l (β:=Unit) L (fun pre _=>⟨[(6,.int .i64 pre.length),(5,.bool false),(4,.ptr 2 0),(3,.ptr 1 0),(2,.ptr 0 0)],[.cells [.junk,.junk,sl 163 (L.map Us.enc),.junk],.cells [.int .i64 un,.int .i64 i],.cells [.int .i64 0,.int .i64 0]],[]⟩)
  (fun pre post _=>((L.find? fun x=>decide (x.un=un∧x.nd=i)).bind (·.to))=(post.find? fun x=>decide (x.un=un∧x.nd=i)).bind (·.to)) () ?_ rfl ?_ ?_
 ·simp -implicitDefEqProofs only[go_sem];rfl
 ·intro _ h;rw[h];simp -implicitDefEqProofs only[go_sem];exact fun _ _=>rfl
 ·rintro pre x post _ hx h;have hpl:L.length=pre.length+1+post.length:=by rw[hx];simp;omega
  have hgx:(L.map Us.enc).getD (pre.length:Int).toNat []=x.enc:=by rw[hx];simp[h0c]
  have hlt:((pre.length:Int)<L.length)=True:=by simp;omega
  rw[h0W]at h;simp -implicitDefEqProofs only[go_sem,hgx,hlt,Us.enc];intro _ _;have hw:IntKind.i64.wrap (↑pre.length+1)=↑(pre.length+1):=b0g (by omega);have hfk:flatK Tryz.prog 24=some [1,1]:=by kernel_rfl
  refine sdq ?_;simp -implicitDefEqProofs only[go_sem,hgx,hlt,Us.enc,hfk];have hcc:(decide ((x.un:Int)=un) && decide ((x.nd:Int)=i))=decide (x.un=un∧x.nd=i):=by
   rw[h1k];simp only[h0k,h0l];omega
  rw[hcc];refine⟨fun hc=>?_,fun hc=>⟨(),?_,hw⟩⟩
  ·rw[hc]at h;have h2:((L.find? fun x=>decide (x.un=un∧x.nd=i)).bind fun x=>x.to)=x.to:=h;rw[h2];refine b1f (cs:=[]) f5K b4c (by kernel_rfl) ?_;simp -implicitDefEqProofs only[go_sem,f5K,hgx,hlt,Us.enc,hfk,c1i]
  ·rw[hc]at h;exact h
theorem d0w(u:List Un)(hu:b2D u)(k:Int)(o n:ByteArray):b0s env 171 [.agg (b5A u),.int .i64 k,.str o,.str n] (b2F (c6E (b0e u 0) k o n)):=by
 have hdl:=b0H u 0 fun y hy=>(hu.2 y hy).1
 have hul:=hu.1;refine b0i (fn:=Tryz.f171) Tryz.func171 rfl (by rw[Tryz.ntmps171];simp) (by simp -implicitDefEqProofs only[go_sem];exact b1p _) (by simp -implicitDefEqProofs only[go_sem,b2F]) ?_;have hwc:b5A u=[sl 70 (u.map Un.enc),sl 45 ((b0f u).map b0p),sl 163 ((b4r u).map Us.enc),sl 54 ((b0e u 0).map Dl.enc)]:=rfl;rw[hwc];unfold c6E;generalize b0e u 0=dl at hdl ⊢;simp -implicitDefEqProofs only[go_sem,Tryz.f171];refine b0l (β:=Unit) dl (fun pre _=>⟨[(10,.int .i64 pre.length),(9,.bool false),(8,.ptr 1 0),(4,.ptr 0 0),(1,.int .i64 k),(2,.str o),(3,.str n)],[.cells [.junk,.junk,.junk,sl 54 (dl.map Dl.enc)],.cells Dl.zero.enc],[]⟩)
  (fun pre post _=>(dl.find? fun d=>decide (d.kind=k) && decide (d.owner=o) && decide (d.name=n))=post.find? fun d=>decide (d.kind=k) && decide (d.owner=o) && decide (d.name=n)) () ?_ rfl ?_ ?_
 ·simp -implicitDefEqProofs only[go_sem,Dl.zero,Dl.enc];rfl
 ·intro _ h;rw[h,List.find?_nil];simp -implicitDefEqProofs only[go_sem,b2F,Dl.zero,Dl.enc];exact fun _ _=>rfl
 ·rintro pre d post _ hx h;have hpl:dl.length=pre.length+1+post.length:=by rw[hx];simp;omega
  have hgx:(dl.map Dl.enc).getD (pre.length:Int).toNat []=d.enc:=by rw[hx];simp[h0c]
  have hlt:((pre.length:Int)<dl.length)=True:=by simp;omega
  have hw:IntKind.i64.wrap (↑pre.length+1)=↑(pre.length+1):=b0g (by omega);rw[h0W]at h;simp -implicitDefEqProofs only[go_sem,hgx,hlt,Dl.enc,Dl.zero];refine fun _ _=>⟨fun g1=>⟨fun g2=>⟨fun g3=>?_,fun g3=>⟨(),?_,hw⟩⟩,fun g2=>⟨(),?_,hw⟩⟩,fun g1=>⟨(),?_,hw⟩⟩
  ·rw[h,h0H g1,h0H g2,h0H g3];rfl
  ·rw[h,h0z g3,Bool.and_false]
  ·rw[h,h0z g2,Bool.and_false,h0U]
  ·rw[h,h0z g1,h0U,h0U]
theorem b0j(u:List Un):b5A u=[sl 70 (u.map Un.enc),sl 45 ((b0f u).map b0p),sl 163 ((b4r u).map Us.enc),sl 54 ((b0e u 0).map Dl.enc)]:=rfl
theorem b2a{u:List Un}{un:Nat}{l:List Rw}(hl:(b0f u)[un]? = some l):((b0f u).map b0p).getD ((un:Int)).toNat []=b0p l∧((un:Int)<(b0f u).length)=True∧(0≤(un:Int))=True:=by
 refine⟨by rw[h0c,h0u,h0n,hl];rfl,?_,by simp⟩;have:=(h0b.1 hl).1;simp;omega
theorem b1l{l:List Rw}{i:Nat}(hi:i<l.length):(l.map Rw.enc).getD ((i:Int)).toNat []=(b0h l i).enc∧((i:Int)<l.length)=True∧(0≤(i:Int))=True :=
 ⟨b0z hi,by simp;omega,by simp⟩
theorem d5t{u:List Un}(hS:SndU u)(c:ByteArray):c6E (b0e u 0) 2 ⟨#[]⟩ c=(b0e u 0).find? (b4N c):=by
 refine b3K fun d hd=>?_
 obtain⟨un,x,j,y,a,h1,h2,h3,h4⟩:=b4J u 0 d hd;have ho:d.kind=2→d.owner=⟨#[]⟩:=fun hk=>by
  unfold b2u at h4
  repeat' split at h4
  all_goals first | (cases h4;done) | (cases h4;simp_all)
 rw[h1k];simp only[b4N,h0k,h0l];constructor
 ·rintro⟨⟨a,_⟩,b⟩;exact⟨a,b⟩
 ·rintro⟨a,b⟩;exact⟨⟨a,ho a⟩,b⟩
theorem c7l{u:List Un}(hS:SndU u){d:Dl}(hd:d∈b0e u 0)(hk:d.kind=2):∃ (un nd:Nat) (l:List Rw),d.unit=(un:Int)∧d.node=(nd:Int)∧(b0f u)[un]? = some l∧nd<l.length∧0<(b0h l nd).kids.length∧b1c l nd 0<l.length∧(b0h l (b1c l nd 0)).text=btU u d:=by
 obtain⟨un,nd,l,q1,q2,q3,q4,q5,q6⟩:=hS.decl hd;have h7:(b0h l nd).kind=7:=by omega
 have hg:=hS.gram l (h0j q3);have hle:=hg.least nd q4;rw[h7]at hle;have hk1:0<(b0h l nd).kids.length:=by simp[b0S]at hle;omega
 have hkd:=hg.kid nd q4 0 hk1;have hf:=hg.fit nd q4 0 hk1;refine⟨un,nd,l,q1,q2,q3,q4,hk1,hkd.2.1,?_⟩;obtain⟨x,hx,rfl⟩:=b2H hS.br q3;obtain⟨k,t,g,ks,e1,e2,e3,e4⟩:=b1I q4;have hgk:=b3J hk1;rw[e4]at hgk;obtain⟨z,g1,g2,_⟩:=b7L e1 hgk;unfold btU;rw[q1,q2,h0n,h0n,hx];simp only;rw[e1];simp only;obtain⟨zk,zt,zg,zks⟩:=z;obtain⟨r1,r2,r3⟩:=b4d g2;rw[h7]at hf;simp[b3l]at hf;rw[r1]at hf;subst hf;rw[r2];cases ks with
 | nil=>simp at g1
 | cons y r =>
  simp at g1;subst g1;rfl
theorem d1Z(u:List Un)(hS:SndU u)(c:ByteArray):b0s env 172 [.agg (b5A u),.str c] (.str (nxB (BU u) c)):=by
 have hF:=d0w u hS.fit 2 ⟨#[]⟩ c;rw[d5t hS]at hF;refine b0i (fn:=Tryz.f172) Tryz.func172 rfl (by rw[Tryz.ntmps172];simp) (by simp -implicitDefEqProofs only[go_sem];exact b1p _) rfl ?_;simp -implicitDefEqProofs only[go_sem,Tryz.f172,b0j];refine hF.calls (by simp -implicitDefEqProofs only[go_sem,b0j]) ?_;have hnx:nxB (BU u) c=(((b0e u 0).find? (b4N c)).map (btU u)).getD ⟨#[]⟩:=by rw[nxB,b1X]
 rw[hnx];cases hf:(b0e u 0).find? (b4N c)with
 | none =>
  simp -implicitDefEqProofs only[go_sem,b2F,h0y,h1f];rfl
 | some d =>
  have h1:=List.find?_some hf;simp only[b4N,h0k,h0l]at h1;obtain⟨un,nd,l,q1,q2,q3,q4,q5,q6,q7⟩:=c7l hS (h0Z hf) h1.1;obtain⟨t1,t2,t3⟩:=b2a q3;obtain⟨s1,s2,s3⟩:=b1l q4;obtain⟨r1,r2,r3⟩:=b1l q6;have hgk:=b2p q5;obtain⟨dk,do',dn,du,dd⟩:=d;simp only at q1 q2;subst q1 q2;simp -implicitDefEqProofs only[go_sem,b2F,h0L,h0A,Dl.enc,b0p,t1,t2,t3,s1,s2,s3,r1,r2,r3,hgk,b0J,Rw.enc];exact⟨by omega,by rw[q7]⟩
theorem c7W(l:List Rw)(hr:rowsOK l)(i:Nat)(hi:i<l.length):b0s env 108 [sl 48 (l.map Rw.enc),.int .i64 i] (.str (f0I l i)):=by
 refine b0i (fn:=Tryz.f108) Tryz.func108 rfl (by rw[Tryz.ntmps108];simp) (by simp -implicitDefEqProofs only[go_sem];exact b0T _) rfl ?_;simp -implicitDefEqProofs only[go_sem,Tryz.f108];refine b1u (α:=Int×Nat) (fun b=>⟨[(5,.int .i64 b.1),(4,.str ⟨#[]⟩),(0,sl 48 (l.map Rw.enc))],[],[]⟩)
  (fun b => -1≤b.1∧b.1+1<b.2∧b.1<l.length∧c7V l i=upF l b.2 b.1) (fun b=>(b.1+1).toNat) (i,l.length+1) ?_ ⟨by omega,by simp;omega,by simp;omega,rfl⟩ ?_
 ·simp -implicitDefEqProofs only[go_sem];try rfl
 ·rintro⟨k,f⟩ ⟨h1,h2,h3,h4⟩;simp only at h1 h2 h3 h4 ⊢;obtain⟨f,rfl⟩:∃ f',f=f'+1:=⟨f - 1,by omega⟩
  simp -implicitDefEqProofs only[go_sem];refine⟨fun hk=>?_,fun hk=>?_⟩
  ·obtain⟨k,rfl⟩:=h0X hk;have hkl:k<l.length:=by omega
   obtain⟨r1,r2,r3⟩:=b1l hkl;have hpk:=hr.par k hkl;rw[upF,if_neg (by omega),h0n]at h4;simp -implicitDefEqProofs only[go_sem,r1,r2,r3,Rw.enc];refine⟨fun g2=>?_,fun g2=>?_⟩
   ·have g2':¬ (b0h l k).kind=2:=by simpa using g2
    rw[if_neg g2']at h4;exact⟨((b0h l k).parent,f),by simp only;omega,⟨hpk.2,by simp only;omega,by simp only;omega,h4⟩,rfl⟩
   ·have g2':(b0h l k).kind=2:=by simpa using g2
    rw[if_pos g2']at h4;have hc:f0I l i=if 0≤(b0h l k).parent∧(b0h l (b0h l k).parent.toNat).kind=7 then(b0h l (b0h l k).parent.toNat).text else⟨#[]⟩:=by rw[f0I,h4]
    rw[hc];refine⟨fun _=>⟨fun hp=>?_,fun hp=>?_⟩,fun h=>by omega⟩
    ·obtain⟨p,hpe⟩:=h0X (by omega:0≤(b0h l k).parent);obtain⟨s1,s2,s3⟩:=b1l (by omega:p<l.length);rw[hpe]at hp ⊢;simp -implicitDefEqProofs only[go_sem,s1,s2,s3,Rw.enc];rw[h0n];refine⟨fun h7=>by rw[if_neg (by simpa using h7)],fun h7=>?_⟩;rw[if_pos (by simpa using h7)];simp -implicitDefEqProofs only[go_sem,r1,r2,r3,hpe,s1,s2,s3,Rw.enc]
    ·rw[if_neg (by omega)]
  ·have hk':k<0:=by omega
   rw[upF,if_pos hk']at h4;have hc:f0I l i=⟨#[]⟩:=by rw[f0I,h4]
   rw[hc];exact⟨fun h=>absurd hk' h,fun _=>rfl⟩
theorem c3g(r:Rw):b0s env 113 [.agg r.enc] (.str (f6R r.kind r.text)):=by
 refine b0i (fn:=Tryz.f113) Tryz.func113 rfl (by rw[Tryz.ntmps113];simp) (by simp -implicitDefEqProofs only[go_sem];exact b8O _) rfl ?_;simp -implicitDefEqProofs only[go_sem,Tryz.f113,Rw.enc]
 repeat' (first | apply And.intro | intro)
 all_goals(simp only[V.str.injEq])
 all_goals(unfold f6R)
 all_goals(try unfold opT)
 all_goals simp_all
theorem d6e(l:List Rw)(hg:gramL l)(i:Nat)(hi:i<l.length):b0s env 173 [sl 48 (l.map Rw.enc),.int .i64 i] (.str (b4h l l.length i)):=by
 refine b0i (fn:=Tryz.f173) Tryz.func173 rfl (by rw[Tryz.ntmps173];simp) (by simp -implicitDefEqProofs only[go_sem];exact b0T _) rfl ?_;simp -implicitDefEqProofs only[go_sem,Tryz.f173];generalize hgo:b4h l l.length i=goal;refine b1u (α:=Nat×Nat) (fun b=>⟨[(5,.int .i64 b.1),(4,.str ⟨#[]⟩),(0,sl 48 (l.map Rw.enc))],[],[]⟩)
  (fun b=>b.1<l.length∧l.length≤b.1+b.2∧goal=b4h l b.2 b.1) (fun b=>b.2) (i,l.length) ?_ ⟨hi,by simp,hgo.symm⟩ ?_
 ·simp -implicitDefEqProofs only[go_sem];try rfl
 ·rintro⟨k,f⟩ ⟨h1,h2,h4⟩;simp only at h1 h2 h4 ⊢;obtain⟨f,rfl⟩:∃ f',f=f'+1:=⟨f - 1,by omega⟩
  obtain⟨r1,r2,r3⟩:=b1l h1;rw[b4h]at h4;have hP:=c3g (b0h l k);have hwd:=hg.word k h1;by_cases h26:(b0h l k).kind=26
  ·rw[if_pos h26]at h4;have hle:=hg.least k h1;rw[h26]at hle;have hk1:0<(b0h l k).kids.length:=by simp[b0S]at hle;omega
   have hkd:=hg.kid k h1 0 hk1;have hgk:=b2p hk1;simp -implicitDefEqProofs only[go_sem,r1,r2,r3,hgk,b0J,Rw.enc];refine⟨fun _=>⟨by omega,(b1c l k 0,f),by simp only;omega,⟨hkd.2.1,by simp only;omega,h4⟩,rfl⟩,fun h=>absurd h26 h⟩
  ·rw[if_neg h26]at h4;have hres:((b0h l k).kind=17∨(b0h l k).kind=18∨(b0h l k).kind=24∨(b0h l k).kind=25)→f6R (b0h l k).kind (b0h l k).text=goal:=fun h=>by
    rw[h4];rcases h with h | h | h | h
    ·rw[h];rfl
    ·rw[h];rfl
    ·rw[h];rfl
    ·rw[h]at hwd ⊢;have ht:(b0h l k).text=⟨#[45]⟩∨(b0h l k).text=⟨#[33]⟩:=by simpa[b2s,b5X]using hwd
     rcases ht with ht | ht <;> (rw[ht];rfl)
   have hno:¬ ((b0h l k).kind=17∨(b0h l k).kind=18∨(b0h l k).kind=24∨(b0h l k).kind=25)→goal=⟨#[]⟩:=fun h=>by
    rw[h4,if_neg (by omega),if_neg (by omega),if_neg (by omega)]
   simp -implicitDefEqProofs only[go_sem,r1,r2,r3,Rw.enc];refine⟨fun h=>absurd h h26,fun _=>?_⟩
   repeat' (first | apply And.intro | (refine hP.calls (by simp -implicitDefEqProofs only[go_sem,Rw.enc]) ?_;simp -implicitDefEqProofs only[go_sem]) | intro)
   all_goals first
    | (exfalso;omega)
    | (refine congrArg V.str (hres ?_);omega)
    | (refine congrArg V.str (hno ?_).symm;omega)
theorem c1W{B:List (ByteArray×ByteArray)}{c:ByteArray}{p:List ByteArray}(hp:c3z B (nxB B c) p)(he:b4I B (nxB B c) p=⟨#[]⟩):∀ (a:List ByteArray) (s:ByteArray) (R:List ByteArray),c::p=a++s::R→nxB B s=R.headD ⟨#[]⟩:=by
 have key:∀ (s:ByteArray) (R:List ByteArray),c3z B (nxB B s) R→b4I B (nxB B s) R=⟨#[]⟩→nxB B s=R.headD ⟨#[]⟩:=fun s R h1 h2=>by
  cases R with
  | nil=>exact h2
  | cons x r=>exact h1.1.symm
 intro a s R h;cases a with
 | nil =>
  simp only[h0Q,List.cons.injEq]at h;obtain⟨rfl,rfl⟩:=h;exact key _ _ hp he
 | cons y a =>
  simp only[h0a,List.cons.injEq]at h;obtain⟨_,rfl⟩:=h;rw[b7r]at he;exact key s R (b5S a hp).1 he
theorem c7c{u:List Un}(hP:PreU u){n:ByteArray}(h:(b1G (BU u) n).isSome=true):n≠tI∧n≠tB:=by
 obtain⟨d,hd,hk,rfl,_⟩:=b9g h;obtain⟨un,nd,l,q1,q2,q3,q4,q5,q6⟩:=hP.snd.decl hd;have:=b4o _ 0 hP.nm un nd l q3 q4;rw[h0w,nmP,b7D q3,nmS]at this;rw[q5];have h7:(b0h l nd).kind=7:=by omega
 simp only[h7,decide_true,h0S,h1B,h1q]at this;exact this
theorem g3j(u:List Un)(s n:ByteArray):c6E (b0e u 0) 4 s n=(b0e u 0).find? (isM s n):=by
 refine b3K fun d _=>?_
 rw[h1k];simp only[isM,d5N,h0k,h0l];constructor
 ·rintro⟨⟨a,b⟩,c⟩;exact⟨a,b.symm,c.symm⟩
 ·rintro⟨a,b,c⟩;exact⟨⟨a,b.symm⟩,c.symm⟩
theorem c0k(u:List Un)(hP:PreU u)(c n:ByteArray):b0s env 111 [.agg (b5A u),.str c,.str n] (b6A (mtS u (rcT c,n))):=by
 have hS:=hP.snd;have hF:=fun s=>d0w u hS.fit 4 s n
 have hB:=fun s=>d1Z u hS s
 have hdl:=b0H u 0 fun y hy=>(hS.fit.2 y hy).1
 have hul:=hS.fit.1;have hbl:=b1i (btU u) (b0e u 0);obtain⟨p,p1,p2,p3,p4⟩:=c0O hS hP.cls c;have hgo:mtS u (rcT c,n)=if c=tI∨c=tB∨c=⟨#[]⟩then none else((c::p).findSome? fun s=>(b0e u 0).find? (isM s n)).map fun d=>b2W ((b0f u).getD d.unit.toNat []) d.node.toNat:=by
  unfold mtS;simp only;by_cases h:c=tI∨c=tB∨c=⟨#[]⟩
  ·have:rcT c=⟨#[]⟩:=by
    unfold rcT;split
    ·rfl
    ·rename_i h';rcases h with h | h | h
     ·exact absurd (.inl h) h'
     ·exact absurd (.inr h) h'
     ·exact h
   rw[if_pos h,this,c0y hS];rfl
  ·have:rcT c=c:=by
    unfold rcT;rw[if_neg (fun g=>h (g.elim .inl fun g => .inr (.inl g)))]
   rw[if_neg h,this,c2N];show(((c::(b3M (BU u) c).1).findSome? _).map _)=_;rw[p1]
 rw[hgo];refine b0i (fn:=Tryz.f111) Tryz.func111 rfl (by rw[Tryz.ntmps111];simp) (by simp -implicitDefEqProofs only[go_sem];exact b1p _) (by unfold b6A;split <;> simp -implicitDefEqProofs only[go_sem,Sg.enc]) ?_;simp -implicitDefEqProofs only[go_sem,Tryz.f111,b0j];generalize hG:(if c=tI∨c=tB∨c=⟨#[]⟩then none else((c::p).findSome? fun s=>(b0e u 0).find? (isM s n)).map fun d=>b2W ((b0f u).getD d.unit.toNat []) d.node.toNat)=goal;refine b1u (α:=Nat×List ByteArray) (fun b=>⟨[(9,.int .i64 b.1),(8,.str (b.2.headD ⟨#[]⟩)),(7,.bool false),(6,.ptr 1 0),(3,.ptr 0 0),(2,.str n)],[.cells (b5A u),.cells [.slice .nil 0 [],.str ⟨#[]⟩]],[]⟩)
  (fun b=>(∃ a,c::p=a++b.2∧b.1=a.length∧((c=tI∨c=tB∨c=⟨#[]⟩)→a=[]))∧goal=(if c=tI∨c=tB∨c=⟨#[]⟩then none else(b.2.findSome? fun s=>(b0e u 0).find? (isM s n)).map fun d=>b2W ((b0f u).getD d.unit.toNat []) d.node.toNat)) (fun b=>b.2.length) (0,c::p) ?_ ⟨⟨[],rfl,rfl,fun _=>rfl⟩,hG.symm⟩ ?_
 ·simp -implicitDefEqProofs only[go_sem,b0j,List.headD_cons];rfl
 ·rintro⟨i,R⟩ ⟨⟨a,h1,h2,h0⟩,h3⟩;simp only at h1 h2 h3 ⊢;have p3':p.length≤(b0e u 0).length:=h1n p3 hbl;have hal:a.length≤p.length+1:=by have:=congrArg List.length h1;simp at this;omega
  have hlen:=congrArg List.length h1;simp only[h0o,h0h]at hlen;cases R with
  | nil =>
   have hgn:goal=none:=by rw[h3];split <;> rfl
   rw[hgn];simp -implicitDefEqProofs only[go_sem,b0j,List.headD_nil];exact fun _ _=>⟨fun _=>rfl,fun _=>rfl⟩
  | cons s R =>
   have hnx:=c1W p2 p4 a s R h1;simp only[h0o]at hlen;have hil:((i:Int)≤(b0e u 0).length)=True:=by simp;omega
   have hw:IntKind.i64.wrap (↑i+1)=↑(i+1):=b0g (by omega);by_cases hc:c=tI∨c=tB∨c=⟨#[]⟩
   ·rw[if_pos hc]at h3;rw[h3];have ha:=h0 hc;subst ha;simp only[h0Q,List.cons.injEq]at h1;obtain⟨rfl,rfl⟩:=h1;by_cases k1:c=⟨#[]⟩
    ·simp -implicitDefEqProofs only[go_sem,b0j,List.headD_cons,hil,k1];exact fun _ _=>rfl
    by_cases k2:c=⟨#[105,110,116]⟩
    ·simp -implicitDefEqProofs only[go_sem,b0j,List.headD_cons,hil,k2];exact fun _ _=>⟨fun _=>rfl,fun _=>rfl⟩
    ·have k3:c=⟨#[98,111,111,108]⟩:=by
      rcases hc with h | h | h
      ·exact absurd h k2
      ·exact h
      ·exact absurd h k1
     simp -implicitDefEqProofs only[go_sem,b0j,List.headD_cons,hil,k3];exact fun _ _=>⟨fun _=>⟨fun _=>rfl,fun _=>rfl⟩,fun _=>rfl⟩
   ·rw[if_neg hc]at h3;have hok:s≠⟨#[]⟩∧s≠tI∧s≠tB:=by
     cases a with
     | nil =>
      simp only[h0Q,List.cons.injEq]at h1;rw[←h1.1];exact⟨fun h=>hc (.inr (.inr h)),fun h=>hc (.inl h),fun h=>hc (.inr (.inl h))⟩
     | cons y a =>
      simp only[h0a,List.cons.injEq]at h1;have hm:s∈p:=by rw[h1.2];simp
      have hok:=c2H p p2 s hm;simp only[b2L,h1B,Bool.not_eq_false',h1q]at hok;exact⟨hok.1,c7c hP hok.2⟩
    have k1:(s=⟨#[]⟩)=False:=eq_false hok.1;have k2:(s=⟨#[105,110,116]⟩)=False:=eq_false hok.2.1;have k3:(s=⟨#[98,111,111,108]⟩)=False:=eq_false hok.2.2;simp -implicitDefEqProofs only[go_sem,b0j,List.headD_cons,hil,k1,k2,k3];intro _ _;have hFs:=hF s;rw[g3j]at hFs;rw[List.findSome?_cons]at h3;refine hFs.calls (by simp -implicitDefEqProofs only[go_sem,b0j]) ?_;cases hf:(b0e u 0).find? (isM s n)with
    | some d =>
     rw[hf]at h3;simp only[h0D]at h3;have hd:=List.find?_some hf;simp only[isM,h0k,h0l]at hd;obtain⟨un,nd,l,q1,q2,q3,q4,q5,q6⟩:=hS.decl (h0Z hf);have hk2:(b0h l nd).kind=2:=by omega
     have hsg:=c3r l nd ((hS.gram l (h0j q3)).sign nd q4 hk2);obtain⟨t1,t2,t3⟩:=b2a q3;rw[q1,q2,b5Z q3,h0n]at h3;rw[h3];obtain⟨dk,do',dn,du,dd⟩:=d;simp only at q1 q2;subst q1 q2;simp -implicitDefEqProofs only[go_sem,b2F,h0L,h0A,Dl.enc,b0j,t1,t2,t3,b0p];refine sdq ?_;simp -implicitDefEqProofs only[go_sem,Dl.enc,b0j,t1,t2,t3,b0p];refine vPd hsg ?_;simp -implicitDefEqProofs only[go_sem,Dl.enc,b0j,t1,t2,t3,b0p,b6A]
    | none =>
     rw[hf]at h3;simp only at h3;simp -implicitDefEqProofs only[go_sem,b2F,h0y,h1f,Dl.zero,Dl.enc,b0j];refine(hB s).calls (by simp -implicitDefEqProofs only[go_sem,b0j]) ?_;rw[hnx];simp -implicitDefEqProofs only[go_sem];refine⟨(i+1,R),by simp,⟨⟨a++[s],by simp[h1],by simp;omega,fun h=>absurd h hc⟩,by simp only;rw[if_neg hc];exact h3⟩,⟨hw,rfl⟩,.inr ?_⟩;rw[b0m _ _ _ (b0v _),b0m _ _ _ (b1g _),b0m _ _ _ (b2I _),b0m _ _ _ (b0D _)];rfl
theorem c5U(u:List Un)(hP:PreU u)(t want:ByteArray)(hwt:want≠⟨#[]⟩):b0s env 163 [.agg (b5A u),.str t,.str want] (.bool (b4R u t want)):=by
 have hS:=hP.snd;have hB:=fun s=>d1Z u hS s
 have hdl:=b0H u 0 fun y hy=>(hS.fit.2 y hy).1
 have hul:=hS.fit.1;have hbl:=b1i (btU u) (b0e u 0);obtain⟨p,p1,p2,p3,p4⟩:=c0O hS hP.cls t;have hgo:b4R u t want=(decide (t=⟨#[]⟩) || (t::p).any fun x=>decide (x=want)):=by
  unfold b4R;rw[List.any_cons];show(_ || (_ || (b3M (BU u) t).1.any _))=_;rw[p1]
 rw[hgo];refine b0i (fn:=Tryz.f163) Tryz.func163 rfl (by rw[Tryz.ntmps163];simp) (by simp -implicitDefEqProofs only[go_sem];exact b1p _) rfl ?_;simp -implicitDefEqProofs only[go_sem,Tryz.f163,b0j];generalize hG:(decide (t=⟨#[]⟩) || (t::p).any fun x=>decide (x=want))=goal;refine b1u (α:=Nat×List ByteArray) (fun b=>⟨[(8,.int .i64 b.1),(7,.str (b.2.headD ⟨#[]⟩)),(6,.bool false),(3,.ptr 0 0),(1,.str t),(2,.str want)],[.cells (b5A u)],[]⟩)
  (fun b=>(∃ a,t::p=a++b.2∧b.1=a.length)∧goal=(decide (t=⟨#[]⟩) || b.2.any fun x=>decide (x=want))) (fun b=>b.2.length) (0,t::p) ?_ ⟨⟨[],rfl,rfl⟩,hG.symm⟩ ?_
 ·simp -implicitDefEqProofs only[go_sem,b0j,List.headD_cons];rfl
 ·rintro⟨i,R⟩ ⟨⟨a,h1,h2⟩,h3⟩;simp only at h1 h2 h3 ⊢;have p3':p.length≤(b0e u 0).length:=h1n p3 hbl;have hlen:=congrArg List.length h1;simp only[h0o,h0h]at hlen;have hwf:(⟨#[]⟩:ByteArray)≠want:=fun e=>hwt e.symm
  cases R with
  | nil =>
   rw[List.any_nil,Bool.or_false]at h3;simp -implicitDefEqProofs only[go_sem,b0j,List.headD_nil];have e1:¬ t=⟨#[]⟩→V.bool (decide ((⟨#[]⟩:ByteArray)=want))=V.bool goal:=fun h=>by
    rw[h3,h0z h,h0z hwf]
   have e2:t=⟨#[]⟩→V.bool true=V.bool goal:=fun h=>by rw[h3,h0H h]
   exact fun _ _=>⟨fun _=>⟨e1,e2⟩,fun _=>⟨e1,e2⟩⟩
  | cons s R =>
   have hnx:=c1W p2 p4 a s R h1;simp only[h0o]at hlen;have hil:((i:Int)≤(b0e u 0).length)=True:=by simp;omega
   have hw:IntKind.i64.wrap (↑i+1)=↑(i+1):=b0g (by omega);rw[List.any_cons]at h3;have hsn:¬ t=⟨#[]⟩→s≠⟨#[]⟩:=fun ht=>by
    cases a with
    | nil =>
     simp only[h0Q,List.cons.injEq]at h1;rw[←h1.1];exact ht
    | cons y a =>
     simp only[h0a,List.cons.injEq]at h1;have hok:=c2H p p2 s (by rw[h1.2];simp);simp only[b2L,h1B,Bool.not_eq_false',h1q]at hok;exact hok.1
   have e2:t=⟨#[]⟩→V.bool true=V.bool goal:=fun h=>by rw[h3,h0H h];rfl
   simp -implicitDefEqProofs only[go_sem,b0j,List.headD_cons,hil];refine fun _ _=>⟨fun g1=>⟨fun g2=>?_,fun g2=>⟨fun _=>?_,e2⟩⟩,fun g1=>⟨fun ht=>?_,e2⟩⟩
   ·have g2':¬ s=want:=by simpa using g2
    refine(hB s).calls (by simp -implicitDefEqProofs only[go_sem,b0j]) ?_;rw[hnx];simp -implicitDefEqProofs only[go_sem];rw[h0z g2',h0Y]at h3;exact⟨(i+1,R),by simp,⟨⟨a++[s],by simp[h1],by simp;omega⟩,h3⟩,hw,rfl⟩
   ·have g2':s=want:=by simpa using g2
    rw[h3,h0H g2'];simp
   ·exact absurd (by simpa using g1) (hsn ht)
theorem c6J{l:List Rw}(hg:gramL l){i:Nat}(hi:i<l.length)(hk:(b0h l i).kind≠2):f0I l i=match b9d l i with | some p=>c7y l p | none=>⟨#[]⟩:=by
 have hf:c7V l i=b9d l i:=by rw[b9W hg.ok hi,if_neg hk];rfl
 unfold f0I;rw[hf];cases hfr:b9d l i with
 | none=>rfl
 | some p =>
  obtain⟨_,_,h3⟩:=b5N hg hi hfr;simp only;unfold c7y;by_cases h7:(b0h l (b0h l p).parent.toNat).kind=7
  ·rw[if_pos ⟨h3,h7⟩,if_pos h7]
  ·rw[if_neg (fun h=>h7 h.2),if_neg h7]
def c0C(u:List Un)(k:Int×Int)(d:Nat):Prop:=b0s env 73 [.agg (b5A u),b6G k,.int .i64 d] (.str (tyS u k))
theorem b9A(u:List Un)(hP:PreU u){un i:Nat}{l:List Rw}(hl:(b0f u)[un]? = some l)(hi:i<l.length)(hk:(b0h l i).kind=4∨(b0h l i).kind=9∨(b0h l i).kind=10)(d:Nat)(hd:d≤9000)(hd1:1≤d)
  (hT:(b0h l i).kind=10→c0C u ((un:Int),((b1c l i 0:Nat):Int)) (d - 1)):b0s env 112 [.agg (b5A u),.agg [.int .i64 un,.int .i64 i],.int .i64 d] (.str (c9R (b0f u) (tyS u) ((un:Int),(i:Int)))):=by
 have hS:=hP.snd;have hg:=hS.gram l (h0j hl);obtain⟨t1,t2,t3⟩:=b2a hl;obtain⟨r1,r2,r3⟩:=b1l hi;have hle:=hg.least i hi;have hk1:0<(b0h l i).kids.length:=by rcases hk with hk | hk | hk <;> (rw[hk]at hle;simp[b0S]at hle;omega)
 have hkd:=hg.kid i hi 0 hk1;obtain⟨s1,s2,s3⟩:=b1l hkd.2.1;have hgk:=b2p hk1;have hk0:(0<((b0h l i).kids.length:Int))=True:=by simp;omega
 have hv:c9R (b0f u) (tyS u) ((un:Int),(i:Int))=if(b0h l i).kind=4 then(b0h l (b1c l i 0)).text else if(b0h l i).kind=10 then tyS u ((un:Int),((b1c l i 0:Nat):Int))else if(b0h l i).kind=9 then b4h l l.length (b1c l i 0)else⟨#[]⟩:=by
  unfold c9R;rw[b0R hl,b3B hl,b0R hl,b5Z hl,h0n]
 rw[hv];refine b0i (fn:=Tryz.f112) Tryz.func112 rfl (by rw[Tryz.ntmps112];simp) (by simp -implicitDefEqProofs only[go_sem];exact b1p _) rfl ?_;rcases hk with hk | hk | hk
 ·rw[if_pos hk];simp -implicitDefEqProofs only[go_sem,Tryz.f112,b0j];refine sdq ?_;simp -implicitDefEqProofs only[go_sem,b0j,t1,t2,t3,r1,r2,r3,s1,s2,s3,hgk,hk0,hk,b0p,b0J,Rw.enc];refine sdq ?_;simp -implicitDefEqProofs only[go_sem,b0j,t1,t2,t3,r1,r2,r3,s1,s2,s3,hgk,hk0,hk,b0p,b0J,Rw.enc]
 ·rw[if_neg (by omega),if_neg (by omega),if_pos hk];simp -implicitDefEqProofs only[go_sem,Tryz.f112,b0j];refine sdq ?_;simp -implicitDefEqProofs only[go_sem,b0j,t1,t2,t3,r1,r2,r3,s1,s2,s3,hgk,hk0,hk,b0p,b0J,Rw.enc];refine sdq ?_;simp -implicitDefEqProofs only[go_sem,b0j,t1,t2,t3,r1,r2,r3,s1,s2,s3,hgk,hk0,hk,b0p,b0J,Rw.enc];refine b0L (d6e l hg (b1c l i 0) hkd.2.1) (by simp -implicitDefEqProofs only[go_sem]) ?_;simp -implicitDefEqProofs only[go_sem]
 ·rw[if_neg (by omega),if_pos hk];simp -implicitDefEqProofs only[go_sem,Tryz.f112,b0j];refine sdq ?_;simp -implicitDefEqProofs only[go_sem,b0j,t1,t2,t3,r1,r2,r3,s1,s2,s3,hgk,hk0,hk,b0p,b0J,Rw.enc];refine sdq ?_;simp -implicitDefEqProofs only[go_sem,b0j,t1,t2,t3,r1,r2,r3,s1,s2,s3,hgk,hk0,hk,b0p,b0J,Rw.enc];have hw:IntKind.i64.wrap ((d:Int) - 1)=((d - 1:Nat):Int):=by rw[b1M (by omega) (by omega)];omega
  have hTT:=hT hk;unfold c0C b6G at hTT;rw[hw];refine b0L hTT (by simp -implicitDefEqProofs only[go_sem,b0j]) ?_;simp -implicitDefEqProofs only[go_sem]
theorem c8b(u:List Un)(hP:PreU u){μ:Int×Int→Nat}(hμ:∀ k,Val (b0f u) k→μ k<((b0f u).getD k.1.toNat []).length∧∀ q,tgt (b0f u) (b2v u) k q→Val (b0f u) q∧q.1=k.1∧μ q<μ k) :
  ∀ (m un i:Nat) (l:List Rw) (d:Nat),μ ((un:Int),(i:Int))<m→(b0f u)[un]? = some l→i<l.length→μ ((un:Int),(i:Int))<d→d≤9000→c0C u ((un:Int),(i:Int)) d:=by
 have hS:=hP.snd;have hT:=hS.ckT;intro m;induction m with
 | zero=>intro _ _ _ _ h;omega
 | succ m ih =>
  intro un i l d hm hl hi hd hd9;have hV:Val (b0f u) ((un:Int),(i:Int)):=⟨un,i,l,rfl,hl,hi⟩
  have hg:=hS.gram l (h0j hl);have ihq:∀ q,tgt (b0f u) (b2v u) ((un:Int),(i:Int)) q→c0C u q (d - 1):=fun q hq=>by
   obtain⟨⟨un',i',l',rfl,g1,g2⟩,g3,g4⟩:=(hμ _ hV).2 q hq;exact ih un' i' l' (d - 1) (by omega) g1 g2 (by omega) (by omega)
  obtain⟨t1,t2,t3⟩:=b2a hl;obtain⟨r1,r2,r3⟩:=b1l hi;have hd1:¬ (d:Int)≤0:=by omega
  have hdf:((d:Int)≤0)=False:=by simp;omega
  have hw:IntKind.i64.wrap ((d:Int) - 1)=((d - 1:Nat):Int):=by rw[b1M (by omega) (by omega)];omega
  have hkid:((b0h l i).kind=26∨(b0h l i).kind=21)→0<(b0h l i).kids.length∧b1c l i 0<l.length:=fun hk=>by
   have hle:=hg.least i hi;have hk1:0<(b0h l i).kids.length:=by rcases hk with hk | hk <;> (rw[hk]at hle;simp[b0S]at hle;omega)
   exact⟨hk1,(hg.kid i hi 0 hk1).2.1⟩
  unfold c0C b6G;rw[d2D hT hV];unfold tyB;rw[b0R hl,b3B hl,b5Z hl,h0n];refine b0i (fn:=Tryz.f73) Tryz.func73 rfl (by rw[Tryz.ntmps73];simp) (by simp -implicitDefEqProofs only[go_sem];exact b1p _) rfl ?_;by_cases h26:(b0h l i).kind=26
  ·obtain⟨k1,k2⟩:=hkid (.inl h26);have hgk:=b2p k1;have hk0:(0<((b0h l i).kids.length:Int))=True:=by simp;omega
   have hTk:=ihq _ (.inl ⟨by rw[b0R hl];exact .inr h26,rfl⟩);rw[b3B hl]at hTk;unfold c0C b6G at hTk;have hk:=h26;rw[if_neg (by omega),if_neg (by omega),if_neg (by omega),if_neg (by omega),if_neg (by omega),if_neg (by omega),if_neg (by omega),if_neg (by omega),if_pos h26];simp -implicitDefEqProofs only[go_sem,Tryz.f73,b0j,t1,t2,t3,r1,r2,r3,hdf,hk,b0p,Rw.enc];refine sdq ?_;simp -implicitDefEqProofs only[go_sem,b0j,t1,t2,t3,r1,r2,r3,hdf,hk,b0p,Rw.enc,hgk,hk0,hw,b0J];refine b0L hTk (by simp -implicitDefEqProofs only[go_sem,b0j]) ?_;simp -implicitDefEqProofs only[go_sem]
  by_cases h23:(b0h l i).kind=23
  ·have hC:=c7W l hg.ok i hi;rw[c6J hg hi (by omega)]at hC;have hk:=h23;rw[if_neg (by omega),if_neg (by omega),if_neg (by omega),if_neg (by omega),if_neg (by omega),if_neg (by omega),if_pos h23];simp -implicitDefEqProofs only[go_sem,Tryz.f73,b0j,t1,t2,t3,r1,r2,r3,hdf,hk,b0p,Rw.enc];refine hC.cq ?_;simp -implicitDefEqProofs only[go_sem];try(cases b9d l i <;> rfl)
  by_cases h20:(b0h l i).kind=20
  ·have hR:=b6l u hS hl hi;have hk:=h20;rw[if_neg (by omega),if_neg (by omega),if_neg (by omega),if_pos h20];simp -implicitDefEqProofs only[go_sem,Tryz.f73,b0j,t1,t2,t3,r1,r2,r3,hdf,hk,b0p,Rw.enc];refine hR.calls (by simp -implicitDefEqProofs only[go_sem,b0j]) ?_;cases hgm:b1t (b2v u) ((un:Int),(i:Int))with
   | none =>
    simp -implicitDefEqProofs only[go_sem,c1i,h1r,h1f,h0y]
   | some dd =>
    obtain⟨⟨un',i',l',rfl,g1,g2⟩,g3,_⟩:=hS.fnc hl h20 hgm;rw[b0R g1]at g3;have hsg:=c3r l' i' ((hS.gram l' (h0j g1)).sign i' g2 g3);obtain⟨u1,u2,u3⟩:=b2a g1;simp only;rw[b5Z g1,h0n];simp -implicitDefEqProofs only[go_sem,c1i,h0D,h0A,h0L];refine sdq ?_;simp -implicitDefEqProofs only[go_sem,b0j,u1,u2,u3,b0p];refine vPd hsg ?_;simp -implicitDefEqProofs only[go_sem,Sg.enc]
  by_cases h21:(b0h l i).kind=21
  ·obtain⟨k1,k2⟩:=hkid (.inr h21);have hgk:=b2p k1;have hk0:(0<((b0h l i).kids.length:Int))=True:=by simp;omega
   have hTk:=ihq _ (.inl ⟨by rw[b0R hl];exact .inl h21,rfl⟩);rw[b3B hl]at hTk;unfold c0C b6G at hTk;have hk:=h21;rw[if_neg (by omega),if_neg (by omega),if_neg (by omega),if_neg (by omega),if_pos h21];simp -implicitDefEqProofs only[go_sem,Tryz.f73,b0j,t1,t2,t3,r1,r2,r3,hdf,hk,b0p,Rw.enc];refine sdq ?_;simp -implicitDefEqProofs only[go_sem,b0j,t1,t2,t3,r1,r2,r3,hdf,hk,b0p,Rw.enc,hgk,hk0,hw,b0J];refine b0L hTk (by simp -implicitDefEqProofs only[go_sem,b0j]) ?_;simp -implicitDefEqProofs only[go_sem,b0j,t1,t2,t3,r1,r2,r3,hdf,hk,b0p,Rw.enc];have hM:=c0k u hP (tyS u ((un:Int),((b1c l i 0:Nat):Int))) (b0h l i).text;refine b0L hM (by simp -implicitDefEqProofs only[go_sem,b0j]) ?_;cases mtS u (rcT (tyS u ((un:Int),((b1c l i 0:Nat):Int))),(b0h l i).text)with
   | none =>
    simp -implicitDefEqProofs only[go_sem,b6A]
   | some s =>
    simp -implicitDefEqProofs only[go_sem,b6A,Sg.enc]
  by_cases h19:(b0h l i).kind=19
  ·have hR:=b6l u hS hl hi;have hk:=h19;rw[if_neg (by omega),if_neg (by omega),if_pos h19];simp -implicitDefEqProofs only[go_sem,Tryz.f73,b0j,t1,t2,t3,r1,r2,r3,hdf,hk,b0p,Rw.enc];refine hR.calls (by simp -implicitDefEqProofs only[go_sem,b0j]) ?_;cases hgm:b1t (b2v u) ((un:Int),(i:Int))with
   | none =>
    simp -implicitDefEqProofs only[go_sem,c1i,h1r,h1f,h0y]
   | some dd =>
    obtain⟨⟨un',i',l',rfl,g1,g2⟩,g3⟩:=hT.d19 _ _ hV (by rw[b0R hl];exact .inl h19) hgm;rw[b0R g1]at g3;have hDe:=b9A u hP g1 g2 g3 d hd9 (by omega) fun h10=>by
     have:=ihq _ (.inr ⟨by rw[b0R hl];exact h19,_,hgm,by rw[b0R g1];exact h10,rfl⟩);rw[b3B g1]at this;exact this
    simp only;simp -implicitDefEqProofs only[go_sem,c1i,h0D,h0A,h0L];refine hDe.calls (by simp -implicitDefEqProofs only[go_sem,b0j]) ?_;simp -implicitDefEqProofs only[go_sem]
  have hPl:=c3g (b0h l i);have e26:((b0h l i).kind=26)=False:=eq_false h26;have e23:((b0h l i).kind=23)=False:=eq_false h23;have e20:((b0h l i).kind=20)=False:=eq_false h20;have e21:((b0h l i).kind=21)=False:=eq_false h21;have e19:((b0h l i).kind=19)=False:=eq_false h19;simp -implicitDefEqProofs only[go_sem,Tryz.f73,b0j,t1,t2,t3,r1,r2,r3,hdf,e26,e23,e20,e21,e19,b0p,Rw.enc];refine hPl.calls (by simp -implicitDefEqProofs only[go_sem,Rw.enc]) ?_;simp -implicitDefEqProofs only[go_sem];congr 1;obtain⟨g1,g2⟩:=hg.rng i hi;have hwd:=hg.word i hi;unfold f6R;by_cases h17:(b0h l i).kind=17
  ·rw[if_pos h17,if_pos h17];rfl
  by_cases h18:(b0h l i).kind=18
  ·rw[if_neg h17,if_neg h17,if_pos h18,if_pos h18];rfl
  simp only[h17,h18,h19,h20,h21,if_false];by_cases h22:(b0h l i).kind=22
  ·rw[if_pos h22,if_pos h22]
  simp only[h22,h23,if_false];by_cases h24:(b0h l i).kind=24
  ·simp only[h24,if_true,true_or]
  by_cases h25:(b0h l i).kind=25
  ·simp only[h24,if_false,h25,if_true,or_true];rw[h25]at hwd;have ht:(b0h l i).text=⟨#[45]⟩∨(b0h l i).text=⟨#[33]⟩:=by simpa[b2s,b5X]using hwd
   rcases ht with ht | ht <;> (rw[ht];first | rfl | decide)
  simp only[h24,h25,if_false,or_self]
theorem d2z{u:List Un}(hu:b2D u){un:Nat}{l:List Rw}(hl:(b0f u)[un]? = some l):l.length≤1000:=by
 obtain⟨x,hx,rfl⟩:=h1p.1 (h0j hl);split
 ·simp
 ·rw[b0K];exact(hu.2 x hx).1
theorem c5Q(u:List Un)(hP:PreU u){un i:Nat}{l:List Rw}(hl:(b0f u)[un]? = some l)(hi:i<l.length):b0s env 73 [.agg (b5A u),.agg [.int .i64 un,.int .i64 i],.int .i64 9000] (.str (tyS u ((un:Int),(i:Int)))):=by
 obtain⟨μ,hμ⟩:=hP.snd.ckT.mu;have h1:=(hμ ((un:Int),(i:Int)) ⟨un,i,l,rfl,hl,hi⟩).1;rw[b5Z hl]at h1;have h2:=d2z hP.snd.fit hl;exact c8b u hP hμ _ un i l 9000 (Nat.lt_succ_self _) hl hi (by omega) (by omega)
theorem d3w(u:List Un)(hP:PreU u){un i:Nat}{l:List Rw}(hl:(b0f u)[un]? = some l)(hi:i<l.length){k:Nat}(hk:k<(b0h l i).kids.length):b0s env 164 [.agg (b5A u),.agg [.int .i64 un,.int .i64 i],.int .i64 k] (.str (tyS u ((un:Int),((b1c l i k:Nat):Int)))):=by
 have hg:=hP.snd.gram l (h0j hl);obtain⟨t1,t2,t3⟩:=b2a hl;obtain⟨r1,r2,r3⟩:=b1l hi;have hgk:=b3V hk;have hk0:((k:Int)<((b0h l i).kids.length:Int))=True:=by simp;omega
 have hk1:(0≤(k:Int))=True:=by simp
 have hR:=c5Q u hP hl (hg.kid i hi k hk).2.1;refine b0i (fn:=Tryz.f164) Tryz.func164 rfl (by rw[Tryz.ntmps164];simp) (by simp -implicitDefEqProofs only[go_sem];exact b1p _) rfl ?_;simp -implicitDefEqProofs only[go_sem,Tryz.f164,b0j];refine sdq ?_;simp -implicitDefEqProofs only[go_sem,b0j,t1,t2,t3,r1,r2,r3,hgk,hk0,hk1,b0p,b0J,Rw.enc];refine b0L hR (by simp -implicitDefEqProofs only[go_sem,b0j]) ?_;simp -implicitDefEqProofs only[go_sem]
theorem d2g(u:List Un)(hP:PreU u){un i:Nat}{l:List Rw}(hl:(b0f u)[un]? = some l)(hi:i<l.length)(fr:Nat)(hfr:fr≤1)(ps:List ByteArray)(hps:∀ p∈ps,p≠⟨#[]⟩):b0s env 166 [.agg (b5A u),.agg [.int .i64 un,.int .i64 i],.int .i64 fr,sl 9 (ps.map b0n)] (.bool (!f3r u un l i fr ps)):=by
 have hg:=hP.snd.gram l (h0j hl);have hkb:=(hg.ok.kids i hi).1;have hks:=hg.kid i hi;obtain⟨t1,t2,t3⟩:=b2a hl;obtain⟨r1,r2,r3⟩:=b1l hi;refine b0i (fn:=Tryz.f166) Tryz.func166 rfl (by rw[Tryz.ntmps166];simp) (by simp -implicitDefEqProofs only[go_sem];exact b1p _) rfl ?_;simp -implicitDefEqProofs only[go_sem,Tryz.f166,b0j];refine sdq ?_;simp -implicitDefEqProofs only[go_sem,b0j,t1,t2,t3,r1,r2,r3,b0p,Rw.enc];have hwr:IntKind.i64.wrap (((b0h l i).kids.length:Int) - fr)=((b0h l i).kids.length:Int) - fr:=b1M (by omega) (by omega);rw[hwr,f3r];refine fun _ _ _ _=>⟨fun hne=>?_,fun heq=>?_⟩
 ·have hne':¬ ((b0h l i).kids.length:Int) - fr=ps.length:=by simpa using hne
  rw[if_neg (by omega)];rfl
 have heq':((b0h l i).kids.length:Int) - fr=ps.length:=by simpa using heq
 rw[if_pos (by omega)];refine b1u (α:=Nat) (fun b=>⟨[(10,.int .i64 b),(9,.ptr 2 0),(8,.bool false),(5,.ptr 1 0),(4,.ptr 0 0),(0,.agg (b5A u)),(2,.int .i64 fr),(3,sl 9 (ps.map b0n))],[.cells (b5A u),.cells [.int .i64 un,.int .i64 i],.cells (b0h l i).enc],[]⟩)
  (fun b=>b≤ps.length∧d4z u un l i fr ps=d4z u un l i (fr+b) (ps.drop b)) (fun b=>ps.length - b) 0 ?_ ⟨by omega,rfl⟩ ?_
 ·simp -implicitDefEqProofs only[go_sem,b0j,Rw.enc];try rfl
 ·rintro b ⟨h1,h2⟩;by_cases hb:b<ps.length
  ·have hx:ps.drop b=ps.getD b ⟨#[]⟩::ps.drop (b+1):=by rw[List.drop_eq_getElem_cons hb];simp[h0c,hb]
   have hpx:ps.getD b ⟨#[]⟩≠⟨#[]⟩:=hps _ (by rw[h0c,h0f hb];exact List.getElem_mem hb);have hgx:(ps.map b0n).getD (b:Int).toNat []=b0n (ps.getD b ⟨#[]⟩):=by simp[h0c,hb]
   have hlt:((b:Int)<ps.length)=True:=by simp;omega
   have hw:IntKind.i64.wrap (↑b+1)=↑(b+1):=b0g (by omega);have hjl:fr+b<(b0h l i).kids.length:=by omega
   have hkd:=hks _ hjl;have hwk:IntKind.i64.wrap ((fr:Int)+b)=((fr+b:Nat):Int):=by rw[b1M (by omega) (by omega)];omega
   have hgk:=b3V hjl;have hk0:(((fr+b:Nat):Int)<((b0h l i).kids.length:Int))=True:=by simp only[eq_iff_iff,iff_true];omega
   have hk1:(0≤((fr+b:Nat):Int))=True:=by simp only[eq_iff_iff,iff_true];omega
   rw[hx,d4z]at h2;simp -implicitDefEqProofs only[go_sem,b0j,hlt,hgx,b0n,hwk,Rw.enc];refine fun _ _=>?_
   refine sdq ?_;simp -implicitDefEqProofs only[go_sem,b0j,t1,t2,t3,r1,r2,r3,b0p,Rw.enc,hwk,hgk,hk0,hk1,b0J];refine b0L (c5Q u hP hl hkd.2.1) (by simp -implicitDefEqProofs only[go_sem,b0j]) ?_;simp -implicitDefEqProofs only[go_sem,b0j,hlt,hgx,b0n];have hF:=c5U u hP (tyS u ((un:Int),((b1c l i (fr+b):Nat):Int))) (ps.getD b ⟨#[]⟩) hpx;cases hf:b4R u (tyS u ((un:Int),((b1c l i (fr+b):Nat):Int))) (ps.getD b ⟨#[]⟩)with
   | true =>
    rw[hf,if_pos rfl,h1s]at h2;rw[hf]at hF;refine b0L hF (by simp -implicitDefEqProofs only[go_sem,b0j]) ?_;simp -implicitDefEqProofs only[go_sem,b0j];exact⟨b+1,by omega,⟨by omega,h2⟩,hw⟩
   | false =>
    rw[hf,if_neg (by simp)]at h2;rw[hf]at hF;refine b0L hF (by simp -implicitDefEqProofs only[go_sem,b0j]) ?_;simp -implicitDefEqProofs only[go_sem,b0j];rw[h2];rfl
  ·have hlt:((b:Int)<ps.length)=False:=by simp;omega
   rw[List.drop_eq_nil_of_le (by omega),d4z]at h2;simp -implicitDefEqProofs only[go_sem,b0j,hlt];rw[h2];exact fun _ _=>rfl
theorem d2q(l:List Rw)(hg:gramL l)(i:Nat)(hi:i<l.length)(hk:(b0h l i).kind≠2):b0s env 165 [sl 48 (l.map Rw.enc),.int .i64 i] (.str (match b9d l i with | some f=>(b2W l f).result | none=>⟨#[]⟩)):=by
 have hr:=hg.ok;have hfn:c7V l i=b9d l i:=by rw[b9W hg.ok hi,if_neg hk];rfl
 rw[←hfn];refine b0i (fn:=Tryz.f165) Tryz.func165 rfl (by rw[Tryz.ntmps165];simp) (by simp -implicitDefEqProofs only[go_sem];exact b0T _) rfl ?_;simp -implicitDefEqProofs only[go_sem,Tryz.f165];refine b1u (α:=Int×Nat) (fun b=>⟨[(5,.int .i64 b.1),(4,.str ⟨#[]⟩),(0,sl 48 (l.map Rw.enc))],[],[]⟩)
  (fun b => -1≤b.1∧b.1+1<b.2∧b.1<l.length∧c7V l i=upF l b.2 b.1) (fun b=>(b.1+1).toNat) (i,l.length+1) ?_ ⟨by omega,by simp;omega,by simp;omega,rfl⟩ ?_
 ·simp -implicitDefEqProofs only[go_sem];try rfl
 ·rintro⟨k,f⟩ ⟨h1,h2,h3,h4⟩;simp only at h1 h2 h3 h4 ⊢;obtain⟨f,rfl⟩:∃ f',f=f'+1:=⟨f - 1,by omega⟩
  simp -implicitDefEqProofs only[go_sem];refine⟨fun hk=>?_,fun hk=>?_⟩
  ·obtain⟨k,rfl⟩:=h0X hk;have hkl:k<l.length:=by omega
   obtain⟨r1,r2,r3⟩:=b1l hkl;have hpk:=hr.par k hkl;rw[upF,if_neg (by omega),h0n]at h4;simp -implicitDefEqProofs only[go_sem,r1,r2,r3,Rw.enc];refine⟨fun g2=>?_,fun g2=>?_⟩
   ·have g2':¬ (b0h l k).kind=2:=by simpa using g2
    rw[if_neg g2']at h4;exact⟨((b0h l k).parent,f),by simp only;omega,⟨hpk.2,by simp only;omega,by simp only;omega,h4⟩,rfl⟩
   ·have g2':(b0h l k).kind=2:=by simpa using g2
    rw[if_pos g2']at h4;have hle:=hg.least k hkl;rw[g2']at hle;have hk1:1<(b0h l k).kids.length:=by simp[b0S]at hle;omega
    have hkd:=hg.kid k hkl 1 hk1;have hgk:=b2p hk1;obtain⟨s1,s2,s3⟩:=b1l hkd.2.1;have hk1':(1<((b0h l k).kids.length:Int))=True:=by simp;omega
    rw[h4];simp -implicitDefEqProofs only[go_sem,r1,r2,r3,Rw.enc,hgk,b0J,s1,s2,s3,hk1',b2W];exact fun h=>by omega
  ·have hk':k<0:=by omega
   rw[upF,if_pos hk']at h4;rw[h4];exact⟨fun _=>rfl,fun h=>absurd hk' h⟩
theorem c6C(u:List Un)(hP:PreU u){un i:Nat}{l:List Rw}(hl:(b0f u)[un]? = some l)(hi:i<l.length)(h24:(b0h l i).kind=24):b0s env 167 [.agg (b5A u),.agg [.int .i64 un,.int .i64 i],.str (b0h l i).text] (.bool (f4D u un l i)):=by
 have hg:=hP.snd.gram l (h0j hl);have hle:=hg.least i hi;rw[h24]at hle;have hk1:1<(b0h l i).kids.length:=by simp[b0S]at hle;omega
 have hK0:=d3w u hP hl hi (k:=0) (by omega);have hK1:=d3w u hP hl hi hk1;have hF:=fun t w h=>c5U u hP t w h
 unfold f4D c5i;generalize tyS u ((un:Int),((b1c l i 0:Nat):Int))=a at *;generalize tyS u ((un:Int),((b1c l i 1:Nat):Int))=b at *;generalize(b0h l i).text=tx;refine b0i (fn:=Tryz.f167) Tryz.func167 rfl (by rw[Tryz.ntmps167];simp) (by simp -implicitDefEqProofs only[go_sem];exact b1p _) rfl ?_;by_cases h1:tx=⟨#[61,61]⟩
 ·rw[if_pos h1];have e1:(tx=⟨#[61,61]⟩)=True:=eq_true h1;simp -implicitDefEqProofs only[go_sem,Tryz.f167,b0j];refine hK0.calls (by simp -implicitDefEqProofs only[go_sem,b0j];try rfl) ?_;simp -implicitDefEqProofs only[go_sem,b0j];refine hK1.calls (by simp -implicitDefEqProofs only[go_sem,b0j];try rfl) ?_;simp -implicitDefEqProofs only[go_sem,b0j,e1];generalize hR:(!plT a || (!plT b || (!decide (a=⟨#[]⟩) && (!decide (b=⟨#[]⟩) && !decide (a=b)))))=R;unfold plT tI tB at hR
  repeat' (first | apply And.intro | intro)
  all_goals(simp only[V.bool.injEq])
  all_goals(rw[←hR])
  all_goals(simp_all)
 ·rw[if_neg h1];have e1:(tx=⟨#[61,61]⟩)=False:=eq_false h1;by_cases h2:tx=⟨#[38]⟩∨tx=⟨#[124]⟩
  ·rw[if_pos h2];have hFa:=hF a tB (by decide);have hFb:=hF b tB (by decide);simp -implicitDefEqProofs only[go_sem,Tryz.f167,b0j];refine hK0.calls (by simp -implicitDefEqProofs only[go_sem,b0j];try rfl) ?_;simp -implicitDefEqProofs only[go_sem,b0j];refine hK1.calls (by simp -implicitDefEqProofs only[go_sem,b0j];try rfl) ?_;simp -implicitDefEqProofs only[go_sem,b0j,e1];cases hfa:b4R u a tB <;> rw[hfa]at hFa <;> cases hfb:b4R u b tB <;> rw[hfb]at hFb
   all_goals(refine⟨fun g1=>⟨fun g2=>?_,fun g2=>absurd h2 (fun h=>h.elim g1 g2)⟩,fun g1=>?_⟩)
   all_goals(
    refine hFa.calls (by simp -implicitDefEqProofs only[go_sem,b0j];try rfl) ?_;simp -implicitDefEqProofs only[go_sem,b0j];try(
     refine hFb.calls (by simp -implicitDefEqProofs only[go_sem,b0j];try rfl) ?_;simp -implicitDefEqProofs only[go_sem,b0j])
    try rfl)
  ·rw[if_neg h2];have hFa:=hF a tI (by decide);have hFb:=hF b tI (by decide);simp -implicitDefEqProofs only[go_sem,Tryz.f167,b0j];refine hK0.calls (by simp -implicitDefEqProofs only[go_sem,b0j];try rfl) ?_;simp -implicitDefEqProofs only[go_sem,b0j];refine hK1.calls (by simp -implicitDefEqProofs only[go_sem,b0j];try rfl) ?_;simp -implicitDefEqProofs only[go_sem,b0j,e1];cases hfa:b4R u a tI <;> rw[hfa]at hFa <;> cases hfb:b4R u b tI <;> rw[hfb]at hFb
   all_goals(refine⟨fun g1=>⟨fun g2=>absurd (Or.inr g2) h2,fun g2=>?_⟩,fun g1=>absurd (Or.inl g1) h2⟩)
   all_goals(
    refine hFa.calls (by simp -implicitDefEqProofs only[go_sem,b0j];try rfl) ?_;simp -implicitDefEqProofs only[go_sem,b0j];try(
     refine hFb.calls (by simp -implicitDefEqProofs only[go_sem,b0j];try rfl) ?_;simp -implicitDefEqProofs only[go_sem,b0j])
    try rfl)
end Go.Proofs.YtighfcpaplmaiaaGreatDoor
namespace Go.Vg
theorem d0t:∀ (n:Nd) (i m:Nat) (u:Int) (x:Ar) (z:Nd),(b0o n)[i]? = some z→z.kind=7→⟨2,⟨#[]⟩,z.text,u,((m+i:Nat):Int)⟩∈b1z n u m x:=by
 refine Nd.all fun k t g ks ih i m u x z=>?_
 have hs:∀ l:List Nd,(∀ y∈l,∀ (i m:Nat) (u:Int) (x:Ar) (z:Nd),(b0o y)[i]? = some z→z.kind=7→⟨2,⟨#[]⟩,z.text,u,((m+i:Nat):Int)⟩∈b1z y u m x)→∀ (i m:Nat) (u:Int) (x:Ar) (z:Nd),(b0k l)[i]? = some z→z.kind=7→⟨2,⟨#[]⟩,z.text,u,((m+i:Nat):Int)⟩∈b0V l u m x:=by
  intro l;induction l with
  | nil=>intro _ i m u x z h;simp[b0k]at h
  | cons y l ihl =>
   intro hx i m u x z hi hk;rw[b0k]at hi;rw[b0V];rcases h1A i (b0o y).length with hl | hl
   ·rw[h0e hl]at hi;exact h1e _ (hx y (by simp) i m u x z hi hk)
   ·rw[h0g hl]at hi;have:=ihl (fun w hw=>hx w (by simp[hw])) _ (m+(b0o y).length) u x z hi hk;rw[show m+(b0o y).length+(i - (b0o y).length)=m+i by omega]at this;exact h1j _ this
 intro hi hk;rw[b0o]at hi;rw[b1z];cases i with
 | zero =>
  simp at hi;subst hi;simp only[Nd.kind]at hk;subst hk;exact h1e _ (by simp[b2u,Nd.text])
 | succ i =>
  rw[g9Y]at hi;have:=hs ks ih i (m+1) u (b4b k t x) z hi hk;rw[show m+1+i=m+(i+1)by omega]at this;exact h1j _ this
theorem c9f(d:Dl):b5y d d=true:=by simp[b5y]
theorem c2R:∀ (l acc:List Dl),b2b acc l=none→∀ d∈l,c0Z d=true→acc.any (b5y d)=false∧l.find? (fun e=>c0Z e && b5y d e)=some d
 | [],_,_,d,hd,_=>by simp at hd
 | x::r,acc,h,d,hd,hc=>by
  rw[b2b]at h;by_cases hx:c0Z x=true
  ·rw[if_pos hx]at h;split at h
   ·cases h
   ·rename_i hn;have ih:=c2R r _ h;rcases h0C.1 hd with rfl | hd
    ·exact⟨by simpa using hn,by rw[h0W,hx,c9f];rfl⟩
    ·obtain⟨h1,h2⟩:=ih d hd hc;rw[List.any_append,h1B]at h1;have h3:b5y d x=false:=by simpa using h1.2
     exact⟨h1.1,by rw[h0W,h3,Bool.and_false];exact h2⟩
  ·rw[if_neg hx]at h;have hxf:c0Z x=false:=by simpa using hx
   rcases h0C.1 hd with rfl | hd
   ·exact absurd hc hx
   ·obtain⟨h1,h2⟩:=c2R r acc h d hd hc;exact⟨h1,by rw[h0W,hxf,h0U];exact h2⟩
end Go.Vg
namespace Go.Proofs.YtighfcpaplmaiaaGreatDoor
open Go Go.Vg Go.Proofs
theorem d6H{u:List Un}(hP:PreU u){un p:Nat}{l:List Rw}(hl:(b0f u)[un]? = some l)(hp:p<l.length)(h7:(b0h l p).kind=7):(b0h l (b1c l p 0)).text=nxB (BU u) (b0h l p).text:=by
 have hS:=hP.snd;obtain⟨x,hx,rfl⟩:=b2H hS.br hl;obtain⟨k,t,g,ks,e1,e2,e3,e4⟩:=b1I hp;have hd:=b8j u 0 un x _ hx (hS.br x (h0j hx)) (d0t x.tree p 0 ((0+un:Nat):Int) Ar.none _ e1 (by rw[e2]at h7;exact h7));rw[h0w,h0w]at hd;simp only[Nd.text]at hd;have ht:(b0h (b0u x.tree (-1) 0) p).text=t:=e3;rw[ht];have hrep:b2b [] (b0e u 0)=none:=by
  have:=hP.cls;unfold b3r at this;split at this
  ·simp at this
  ·assumption
 obtain⟨_,hf⟩:=c2R _ _ hrep _ hd rfl;have hfc:(b0e u 0).find? (b4N t)=some ⟨2,⟨#[]⟩,t,(un:Int),(p:Int)⟩:=by
  rw[←hf];refine b3K fun e he=>?_
  unfold b4N c0Z b5y;by_cases h2:e.kind=2
  ·have ho:e.owner=⟨#[]⟩:=by
    obtain⟨un1,x1,j1,y1,a1,g1,g2,g3,g4⟩:=b4J u 0 e he;unfold b2u at g4
    repeat' split at g4
    all_goals(first | (cases g4;rfl) | (cases g4;simp at h2) | cases g4)
   rw[h2,ho];simp[eq_comm]
  ·have:(2=e.kind)=False:=by simp;omega
   simp[h2,this]
 obtain⟨un',nd',l',q1,q2,q3,q4,q5,q6,q7⟩:=c7l hS hd rfl;simp only at q1 q2;have hu':un'=un:=by omega
 have hn':nd'=p:=by omega
 subst hu' hn';rw[hl]at q3;cases q3
 rw[q7,nxB,b1X,hfc];rfl
theorem f4L{u:List Un}(hP:PreU u){un i p:Nat}{l:List Rw}(hl:(b0f u)[un]? = some l)(hp:p<l.length)(hpr:(b0h l i).parent=(p:Int))(h7:(b0h l p).kind=7):d7P u l i=if(b0h l (b1c l p 0)).text=⟨#[]⟩then false else match mtS u (rcT (b0h l (b1c l p 0)).text,(b0h l i).text)with
  | some s => !g4T s (b2W l i)
  | none=>false:=by
 rw[d6H hP hl hp h7];have hc:c7y l i=(b0h l p).text:=by rw[c7y,hpr,h0n,if_pos h7]
 have hne:=b6V hP.snd hl hp (by omega);obtain⟨q,q1,q2,q3,q4⟩:=c0O hP.snd hP.cls (b0h l p).text;have hsu:b8W u (b0h l p).text=q:=q1;unfold d7P;rw[hc,if_neg hne,hsu];cases q with
 | nil =>
  rw[b4I]at q4;rw[if_pos q4]
 | cons x r =>
  obtain⟨rfl,g2,g3,_⟩:=q2;rw[if_neg g2];obtain⟨n1,n2⟩:=c7c hP g3;rw[rcT,if_neg (fun h=>h.elim n1 n2)];rfl
theorem c3W(u:List Un)(hP:PreU u){un i:Nat}{l:List Rw}(hl:(b0f u)[un]? = some l)(hi:i<l.length)(h2:(b0h l i).kind=2):b0s env 162 [.agg (b5A u),.agg [.int .i64 un,.int .i64 i]] (.bool (d7P u l i)):=by
 have hg:=hP.snd.gram l (h0j hl);obtain⟨t1,t2,t3⟩:=b2a hl;obtain⟨r1,r2,r3⟩:=b1l hi;have hi0:0<i:=by
  rcases Nat.eq_zero_or_pos i with rfl | h
  ·rw[hg.root hi]at h2;cases h2
  ·exact h
 obtain⟨p,hpr,hpi,_⟩:=hg.par i hi hi0;have hpl:p<l.length:=by omega
 obtain⟨s1,s2,s3⟩:=b1l hpl;have hsg:=c3r l i (hg.sign i hi h2);by_cases h7:(b0h l p).kind=7
 ·rw[f4L hP hl hpl hpr h7];have hle:=hg.least p hpl;rw[h7]at hle;have hk1:0<(b0h l p).kids.length:=by simp[b0S]at hle;omega
  have hkd:=hg.kid p hpl 0 hk1;have hgk:=b2p hk1;have hk0:(0<((b0h l p).kids.length:Int))=True:=by simp;omega
  obtain⟨v1,v2,v3⟩:=b1l hkd.2.1;have hM:=c0k u hP (b0h l (b1c l p 0)).text (b0h l i).text;refine b0i (fn:=Tryz.f162) Tryz.func162 rfl (by rw[Tryz.ntmps162];simp) (by simp -implicitDefEqProofs only[go_sem];exact b1p _) rfl ?_;simp -implicitDefEqProofs only[go_sem,Tryz.f162,b0j,t1,t2,t3,r1,r2,r3,hpr,s1,s2,s3,h7,hgk,hk0,v1,v2,v3,b0p,b0J,Rw.enc];refine⟨fun _=>⟨fun h0=>by rw[if_pos h0],fun h0=>?_⟩,fun h=>absurd h (by omega)⟩;rw[if_neg h0];refine sdq ?_;simp -implicitDefEqProofs only[go_sem,b0j,t1,t2,t3,r1,r2,r3,hpr,s1,s2,s3,h7,hgk,hk0,v1,v2,v3,b0p,b0J,Rw.enc];refine b0L hM (by simp -implicitDefEqProofs only[go_sem,b0j]) ?_;cases mtS u (rcT (b0h l (b1c l p 0)).text,(b0h l i).text)with
  | none =>
   simp -implicitDefEqProofs only[go_sem,b6A];refine sdq ?_;simp -implicitDefEqProofs only[go_sem,b0j,t1,t2,t3,r1,r2,r3,b0p,b0J,Rw.enc]
  | some s =>
   have hss:=c6n s (b2W l i);simp -implicitDefEqProofs only[go_sem,b6A,Sg.enc];refine sdq ?_;simp -implicitDefEqProofs only[go_sem,b0j,t1,t2,t3,r1,r2,r3,b0p,b0J,Rw.enc];refine vPd hsg ?_;simp -implicitDefEqProofs only[go_sem,Sg.enc];unfold Sg.enc at hss;refine vPd hss ?_;simp -implicitDefEqProofs only[go_sem,g4T]
 ·have hov:d7P u l i=false:=by
   have hc:c7y l i=⟨#[]⟩:=by rw[c7y,hpr,h0n,if_neg h7]
   unfold d7P;rw[if_pos hc]
  rw[hov];have e7:((b0h l p).kind=7)=False:=eq_false h7;refine b0i (fn:=Tryz.f162) Tryz.func162 rfl (by rw[Tryz.ntmps162];simp) (by simp -implicitDefEqProofs only[go_sem];exact b1p _) rfl ?_;simp -implicitDefEqProofs only[go_sem,Tryz.f162,b0j,t1,t2,t3,r1,r2,r3,hpr,s1,s2,s3,e7,b0p,Rw.enc]
theorem c6b(l:List Rw)(hg:gramL l):∀ (f i:Nat),i<l.length→l.length≤i+f→b0s env 168 [sl 48 (l.map Rw.enc),.int .i64 i] (.bool (b1B l f i)):=by
 intro f;induction f with
 | zero=>intro i hi hf;omega
 | succ f ih =>
  intro i hi hf;obtain⟨r1,r2,r3⟩:=b1l hi;refine b0i (fn:=Tryz.f168) Tryz.func168 rfl (by rw[Tryz.ntmps168];simp) (by simp -implicitDefEqProofs only[go_sem];exact b0T _) rfl ?_;by_cases hc:(b0h l i).kind=17∨(b0h l i).kind=18∨(b0h l i).kind=24∨(b0h l i).kind=25∨(b0h l i).kind=26
  ·have hc2:=hc;have hcon:b1B l (f+1) i=(b0h l i).kids.all fun k=>b1B l f k:=by rw[b1B,h0H hc,h0S]
   rcases hc2 with h | h | h | h | h
   all_goals(
    simp -implicitDefEqProofs only[go_sem,Tryz.f168,r1,r2,r3,h,Rw.enc])
   all_goals(
    have hkd:=hg.kid i hi;rw[hcon];have hki:∀ j,j<(b0h l i).kids.length→b1c l i j=(b0h l i).kids.getD j 0:=fun _ _=>rfl
    have hkg:∀ j,j<(b0h l i).kids.length→((b0h l i).kids.map b0J).getD (j:Int).toNat []=[.int .i64 (b1c l i j)]:=fun j hj=>b3V hj
    have hkb:=(hg.ok.kids i hi).1;refine b1u (α:=Nat) (fun b=>⟨[(5,.int .i64 b),(4,.bool false),(0,sl 48 (l.map Rw.enc)),(1,.int .i64 i)],[],[]⟩)
     (fun b=>b≤(b0h l i).kids.length∧((b0h l i).kids.all fun k=>b1B l f k)=((b0h l i).kids.drop b).all fun k=>b1B l f k) (fun b=>(b0h l i).kids.length - b) 0 ?_ ⟨by omega,rfl⟩ ?_
    ·simp -implicitDefEqProofs only[go_sem];try rfl
    ·rintro b ⟨g1,g2⟩;by_cases hb:b<(b0h l i).kids.length
     ·have hx:(b0h l i).kids.drop b=b1c l i b::(b0h l i).kids.drop (b+1):=by rw[List.drop_eq_getElem_cons hb];simp[b1c,h0c,hb]
      have hlt:((b:Int)<((b0h l i).kids.length:Int))=True:=by simp;omega
      have hge:(0≤(b:Int))=True:=by simp
      have hw:IntKind.i64.wrap (↑b+1)=↑(b+1):=b0g (by omega);have hkd2:=hkd b hb;rw[hx,List.all_cons]at g2;simp -implicitDefEqProofs only[go_sem,r1,r2,r3,h,Rw.enc,hlt,hge,hkg b hb,b0J];refine fun _ _=>?_
      have hI:=ih _ hkd2.2.1 (by omega);cases hcx:b1B l f (b1c l i b)with
      | true =>
       rw[hcx]at hI g2;refine hI.cq ?_;simp -implicitDefEqProofs only[go_sem];exact⟨b+1,by omega,⟨by omega,by rw[g2];rfl⟩,hw⟩
      | false =>
       rw[hcx]at hI g2;refine hI.cq ?_;simp -implicitDefEqProofs only[go_sem];rw[g2];rfl
     ·have hlt:((b:Int)<((b0h l i).kids.length:Int))=False:=by simp;omega
      rw[List.drop_eq_nil_of_le (by omega)]at g2;simp -implicitDefEqProofs only[go_sem,r1,r2,r3,h,Rw.enc,hlt];rw[g2];exact fun _ _=>rfl)
  ·have hcon:b1B l (f+1) i=false:=by rw[b1B,h0z hc,h0U]
   rw[hcon];have e1:((b0h l i).kind=17)=False:=eq_false fun h=>hc (.inl h)
   have e2:((b0h l i).kind=18)=False:=eq_false fun h=>hc (.inr (.inl h))
   have e3:((b0h l i).kind=24)=False:=eq_false fun h=>hc (.inr (.inr (.inl h)))
   have e4:((b0h l i).kind=25)=False:=eq_false fun h=>hc (.inr (.inr (.inr (.inl h))))
   have e5:((b0h l i).kind=26)=False:=eq_false fun h=>hc (.inr (.inr (.inr (.inr h))))
   simp -implicitDefEqProofs only[go_sem,Tryz.f168,r1,r2,r3,e1,e2,e3,e4,e5,Rw.enc]
theorem c4S{u:List Un}(h:SndU u){un i:Nat}{l:List Rw}(hl:(b0f u)[un]? = some l)(hi:i<l.length)(hk:(b0h l i).kind=2):∀ p∈(b2W l i).params,p≠⟨#[]⟩:=by
 have hg:=h.gram l (h0j hl);have hle:=hg.least i hi;rw[hk]at hle;have hk0:0<(b0h l i).kids.length:=by simp[b0S]at hle;omega
 have hkd:=hg.kid i hi 0 hk0;have hf:=hg.fit i hi 0 hk0;rw[hk]at hf;simp[b3l]at hf;intro p hp;simp only[b2W,b6u,h1p]at hp;obtain⟨k,hk1,rfl⟩:=hp;obtain⟨j,hj,hje⟩:=List.mem_iff_getElem.1 hk1;have hkj:b1c l (b1c l i 0) j=k:=by rw[←hje];show(b0h l (b1c l i 0)).kids.getD j 0=_;rw[h0c,h0f hj];rfl
 have hf2:=hg.fit _ hkd.2.1 j hj;rw[hf,hkj]at hf2;simp[b3l]at hf2;have hkd2:=hg.kid _ hkd.2.1 j hj;rw[hkj]at hkd2;have hle2:=hg.least k hkd2.2.1;rw[hf2]at hle2;have hk2:0<(b0h l k).kids.length:=by simp[b0S]at hle2;omega
 have hkd3:=hg.kid k hkd2.2.1 0 hk2;have hf3:=hg.fit k hkd2.2.1 0 hk2;rw[hf2]at hf3;simp[b3l]at hf3;exact b6V h hl hkd3.2.1 (by omega)
theorem f4U{u:List Un}(h:SndU u){c n:ByteArray}{s:Sg}(hs:mtS u (c,n)=some s):∀ p∈s.params,p≠⟨#[]⟩:=by
 unfold mtS at hs;obtain⟨d,hd,rfl⟩:=h0p.1 hs;obtain⟨h1,h2⟩:=b4M hd;obtain⟨un,nd,l,q1,q2,q3,q4,q5,q6⟩:=h.decl h1;rw[q1,q2,b5Z q3,h0n];exact c4S h q3 q4 (by omega)
theorem c4g(u:List Un)(hP:PreU u){un i:Nat}{l:List Rw}(hl:(b0f u)[un]? = some l)(hi:i<l.length)(hk:(b0h l i).kind=4∨(b0h l i).kind=9∨(b0h l i).kind=10):b0s env 112 [.agg (b5A u),.agg [.int .i64 un,.int .i64 i],.int .i64 9000] (.str (c9R (b0f u) (tyS u) ((un:Int),(i:Int)))):=by
 have hg:=hP.snd.gram l (h0j hl);refine b9A u hP hl hi hk 9000 (by omega) (by omega) fun h10=>?_
 have hle:=hg.least i hi;rw[h10]at hle;have hkd:=hg.kid i hi 0 (by simp[b0S]at hle;omega);obtain⟨μ,hμ⟩:=hP.snd.ckT.mu;have h1:=(hμ ((un:Int),((b1c l i 0:Nat):Int)) ⟨un,_,l,rfl,hl,hkd.2.1⟩).1;rw[b5Z hl]at h1;have h2:=d2z hP.snd.fit hl;exact c8b u hP hμ _ un _ l (9000 - 1) (Nat.lt_succ_self _) hl hkd.2.1 (by omega) (by omega)
theorem d6B(u:List Un)(hP:PreU u){un i:Nat}{l:List Rw}(hl:(b0f u)[un]? = some l)(hi:i<l.length):b0s env 104 [.agg (b5A u),.agg [.int .i64 un,.int .i64 i]] (.bool (wrS u un l i)):=by
 have hS:=hP.snd;have hT:=hS.ckT;have hvk:Val (b0f u) ((un:Int),(i:Int)):=⟨un,i,l,rfl,hl,hi⟩
 have hg:=hS.gram l (h0j hl);have hle:=hg.least i hi;have hkd:=hg.kid i hi;have hwd:=hg.word i hi;have hR:=b6l u hS hl hi;obtain⟨t1,t2,t3⟩:=b2a hl;obtain⟨r1,r2,r3⟩:=b1l hi;have hK0:=fun h=>d3w u hP hl hi (k:=0) h
 have hF:=fun t w h=>c5U u hP t w h
 refine b0i (fn:=Tryz.f104) Tryz.func104 rfl (by rw[Tryz.ntmps104];simp) (by simp -implicitDefEqProofs only[go_sem];exact b1p _) rfl ?_;unfold wrS;generalize hty:tyS u ((un:Int),((b1c l i 0:Nat):Int))=k0 at *;simp only;by_cases h2:(b0h l i).kind=2
 ·rw[if_pos h2];have hO:=c3W u hP hl hi h2;simp -implicitDefEqProofs only[go_sem,Tryz.f104,b0j];refine sdq ?_;simp -implicitDefEqProofs only[go_sem,b0j,t1,t2,t3,r1,r2,r3,h2,b0p,Rw.enc];first | refine b0L hO (by simp -implicitDefEqProofs only[go_sem,b0j];try rfl) ?_ | refine hO.calls (by simp -implicitDefEqProofs only[go_sem,b0j];try rfl) ?_
  simp -implicitDefEqProofs only[go_sem]
 rw[if_neg h2];by_cases h11:(b0h l i).kind=11
 ·rw[if_pos h11];have hk1:0<(b0h l i).kids.length:=by rw[h11]at hle;simp[b0S]at hle;omega
  have hK0:=hK0 hk1;simp -implicitDefEqProofs only[go_sem,Tryz.f104,b0j];refine sdq ?_;simp -implicitDefEqProofs only[go_sem,b0j,t1,t2,t3,r1,r2,r3,h11,b0p,Rw.enc];first | refine b0L hR (by simp -implicitDefEqProofs only[go_sem,b0j];try rfl) ?_ | refine hR.calls (by simp -implicitDefEqProofs only[go_sem,b0j];try rfl) ?_
  cases hgm:b1t (b2v u) ((un:Int),(i:Int))with
  | none =>
   simp -implicitDefEqProofs only[go_sem,c1i,h1r,h1f,h0y];refine sdq ?_;simp -implicitDefEqProofs only[go_sem,b0j,t1,t2,t3,r1,r2,r3,b0p,Rw.enc]
  | some dd =>
   obtain⟨⟨un',i',l',rfl,g1,g2⟩,g3⟩:=hT.d19 _ _ hvk (by rw[b0R hl];exact .inr h11) hgm;rw[b0R g1]at g3;have hDe:=c4g u hP g1 g2 g3;obtain⟨u1,u2,u3⟩:=b2a g1;obtain⟨w1,w2,w3⟩:=b1l g2;simp only;rw[b0R g1];simp -implicitDefEqProofs only[go_sem,c1i,h0D,h0A,h0L];refine sdq ?_;simp -implicitDefEqProofs only[go_sem,b0j,u1,u2,u3,w1,w2,w3,b0p,Rw.enc];refine⟨fun h9=>by rw[if_pos h9],fun h9=>?_⟩;rw[if_neg h9];generalize c9R (b0f u) (tyS u) ((un':Int),(i':Int))=wt at *;refine hDe.calls (by simp -implicitDefEqProofs only[go_sem,b0j];try rfl) ?_;simp -implicitDefEqProofs only[go_sem,b0j];refine sdq ?_;simp -implicitDefEqProofs only[go_sem,b0j,t1,t2,t3,r1,r2,r3,b0p,Rw.enc];refine⟨fun hn=>?_,fun hn=>by rw[hn];rfl⟩;have hwt:wt≠⟨#[]⟩:=by simpa using hn
   have hFx:=hF k0 wt hwt;refine b0L hK0 (by simp -implicitDefEqProofs only[go_sem,b0j];try rfl) ?_;simp -implicitDefEqProofs only[go_sem,b0j];refine b0L hFx (by simp -implicitDefEqProofs only[go_sem,b0j];try rfl) ?_;simp -implicitDefEqProofs only[go_sem];rw[hn];rfl
 rw[if_neg h11];by_cases h12:(b0h l i).kind=12
 ·rw[if_pos h12];have hk1:0<(b0h l i).kids.length:=by rw[h12]at hle;simp[b0S]at hle;omega
  have hK0:=hK0 hk1;have hRe:=d2q l hg i hi (by omega);simp -implicitDefEqProofs only[go_sem,Tryz.f104,b0j];refine sdq ?_;simp -implicitDefEqProofs only[go_sem,b0j,t1,t2,t3,r1,r2,r3,h12,b0p,Rw.enc];refine sdq ?_;simp -implicitDefEqProofs only[go_sem,b0j,t1,t2,t3,r1,r2,r3,b0p,Rw.enc];refine vPd hRe ?_;cases hfr:b9d l i with
  | none =>
   simp -implicitDefEqProofs only[go_sem];refine sdq ?_;simp -implicitDefEqProofs only[go_sem,b0j,t1,t2,t3,r1,r2,r3,b0p,Rw.enc]
  | some p =>
   obtain⟨hp1,hp2,hp3⟩:=b5N hg hi hfr;have hne:=c0e hS hl hp1 hp2;have hFx:=hF k0 _ hne;have hne2:((b2W l p).result=⟨#[]⟩)=False:=eq_false hne;simp -implicitDefEqProofs only[go_sem,hne2];refine sdq ?_;simp -implicitDefEqProofs only[go_sem,b0j,t1,t2,t3,r1,r2,r3,b0p,Rw.enc];refine⟨fun _=>?_,fun h=>absurd h (by simp[hne])⟩;refine b0L hK0 (by simp -implicitDefEqProofs only[go_sem,b0j];try rfl) ?_;simp -implicitDefEqProofs only[go_sem,b0j];refine b0L hFx (by simp -implicitDefEqProofs only[go_sem,b0j];try rfl) ?_;simp -implicitDefEqProofs only[go_sem]
 rw[if_neg h12];by_cases h13:(b0h l i).kind=13∨(b0h l i).kind=15
 ·rw[if_pos h13];have hk1:0<(b0h l i).kids.length:=by rcases h13 with h13 | h13 <;> (rw[h13]at hle;simp[b0S]at hle;omega)
  have hK0:=hK0 hk1;have hFx:=hF k0 tB (by decide);rcases h13 with h13 | h13
  all_goals(
   simp -implicitDefEqProofs only[go_sem,Tryz.f104,b0j];refine sdq ?_;simp -implicitDefEqProofs only[go_sem,b0j,t1,t2,t3,r1,r2,r3,h13,b0p,Rw.enc];refine sdq ?_;simp -implicitDefEqProofs only[go_sem,b0j,t1,t2,t3,r1,r2,r3,b0p,Rw.enc];refine b0L hK0 (by simp -implicitDefEqProofs only[go_sem,b0j];try rfl) ?_;simp -implicitDefEqProofs only[go_sem,b0j];refine b0L hFx (by simp -implicitDefEqProofs only[go_sem,b0j];try rfl) ?_;simp -implicitDefEqProofs only[go_sem])
 rw[if_neg h13];rw[not_or]at h13;by_cases h20:(b0h l i).kind=20
 ·rw[if_pos h20];simp -implicitDefEqProofs only[go_sem,Tryz.f104,b0j];refine sdq ?_;simp -implicitDefEqProofs only[go_sem,b0j,t1,t2,t3,r1,r2,r3,h20,b0p,Rw.enc];first | refine b0L hR (by simp -implicitDefEqProofs only[go_sem,b0j];try rfl) ?_ | refine hR.calls (by simp -implicitDefEqProofs only[go_sem,b0j];try rfl) ?_
  cases hgm:b1t (b2v u) ((un:Int),(i:Int))with
  | none =>
   simp -implicitDefEqProofs only[go_sem,c1i,h1r,h1f,h0y]
  | some dd =>
   obtain⟨⟨un',i',l',rfl,g1,g2⟩,g3,_⟩:=hS.fnc hl h20 hgm;rw[b0R g1]at g3;have hsg:=c3r l' i' ((hS.gram l' (h0j g1)).sign i' g2 g3);have hA:=d2g u hP hl hi 0 (by omega) (b2W l' i').params (c4S hS g1 g2 g3);obtain⟨u1,u2,u3⟩:=b2a g1;simp only;rw[b5Z g1,h0n];simp -implicitDefEqProofs only[go_sem,c1i,h0D,h0A,h0L];refine sdq ?_;simp -implicitDefEqProofs only[go_sem,b0j,u1,u2,u3,b0p];refine vPd hsg ?_;simp -implicitDefEqProofs only[go_sem,Sg.enc];refine b0L hA (by simp -implicitDefEqProofs only[go_sem,b0j];try rfl) ?_;simp -implicitDefEqProofs only[go_sem];try simp
 rw[if_neg h20];by_cases h21:(b0h l i).kind=21
 ·rw[if_pos h21];have hk1:0<(b0h l i).kids.length:=by rw[h21]at hle;simp[b0S]at hle;omega
  have hK0:=hK0 hk1;have hM:=c0k u hP k0 (b0h l i).text;simp -implicitDefEqProofs only[go_sem,Tryz.f104,b0j];refine sdq ?_;simp -implicitDefEqProofs only[go_sem,b0j,t1,t2,t3,r1,r2,r3,h21,b0p,Rw.enc];first | refine b0L hK0 (by simp -implicitDefEqProofs only[go_sem,b0j];try rfl) ?_ | refine hK0.calls (by simp -implicitDefEqProofs only[go_sem,b0j];try rfl) ?_
  simp -implicitDefEqProofs only[go_sem,b0j];cases hms:mtS u (rcT k0,(b0h l i).text)with
  | none =>
   rw[hms]at hM;first | refine b0L hM (by simp -implicitDefEqProofs only[go_sem,b0j];try rfl) ?_ | refine hM.calls (by simp -implicitDefEqProofs only[go_sem,b0j];try rfl) ?_
   simp -implicitDefEqProofs only[go_sem,b6A];by_cases h0:k0=⟨#[]⟩
   ·rw[if_pos h0,h0H h0];rfl
   ·rw[if_neg h0,h0z h0];rfl
  | some s =>
   rw[hms]at hM;have hA:=d2g u hP hl hi 1 (by omega) s.params (f4U hS hms);have hne:k0≠⟨#[]⟩:=by
    intro h0;rw[h0,mtS,rcT,if_neg (by decide),c0y hS]at hms;cases hms
   rw[if_neg hne];first | refine b0L hM (by simp -implicitDefEqProofs only[go_sem,b0j];try rfl) ?_ | refine hM.calls (by simp -implicitDefEqProofs only[go_sem,b0j];try rfl) ?_
   simp -implicitDefEqProofs only[go_sem,b6A,Sg.enc];refine hA.calls (by simp -implicitDefEqProofs only[go_sem,b0j];try rfl) ?_;simp -implicitDefEqProofs only[go_sem];try simp
 rw[if_neg h21];by_cases h24:(b0h l i).kind=24
 ·rw[if_pos h24];have hO:=c6C u hP hl hi h24;simp -implicitDefEqProofs only[go_sem,Tryz.f104,b0j];refine sdq ?_;simp -implicitDefEqProofs only[go_sem,b0j,t1,t2,t3,r1,r2,r3,h24,b0p,Rw.enc];first | refine b0L hO (by simp -implicitDefEqProofs only[go_sem,b0j];try rfl) ?_ | refine hO.calls (by simp -implicitDefEqProofs only[go_sem,b0j];try rfl) ?_
  simp -implicitDefEqProofs only[go_sem]
 rw[if_neg h24];by_cases h25:(b0h l i).kind=25
 ·rw[if_pos h25];have hk1:0<(b0h l i).kids.length:=by rw[h25]at hle;simp[b0S]at hle;omega
  have hK0:=hK0 hk1;have hPl:=c3g (b0h l i);rw[h25]at hwd;have ht:(b0h l i).text=⟨#[45]⟩∨(b0h l i).text=⟨#[33]⟩:=by simpa[b2s,b5X]using hwd
  have hpe:f6R (b0h l i).kind (b0h l i).text=if(b0h l i).text=⟨#[33]⟩then tB else tI:=by
   rw[h25];rcases ht with ht | ht <;> (rw[ht];first | rfl | decide)
  rw[hpe]at hPl;have hFx:=hF k0 (if(b0h l i).text=⟨#[33]⟩then tB else tI) (by split <;> decide);simp -implicitDefEqProofs only[go_sem,Tryz.f104,b0j];refine sdq ?_;simp -implicitDefEqProofs only[go_sem,b0j,t1,t2,t3,r1,r2,r3,h25,b0p,Rw.enc];refine sdq ?_;simp -implicitDefEqProofs only[go_sem,b0j,t1,t2,t3,r1,r2,r3,b0p,Rw.enc];refine b0L hK0 (by simp -implicitDefEqProofs only[go_sem,b0j];try rfl) ?_;simp -implicitDefEqProofs only[go_sem,b0j];refine b0L hPl (by simp -implicitDefEqProofs only[go_sem,Rw.enc,h25];try rfl) ?_;simp -implicitDefEqProofs only[go_sem,b0j];refine b0L hFx (by simp -implicitDefEqProofs only[go_sem,b0j];try rfl) ?_;simp -implicitDefEqProofs only[go_sem]
 rw[if_neg h25];have e2:((b0h l i).kind=2)=False:=eq_false h2;have e11:((b0h l i).kind=11)=False:=eq_false h11;have e12:((b0h l i).kind=12)=False:=eq_false h12;have e13:((b0h l i).kind=13)=False:=eq_false h13.1;have e15:((b0h l i).kind=15)=False:=eq_false h13.2;have e20:((b0h l i).kind=20)=False:=eq_false h20;have e21:((b0h l i).kind=21)=False:=eq_false h21;have e24:((b0h l i).kind=24)=False:=eq_false h24;have e25:((b0h l i).kind=25)=False:=eq_false h25;simp -implicitDefEqProofs only[go_sem,Tryz.f104,b0j];refine sdq ?_;simp -implicitDefEqProofs only[go_sem,b0j,t1,t2,t3,r1,r2,r3,e2,e11,e12,e13,e15,e20,e21,e24,e25,b0p,Rw.enc]
def d1N(u:List Un):Int×Int×Int:=if ¬ (b9k u (b0e u 0)).1=0 then b9k u (b0e u 0)else match b0O (nmP u) (b0f u) 0 with
 | some p=>(4,p.1,p.2)
 | none=>f2z u
def d9Y(u:List Un):Int×Int×Int:=match c5h u 0 with
 | some i=>(17,i,0)
 | none=>d1N u
theorem d9G{u:List Un}(hu:b2D u):(d9Y u).1=(b4H u).1:=by
 unfold d9Y b4H;cases c5h u 0 with
 | some i=>rfl
 | none =>
  simp only;unfold d1N f1l;rw[d3D hu];by_cases h:(b3r u (b0e u 0)).1=0
  ·rw[if_neg (by simp[h]),if_neg (by simp[h])];rfl
  ·rw[if_pos h,if_pos h,d3D hu]
theorem d2u(u:List Un)(hP:PreU u){un i:Nat}{l:List Rw}(hl:(b0f u)[un]? = some l)(hi:i<l.length):b0s env 105 [.agg (b5A u),.agg [.int .i64 un,.int .i64 i]] (.bool (!d2t u un l i)):=by
 have hS:=hP.snd;have hT:=hS.ckT;have hvk:Val (b0f u) ((un:Int),(i:Int)):=⟨un,i,l,rfl,hl,hi⟩
 have hg:=hS.gram l (h0j hl);have hle:=hg.least i hi;have hkd:=hg.kid i hi;have hR:=b6l u hS hl hi;obtain⟨t1,t2,t3⟩:=b2a hl;obtain⟨r1,r2,r3⟩:=b1l hi;refine b0i (fn:=Tryz.f105) Tryz.func105 rfl (by rw[Tryz.ntmps105];simp) (by simp -implicitDefEqProofs only[go_sem];exact b1p _) rfl ?_;unfold d2t;by_cases h23:(b0h l i).kind=23
 ·rw[if_pos h23];have hC:=c7W l hg.ok i hi;rw[c6J hg hi (by omega)]at hC;simp -implicitDefEqProofs only[go_sem,Tryz.f105,b0j];refine sdq ?_;simp -implicitDefEqProofs only[go_sem,b0j,t1,t2,t3,r1,r2,r3,h23,b0p,Rw.enc];refine sdq ?_;simp -implicitDefEqProofs only[go_sem,b0j,t1,t2,t3,r1,r2,r3,b0p,Rw.enc];refine vPd hC ?_;simp -implicitDefEqProofs only[go_sem];cases b9d l i <;> simp
 rw[if_neg h23];by_cases h9:(b0h l i).kind=9
 ·rw[if_pos h9];have hk1:0<(b0h l i).kids.length:=by rw[h9]at hle;simp[b0S]at hle;omega
  have hgk:=b2p hk1;have hk0:(0<((b0h l i).kids.length:Int))=True:=by simp;omega
  have hC:=c6b l hg l.length (b1c l i 0) (hkd 0 hk1).2.1 (by omega);simp -implicitDefEqProofs only[go_sem,Tryz.f105,b0j];refine sdq ?_;simp -implicitDefEqProofs only[go_sem,b0j,t1,t2,t3,r1,r2,r3,h9,b0p,Rw.enc];refine sdq ?_;simp -implicitDefEqProofs only[go_sem,b0j,t1,t2,t3,r1,r2,r3,hgk,hk0,b0J,b0p,Rw.enc];refine vPd hC ?_;simp -implicitDefEqProofs only[go_sem];rw[Bool.not_not]
 rw[if_neg h9];by_cases h11:(b0h l i).kind=11
 ·rw[if_pos h11];simp -implicitDefEqProofs only[go_sem,Tryz.f105,b0j];refine sdq ?_;simp -implicitDefEqProofs only[go_sem,b0j,t1,t2,t3,r1,r2,r3,h11,b0p,Rw.enc];first | refine b0L hR (by simp -implicitDefEqProofs only[go_sem,b0j];try rfl) ?_ | refine hR.calls (by simp -implicitDefEqProofs only[go_sem,b0j];try rfl) ?_
  cases hgm:b1t (b2v u) ((un:Int),(i:Int))with
  | none =>
   simp -implicitDefEqProofs only[go_sem,c1i,h1r,h1f,h0y];refine sdq ?_;simp -implicitDefEqProofs only[go_sem,b0j,t1,t2,t3,r1,r2,r3,b0p,Rw.enc]
  | some dd =>
   obtain⟨⟨un',i',l',rfl,g1,g2⟩,g3⟩:=hT.d19 _ _ hvk (by rw[b0R hl];exact .inr h11) hgm;rw[b0R g1]at g3;obtain⟨u1,u2,u3⟩:=b2a g1;obtain⟨w1,w2,w3⟩:=b1l g2;simp only;rw[b0R g1];simp -implicitDefEqProofs only[go_sem,c1i,h0D,h0A,h0L];refine sdq ?_;simp -implicitDefEqProofs only[go_sem,b0j,u1,u2,u3,w1,w2,w3,b0p,Rw.enc]
 rw[if_neg h11];have e23:((b0h l i).kind=23)=False:=eq_false h23;have e9:((b0h l i).kind=9)=False:=eq_false h9;have e11:((b0h l i).kind=11)=False:=eq_false h11;simp -implicitDefEqProofs only[go_sem,Tryz.f105,b0j];refine sdq ?_;simp -implicitDefEqProofs only[go_sem,b0j,t1,t2,t3,r1,r2,r3,e23,e9,e11,b0p,Rw.enc]
theorem d4Z(u:List Un)(hu:b2D u)(hgp:b7O u):b0s env 71 [sl 70 (u.map Un.enc)] (c3E (d9Y u)):=by
 have hul:=hu.1;have hC:=d6Q u hu;refine b0i (fn:=Tryz.f71) Tryz.func71 rfl (by rw[Tryz.ntmps71];simp) (by simp -implicitDefEqProofs only[go_sem];exact b0v _) (by simp -implicitDefEqProofs only[go_sem,c3E]) ?_;simp -implicitDefEqProofs only[go_sem,Tryz.f71];refine b0l (β:=Unit) u (fun q _=>⟨[(4,.int .i64 q.length),(3,.ptr 0 0),(2,.int .i64 0),(0,sl 70 (u.map Un.enc))],[.cells [.int .i64 0,.int .i64 0]],[]⟩)
  (fun q r _=>c5h r q.length=c5h u 0) () ?_ rfl ?_ ?_
 ·simp -implicitDefEqProofs only[go_sem];try rfl
 ·intro _ he;have hsn:∀ x∈u,b1q x=true:=b6Z u 0 (by rw[←he];rfl);have hS:SndU u:=⟨hu,hsn⟩
  have hck:d9Y u=d1N u:=by unfold d9Y;rw[←he];rfl
  rw[hck];have hW:=d1Q u hS;simp -implicitDefEqProofs only[go_sem];refine fun _ _=>?_
  refine hC.cq ?_;unfold c3E;simp -implicitDefEqProofs only[go_sem];refine⟨fun hc=>?_,fun hc=>?_⟩
  ·have hc':¬ (b9k u (b0e u 0)).1=0:=by simpa using hc
   refine sdq ?_;simp -implicitDefEqProofs only[go_sem];rw[d1N,if_pos hc']
  ·have hc':(b9k u (b0e u 0)).1=0:=by simpa using hc
   refine hW.cq ?_;have htl:(b0f u).length=u.length:=by unfold b0f;rw[h0v]
   have htk:=b8e hu;rw[d1N,if_neg (by rw[hc'];simp)];simp -implicitDefEqProofs only[go_sem,b0j];refine b0l (β:=List VObj) (b0f u) (fun q z=>⟨[(8,.int .i64 q.length),(7,.ptr 2 0),(3,.ptr 0 0),(2,.int .i64 0),(0,sl 70 (u.map Un.enc))],.cells [.int .i64 0,.int .i64 0] :: .dead :: .cells (b5A u)::z,[]⟩)
    (fun q r z=>b0O (nmP u) r q.length=b0O (nmP u) (b0f u) 0) [] ?_ rfl ?_ ?_
   ·simp -implicitDefEqProofs only[go_sem,b0j];try rfl
   ·intro z he2;have hnmn:b0O (nmP u) (b0f u) 0=none:=by rw[←he2];rfl
    rw[hnmn];simp only;simp -implicitDefEqProofs only[go_sem,b0j,htl];refine fun _ _=>?_
    have hDb:=c8R u hu;refine hDb.cq ?_;simp -implicitDefEqProofs only[go_sem,b0j];rw[f2z,f0U];refine fun _ _=>?_
    cases hdd:b5h (b0f u) [] (b0e u 0)with
    | cons d ds =>
     have h0:(0<((d::ds).length:Int))=True:=by simp only[h0o,eq_iff_iff,iff_true];omega
     refine⟨fun _=>?_,fun h=>absurd (by rw[h0];trivial) h⟩;refine sdq ?_;simp -implicitDefEqProofs only[go_sem,h0,d8p,h0s];omega
    | nil =>
     refine⟨fun h=>absurd h (by simp),fun _=>?_⟩;have hUn:=c9S u hu;rw[c7o hS]at hUn;refine hUn.cq ?_;simp -implicitDefEqProofs only[go_sem,b0j];refine fun _ _=>?_
     cases huu:b6I (b4r u)with
     | cons d ds =>
      have h0:(0<((d::ds).length:Int))=True:=by simp only[h0o,eq_iff_iff,iff_true];omega
      refine⟨fun _=>?_,fun h=>absurd (by rw[h0];trivial) h⟩;refine sdq ?_;simp -implicitDefEqProofs only[go_sem,h0,atE,h0s];omega
     | nil =>
      refine⟨fun h=>absurd h (by simp),fun _=>?_⟩;have hP:PreU u:=⟨hS,by rw[←d3D hu];exact hc',hnmn,huu⟩
      simp only;rw[f8b];refine b0l (β:=List VObj) (b0f u) (fun q z=>⟨[(12,.int .i64 q.length),(7,.ptr 2 0),(3,.ptr 0 0),(2,.int .i64 0),(0,sl 70 (u.map Un.enc))],.cells [.int .i64 0,.int .i64 0] :: .dead :: .cells (b5A u)::z,[]⟩)
       (fun q r z=>b0O (wrP u) r q.length=b0O (wrP u) (b0f u) 0) z ?_ rfl ?_ ?_
      ·simp -implicitDefEqProofs only[go_sem,b0j];try rfl
      ·intro z he2;have hnmn2:b0O (wrP u) (b0f u) 0=none:=by rw[←he2];rfl
       rw[hnmn2];simp only;simp -implicitDefEqProofs only[go_sem,b0j,htl];refine fun _ _=>?_
       refine b0l (β:=List VObj) (b0f u) (fun q z=>⟨[(14,.int .i64 q.length),(7,.ptr 2 0),(3,.ptr 0 0),(2,.int .i64 0),(0,sl 70 (u.map Un.enc))],.cells [.int .i64 0,.int .i64 0] :: .dead :: .cells (b5A u)::z,[]⟩)
        (fun q r z=>b0O (miP u) r q.length=b0O (miP u) (b0f u) 0) z ?_ rfl ?_ ?_
       ·simp -implicitDefEqProofs only[go_sem,b0j];try rfl
       ·intro z he2;have hnmn3:b0O (miP u) (b0f u) 0=none:=by rw[←he2];rfl
        rw[hnmn3];simp only;simp -implicitDefEqProofs only[go_sem,b0j,htl]
       ·rintro q l r z hx he2;have hpl:(b0f u).length=q.length+1+r.length:=by rw[hx];simp;omega
        have hlt:((q.length:Int)<u.length)=True:=by simp;omega
        have hlt2:((q.length:Int)<(b0f u).length)=True:=by simp;omega
        have hge:(0≤(q.length:Int))=True:=by simp
        have hgx:((b0f u).map b0p).getD (q.length:Int).toNat []=b0p l:=by rw[hx];simp[h0c]
        have hw:IntKind.i64.wrap (↑q.length+1)=↑(q.length+1):=b0g (by omega);have hll:=(htk l (by rw[hx];simp)).len;have hul2:(b0f u)[q.length]? = some l:=by rw[hx];simp
        have he0:b0O (miP u) (l::r) q.length=match b2e (miP u q.length) l.length 0 with | some i=>some (q.length,i) | none=>b0O (miP u) r (q.length+1):=rfl
        rw[he0]at he2;simp -implicitDefEqProofs only[go_sem,b0j,hgx,hlt,hlt2,hge,b0p];refine fun _ _=>?_
        refine b0l (β:=List VObj) l (fun m z=>⟨[(15,.int .i64 m.length),(14,.int .i64 q.length),(7,.ptr 2 0),(3,.ptr 0 0),(2,.int .i64 0),(0,sl 70 (u.map Un.enc))],.cells [.int .i64 0,.int .i64 0] :: .dead :: .cells (b5A u)::z,[]⟩)
         (fun m post z=>(match b2e (miP u q.length) post.length m.length with | some i=>some (q.length,i) | none=>b0O (miP u) r (q.length+1))=b0O (miP u) (b0f u) 0) z ?_ he2 ?_ ?_
        ·simp -implicitDefEqProofs only[go_sem,b0j];try rfl
        ·intro z2 he3;rw[h0J,b2e]at he3;simp -implicitDefEqProofs only[go_sem,b0j,hgx,hlt,hlt2,hge,b0p];exact fun _ _=>⟨z2,he3,hw,b0r,.inl (h0q _)⟩
        ·rintro m x post z2 hx2 he3;have hpl2:l.length=m.length+1+post.length:=by rw[hx2];simp;omega
         have hml:m.length<l.length:=by omega
         have hltm:((m.length:Int)<l.length)=True:=by simp;omega
         have hwm:IntKind.i64.wrap (↑m.length+1)=↑(m.length+1):=b0g (by omega);have hfi:b2e (miP u q.length) (x::post).length m.length=if miP u q.length m.length=true then some m.length else b2e (miP u q.length) post.length (m.length+1):=rfl
         have hcl:=d2u u hP hul2 hml;have hpe:miP u q.length m.length=d2t u q.length l m.length:=by rw[miP,b7D hul2]
         rw[hfi,hpe]at he3;simp -implicitDefEqProofs only[go_sem,b0j,hgx,hlt,hlt2,hge,b0p,hltm];refine fun _ _=>?_
         cases hww:d2t u q.length l m.length with
         | true =>
          rw[hww]at hcl he3;rw[if_pos rfl]at he3;refine hcl.calls (by simp -implicitDefEqProofs only[go_sem,b0j]) ?_;simp -implicitDefEqProofs only[go_sem,b0j];rw[←he3]
         | false =>
          rw[hww]at hcl he3;rw[if_neg (by simp)]at he3;refine hcl.calls (by simp -implicitDefEqProofs only[go_sem,b0j]) ?_;simp -implicitDefEqProofs only[go_sem,b0j];exact⟨z2,he3,hwm,b0r,.inl (h0q _)⟩
      ·rintro q l r z hx he2;have hpl:(b0f u).length=q.length+1+r.length:=by rw[hx];simp;omega
       have hlt:((q.length:Int)<u.length)=True:=by simp;omega
       have hlt2:((q.length:Int)<(b0f u).length)=True:=by simp;omega
       have hge:(0≤(q.length:Int))=True:=by simp
       have hgx:((b0f u).map b0p).getD (q.length:Int).toNat []=b0p l:=by rw[hx];simp[h0c]
       have hw:IntKind.i64.wrap (↑q.length+1)=↑(q.length+1):=b0g (by omega);have hll:=(htk l (by rw[hx];simp)).len;have hul2:(b0f u)[q.length]? = some l:=by rw[hx];simp
       have he0:b0O (wrP u) (l::r) q.length=match b2e (wrP u q.length) l.length 0 with | some i=>some (q.length,i) | none=>b0O (wrP u) r (q.length+1):=rfl
       rw[he0]at he2;simp -implicitDefEqProofs only[go_sem,b0j,hgx,hlt,hlt2,hge,b0p];refine fun _ _=>?_
       refine b0l (β:=List VObj) l (fun m z=>⟨[(13,.int .i64 m.length),(12,.int .i64 q.length),(7,.ptr 2 0),(3,.ptr 0 0),(2,.int .i64 0),(0,sl 70 (u.map Un.enc))],.cells [.int .i64 0,.int .i64 0] :: .dead :: .cells (b5A u)::z,[]⟩)
        (fun m post z=>(match b2e (wrP u q.length) post.length m.length with | some i=>some (q.length,i) | none=>b0O (wrP u) r (q.length+1))=b0O (wrP u) (b0f u) 0) z ?_ he2 ?_ ?_
       ·simp -implicitDefEqProofs only[go_sem,b0j];try rfl
       ·intro z2 he3;rw[h0J,b2e]at he3;simp -implicitDefEqProofs only[go_sem,b0j,hgx,hlt,hlt2,hge,b0p];exact fun _ _=>⟨z2,he3,hw,b0r,.inl (h0q _)⟩
       ·rintro m x post z2 hx2 he3;have hpl2:l.length=m.length+1+post.length:=by rw[hx2];simp;omega
        have hml:m.length<l.length:=by omega
        have hltm:((m.length:Int)<l.length)=True:=by simp;omega
        have hwm:IntKind.i64.wrap (↑m.length+1)=↑(m.length+1):=b0g (by omega);have hfi:b2e (wrP u q.length) (x::post).length m.length=if wrP u q.length m.length=true then some m.length else b2e (wrP u q.length) post.length (m.length+1):=rfl
        have hcl:=d6B u hP hul2 hml;have hpe:wrP u q.length m.length=wrS u q.length l m.length:=by rw[wrP,b7D hul2]
        rw[hfi,hpe]at he3;simp -implicitDefEqProofs only[go_sem,b0j,hgx,hlt,hlt2,hge,b0p,hltm];refine fun _ _=>?_
        cases hww:wrS u q.length l m.length with
        | true =>
         rw[hww]at hcl he3;rw[if_pos rfl]at he3;refine hcl.calls (by simp -implicitDefEqProofs only[go_sem,b0j]) ?_;simp -implicitDefEqProofs only[go_sem,b0j];rw[←he3]
        | false =>
         rw[hww]at hcl he3;rw[if_neg (by simp)]at he3;refine hcl.calls (by simp -implicitDefEqProofs only[go_sem,b0j]) ?_;simp -implicitDefEqProofs only[go_sem,b0j];exact⟨z2,he3,hwm,b0r,.inl (h0q _)⟩
   ·rintro q l r z hx he2;have hpl:(b0f u).length=q.length+1+r.length:=by rw[hx];simp;omega
    have hlt:((q.length:Int)<u.length)=True:=by simp;omega
    have hlt2:((q.length:Int)<(b0f u).length)=True:=by simp;omega
    have hge:(0≤(q.length:Int))=True:=by simp
    have hgx:((b0f u).map b0p).getD (q.length:Int).toNat []=b0p l:=by rw[hx];simp[h0c]
    have hw:IntKind.i64.wrap (↑q.length+1)=↑(q.length+1):=b0g (by omega);have hll:=(htk l (by rw[hx];simp)).len;have hul2:(b0f u)[q.length]? = some l:=by rw[hx];simp
    have he0:b0O (nmP u) (l::r) q.length=match b2e (nmP u q.length) l.length 0 with | some i=>some (q.length,i) | none=>b0O (nmP u) r (q.length+1):=rfl
    rw[he0]at he2;have hgm:=hS.gram l (h0j hul2);simp -implicitDefEqProofs only[go_sem,b0j,hgx,hlt,hlt2,hge,b0p];refine fun _ _=>?_
    refine b0l (β:=List VObj) l (fun m z=>⟨[(9,.int .i64 m.length),(8,.int .i64 q.length),(7,.ptr 2 0),(3,.ptr 0 0),(2,.int .i64 0),(0,sl 70 (u.map Un.enc))],.cells [.int .i64 0,.int .i64 0] :: .dead :: .cells (b5A u)::z,[]⟩)
     (fun m post z=>(match b2e (nmP u q.length) post.length m.length with | some i=>some (q.length,i) | none=>b0O (nmP u) r (q.length+1))=b0O (nmP u) (b0f u) 0) z ?_ he2 ?_ ?_
    ·simp -implicitDefEqProofs only[go_sem,b0j];try rfl
    ·intro z2 he3;rw[h0J,b2e]at he3;simp -implicitDefEqProofs only[go_sem,b0j,hgx,hlt,hlt2,hge,b0p];exact fun _ _=>⟨z2,he3,hw,b0r,.inl (h0q _)⟩
    ·rintro m x post z2 hx2 he3;have hpl2:l.length=m.length+1+post.length:=by rw[hx2];simp;omega
     have hml:m.length<l.length:=by omega
     have hltm:((m.length:Int)<l.length)=True:=by simp;omega
     have hgem:(0≤(m.length:Int))=True:=by simp
     have hxr:b0h l m.length=x:=by rw[hx2];simp[b0h,h0c]
     have hgxm:(l.map Rw.enc).getD (m.length:Int).toNat []=x.enc:=by rw[b0z hml,hxr]
     have hwm:IntKind.i64.wrap (↑m.length+1)=↑(m.length+1):=b0g (by omega);have hfi:b2e (nmP u q.length) (x::post).length m.length=if nmP u q.length m.length=true then some m.length else b2e (nmP u q.length) post.length (m.length+1):=rfl
     have hnm:nmP u q.length m.length=(decide (x.kind=7) && (decide (x.text=tI) || decide (x.text=tB))):=by rw[nmP,b7D hul2,nmS,hxr]
     rw[hfi,hnm]at he3;simp -implicitDefEqProofs only[go_sem,b0j,hgx,hlt,hlt2,hge,b0p,hltm,hgem,hgxm,Rw.enc,b0d,b0a,b0c,b0b,g9Y,g9Z,h0a];refine fun _ _=>⟨fun h7=>⟨fun hI=>⟨fun hB=>?_,fun hB=>?_⟩,fun hI=>?_⟩,fun h7=>?_⟩
     ·rw[if_pos (by simp[h7,hB,tB])]at he3;rw[←he3]
     ·rw[if_neg (by simp[h7,hI,hB,tI,tB])]at he3;exact⟨_,he3,hwm,b0r,.inl (by simp)⟩
     ·rw[if_pos (by simp[h7,hI,tI])]at he3;rw[←he3]
     ·rw[if_neg (by simp[h7])]at he3;exact⟨_,he3,hwm,b0r,.inl (by simp)⟩
 ·rintro q x r _ hx he;have hpl:u.length=q.length+1+r.length:=by rw[hx];simp;omega
  have hgx:(u.map Un.enc).getD (q.length:Int).toNat []=x.enc:=by rw[hx];simp[h0c]
  have hlt:((q.length:Int)<u.length)=True:=by simp;omega
  have hw:IntKind.i64.wrap (↑q.length+1)=↑(q.length+1):=b0g (by omega);have hsx:=d5x x (hgp x (by rw[hx];simp));rw[c5h]at he;simp -implicitDefEqProofs only[go_sem,hgx,hlt];refine fun _ _=>?_
  refine hsx.cq ?_;simp -implicitDefEqProofs only[go_sem];refine⟨fun hs=>?_,fun hs=>?_⟩
  ·have hs':¬ b1q x=true:=by simpa using hs
   rw[if_neg hs']at he;have hck:d9Y u=(17,(q.length:Int),0):=by unfold d9Y;rw[←he]
   rw[hck];try simp only[c3E]
  ·have hs':b1q x=true:=by simpa using hs
   rw[if_pos hs']at he;exact⟨(),he,hw⟩
def tgF(u:List Un)(t:ByteArray)(o:List ByteArray)(x:ByteArray):List ByteArray:=match b1H u x t with
 | some d=>b9O o (b2z d)
 | none=>o
def tgQ(u:List Un)(t:ByteArray)(q:List ByteArray):List ByteArray:=q.foldl (tgF u t) []
def tgR(u:List Un)(un:Nat)(l:List Rw)(i:Nat):List ByteArray:=if(b0h l i).kind=20 then [(b0h l i).text]else if(b0h l i).kind=21 then tgQ u (b0h l i).text (b9O (b9y u (tyS u ((un:Int),((b1c l i 0:Nat):Int)))) (tyS u ((un:Int),((b1c l i 0:Nat):Int))))else []
theorem f0f(u:List Un)(t:ByteArray)(o:List ByteArray)(x:ByteArray):(tgF u t o x).length≤o.length+1:=by
 unfold tgF;split
 ·exact b7I _ _
 ·omega
theorem d2G(u:List Un)(t:ByteArray):∀ (q o:List ByteArray),(q.foldl (tgF u t) o).length≤o.length+q.length
 | [],o=>by simp
 | x::q,o=>by
  have h1:=d2G u t q (tgF u t o x);have h2:=f0f u t o x;rw[h0K,h0o];omega
theorem c4Z(u:List Un)(t:ByteArray):∀ (q o:List ByteArray),Asc o→Asc (q.foldl (tgF u t) o)∧∀ y,y∈q.foldl (tgF u t) o↔y∈o∨∃ x∈q,∃ d,b1H u x t=some d∧b2z d=y
 | [],o,h=>⟨h,by simp⟩
 | x::q,o,h=>by
  have hx:Asc (tgF u t o x)∧∀ y,y∈tgF u t o x↔y∈o∨∃ d,b1H u x t=some d∧b2z d=y:=by
   unfold tgF;cases hd:b1H u x t with
   | none=>exact⟨h,by simp⟩
   | some d=>exact⟨b8M _ _,fun y=>by simp only[b5g];simp[eq_comm]⟩
  obtain⟨h1,h2⟩:=c4Z u t q _ hx.1;refine⟨h1,fun y=>?_⟩;rw[h0K,h2 y,hx.2];simp[or_assoc]
theorem f5T{u:List Un}(hu:b2D u)(h0:(b4H u).1=0){un i:Nat}{l:List Rw}(hl:(b0f u)[un]? = some l)(hi:i<l.length):tgR u un l i=c8H u un i:=by
 have hg:=(b3H hu h0).gram l (h0j hl);rw[c5X hu h0 hl hi,c0T,tgR];by_cases h20:(b0h l i).kind=20
 ·rw[if_pos h20,if_pos h20]
 rw[if_neg h20,if_neg h20];by_cases h21:(b0h l i).kind=21
 ·rw[if_pos h21,if_pos h21];obtain⟨g1,g2,g3,_⟩:=c9e hu h0 hl hi h21;have hk0:b1c l i 0=i+1:=by
   obtain⟨x,hx,rfl⟩:=b2H (b3H hu h0).br hl;exact g7p hi g1
  rw[show((i:Int)+1)=((b1c l i 0:Nat):Int)by omega,g3];simp only[if_true];generalize tyS u ((un:Int),((b1c l i 0:Nat):Int))=c;obtain⟨f1,f2⟩:=c4Z u (b0h l i).text (b9O (b9y u c) c) [] .nil;refine b9x f1 (b6k (b7M _ [] (by simp)).1) fun y=>?_
  rw[tgQ,f2 y,(b1N _).mem_iff,c2D,(b7M _ [] (by simp)).2,c5w];simp only[List.not_mem_nil,false_or,b5g,h0C];constructor
  ·rintro⟨x,hx,d,h⟩;exact⟨x,hx.symm,d,h⟩
  ·rintro⟨x,hx,d,h⟩;exact⟨x,hx.symm,d,h⟩
 ·rw[if_neg h21,if_neg h21]
theorem d6T(u:List Un)(hu:b2D u)(hgp:b7O u):b0s env 38 [sl 70 (u.map Un.enc)] (.bool (decide ((b4H u).1=0))):=by
 have hC:=d4Z u hu hgp;refine b0i (fn:=Tryz.f38) Tryz.func38 rfl (by rw[Tryz.ntmps38];simp) (by simp -implicitDefEqProofs only[go_sem];exact b0v _) rfl ?_;simp -implicitDefEqProofs only[go_sem,Tryz.f38];refine hC.cq ?_;rw[←d9G hu];simp -implicitDefEqProofs only[go_sem,c3E]
theorem d7m{u:List Un}(hu:b2D u)(h0:(b4H u).1=0):PreU u:=by
 have hS:=b3H hu h0;have hC:=b7k h0;have hb:c5h u 0=none:=by
  cases h:c5h u 0 with
  | none=>rfl
  | some i=>unfold b4H at h0;rw[h]at h0;cases h0
 have h1:(f1l u).1=0:=by unfold b4H at h0;rw[hb]at h0;exact h0
 unfold f1l at h1;split at h1
 ·rename_i h;exact absurd h1 h
 rename_i hc;have hc':(b3r u (b0e u 0)).1=0:=by simpa using hc
 split at h1
 ·cases h1
 rename_i hn;unfold f2z at h1;split at h1
 ·cases h1
 split at h1
 ·cases h1
 rename_i hu2;exact⟨hS,hc',hn,hu2⟩
theorem c9a(u:List Un)(hP:PreU u){un i:Nat}{l:List Rw}(hl:(b0f u)[un]? = some l)(hi:i<l.length):b0s env 40 [.agg (b5A u),.agg [.int .i64 un,.int .i64 i]] (sl 9 ((tgR u un l i).map b0n)):=by
 have hS:=hP.snd;have hg:=hS.gram l (h0j hl);have hle:=hg.least i hi;obtain⟨t1,t2,t3⟩:=b2a hl;obtain⟨r1,r2,r3⟩:=b1l hi;refine b0i (fn:=Tryz.f40) Tryz.func40 rfl (by rw[Tryz.ntmps40];simp) (by simp -implicitDefEqProofs only[go_sem];exact b1p _) (by simp -implicitDefEqProofs only[go_sem]) ?_;unfold tgR;by_cases h20:(b0h l i).kind=20
 ·rw[if_pos h20];simp -implicitDefEqProofs only[go_sem,Tryz.f40,b0j];refine sdq ?_;simp -implicitDefEqProofs only[go_sem,b0j,t1,t2,t3,r1,r2,r3,h20,b0p,Rw.enc];rfl
 rw[if_neg h20];have e20:((b0h l i).kind=20)=False:=eq_false h20;by_cases h21:(b0h l i).kind=21
 ·rw[if_pos h21];have hk1:0<(b0h l i).kids.length:=by rw[h21]at hle;simp[b0S]at hle;omega
  have hkd:=hg.kid i hi 0 hk1;have hgk:=b2p hk1;have hk0:(0<((b0h l i).kids.length:Int))=True:=by simp;omega
  have hTy:=c5Q u hP hl hkd.2.1;have hRd:=d2n u hS.fit;generalize tyS u ((un:Int),((b1c l i 0:Nat):Int))=c at *;have hSu:=d1x u hS.fit c;have hSl:=c7A hS.fit c;have hIn:=b5M (b9y u c) c hSl;have hIl:=b7I (b9y u c) c;simp -implicitDefEqProofs only[go_sem,Tryz.f40,b0j];refine sdq ?_;simp -implicitDefEqProofs only[go_sem,b0j,t1,t2,t3,r1,r2,r3,h21,b0p,Rw.enc];refine sdq ?_;simp -implicitDefEqProofs only[go_sem,b0j,t1,t2,t3,r1,r2,r3,hgk,hk0,b0J,b0p,Rw.enc];refine b0L hTy (by simp -implicitDefEqProofs only[go_sem,b0j]) ?_;simp -implicitDefEqProofs only[go_sem,b0j];refine hRd.calls (by simp -implicitDefEqProofs only[go_sem,b0j]) ?_;have hlk:=fun y=>c6u u hS.fit y (b0h l i).text
  have hsd:=c0b hS.fit;simp -implicitDefEqProofs only[go_sem,b0j,b1A];refine hSu.calls (by simp -implicitDefEqProofs only[go_sem,b1A]) ?_;simp -implicitDefEqProofs only[go_sem,b0j,b1A];refine hIn.cq ?_;generalize hL:b9O (b9y u c) c=L at hIl;simp -implicitDefEqProofs only[go_sem];refine b0l (β:=List VObj) L (fun q z=>⟨[(10,.int .i64 q.length),(9,sl 9 ((tgQ u (b0h l i).text q).map b0n)),(8,sl 9 (L.map b0n)),(7,.ptr 3 0),(5,.ptr 2 0)],
   .dead :: .dead :: .cells (b0h l i).enc :: .cells (b1A u (b0e u 0))::z,[]⟩)
   (fun _ _ _=>True) [] ?_ trivial ?_ ?_
  ·simp -implicitDefEqProofs only[go_sem,b1A,Rw.enc];exact⟨⟨rfl,rfl⟩,h21.symm⟩
  ·intro _ _;simp -implicitDefEqProofs only[go_sem]
  ·rintro q x post z hx _;have hpl:L.length=q.length+1+post.length:=by rw[hx];simp;omega
   have hgx:(L.map b0n).getD (q.length:Int).toNat []=b0n x:=by rw[hx];simp[h0c]
   have hlt:((q.length:Int)<L.length)=True:=by simp;omega
   have hw:IntKind.i64.wrap (↑q.length+1)=↑(q.length+1):=b0g (by omega);have hql:=d2G u (b0h l i).text q [];have hsq:tgQ u (b0h l i).text (q++[x])=tgF u (b0h l i).text (tgQ u (b0h l i).text q) x:=by simp[tgQ]
   have hlx:=hlk x;simp -implicitDefEqProofs only[go_sem,hgx,hlt,b0n,b1A,Rw.enc];refine fun _ _=>?_
   unfold b1A at hlx;refine sdq ?_;simp -implicitDefEqProofs only[go_sem,hgx,hlt,b0n];refine vPd hlx ?_;cases hd:b1H u x (b0h l i).text with
   | none =>
    have hf:tgF u (b0h l i).text (tgQ u (b0h l i).text q) x=tgQ u (b0h l i).text q:=by rw[tgF,hd]
    simp -implicitDefEqProofs only[go_sem,b2F,h0y,h1f,Dl.zero,Dl.enc,b0d,b0a,b0c,b0b,g9Y,g9Z,h0a];exact⟨_,⟨hw,by rw[hsq,hf]⟩,b0r,.inl (by simp)⟩
   | some d =>
    have hf:tgF u (b0h l i).text (tgQ u (b0h l i).text q) x=b9O (tgQ u (b0h l i).text q) (b2z d):=by rw[tgF,hd]
    simp -implicitDefEqProofs only[go_sem,b2F,h0L,h0A,Dl.enc,b0d,b0a,b0c,b0b,g9Y,g9Z,h0a];have hds:=hsd d (b7Q hd).1;have h46:(#[46]:Array UInt8).size=1:=rfl;have hI:=b5M (tgQ u (b0h l i).text q) (b2z d) (by simp only[tgQ];simp only[h0J]at hql;omega);refine⟨by omega,by omega,?_⟩;refine hI.calls (by simp -implicitDefEqProofs only[go_sem,b2z]) ?_;simp -implicitDefEqProofs only[go_sem];exact⟨_,⟨hw,by rw[hsq,hf]⟩,b0r,.inl (by simp)⟩
 rw[if_neg h21];have e21:((b0h l i).kind=21)=False:=eq_false h21;simp -implicitDefEqProofs only[go_sem,Tryz.f40,b0j];refine sdq ?_;simp -implicitDefEqProofs only[go_sem,b0j,t1,t2,t3,r1,r2,r3,e20,e21,b0p,Rw.enc]
end Go.Proofs.YtighfcpaplmaiaaGreatDoor
