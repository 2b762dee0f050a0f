import Derived.Test.YtighfcpaplmaiaaGreatDoorUgP
set_option linter.unusedVariables false
set_option linter.unusedSimpArgs false
set_option maxRecDepth 20000
namespace Go.Proofs.YtighfcpaplmaiaaGreatDoor
open Go Go.Vg Go.Proofs
def c1y(e:Ed):List Ed→List Ed
 | []=>[e]
 | x::r=>if x=e then x::r else if b2Z e x=true then e::x::r else x::c1y e r
theorem c3f(e y:Ed):∀ l,y∈c1y e l↔y=e∨y∈l
 | []=>by simp[c1y]
 | x::r=>by
  rw[c1y];split
  ·rename_i h;subst h;simp
  ·split
   ·simp
   ·simp only[h0C,c3f e y r];constructor
    ·rintro(h | h | h) <;> simp[h]
    ·rintro(h | h | h) <;> simp[h]
def d7D(l:List Ed):Prop:=l.Pairwise fun a b=>b2Z a b=true
theorem c7M(e:Ed):∀ l,d7D l→d7D (c1y e l)
 | [],_=>by simp[c1y,d7D]
 | x::r,h=>by
  have hc:=h1x.1 h;rw[c1y];split
  ·exact h
  ·rename_i hne;split
   ·rename_i hlt;refine h1x.2 ⟨fun y hy=>?_,h⟩;rcases h0C.1 hy with rfl | hy
    ·exact hlt
    ·exact b6c hlt (hc.1 y hy)
   ·rename_i hnl;have hxe:b2Z x e=true:=by
     cases hs:b2Z x e with
     | true=>rfl
     | false=>exact absurd (b8Z hs (by simpa using hnl)) hne
    refine h1x.2 ⟨fun y hy=>?_,c7M e r hc.2⟩;rcases (c3f e y r).1 hy with rfl | hy
    ·exact hxe
    ·exact hc.1 y hy
theorem c7F(e:Ed):∀ l,(c1y e l).length≤l.length+1
 | []=>by simp[c1y]
 | x::r=>by
  have:=c7F e r;rw[c1y];split
  ·simp
  ·split <;> simp <;> omega
theorem d0N:∀ {l1 l2:List Ed},d7D l1→d7D l2→(∀ n,n∈l1↔n∈l2)→l1=l2
 | [],[],_,_,_=>rfl
 | [],b::s,_,_,h=>by have:=(h b).2 (by simp);cases this
 | a::r,[],_,_,h=>by have:=(h a).1 (by simp);cases this
 | a::r,b::s,h1,h2,h=>by
  have c1:=h1x.1 h1;have c2:=h1x.1 h2;have hab:a=b:=by
   rcases h0C.1 ((h a).1 (by simp))with e | e
   ·exact e
   ·rcases h0C.1 ((h b).2 (by simp))with e2 | e2
    ·exact e2.symm
    ·have:=b6c (c1.1 b e2) (c2.1 a e);rw[b5f]at this;cases this
  subst hab;have hn:∀ y∈r,y≠a:=fun y hy he=>by
   have:=c1.1 y hy;rw[he,b5f]at this;cases this
  have hn2:∀ y∈s,y≠a:=fun y hy he=>by
   have:=c2.1 y hy;rw[he,b5f]at this;cases this
  rw[d0N c1.2 c2.2 fun y=>?_];constructor
  ·intro hy;exact(h0C.1 ((h y).1 (List.mem_cons_of_mem _ hy))).resolve_left (hn y hy)
  ·intro hy;exact(h0C.1 ((h y).2 (List.mem_cons_of_mem _ hy))).resolve_left (hn2 y hy)
def b7F(e:Ed)(o:List Ed×Bool)(x:Ed):List Ed×Bool:=if o.2=true∨x=e then(o.1++[x],true)else if b2Z e x=true then(o.1++[e,x],true)else(o.1++[x],false)
theorem b4L(e:Ed):∀ (l o:List Ed),l.foldl (b7F e) (o,true)=(o++l,true)
 | [],o=>by simp
 | x::r,o=>by
  have:b7F e (o,true) x=(o++[x],true):=by unfold b7F;simp
  rw[h0K,this,b4L e r];simp
theorem d1l(e:Ed)(o:List Ed):b7F e (o,false) e=(o++[e],true):=by unfold b7F;simp
theorem d2v{e x:Ed}(o:List Ed)(h1:¬ x=e)(h2:b2Z e x=true):b7F e (o,false) x=(o++[e,x],true):=by unfold b7F;simp[h1,h2]
theorem d0P{e x:Ed}(o:List Ed)(h1:¬ x=e)(h2:b2Z e x=false):b7F e (o,false) x=(o++[x],false):=by unfold b7F;simp[h1,h2]
theorem d8d(e:Ed):∀ (l o:List Ed),(if(l.foldl (b7F e) (o,false)).2=true then(l.foldl (b7F e) (o,false)).1 else(l.foldl (b7F e) (o,false)).1++[e])=o++c1y e l
 | [],o=>by simp[c1y]
 | x::r,o=>by
  rw[h0K,c1y];by_cases h1:x=e
  ·subst h1;rw[d1l,b4L,if_pos rfl,if_pos rfl];simp
  ·rw[if_neg h1];cases h2:b2Z e x with
   | true =>
    rw[d2v o h1 h2,b4L,if_pos rfl,if_pos rfl];simp
   | false =>
    rw[d0P o h1 h2,d8d e r];simp
theorem c2Q(e:Ed):∀ (l:List Ed) (o:List Ed×Bool),(l.foldl (b7F e) o).1.length≤o.1.length+l.length+1
 | l,(o,true)=>by rw[b4L];simp
 | [],(o,false)=>by simp
 | x::r,(o,false)=>by
  rw[h0K];by_cases h1:x=e
  ·subst h1;rw[d1l,b4L];simp
  ·cases h2:b2Z e x with
   | true=>rw[d2v o h1 h2,b4L];simp;omega
   | false =>
    rw[d0P o h1 h2];have:=c2Q e r (o++[x],false);simp only[h0h,h0o,h0J]at this ⊢;omega
theorem gtB(a b:ByteArray):(!(ltB a b || decide (a=b)))=ltB b a:=by
 cases h:ltB b a with
 | true =>
  have h1:ltB a b=false:=by
   cases h2:ltB a b with
   | false=>rfl
   | true =>
    have:=b5E h h2;rw[b3f]at this;cases this
  have h3:¬ a=b:=by
   rintro rfl;rw[b3f]at h;cases h
  rw[h1,h0z h3];rfl
 | false =>
  cases h2:ltB a b with
  | true=>rfl
  | false =>
   rw[h0H (b7W h2 h)];rfl
theorem d0u(l:List Ed)(e:Ed)(hl:l.length≤1000000):b0s env 45 [sl 38 (l.map Ed.enc),.agg e.enc] (sl 38 ((c1y e l).map Ed.enc)):=by
 have hR:=d8d e l [];rw[h0Q]at hR;rw[←hR];refine b0i (fn:=Tryz.f45) Tryz.func45 rfl (by rw[Tryz.ntmps45];simp) (by simp -implicitDefEqProofs only[go_sem];simp[b4T]) (by simp -implicitDefEqProofs only[go_sem];simp[b4T]) ?_;simp -implicitDefEqProofs only[go_sem,Tryz.f45,Ed.enc];refine b0l (β:=Unit) l (fun pre _=>⟨[(7,.int .i64 pre.length),(6,.bool (pre.foldl (b7F e) ([],false)).2),(5,.slice (.arr 0) 38 ((pre.foldl (b7F e) ([],false)).1.map Ed.enc)),(0,sl 38 (l.map Ed.enc)),(3,.ptr 0 0)],[.cells e.enc],[(pre.foldl (b7F e) ([],false)).1.length]⟩) (fun _ _ _=>True) () ?_ trivial ?_ ?_
 ·simp -implicitDefEqProofs only[go_sem,Ed.enc];exact⟨rfl,rfl,rfl⟩
 ·intro _ _;have hml:=c2Q e l ([],false);generalize l.foldl (b7F e) ([],false)=p at hml ⊢;simp only[h0J]at hml;simp -implicitDefEqProofs only[go_sem,Ed.enc];refine fun _ _=>⟨fun h=>?_,fun h=>?_⟩
  ·have h':p.2=false:=by simpa using h
   exact⟨by omega,by rw[if_neg (by rw[h'];simp)];simp[Ed.enc]⟩
  ·have h':p.2=true:=by simpa using h
   rw[if_pos h']
 ·rintro pre x post _ hx _;have hpl:l.length=pre.length+1+post.length:=by rw[hx];simp;omega
  have hgx:(l.map Ed.enc).getD (pre.length:Int).toNat []=x.enc:=by rw[hx];simp[h0c]
  have hw:IntKind.i64.wrap (↑pre.length+1)=↑(pre.length+1):=b0g (by omega);have hlt:((pre.length:Int)<l.length)=True:=by simp;omega
  have hsn:(pre++[x]).foldl (b7F e) ([],false)=b7F e (pre.foldl (b7F e) ([],false)) x:=by simp
  have hml:=c2Q e pre ([],false);generalize pre.foldl (b7F e) ([],false)=p at hsn hml ⊢;simp only[h0J]at hml;simp -implicitDefEqProofs only[go_sem,hgx,hlt,Ed.enc];refine fun _ _=>?_
  have hfk:flatK Tryz.prog 38=some [0,0]:=by kernel_rfl
  refine sdq ?_;simp -implicitDefEqProofs only[go_sem,hgx,hlt,Ed.enc,hfk];refine⟨fun he=>?_,fun he=>?_⟩
  ·have hxe:x=e:=by
    obtain⟨x1,x2⟩:=x;obtain⟨y1,y2⟩:=e;simp only[h0k,h0l]at he;rw[he.1,he.2]
   have hp:b7F e p x=(p.1++[x],true):=by unfold b7F;rw[if_pos (.inr hxe)]
   refine sdq ?_;simp -implicitDefEqProofs only[go_sem,hgx,hlt,Ed.enc];exact⟨by omega,(),⟨hw,by rw[hsn,hp],by rw[hsn,hp];simp[Ed.enc]⟩,by rw[hsn,hp];simp⟩
  ·have hxe:¬ x=e:=by rintro rfl;simp at he
   cases hp2:p.2 with
   | true =>
    have hp:b7F e p x=(p.1++[x],true):=by unfold b7F;rw[if_pos (.inl hp2)]
    refine sdq ?_;simp -implicitDefEqProofs only[go_sem,hgx,hlt,Ed.enc];exact⟨by omega,(),⟨hw,by rw[hsn,hp],by rw[hsn,hp];simp[Ed.enc]⟩,by rw[hsn,hp];simp⟩
   | false =>
    refine sdq ?_;simp -implicitDefEqProofs only[go_sem,hgx,hlt,Ed.enc];have hlt1:b2Z e x=true→b7F e p x=(p.1++[e,x],true):=fun h=>by unfold b7F;rw[if_neg (by rw[hp2];simp[hxe]),if_pos h]
    have hgt1:b2Z e x=false→b7F e p x=(p.1++[x],false):=fun h=>by unfold b7F;rw[if_neg (by rw[hp2];simp[hxe]),if_neg (by rw[h];simp)]
    have hF:(!(Op.bytesLess x.fr.toList e.fr.toList || decide (x.fr=e.fr)))=ltB e.fr x.fr:=gtB _ _;have hT:(!(Op.bytesLess x.to.toList e.to.toList || decide (x.to=e.to)))=ltB e.to x.to:=gtB _ _;rw[hF,hT];refine⟨fun g1=>⟨fun g2=>⟨fun g3=>?_,fun g3=>?_⟩,fun g2=>?_⟩,fun g1=>?_⟩
    ·have hp:=hlt1 (by simp[b2Z,g1,g2,g3]);exact⟨by omega,by omega,(),⟨hw,by rw[hsn,hp],by rw[hsn,hp];simp[Ed.enc]⟩,by rw[hsn,hp];simp⟩
    ·have hp:=hgt1 (by simp[b2Z,g1,g3]);exact⟨by omega,(),⟨hw,by rw[hsn,hp],by rw[hsn,hp];simp[Ed.enc]⟩,by rw[hsn,hp];simp⟩
    ·have hp:=hgt1 (by simp[b2Z,g1];exact fun h=>absurd h.symm g2);exact⟨by omega,(),⟨hw,by rw[hsn,hp],by rw[hsn,hp];simp[Ed.enc]⟩,by rw[hsn,hp];simp⟩
    ·have hp:=hlt1 (by simp[b2Z,g1]);exact⟨by omega,by omega,(),⟨hw,by rw[hsn,hp],by rw[hsn,hp];simp[Ed.enc]⟩,by rw[hsn,hp];simp⟩
def grF(l:List Ed):List Ed:=l.foldl (fun o e=>c1y e o) []
theorem d6Y(l:List Ed)(e:Ed):grF (l++[e])=c1y e (grF l):=by simp[grF]
theorem c4N(l:List Ed):d7D (grF l)∧(∀ y,y∈grF l↔y∈l)∧(grF l).length≤l.length:=by
 have key:∀ (l o:List Ed),d7D o→d7D (l.foldl (fun o e=>c1y e o) o)∧(∀ y,y∈l.foldl (fun o e=>c1y e o) o↔y∈o∨y∈l)∧(l.foldl (fun o e=>c1y e o) o).length≤o.length+l.length:=by
  intro l;induction l with
  | nil=>intro o h;exact⟨h,by simp,by simp⟩
  | cons x r ih =>
   intro o h;obtain⟨h1,h2,h3⟩:=ih (c1y x o) (c7M x o h);refine⟨h1,fun y=>?_,?_⟩
   ·rw[h0K,h2 y,c3f,h0C];constructor
    ·rintro((h | h) | h) <;> simp[h]
    ·rintro(h | h | h) <;> simp[h]
   ·have:=c7F x o;rw[h0K,h0o];omega
 obtain⟨h1,h2,h3⟩:=key l [] .nil;exact⟨h1,fun y=>by rw[grF,h2 y];simp,by simpa[grF]using h3⟩
theorem d2A{u:List Un}(h0:(b4H u).1=0):grF (b1F u u.length)=b1b u:=by
 obtain⟨h1,h2,_⟩:=c4N (b1F u u.length);refine d0N h1 (d2p u) fun e=>?_
 rw[h2 e,b1b,if_pos h0,c8h,(b1T _).mem_iff]
theorem d3m{u:List Un}(hu:b2D u)(h0:(b4H u).1=0){un i:Nat}{l:List Rw}(hl:(b0f u)[un]? = some l)(hi:i<l.length):(tgR u un l i).map (Ed.mk ((c0V l i).getD ⟨#[]⟩))=b4g u un l i:=by
 rw[f5T hu h0 hl hi,c5X hu h0 hl hi,b4g];by_cases hk:(b0h l i).kind=20∨(b0h l i).kind=21
 ·rw[if_pos hk];obtain⟨f,hf⟩:=h0I.1 (d1o hu h0 hl hi hk);rw[hf];rfl
 ·rw[if_neg hk,c0T,if_neg (fun h=>hk (.inl h)),if_neg (fun h=>hk (.inr h))];rfl
theorem c3o(u:List Un)(hu:b2D u)(hgp:b7O u)(hE:(b1F u u.length).length≤1000000):b0s env 16 [sl 70 (u.map Un.enc)] (sl 38 ((b1b u).map Ed.enc)):=by
 have hSo:=d6T u hu hgp;have hul:=hu.1;refine b0i (fn:=Tryz.f16) Tryz.func16 rfl (by rw[Tryz.ntmps16];simp) (by simp -implicitDefEqProofs only[go_sem];exact b0v _) (by simp -implicitDefEqProofs only[go_sem];simp[b4T]) ?_;simp -implicitDefEqProofs only[go_sem,Tryz.f16];refine hSo.cq ?_;by_cases h0:(b4H u).1=0
 ·have e0:((b4H u).1=0)=True:=eq_true h0;have hP:=d7m hu h0;have hS:=hP.snd;have hW:=d1Q u hP.snd;have htl:(b0f u).length=u.length:=by unfold b0f;rw[h0v]
  have htk:=b8e hu;rw[←d2A h0];simp -implicitDefEqProofs only[go_sem,e0];refine hW.cq ?_;simp -implicitDefEqProofs only[go_sem,b0j];refine b0l (β:=List VObj) (b0f u) (fun q z=>⟨[(5,.int .i64 q.length),(4,sl 38 ((grF (b1F u q.length)).map Ed.enc)),(3,.ptr 0 0)],.cells (b5A u)::z,[]⟩)
   (fun _ _ _=>True) [] ?_ trivial ?_ ?_
  ·simp -implicitDefEqProofs only[go_sem,b0j];exact⟨rfl,rfl⟩
  ·intro z _;simp -implicitDefEqProofs only[go_sem,b0j,htl]
  ·rintro q l r z hx _;have hpl:(b0f u).length=q.length+1+r.length:=by rw[hx];simp;omega
   have hlt:((q.length:Int)<u.length)=True:=by simp;omega
   have hlt2:((q.length:Int)<(b0f u).length)=True:=by simp;omega
   have hge:(0≤(q.length:Int))=True:=by simp
   have hgx:((b0f u).map b0p).getD (q.length:Int).toNat []=b0p l:=by rw[hx];simp[h0c]
   have hw:IntKind.i64.wrap (↑q.length+1)=↑(q.length+1):=b0g (by omega);have hll:=(htk l (by rw[hx];simp)).len;have hul2:(b0f u)[q.length]? = some l:=by rw[hx];simp
   have hrw:b8N u q.length=l:=by
    obtain⟨x,hx2,hlx⟩:=b2H hS.br hul2;rw[b8N,hx2,hlx];rfl
   have hsn:b1F u (q++[l]).length=b1F u q.length++b1a u q.length l l.length:=by
    rw[h0h,List.length_singleton,b1F,hrw]
   have hEl:(b1F u (q++[l]).length).length≤1000000:=h1n (c7e u (by simp;omega)) hE;rw[hsn]at hEl;generalize hbase:b1F u q.length=base at *;simp -implicitDefEqProofs only[go_sem,b0j,hgx,hlt,hlt2,hge,b0p];refine fun _ _=>?_
   refine b0l (β:=List VObj) l (fun m z=>⟨[(6,.int .i64 m.length),(5,.int .i64 q.length),(4,sl 38 ((grF (base++b1a u q.length l m.length)).map Ed.enc)),(3,.ptr 0 0)],.cells (b5A u)::z,[]⟩)
    (fun _ _ _=>True) z ?_ trivial ?_ ?_
   ·simp -implicitDefEqProofs only[go_sem,b0j];exact⟨rfl,by rw[b1a,h0F]⟩
   ·intro z2 _;simp -implicitDefEqProofs only[go_sem,b0j,hgx,hlt,hlt2,hge,b0p];have hsn2:b1F u (q.length+1)=base++b1a u q.length l l.length:=by rw[←hsn,h0h,List.length_singleton]
    rw[hsn2];exact fun _ _=>⟨z2,⟨hw,rfl⟩,b0r,.inl (h0q _)⟩
   ·rintro m x post z2 hx2 _;have hpl2:l.length=m.length+1+post.length:=by rw[hx2];simp;omega
    have hml:m.length<l.length:=by omega
    have hltm:((m.length:Int)<l.length)=True:=by simp;omega
    have hwm:IntKind.i64.wrap (↑m.length+1)=↑(m.length+1):=b0g (by omega);have hTg:=c9a u hP hul2 hml;have hre:=d3m hu h0 hul2 hml;have hts:=d3a hu (h0j hul2);have hAr:=d0G l hts.1 m.length hml hts.2;have hsm:b1a u q.length l (m++[x]).length=b1a u q.length l m.length++b4g u q.length l m.length:=by rw[h0h,List.length_singleton,b1a]
    have hEm:(b1a u q.length l (m++[x]).length).length≤(b1a u q.length l l.length).length:=c4E u _ _ (by simp;omega);rw[hsm,←hre]at hEm;generalize tgR u q.length l m.length=T at hTg hre hEm;generalize(c0V l m.length).getD ⟨#[]⟩=f at hAr hre hEm;simp -implicitDefEqProofs only[go_sem,b0j,hgx,hlt,hlt2,hge,b0p,hltm];refine fun _ _=>hTg.calls (by simp -implicitDefEqProofs only[go_sem,b0j]) ?_
    simp -implicitDefEqProofs only[go_sem,b0j];have hll2:base.length+((b1a u q.length l m.length).length+T.length)≤1000000:=by
     simp only[h0h,h0v]at hEl hEm;omega
    refine b0l (β:=List VObj) T (fun j z=>⟨[(8,.int .i64 j.length),(7,sl 9 (T.map b0n)),(6,.int .i64 m.length),(5,.int .i64 q.length),(4,sl 38 ((grF (base++b1a u q.length l m.length++j.map (Ed.mk f))).map Ed.enc)),(3,.ptr 0 0)],.cells (b5A u)::z,[]⟩)
     (fun _ _ _=>True) z2 ?_ trivial ?_ ?_
    ·simp -implicitDefEqProofs only[go_sem,b0j];first | rfl | exact⟨rfl,by simp⟩
    ·intro z3 _;simp -implicitDefEqProofs only[go_sem,b0j,hgx,hlt,hlt2,hge,b0p];have hsm2:b1a u q.length l (m.length+1)=b1a u q.length l m.length++T.map (Ed.mk f):=by rw[b1a,hre]
     rw[hsm2,h0x];exact fun _ _=>⟨z3,⟨hwm,rfl⟩,b0r,.inl (h0q _)⟩
    ·rintro j t post3 z3 hx3 _;have hpl3:T.length=j.length+1+post3.length:=by rw[hx3];simp;omega
     have hltj:((j.length:Int)<T.length)=True:=by simp;omega
     have hgt:(T.map b0n).getD (j.length:Int).toNat []=b0n t:=by rw[hx3];simp[h0c]
     have hwj:IntKind.i64.wrap (↑j.length+1)=↑(j.length+1):=b0g (by omega);have hgl:=(c4N (base++b1a u q.length l m.length++j.map (Ed.mk f))).2.2;have hin:=d0u (grF (base++b1a u q.length l m.length++j.map (Ed.mk f))) ⟨f,t⟩ (by simp only[h0h,h0v]at hgl;omega);have hsj:base++b1a u q.length l m.length++(j++[t]).map (Ed.mk f)=(base++b1a u q.length l m.length++j.map (Ed.mk f))++[⟨f,t⟩]:=by simp
     rw[←d6Y,←hsj]at hin;simp -implicitDefEqProofs only[go_sem,b0j,hgx,hlt,hlt2,hge,b0p,hltm,hltj,hgt,b0n];refine fun _ _=>?_
     refine sdq ?_;simp -implicitDefEqProofs only[go_sem,b0j,hgx,hlt,hlt2,hge,b0p,hltm,hltj,hgt,b0n];refine vPd hAr ?_;simp -implicitDefEqProofs only[go_sem,b0j,hgx,hlt,hlt2,hge,b0p,hltm,hltj,hgt,b0n];refine b0L hin (by simp -implicitDefEqProofs only[go_sem,Ed.enc]) ?_;simp -implicitDefEqProofs only[go_sem];exact⟨z3,hwj,b0r,.inl (h0q _)⟩
 ·have e0:((b4H u).1=0)=False:=eq_false h0;have ht:b1b u=[]:=by unfold b1b;rw[if_neg h0]
  rw[ht];simp -implicitDefEqProofs only[go_sem,e0]
theorem c1d(u:List Un):b0s env 4 [sl 70 (u.map Un.enc)] (.bool true):=by
 have hAw:=d7o;refine b0i (fn:=Tryz.f4) Tryz.func4 rfl (by rw[Tryz.ntmps4];simp) (by simp -implicitDefEqProofs only[go_sem];exact b0v _) rfl ?_;simp -implicitDefEqProofs only[go_sem,Tryz.f4];refine hAw.calls (by rfl) ?_;simp -implicitDefEqProofs only[go_sem];first | refine b0L (f8u u) (by simp -implicitDefEqProofs only[go_sem]) ?_ | refine(f8u u).calls (by simp -implicitDefEqProofs only[go_sem]) ?_ | refine(f8u u).calls (by rfl) ?_
 cases hf:f3I u with
 | false =>
  simp -implicitDefEqProofs only[go_sem]
 | true =>
  have hfs:b6W u 3 160 6000=true:=by
   unfold f3I at hf;rw[h0k]at hf;exact hf.1
  have hfo:=(c2h (m:=160) (h0q _) hfs)
  have hT:=c5Y (m:=160) (h0q _) hfs;have hR:=c3o u hfo.1 hfo.2 (b7p (m:=160) (h0q _) hfs);have hSt:=d3s (b1b u) (b1b u);simp -implicitDefEqProofs only[go_sem];first | refine b0L hT (by simp -implicitDefEqProofs only[go_sem]) ?_ | refine hT.calls (by simp -implicitDefEqProofs only[go_sem]) ?_ | refine hT.calls (by rfl) ?_
  simp -implicitDefEqProofs only[go_sem];first | refine b0L hR (by simp -implicitDefEqProofs only[go_sem]) ?_ | refine hR.calls (by simp -implicitDefEqProofs only[go_sem]) ?_ | refine hR.calls (by rfl) ?_
  simp -implicitDefEqProofs only[go_sem];first | refine b0L hSt (by simp -implicitDefEqProofs only[go_sem]) ?_ | refine hSt.calls (by simp -implicitDefEqProofs only[go_sem]) ?_ | refine hSt.calls (by rfl) ?_
  simp -implicitDefEqProofs only[go_sem,decide_true,eq_self]
def psF(name:ByteArray)(p:List ByteArray×Bool)(e:Ed):List ByteArray×Bool:=if((decide (e.fr=name) || p.1.any fun x=>decide (x=e.fr)) && !(p.1.any fun x=>decide (x=e.to)))=true then(b9O p.1 e.to,true)else p
theorem c7r{o:List ByteArray}{t:ByteArray}:(o.any fun x=>decide (x=t))=true↔t∈o:=by
 simp[h1a]
theorem d1j{name:ByteArray}{o:List ByteArray}{e:Ed}:((decide (e.fr=name) || o.any fun x=>decide (x=e.fr)) && !(o.any fun x=>decide (x=e.to)))=true↔(e.fr=name∨e.fr∈o)∧¬ e.to∈o:=by
 rw[h0k,h1u,h0l,c7r,Bool.not_eq_true',←Bool.not_eq_true,c7r]
theorem c4f{l:List ByteArray}(h:Asc l):l.Nodup:=h.imp fun {a b} hab he=>by rw[he,b3f]at hab;cases hab
theorem f1s{o:List ByteArray}{t:ByteArray}(ho:Asc o)(ht:t ∉ o):(b9O o t).length=o.length+1:=by
 have h1:=b7I o t;have hn:(t::o).Nodup:=h1t.2 ⟨ht,c4f ho⟩;have h2:=b9G (T:=b9O o t) _ hn fun x hx=>(b5g o t x).2 (by rcases h0C.1 hx with h | h <;> simp[h])
 simp only[h0o]at h2;omega
theorem b7w(l0:List Ed)(name:ByteArray):∀ (l:List Ed) (p:List ByteArray×Bool),(∀ e∈l,e∈l0)→Asc p.1→(∀ x∈p.1,Rch (scN (b1Q l0)) name x)→(∀ x∈p.1,x∈l0.map Ed.to) →
  Asc (l.foldl (psF name) p).1∧(∀ x∈(l.foldl (psF name) p).1,Rch (scN (b1Q l0)) name x)∧(∀ x∈(l.foldl (psF name) p).1,x∈l0.map Ed.to)∧p.1.length≤(l.foldl (psF name) p).1.length ∧
  ((l.foldl (psF name) p).2=false→p.2=false∧l.foldl (psF name) p=p∧∀ e∈l,(e.fr=name∨e.fr∈p.1)→e.to∈p.1)∧(p.2=false→(l.foldl (psF name) p).2=true→p.1.length<(l.foldl (psF name) p).1.length)
 | [],p,_,h1,h2,h3=>⟨h1,h2,h3,h0q _,fun h=>⟨h,rfl,by simp⟩,fun h h'=>by rw[List.foldl_nil,h]at h';cases h'⟩
 | e::r,p,hl,h1,h2,h3=>by
  rw[h0K];rcases Classical.em ((e.fr=name∨e.fr∈p.1)∧¬ e.to∈p.1)with hc | hc
  ·have hp:psF name p e=(b9O p.1 e.to,true):=by rw[psF,if_pos (d1j.2 hc)]
   have hr:Rch (scN (b1Q l0)) name e.to:=by
    have hm:e.to∈scN (b1Q l0) e.fr:=by rw[b5U];exact h1p.2 ⟨e,List.mem_filter.2 ⟨hl e (by simp),by simp⟩,rfl⟩
    rcases hc.1 with h | h
    ·rw[h]at hm;exact .one hm
    ·exact .more (h2 _ h) hm
   obtain⟨g1,g2,g3,g4,g5,g6⟩:=b7w l0 name r (b9O p.1 e.to,true) (fun x hx=>hl x (by simp[hx])) (b8M _ _)
    (fun x hx=>((b5g _ _ _).1 hx).elim (h2 x) (fun h=>by rw[h];exact hr)) (fun x hx=>((b5g _ _ _).1 hx).elim (h3 x) (fun h=>by rw[h];exact h1p.2 ⟨e,hl e (by simp),rfl⟩))
   rw[hp];have hlen:=f1s h1 hc.2;simp only at g4;exact⟨g1,g2,g3,by omega,fun h=>absurd (g5 h).1 (by simp),fun _ _=>by omega⟩
  ·have hp:psF name p e=p:=by rw[psF,if_neg (fun h=>hc (d1j.1 h))]
   rw[hp];obtain⟨g1,g2,g3,g4,g5,g6⟩:=b7w l0 name r p (fun x hx=>hl x (by simp[hx])) h1 h2 h3;refine⟨g1,g2,g3,g4,fun h=>⟨(g5 h).1,(g5 h).2.1,fun y hy hf=>?_⟩,g6⟩;rcases h0C.1 hy with rfl | hy
   ·exact Classical.byContradiction fun hn=>hc ⟨hf,hn⟩
   ·exact(g5 h).2.2 y hy hf
theorem d1G{l:List Ed}{name:ByteArray}{o:List ByteArray}(h1:Asc o)(h2:∀ x∈o,Rch (scN (b1Q l)) name x)(h3:∀ e∈l,(e.fr=name∨e.fr∈o)→e.to∈o):o=b1E (b7q l name):=by
 refine b9x h1 (b6k (b2k l name).1) fun x=>?_
 rw[(b1N _).mem_iff,(b2k l name).2.1];constructor
 ·exact h2 x
 ·intro h;have hs:∀ a t,t∈scN (b1Q l) a→∃ e∈l,e.fr=a∧e.to=t:=fun a t ht=>by
   rw[b5U]at ht;obtain⟨e,he,rfl⟩:=h1p.1 ht;exact⟨e,(List.mem_filter.1 he).1,by simpa using(List.mem_filter.1 he).2,rfl⟩
  induction h with
  | one h =>
   obtain⟨e,he,hf,rfl⟩:=hs _ _ h;exact h3 e he (.inl hf)
  | more _ h ih =>
   obtain⟨e,he,hf,rfl⟩:=hs _ _ h;exact h3 e he (.inr (by rw[hf];exact ih))
theorem c1Y(l:List Ed)(hl:l.length≤1000000)(name:ByteArray):b0s env 48 [sl 38 (l.map Ed.enc),.str name] (sl 9 ((b1E (b7q l name)).map b0n)):=by
 refine b0i (fn:=Tryz.f48) Tryz.func48 rfl (by rw[Tryz.ntmps48];simp) (by simp -implicitDefEqProofs only[go_sem];simp[b4T]) (by simp -implicitDefEqProofs only[go_sem]) ?_;simp -implicitDefEqProofs only[go_sem,Tryz.f48];have hEl:∀ o:List ByteArray,Asc o→(∀ x∈o,x∈l.map Ed.to)→o.length≤l.length:=fun o h1 h2=>by
  have:=b9G _ (c4f h1) h2
  rwa [h0v]at this
 refine b1u (α:=List ByteArray×Bool) (fun b=>⟨[(6,.bool b.2),(5,sl 9 (b.1.map b0n)),(0,sl 38 (l.map Ed.enc)),(1,.str name)],[],[]⟩)
  (fun b=>(Asc b.1∧(∀ x∈b.1,Rch (scN (b1Q l)) name x)∧∀ x∈b.1,x∈l.map Ed.to)∧(b.2=false→∀ e∈l,(e.fr=name∨e.fr∈b.1)→e.to∈b.1)) (fun b=>if b.2=true then 1+l.length - b.1.length else 0) ([],true) ?_ ⟨⟨.nil,by simp,by simp⟩,by simp⟩ ?_
 ·simp -implicitDefEqProofs only[go_sem]
 ·rintro⟨o,m⟩ ⟨⟨h1,h2,h3⟩,h4⟩;simp only at h1 h2 h3 h4 ⊢;have hol:=hEl o h1 h3;cases m with
  | false =>
   have he:=d1G h1 h2 (h4 rfl);rw[←he];simp -implicitDefEqProofs only[go_sem]
  | true =>
   obtain⟨f1,f2,f3,f4,f5,f6⟩:=b7w l name l (o,false) (fun e he=>he) h1 h2 h3;simp only at f4 f6;simp -implicitDefEqProofs only[go_sem];refine b0l (β:=Unit) l (fun q _=>⟨[(7,.int .i64 q.length),(6,.bool (q.foldl (psF name) (o,false)).2),(5,sl 9 ((q.foldl (psF name) (o,false)).1.map b0n)),(0,sl 38 (l.map Ed.enc)),(1,.str name)],[],[]⟩)
    (fun _ _ _=>True) () ?_ trivial ?_ ?_
   ·simp -implicitDefEqProofs only[go_sem];exact⟨rfl,rfl,rfl⟩
   ·intro _ _;simp -implicitDefEqProofs only[go_sem];refine fun _ _=>⟨l.foldl (psF name) (o,false),?_,⟨⟨f1,f2,f3⟩,fun h e he hf=>?_⟩,rfl,rfl⟩
    ·have:=hEl _ f1 f3;cases hm:(l.foldl (psF name) (o,false)).2 with
     | true =>
      have:=f6 trivial hm;rw[if_pos rfl];omega
     | false=>rw[if_neg (by simp)];omega
    ·obtain⟨_,hq,hcl⟩:=f5 h;rw[hq]at hf ⊢;exact hcl e he hf
   ·rintro q e post _ hx _;have hpl:l.length=q.length+1+post.length:=by rw[hx];simp;omega
    have hgx:(l.map Ed.enc).getD (q.length:Int).toNat []=e.enc:=by rw[hx];simp[h0c]
    have hlt:((q.length:Int)<l.length)=True:=by simp;omega
    have hw:IntKind.i64.wrap (↑q.length+1)=↑(q.length+1):=b0g (by omega);obtain⟨g1,g2,g3,g4,_,_⟩:=b7w l name q (o,false) (fun y hy=>by rw[hx];simp[hy]) h1 h2 h3;have hsn:(q++[e]).foldl (psF name) (o,false)=psF name (q.foldl (psF name) (o,false)) e:=by simp
    have hgl:=hEl _ g1 g3;generalize q.foldl (psF name) (o,false)=p at hsn hgl ⊢;have hA:=c7L p.1 e.fr;have hB:=c7L p.1 e.to;have hI:=b5M p.1 e.to (by omega);simp -implicitDefEqProofs only[go_sem,hgx,hlt,Ed.enc];refine fun _ _=>⟨fun hn=>?_,fun hn=>?_⟩
    ·refine hA.cq ?_;cases hs:(p.1.any fun x=>decide (x=e.fr))with
     | false =>
      have hp:psF name p e=p:=by rw[psF,if_neg (by rw[hs,h0z hn];simp)]
      simp -implicitDefEqProofs only[go_sem,hgx,hlt,Ed.enc];exact⟨(),hw,by rw[hsn,hp],by rw[hsn,hp]⟩
     | true =>
      simp -implicitDefEqProofs only[go_sem,hgx,hlt,Ed.enc];refine hB.cq ?_;cases ht:(p.1.any fun x=>decide (x=e.to))with
      | true =>
       have hp:psF name p e=p:=by rw[psF,if_neg (by rw[ht];simp)]
       simp -implicitDefEqProofs only[go_sem,hgx,hlt,Ed.enc];exact⟨(),hw,by rw[hsn,hp],by rw[hsn,hp]⟩
      | false =>
       have hp:psF name p e=(b9O p.1 e.to,true):=by rw[psF,if_pos (by rw[ht,hs,Bool.or_true];rfl)]
       simp -implicitDefEqProofs only[go_sem,hgx,hlt,Ed.enc];refine hI.cq ?_;simp -implicitDefEqProofs only[go_sem,hgx,hlt,Ed.enc];exact⟨(),hw,by rw[hsn,hp],by rw[hsn,hp]⟩
    ·refine hB.cq ?_;cases ht:(p.1.any fun x=>decide (x=e.to))with
     | true =>
      have hp:psF name p e=p:=by rw[psF,if_neg (by rw[ht];simp)]
      simp -implicitDefEqProofs only[go_sem,hgx,hlt,Ed.enc];exact⟨(),hw,by rw[hsn,hp],by rw[hsn,hp]⟩
     | false =>
      have hp:psF name p e=(b9O p.1 e.to,true):=by rw[psF,if_pos (by rw[ht,h0H hn,Bool.true_or];rfl)]
      simp -implicitDefEqProofs only[go_sem,hgx,hlt,Ed.enc];refine hI.cq ?_;simp -implicitDefEqProofs only[go_sem,hgx,hlt,Ed.enc];exact⟨(),hw,by rw[hsn,hp],by rw[hsn,hp]⟩
theorem d4x(u:List Un)(hu:b2D u)(hgp:b7O u)(hE:(b1F u u.length).length≤1000000)(hgl:(b1b u).length≤1000000)(name:ByteArray):b0s env 18 [sl 70 (u.map Un.enc),.str name] (sl 9 ((b1E (b7q (b1b u) name)).map b0n)):=by
 have hG:=c3o u hu hgp hE;have hR:=c1Y (b1b u) hgl name;refine b0i (fn:=Tryz.f18) Tryz.func18 rfl (by rw[Tryz.ntmps18];simp) (by simp -implicitDefEqProofs only[go_sem];exact b0v _) (by simp -implicitDefEqProofs only[go_sem]) ?_;simp -implicitDefEqProofs only[go_sem,Tryz.f18];refine hG.cq ?_;simp -implicitDefEqProofs only[go_sem];refine hR.cq ?_;simp -implicitDefEqProofs only[go_sem]
def rcF(l:List Ed)(o:List ByteArray)(e:Ed):List ByteArray:=if((b1E (b7q l e.fr)).any fun x=>decide (x=e.fr))=true then b9O o e.fr else o
theorem b9B(l:List Ed):∀ (q:List Ed) (o:List ByteArray),Asc o→Asc (q.foldl (rcF l) o)∧(∀ x,x∈q.foldl (rcF l) o↔x∈o∨∃ e∈q,e.fr=x∧x∈b7q l x)∧(q.foldl (rcF l) o).length≤o.length+q.length
 | [],o,h=>⟨h,by simp,by simp⟩
 | e::q,o,h=>by
  have hx:Asc (rcF l o e)∧(∀ x,x∈rcF l o e↔x∈o∨(e.fr=x∧x∈b7q l x))∧(rcF l o e).length≤o.length+1:=by
   unfold rcF;by_cases hc:((b1E (b7q l e.fr)).any fun x=>decide (x=e.fr))=true
   ·rw[if_pos hc];rw[c7r,(b1N _).mem_iff]at hc;refine⟨b8M _ _,fun x=>?_,b7I _ _⟩;rw[b5g];constructor
    ·rintro(h | rfl)
     ·exact .inl h
     ·exact .inr ⟨rfl,hc⟩
    ·rintro(h | ⟨rfl,_⟩)
     ·exact .inl h
     ·exact .inr rfl
   ·rw[if_neg hc];rw[c7r,(b1N _).mem_iff]at hc;refine⟨h,fun x=>⟨.inl,fun h=>h.elim id fun⟨h1,h2⟩=>absurd (by rw[h1];exact h2) hc⟩,by omega⟩
  obtain⟨h1,h2,h3⟩:=b9B l q _ hx.1;have hxl:=hx.2.2;refine⟨h1,fun x=>?_,by rw[h0K,h0o];omega⟩;rw[h0K,h2 x,hx.2.1];simp only[h0C,exists_eq_or_imp,or_assoc]
theorem c4W(u:List Un)(hu:b2D u)(hgp:b7O u)(hE:(b1F u u.length).length≤1000000)(hgl:(b1b u).length≤1000000):b0s env 20 [sl 70 (u.map Un.enc)] (sl 9 ((c7U u (b1b u)).map b0n)):=by
 have hG:=c3o u hu hgp hE;have hfrom:∀ e∈b1b u,e.fr∈d7H u:=fun e he=>c9o hu he
 have heq:(b1b u).foldl (rcF (b1b u)) []=c7U u (b1b u):=by
  obtain⟨a1,a2,_⟩:=b9B (b1b u) (b1b u) [] .nil;obtain⟨b1,b2⟩:=c1k u (b1b u);refine b9x a1 b1 fun x=>?_
  rw[a2 x,b2 x];simp only[List.not_mem_nil,false_or];constructor
  ·rintro⟨e,he,rfl,hm⟩;exact⟨fun h=>(by rw[h]at he;cases he),hfrom e he,((b2k _ _).2.1 _).1 hm⟩
  ·rintro⟨_,_,hr⟩;have hm:=((b2k (b1b u) x).2.1 x).2 hr;have hh:∀ t,Rch (scN (b1Q (b1b u))) x t→∃ e∈b1b u,e.fr=x:=fun t ht=>by
    induction ht with
    | one h =>
     rw[b5U]at h;obtain⟨e,he,_⟩:=h1p.1 h;exact⟨e,(List.mem_filter.1 he).1,by simpa using(List.mem_filter.1 he).2⟩
    | more _ _ ih=>exact ih
   obtain⟨e,he,hf⟩:=hh x hr;exact⟨e,he,hf,hm⟩
 rw[←heq];generalize b1b u=l at *;refine b0i (fn:=Tryz.f20) Tryz.func20 rfl (by rw[Tryz.ntmps20];simp) (by simp -implicitDefEqProofs only[go_sem];exact b0v _) (by simp -implicitDefEqProofs only[go_sem]) ?_;simp -implicitDefEqProofs only[go_sem,Tryz.f20];refine hG.cq ?_;simp -implicitDefEqProofs only[go_sem];refine b0l (β:=Unit) l (fun q _=>⟨[(5,.int .i64 q.length),(4,sl 9 ((q.foldl (rcF l) []).map b0n)),(3,sl 38 (l.map Ed.enc))],[],[]⟩)
  (fun _ _ _=>True) () ?_ trivial ?_ ?_
 ·simp -implicitDefEqProofs only[go_sem];exact⟨rfl,rfl⟩
 ·intro _ _;simp -implicitDefEqProofs only[go_sem]
 ·rintro q e post _ hx _;have hpl:l.length=q.length+1+post.length:=by rw[hx];simp;omega
  have hgx:(l.map Ed.enc).getD (q.length:Int).toNat []=e.enc:=by rw[hx];simp[h0c]
  have hlt:((q.length:Int)<l.length)=True:=by simp;omega
  have hw:IntKind.i64.wrap (↑q.length+1)=↑(q.length+1):=b0g (by omega);have hsn:(q++[e]).foldl (rcF l) []=rcF l (q.foldl (rcF l) []) e:=by simp
  have hql:=(b9B l q [] .nil).2.2;have hR:=c1Y l hgl e.fr;have hH:=c7L (b1E (b7q l e.fr)) e.fr;generalize q.foldl (rcF l) []=o at hsn hql ⊢;simp only[h0J]at hql;have hI:=b5M o e.fr (by omega);simp -implicitDefEqProofs only[go_sem,hgx,hlt,Ed.enc];refine fun _ _=>?_
  refine sdq ?_;simp -implicitDefEqProofs only[go_sem,hgx,hlt,Ed.enc];refine vPd hR ?_;simp -implicitDefEqProofs only[go_sem,hgx,hlt,Ed.enc];cases hs:((b1E (b7q l e.fr)).any fun x=>decide (x=e.fr))with
  | true =>
   rw[hs]at hH;have hp:rcF l o e=b9O o e.fr:=by rw[rcF,if_pos hs]
   first | refine hH.calls (by simp -implicitDefEqProofs only[go_sem]) ?_ | refine hH.calls (by rfl) ?_ | refine vPd hH ?_
   simp -implicitDefEqProofs only[go_sem,hgx,hlt,Ed.enc];refine hI.cq ?_;simp -implicitDefEqProofs only[go_sem,hgx,hlt,Ed.enc];exact⟨(),hw,by rw[hsn,hp]⟩
  | false =>
   rw[hs]at hH;have hp:rcF l o e=o:=by rw[rcF,if_neg (by rw[hs];simp)]
   first | refine hH.calls (by simp -implicitDefEqProofs only[go_sem]) ?_ | refine hH.calls (by rfl) ?_ | refine vPd hH ?_
   simp -implicitDefEqProofs only[go_sem,hgx,hlt,Ed.enc];exact⟨(),hw,by rw[hsn,hp]⟩
theorem c1c(u:List Un)(name:ByteArray):b0s env 5 [sl 70 (u.map Un.enc),.str name] (.bool true):=by
 have hAw:=d7o;refine b0i (fn:=Tryz.f5) Tryz.func5 rfl (by rw[Tryz.ntmps5];simp) (by simp -implicitDefEqProofs only[go_sem];exact b0v _) rfl ?_;simp -implicitDefEqProofs only[go_sem,Tryz.f5];refine(f8u u).calls (by simp -implicitDefEqProofs only[go_sem]) ?_;cases hf:f3I u with
 | false =>
  simp -implicitDefEqProofs only[go_sem];refine hAw.cq ?_;simp -implicitDefEqProofs only[go_sem];try rfl
 | true =>
  have hfs:b6W u 3 160 6000=true:=by
   unfold f3I at hf;rw[h0k]at hf;exact hf.1
  have hfo:=(c2h (m:=160) (h0q _) hfs)
  have hG:=c5Y (m:=160) (h0q _) hfs;have hGl:=d1w (m:=160) (h0q _) hfs;have hE:=b7p (m:=160) (h0q _) hfs;have h1:=d8w u (b1b u) hGl hG name;have h2:=d4x u hfo.1 hfo.2 hE hGl name;have h3:=b4K (b1E (b7q (b1b u) name)) (b1E (b7q (b1b u) name));have h4:=c1r u hfo.1 (b1b u) hGl hG;have h5:=c4W u hfo.1 hfo.2 hE hGl;have h6:=b4K (c7U u (b1b u)) (c7U u (b1b u));simp -implicitDefEqProofs only[go_sem];intro _;refine⟨fun hn=>?_,fun hn=>?_⟩
  ·refine hAw.cq ?_;simp -implicitDefEqProofs only[go_sem];try rfl
  first | refine hAw.calls (by simp -implicitDefEqProofs only[go_sem]) ?_ | refine hAw.calls (by rfl) ?_ | refine vPd hAw ?_
  simp -implicitDefEqProofs only[go_sem];first | refine h1.calls (by simp -implicitDefEqProofs only[go_sem]) ?_ | refine h1.calls (by rfl) ?_ | refine vPd h1 ?_
  simp -implicitDefEqProofs only[go_sem];first | refine h2.calls (by simp -implicitDefEqProofs only[go_sem]) ?_ | refine h2.calls (by rfl) ?_ | refine vPd h2 ?_
  simp -implicitDefEqProofs only[go_sem];first | refine h3.calls (by simp -implicitDefEqProofs only[go_sem]) ?_ | refine h3.calls (by rfl) ?_ | refine vPd h3 ?_
  simp -implicitDefEqProofs only[go_sem,decide_true,eq_self];first | refine h4.calls (by simp -implicitDefEqProofs only[go_sem]) ?_ | refine h4.calls (by rfl) ?_ | refine vPd h4 ?_
  simp -implicitDefEqProofs only[go_sem];first | refine h5.calls (by simp -implicitDefEqProofs only[go_sem]) ?_ | refine h5.calls (by rfl) ?_ | refine vPd h5 ?_
  simp -implicitDefEqProofs only[go_sem];first | refine h6.calls (by simp -implicitDefEqProofs only[go_sem]) ?_ | refine h6.calls (by rfl) ?_ | refine vPd h6 ?_
  simp -implicitDefEqProofs only[go_sem,decide_true,eq_self]
end Go.Proofs.YtighfcpaplmaiaaGreatDoor
