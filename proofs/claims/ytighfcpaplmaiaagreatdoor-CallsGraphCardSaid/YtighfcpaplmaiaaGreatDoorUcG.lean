import Derived.Test.YtighfcpaplmaiaaGreatDoorVgFr
import Derived.Test.YtighfcpaplmaiaaGreatDoorTmG
import Derived.Test.YtighfcpaplmaiaaGreatDoorVgZ
import Derived.Shelf.Sort.Plain
import Derived.Shelf.Slices.In.SortNone2
import Derived.Test.YtighfcpaplmaiaaGreatDoorTnF
set_option linter.unusedVariables false
set_option linter.unusedSimpArgs false
set_option maxRecDepth 20000
namespace Go.Vg
structure gramL(l:List Rw):Prop where
 ok:rowsOK l
 rng:∀ i<l.length,1≤(b0h l i).kind∧(b0h l i).kind≤26
 least:∀ i<l.length,b0S (b0h l i).kind≤(b0h l i).kids.length
 fit:∀ i<l.length,∀ j<(b0h l i).kids.length,b3l (b0h l i).kind j (b0h l (b1c l i j)).kind=true
 word:∀ i<l.length,(b2s (b0h l i).kind (b0h l i).text || b5X (b0h l i).kind (b0h l i).text)=true
 kid:∀ i<l.length,∀ j<(b0h l i).kids.length,i<b1c l i j∧b1c l i j<l.length∧(b0h l (b1c l i j)).parent=i
 root:0<l.length→(b0h l 0).kind=1
 par:∀ i<l.length,0<i→∃ p,(b0h l i).parent=((p:Nat):Int)∧p<i∧∃ j<(b0h l p).kids.length,b1c l p j=i
 sign:∀ i<l.length,(b0h l i).kind=2→c2c l i
def upF(l:List Rw):Nat→Int→Option Nat
 | 0,_=>none
 | f+1,k=>if k<0 then none else if(b0h l k.toNat).kind=2 then some k.toNat else upF l f (b0h l k.toNat).parent
def b9d(l:List Rw)(i:Nat):Option Nat:=upF l (l.length+1) (b0h l i).parent
def c7y(l:List Rw)(i:Nat):ByteArray:=if(b0h l (b0h l i).parent.toNat).kind=7 then(b0h l (b0h l i).parent.toNat).text else⟨#[]⟩
def opT(t:ByteArray):ByteArray:=if t=⟨#[43]⟩∨t=⟨#[45]⟩∨t=⟨#[42]⟩∨t=⟨#[47]⟩then⟨#[105,110,116]⟩else⟨#[98,111,111,108]⟩
def b4h(l:List Rw):Nat→Nat→ByteArray
 | 0,_=>⟨#[]⟩
 | f+1,i=>if(b0h l i).kind=26 then b4h l f (b1c l i 0)else if(b0h l i).kind=17 then⟨#[105,110,116]⟩else if(b0h l i).kind=18 then⟨#[98,111,111,108]⟩else if(b0h l i).kind=24∨(b0h l i).kind=25 then opT (b0h l i).text else⟨#[]⟩
def b1B(l:List Rw):Nat→Nat→Bool
 | 0,_=>false
 | f+1,i=>decide ((b0h l i).kind=17∨(b0h l i).kind=18∨(b0h l i).kind=24∨(b0h l i).kind=25∨(b0h l i).kind=26) && (b0h l i).kids.all fun k=>b1B l f k
end Go.Vg
namespace Go.Proofs.YtighfcpaplmaiaaGreatDoor
open Go Go.Vg Go.Proofs
def ckG(x0:V)(tabs:List (List V))(r0:List V):List V:=x0::sl 45 tabs::r0
@[go_sem] theorem f7d{x0:V}{tabs:List (List V)}{r0:List V}:List.drop 1 (ckG x0 tabs r0)=sl 45 tabs::r0:=rfl
theorem b9r(x0:V)(r0:List V)(tabs:List (List V))(un i:Nat)(l:List Rw)(hu:tabs[un]? = some [sl 48 (l.map Rw.enc)])(hi:i<l.length)(hp:b0Y (ckG x0 tabs r0)=true):b0s env 91 [.fptr (ckG x0 tabs r0),.agg [.int .i64 un,.int .i64 i]] (.agg (b0h l i).enc):=by
 obtain⟨g1,g2⟩:=c0v hu;refine b0i (fn:=Tryz.f91) Tryz.func91 rfl (by rw[Tryz.ntmps91];simp) (by simp -implicitDefEqProofs only[go_sem];exact hp) (by simp -implicitDefEqProofs only[go_sem];exact b8O _) ?_;simp -implicitDefEqProofs only[go_sem,Tryz.f91,ckG];refine sdq ?_;simp -implicitDefEqProofs only[go_sem,g1,g2,b0z hi];exact⟨by omega,by rw[b4y]⟩
theorem c5z(x0:V)(r0:List V)(tabs:List (List V))(un i k:Nat)(l:List Rw)(hu:tabs[un]? = some [sl 48 (l.map Rw.enc)])(hi:i<l.length)(hk:k<(b0h l i).kids.length)(hp:b0Y (ckG x0 tabs r0)=true):b0s env 146 [.fptr (ckG x0 tabs r0),.agg [.int .i64 un,.int .i64 i],.int .i64 k] (.agg [.int .i64 un,.int .i64 (b1c l i k)]):=by
 refine b0i (fn:=Tryz.f146) Tryz.func146 rfl (by rw[Tryz.ntmps146];simp) (by simp -implicitDefEqProofs only[go_sem];exact hp) (by simp -implicitDefEqProofs only[go_sem]) ?_;simp -implicitDefEqProofs only[go_sem,Tryz.f146];have hR:=b9r x0 r0 tabs un i l hu hi hp;have hki:(k:Int)<(b0h l i).kids.length:=by omega
 refine sdq ?_;simp -implicitDefEqProofs only[go_sem];refine vPd hR ?_;simp -implicitDefEqProofs only[go_sem,b3V hk];exact hki
theorem f5o(x0:V)(r0:List V)(tabs:List (List V))(un i:Nat)(l:List Rw)(hu:tabs[un]? = some [sl 48 (l.map Rw.enc)])(h:c2c l i)(hp:b0Y (ckG x0 tabs r0)=true):b0s env 148 [.fptr (ckG x0 tabs r0),.agg [.int .i64 un,.int .i64 i]] (.agg (b2W l i).enc):=by
 obtain⟨h0,h1,h2,h3,h4,h5,h6⟩:=h;refine b0i (fn:=Tryz.f148) Tryz.func148 rfl (by rw[Tryz.ntmps148];simp) (by simp -implicitDefEqProofs only[go_sem];exact hp) (by simp -implicitDefEqProofs only[go_sem,Sg.enc]) ?_;simp -implicitDefEqProofs only[go_sem,Tryz.f148];refine(c5z x0 r0 tabs un i 1 l hu h1 (by omega) hp).calls (by simp -implicitDefEqProofs only[go_sem];rfl) ?_;simp -implicitDefEqProofs only[go_sem];refine(b9r x0 r0 tabs un (b1c l i 1) l hu h4 hp).calls (by simp -implicitDefEqProofs only[go_sem]) ?_;simp -implicitDefEqProofs only[go_sem];refine(c5z x0 r0 tabs un i 0 l hu h1 (by omega) hp).calls (by simp -implicitDefEqProofs only[go_sem];rfl) ?_;simp -implicitDefEqProofs only[go_sem];refine(b9r x0 r0 tabs un (b1c l i 0) l hu h3 hp).calls (by simp -implicitDefEqProofs only[go_sem]) ?_;simp -implicitDefEqProofs only[go_sem];intro _ _;have hks:=h6;have hkd:∀ j,j<(b0h l (b1c l i 0)).kids.length→True:=fun _ _=>trivial
 generalize hq:(b0h l (b1c l i 0)).kids=ks at h5 h6 hks hkd ⊢;refine b0l (β:=Unit) ks (fun pre _=>⟨[(23,.int .i64 pre.length),(22,.int .i64 ks.length),(6,.ptr 3 0),(5,.ptr 2 0),(4,.ptr 1 0),(0,.fptr (ckG x0 tabs r0))],
   [.dead,.cells [.slice .nil 0 [],.str ⟨#[]⟩],.cells [.slice (.arr 0) 9 ((b6u l pre).map b0n),.str (b0h l (b1c l i 1)).text],.cells [.int .i64 un,.int .i64 (b1c l i 0)]],[pre.length]⟩) (fun _ _ _=>True) () ?_ trivial ?_ ?_
 ·simp only[b6u,h0T];simp -implicitDefEqProofs only[go_sem];try rfl
 ·intro _ _;simp -implicitDefEqProofs only[go_sem];simp[b2W,Sg.enc,hq]
 ·rintro pre x post _ hx _;have hpl:ks.length=pre.length+1+post.length:=by rw[hx];simp;omega
  obtain⟨q1,q2,q3⟩:=h6 x (by rw[hx];simp);have hj:pre.length<(b0h l (b1c l i 0)).kids.length:=by rw[hq];omega
  have hkx:b1c l (b1c l i 0) pre.length=x:=by
   show(b0h l (b1c l i 0)).kids.getD pre.length 0=x;rw[hq,hx];simp[h0c]
  have hlt:((pre.length:Int)<ks.length)=True:=by simp;omega
  have hpp:b6u l (pre++[x])=b6u l pre++[(b0h l (b1c l x 0)).text]:=by simp[b6u]
  have hppl:(b6u l pre).length=pre.length:=by simp[b6u]
  simp -implicitDefEqProofs only[go_sem,hlt];refine sdq ?_;simp -implicitDefEqProofs only[go_sem,hppl];refine b0L (c5z x0 r0 tabs un (b1c l i 0) pre.length l hu h3 hj hp) (by simp -implicitDefEqProofs only[go_sem]) ?_;rw[hkx];simp -implicitDefEqProofs only[go_sem,hppl];refine b0L (c5z x0 r0 tabs un x 0 l hu q1 q2 hp) (by simp -implicitDefEqProofs only[go_sem];rfl) ?_;simp -implicitDefEqProofs only[go_sem,hppl];refine b0L (b9r x0 r0 tabs un (b1c l x 0) l hu q3 hp) (by simp -implicitDefEqProofs only[go_sem]) ?_;simp -implicitDefEqProofs only[go_sem,hppl];exact⟨by omega,(),b0g (by omega),by rw[hpp,h0M];rfl⟩
theorem c9X(x0:V)(r0:List V)(tabs:List (List V))(un i:Nat)(l:List Rw)(hu:tabs[un]? = some [sl 48 (l.map Rw.enc)])(hi:i<l.length)(hr:rowsOK l)(hp:b0Y (ckG x0 tabs r0)=true) :
  b0s env 147 [.fptr (ckG x0 tabs r0),.agg [.int .i64 un,.int .i64 i]] (.tuple [.agg [.int .i64 (if(b9d l i).isSome then(un:Int)else 0),.int .i64 ((b9d l i).getD 0:Nat)],.bool (b9d l i).isSome]):=by
 obtain⟨g1,g2⟩:=c0v hu;refine b0i (fn:=Tryz.f147) Tryz.func147 rfl (by rw[Tryz.ntmps147];simp) (by simp -implicitDefEqProofs only[go_sem];exact hp) (by simp -implicitDefEqProofs only[go_sem]) ?_;simp -implicitDefEqProofs only[go_sem,Tryz.f147];refine(b9r x0 r0 tabs un i l hu hi hp).calls (by simp -implicitDefEqProofs only[go_sem]) ?_;simp -implicitDefEqProofs only[go_sem];have hp0:=hr.par i hi;have hfu:b9d l i=upF l (l.length+1) (b0h l i).parent:=rfl;refine b1u (α:=Int×Nat) (fun b=>⟨[(6,.int .i64 b.1),(4,.ptr 1 0),(3,.ptr 0 0),(0,.fptr (ckG x0 tabs r0))],[.cells [.int .i64 un,.int .i64 i],.cells [.int .i64 0,.int .i64 0]],[]⟩)
  (fun b => -1≤b.1∧b.1+1<b.2∧b.1<l.length∧b9d l i=upF l b.2 b.1) (fun b=>(b.1+1).toNat) ((b0h l i).parent,l.length+1) ?_ ⟨hp0.2,by simp;omega,by simp;omega,hfu⟩ ?_
 ·simp -implicitDefEqProofs only[go_sem];try rfl
 ·rintro⟨k,f⟩ ⟨h1,h2,h3,h4⟩;simp only at h1 h2 h3 h4 ⊢;obtain⟨f,rfl⟩:∃ f',f=f'+1:=⟨f - 1,by omega⟩
  simp -implicitDefEqProofs only[go_sem];refine⟨fun hk=>?_,fun hk=>?_⟩
  ·obtain⟨k,rfl⟩:=h0X hk;have hkl:k<l.length:=by omega
   have hgk:=b0z hkl;have hklt:((k:Int)<l.length)=True:=by simp;omega
   have hk0:(0≤(k:Int))=True:=by simp
   have hpk:=hr.par k hkl;refine sdq ?_;simp -implicitDefEqProofs only[go_sem,g1,g2,hgk,hklt,hk0,Rw.enc];rw[upF,if_neg (by omega),h0n]at h4;refine⟨fun h2=>?_,fun h2=>?_⟩
   ·rw[if_pos h2]at h4;rw[h4];rfl
   ·rw[if_neg h2]at h4;refine sdq ?_;simp -implicitDefEqProofs only[go_sem,g1,g2,hgk,hklt,hk0,Rw.enc];exact⟨((b0h l k).parent,f),by simp only;omega,⟨hpk.2,by simp only;omega,by simp only;omega,h4⟩,rfl⟩
  ·have hk':k<0:=by omega
   rw[upF,if_pos hk']at h4;rw[h4];try rfl
theorem f1q(x0:V)(r0:List V)(tabs:List (List V))(un i:Nat)(l:List Rw)(hu:tabs[un]? = some [sl 48 (l.map Rw.enc)])(hi:i<l.length)(hr:rowsOK l)(h0:0≤(b0h l i).parent)(hp:b0Y (ckG x0 tabs r0)=true) :
  b0s env 153 [.fptr (ckG x0 tabs r0),.agg [.int .i64 un,.int .i64 i]] (.str (c7y l i)):=by
 obtain⟨g1,g2⟩:=c0v hu;refine b0i (fn:=Tryz.f153) Tryz.func153 rfl (by rw[Tryz.ntmps153];simp) (by simp -implicitDefEqProofs only[go_sem];exact hp) (by simp -implicitDefEqProofs only[go_sem]) ?_;simp -implicitDefEqProofs only[go_sem,Tryz.f153];obtain⟨p,hpe⟩:=h0X h0;have hpl:p<l.length:=by have:=(hr.par i hi).1;omega
 have hgp:=b0z hpl;have hplt:((p:Int)<l.length)=True:=by simp;omega
 have hp0:(0≤(p:Int))=True:=by simp
 have hR:=b9r x0 r0 tabs un i l hu hi hp;refine sdq ?_;simp -implicitDefEqProofs only[go_sem,g1,g2];refine b0L hR rfl ?_;simp -implicitDefEqProofs only[go_sem,g1,g2,hgp,hplt,hp0,hpe,Rw.enc];rw[c7y,hpe,h0n];refine⟨fun h=>?_,fun h=>?_⟩
 ·rw[if_neg (by simpa using h)]
 ·rw[if_pos (by simpa using h)]
theorem f1w(x0:V)(r0:List V)(tabs:List (List V))(un i:Nat)(l:List Rw)(hu:tabs[un]? = some [sl 48 (l.map Rw.enc)])(hi:i<l.length)(hg:gramL l)(hp:b0Y (ckG x0 tabs r0)=true) :
  b0s env 186 [.fptr (ckG x0 tabs r0),.agg [.int .i64 un,.int .i64 i]] (.str (b4h l l.length i)):=by
 obtain⟨g1,g2⟩:=c0v hu;refine b0i (fn:=Tryz.f186) Tryz.func186 rfl (by rw[Tryz.ntmps186];simp) (by simp -implicitDefEqProofs only[go_sem];exact hp) (by simp -implicitDefEqProofs only[go_sem]) ?_;simp -implicitDefEqProofs only[go_sem,Tryz.f186];refine b1u (α:=Nat×Nat) (fun b=>⟨[(4,.str ⟨#[]⟩),(3,.ptr 0 0),(0,.fptr (ckG x0 tabs r0))],[.cells [.int .i64 un,.int .i64 b.1]],[]⟩)
  (fun b=>b.1<l.length∧l.length≤b.1+b.2∧b4h l l.length i=b4h l b.2 b.1) (fun b=>b.2) (i,l.length) ?_ ⟨hi,by simp,rfl⟩ ?_
 ·simp -implicitDefEqProofs only[go_sem];try rfl
 ·rintro⟨k,f⟩ ⟨h1,h2,h3⟩;simp only at h1 h2 h3 ⊢;obtain⟨f,rfl⟩:∃ f',f=f'+1:=⟨f - 1,by omega⟩
  simp -implicitDefEqProofs only[go_sem];refine(b9r x0 r0 tabs un k l hu h1 hp).calls (by simp -implicitDefEqProofs only[go_sem]) ?_;simp -implicitDefEqProofs only[go_sem];have hle:=hg.least k h1;rw[b4h]at h3;refine⟨fun h26=>?_,fun h26=>?_⟩
  ·rw[if_pos h26]at h3;have hk1:0<(b0h l k).kids.length:=by rw[h26]at hle;simp[b0S]at hle;omega
   have hkd:=hg.kid k h1 0 hk1;refine(c5z x0 r0 tabs un k 0 l hu h1 hk1 hp).calls (by simp -implicitDefEqProofs only[go_sem];rfl) ?_;simp -implicitDefEqProofs only[go_sem];exact⟨(b1c l k 0,f),by simp,⟨hkd.2.1,by simp only;omega,h3⟩,rfl⟩
  ·rw[if_neg h26]at h3;refine(b9r x0 r0 tabs un k l hu h1 hp).calls (by simp -implicitDefEqProofs only[go_sem]) ?_;simp -implicitDefEqProofs only[go_sem];rw[h3];refine⟨fun h=>by rw[if_pos h],fun h17=>⟨fun h=>by rw[if_neg h17,if_pos h],fun h18=>⟨fun h=>⟨fun _=>?_,fun hn=>absurd h hn⟩,fun h24=>⟨fun h=>?_,fun h25=>?_⟩⟩⟩⟩
   ·refine(b7m (b0h l k)).calls (show [V.agg ((b0h l k).enc.map share1)]=_ by rw[b4y]) ?_;simp -implicitDefEqProofs only[go_sem];rw[if_neg h17,if_neg h18,if_pos (Or.inl h)];rfl
   ·refine(b7m (b0h l k)).calls (show [V.agg ((b0h l k).enc.map share1)]=_ by rw[b4y]) ?_;simp -implicitDefEqProofs only[go_sem];rw[if_neg h17,if_neg h18,if_pos (Or.inr h)];rfl
   ·rw[if_neg h17,if_neg h18,if_neg (by omega)]
theorem c8A(x0:V)(r0:List V)(tabs:List (List V))(un:Nat)(l:List Rw)(hu:tabs[un]? = some [sl 48 (l.map Rw.enc)])(hg:gramL l)(hp:b0Y (ckG x0 tabs r0)=true):∀ (f i:Nat),i<l.length→l.length≤i+f →
  b0s env 154 [.fptr (ckG x0 tabs r0),.agg [.int .i64 un,.int .i64 i]] (.bool (b1B l f i)):=by
 obtain⟨g1,g2⟩:=c0v hu;intro f;induction f with
 | zero=>intro i hi hf;omega
 | succ f ih =>
  intro i hi hf;refine b0i (fn:=Tryz.f154) Tryz.func154 rfl (by rw[Tryz.ntmps154];simp) (by simp -implicitDefEqProofs only[go_sem];exact hp) (by simp -implicitDefEqProofs only[go_sem]) ?_;simp -implicitDefEqProofs only[go_sem,Tryz.f154];refine(b9r x0 r0 tabs un i l hu hi hp).calls (by simp -implicitDefEqProofs only[go_sem]) ?_;by_cases hc:(b0h l i).kind=17∨(b0h l i).kind=18∨(b0h l i).kind=24∨(b0h l i).kind=25∨(b0h l i).kind=26
  ·have hc2:=hc;rcases hc2 with h | h | h | h | h
   all_goals(
    simp -implicitDefEqProofs only[go_sem,h];refine(b9r x0 r0 tabs un i l hu hi hp).calls (by simp -implicitDefEqProofs only[go_sem]) ?_;simp -implicitDefEqProofs only[go_sem];intro _ _;have hcon:b1B l (f+1) i=(b0h l i).kids.all fun k=>b1B l f k:=by rw[b1B,h0H hc,h0S]
    have hkd:=hg.kid i hi;rw[hcon];have hki:∀ j,j<(b0h l i).kids.length→b1c l i j=(b0h l i).kids.getD j 0:=fun _ _=>rfl
    have hkb:=(hg.ok.kids i hi).1;generalize hks:(b0h l i).kids=ks at hkd hki hkb ⊢;refine b0l (β:=Unit) ks (fun pre _=>⟨[(21,.int .i64 pre.length),(20,.int .i64 ks.length),(19,sl 3 (ks.map b0J)),(4,.bool false),(3,.ptr 0 0),(0,.fptr (ckG x0 tabs r0))],[.cells [.int .i64 un,.int .i64 i]],[]⟩)
     (fun pre post _=>(ks.all fun k=>b1B l f k)=post.all fun k=>b1B l f k) () ?_ rfl ?_ ?_
    ·simp -implicitDefEqProofs only[go_sem];try rfl
    ·intro _ he;simp -implicitDefEqProofs only[go_sem];rw[he];rfl
    ·rintro pre x post _ hx he;have hpl:ks.length=pre.length+1+post.length:=by rw[hx];simp;omega
     have hlt:((pre.length:Int)<ks.length)=True:=by simp;omega
     have hj:pre.length<ks.length:=by omega
     have hkx:b1c l i pre.length=x:=by rw[hki _ hj,hx];simp[h0c]
     have hkd2:=hkd _ hj;have hw:IntKind.i64.wrap (↑pre.length+1)=↑(pre.length+1):=b0g (by omega);rw[hkx]at hkd2;simp -implicitDefEqProofs only[go_sem,hlt];refine(c5z x0 r0 tabs un i pre.length l hu hi (by rw[hks];exact hj) hp).calls (by simp -implicitDefEqProofs only[go_sem]) ?_;rw[hkx];simp -implicitDefEqProofs only[go_sem];refine(ih x hkd2.2.1 (by omega)).calls (by simp -implicitDefEqProofs only[go_sem]) ?_;simp -implicitDefEqProofs only[go_sem];rw[List.all_cons]at he;refine⟨fun h=>?_,fun h=>⟨(),?_,hw⟩⟩
     ·rw[he];cases hcx:b1B l f x with
      | true=>rw[hcx]at h;cases h
      | false=>rfl
     ·rw[he];cases hcx:b1B l f x with
      | true=>rfl
      | false=>rw[hcx]at h;cases h)
  ·have hc':=hc;simp only[not_or]at hc';simp -implicitDefEqProofs only[go_sem,hc'.1,hc'.2.1,hc'.2.2.1,hc'.2.2.2.1,hc'.2.2.2.2];rw[b1B,h0z hc];rfl
end Go.Proofs.YtighfcpaplmaiaaGreatDoor
namespace Go.Vg
mutual
theorem b5c{k ka:Nat}:∀ cs:List V,(∀ (j:Nat) c,cs[j]? = some c→c.lt k ka=true)→ltL k ka cs=true
 | [],_=>rfl
 | x::r,h=>by
  simp only[ltL,h0k];exact⟨h 0 x rfl,b5c r fun j c hc=>h (j+1) c (by simpa using hc)⟩
end
theorem c7S{k ka:Nat}:∀ cs:List (List V),(∀ (j:Nat) c,cs[j]? = some c→ltL k ka c=true)→b6K k ka cs=true
 | [],_=>rfl
 | x::r,h=>by
  simp only[b6K,h0k];exact⟨h 0 x rfl,c7S r fun j c hc=>h (j+1) c (by simpa using hc)⟩
theorem d1p{k ka:Nat}:∀ es:List (V×V),(∀ (j:Nat) x y,es[j]? = some (x,y)→x.lt k ka=true∧y.lt k ka=true)→ltP k ka es=true
 | [],_=>rfl
 | (x,y)::r,h=>by
  simp only[ltP,h0k];exact⟨h 0 x y rfl,d1p r fun j x y hc=>h (j+1) x y (by simpa using hc)⟩
theorem d0Z{k ka:Nat}:∀ h:List VObj,(∀ (j:Nat) c,h[j]? = some c→c.lt k ka=true)→ltH k ka h=true
 | [],_=>rfl
 | x::r,h=>by
  simp only[ltH,h0k];exact⟨h 0 x rfl,d0Z r fun j c hc=>h (j+1) c (by simpa using hc)⟩
theorem b0w{α:Type}{l:List α}{i:Nat}{x:α}(h:l[i]? = some x):i<l.length:=(h0b.1 h).1
theorem RV.lt{P:Program}{G:Gh}{arr:List Nat}{x:V}{v:Value}(hx:RV P G arr x v):x.lt G.φ.length arr.length=true:=by
 induction hx with
 | junk v=>rfl
 | bool b=>rfl
 | int k n=>rfl
 | str s hs=>rfl
 | nilp=>rfl
 | ptr id off b hb=>simp only[V.lt,h0l];exact b0w hb
 | fptr cs b o hd _ ih =>
  simp only[V.lt];refine b5c cs fun j c hc=>?_
  obtain⟨v,hv⟩:=hd j (b0w hc);exact ih j c v hc hv
 | snil o e ho =>
  simp only[V.lt,b6K,h1g];cases o with
  | arr k =>
   obtain⟨n,hn⟩:=ho;simp only[Own.lt,h0l];exact b0w hn
  | _=>rfl
 | sodd e a c=>rfl
 | slice o e es b off cap ho h1 h2 h3 h4 hd _ ih =>
  simp only[V.lt,h0k];refine⟨?_,c7S es fun i el hi=>b5c el fun j c hj=>?_⟩
  ·cases o with
   | arr k =>
    obtain⟨n,hn,_⟩:=ho;simp only[Own.lt,h0l];exact b0w hn
   | _=>rfl
  ·obtain⟨v,hv⟩:=hd i el j hi (b0w hj);exact ih i el j c v hi hj hv
 | mslice id off len cap e b hb h1 h2 h3=>simp only[V.lt,h0l];exact b0w hb
 | nilmap=>rfl
 | map id b hb=>simp only[V.lt,h0l];exact b0w hb
 | nilfunc=>rfl
 | func f caps cs hl _ ih =>
  simp only[V.lt];refine b5c caps fun j c hc=>?_
  have hj:j<cs.size:=by rw[←hl];exact b0w hc
  exact ih j c _ hc (h0t hj)
 | meth f xs cs hl _ ih =>
  simp only[V.lt];refine b5c xs fun j c hc=>?_
  have hj:j<cs.size:=by rw[←hl];exact b0w hc
  exact ih j c _ hc (h0t hj)
 | nilif=>rfl
 | iface t x v _ ih=>exact ih
 | agg cs vs hl _ ih =>
  simp only[V.lt];refine b5c cs fun j c hc=>?_
  have hj:j<vs.size:=by rw[←hl];exact b0w hc
  exact ih j c _ hc (h0t hj)
 | vec id k gen len e b o cap hv h1 h2 =>
  obtain⟨n,hn,_⟩:=hv;simp only[V.lt,h0l];exact b0w hn
 | vptr id k gen off b o hv =>
  obtain⟨n,hn,_⟩:=hv;simp only[V.lt,h0l];exact b0w hn
 | tuple cs vs hl _ ih =>
  simp only[V.lt];refine b5c cs fun j c hc=>?_
  have hj:j<vs.size:=by rw[←hl];exact b0w hc
  exact ih j c _ hc (h0t hj)
theorem RelW.lt{E:Env}{G:Gh}{heap:List VObj}{arr:List Nat}{w0:Base}{w:World}(h:RelW E G heap arr w0 w):ltH heap.length arr.length heap=true:=by
 refine d0Z heap fun id ob hid=>?_
 obtain⟨b,hb,hr⟩:=h.obj id ob hid;rw[←h.lenφ];have cellsLt:∀ (c:Array Value) (cs:List V),c.size=cs.length→(∀ (j:Nat) x,cs[j]? = some x→∃ v,c[j]? = some v∧RV E.P G arr x v)→ltL G.φ.length arr.length cs=true:=fun c cs _ h3 =>
  b5c cs fun j x hx=>by
   obtain⟨v,_,hv⟩:=h3 j x hx;exact hv.lt
 cases ob with
 | cells cs =>
  obtain⟨c,e,h1,h2,h3⟩:=hr;exact cellsLt c cs h2 h3
 | map es =>
  obtain⟨m,clk,h1,h2,h3⟩:=hr;exact d1p es fun j x y hj=>by
   obtain⟨e,_,q1,q2⟩:=h3 j x y hj;exact⟨q1.lt,q2.lt⟩
 | siter s pos=>rfl
 | dead=>rfl
 | vec k gen e cs =>
  obtain⟨q1,q2,b',hi,q3,q4,q5⟩:=h.vs.at_ id k gen e cs hid;simp only[VObj.lt,h0k,h0l];exact⟨b0w q1,b5c cs fun j x hx=>by obtain⟨v,_,hv,_⟩:=q5 j x hx;exact hv.lt⟩
 | builder t s=>rfl
 | tcells t cs =>
  obtain⟨c,h1,h2,h3⟩:=hr;exact cellsLt c cs h2 h3
theorem b0q.tidy{E:Env}{f:FuncId}{args:List V}{h:List VObj}{a:List Nat}{K:b1y}
  (hc:b0q E f args h a fun v h' a'=>∃ h0 z y,h'=h0++z∧a'=a++y∧h0.length=h.length∧(share v).pure=true∧(ltH h.length a.length h=true→ltH h.length a.length h0=true)∧K (share v) h0 a) :
  b0q E f args h a K:=by
 intro G w0 w vals hr hargs;refine(hc G w0 w vals hr hargs).mono fun e w' hg=>hg.imp (fun⟨val,he,v,heap',arr',G',⟨h0,z,y,e1,e2,hl,hp,hlt,hk⟩,hx,hr',hrv⟩=>?_) id
 subst e1 e2;have hl0:=hlt hr.lt;have ht:(h0++z).take h.length=h0:=by rw[List.take_append_of_le_length (by omega),←hl,List.take_length]
 have ha:(a++y).take a.length=a:=by simp
 have hcut:=hr'.cut (k:=h.length) (ka:=a.length) (by rw[ht];exact hl0);rw[ht,ha]at hcut;refine⟨val,he,share v,h0,a,G'.cut h.length a.length,hk,⟨hx.F,fun id b hb=>?_,fun j m hj=>?_⟩,hcut,hrv.share.pure hp _ _ fun _ _ _ h=>h⟩
 ·have:=b0w hb;rw[hr.lenφ]at this;exact(b1J this).trans (hx.φ id b hb)
 ·have hja:=b0w hj;obtain⟨n',g1,g2,g3⟩:=hx.ρ j m hj;rw[h0e hja,hj]at g1;cases g1
  exact⟨m,hj,h0q _,fun _=>(b1J hja).trans (g3 rfl)⟩
theorem b0q.tidy0{E:Env}{f:FuncId}{args:List V}{h:List VObj}{a:List Nat}{K:b1y}
  (hc:b0q E f args h a fun v h' a'=>(∃ z,h'=h++z)∧(∃ y,a'=a++y)∧(share v).pure=true∧K (share v) h a):b0q E f args h a K:=by
 refine b0q.tidy (hc.mono ?_);rintro v h' a' ⟨⟨z,rfl⟩,⟨y,rfl⟩,hp,hk⟩;exact⟨h,z,y,rfl,rfl,rfl,hp,fun h=>h,hk⟩
open Go.RowKit
def Own.sh(ka:Nat):Own→Own
 | .arr k => .arr (ka+k)
 | o=>o
mutual
def V.sh(k ka:Nat):V→V
 | .ptr id o => .ptr (k+id) o
 | .mslice id a b c e => .mslice (k+id) a b c e
 | .map id => .map (k+id)
 | .vec id j g l e => .vec (k+id) (ka+j) g l e
 | .vptr id j g o => .vptr (k+id) (ka+j) g o
 | .fptr cs => .fptr (shL k ka cs)
 | .slice o e es => .slice (o.sh ka) e (d4Q k ka es)
 | .func f cs => .func f (shL k ka cs)
 | .meth f cs => .meth f (shL k ka cs)
 | .iface t v => .iface t (v.sh k ka)
 | .agg cs => .agg (shL k ka cs)
 | .tuple cs => .tuple (shL k ka cs)
 | .junk => .junk
 | .bool b => .bool b
 | .int i n => .int i n
 | .str s => .str s
 | .nilp => .nilp
 | .nilmap => .nilmap
 | .nilfunc => .nilfunc
 | .nilif => .nilif
def shL(k ka:Nat):List V→List V
 | []=>[]
 | x::r=>x.sh k ka::shL k ka r
def d4Q(k ka:Nat):List (List V)→List (List V)
 | []=>[]
 | x::r=>shL k ka x::d4Q k ka r
end
theorem b4v(k ka:Nat):∀ cs:List V,shL k ka cs=cs.map (V.sh k ka)
 | []=>rfl
 | x::r=>by rw[shL,b4v k ka r];rfl
theorem c7T(k ka:Nat):∀ cs:List (List V),d4Q k ka cs=cs.map (shL k ka)
 | []=>rfl
 | x::r=>by rw[d4Q,c7T k ka r];rfl
mutual
theorem V.sh_pure(k ka:Nat):∀ x:V,x.pure=true→x.sh k ka=x
 | .junk,_ | .bool _,_ | .int _ _,_ | .str _,_ | .nilp,_ | .nilmap,_ | .nilfunc,_ | .nilif,_=>rfl
 | .ptr ..,h | .mslice ..,h | .map _,h | .vec ..,h | .vptr ..,h=>by simp[V.pure]at h
 | .fptr cs,h=>by rw[V.sh,b4Z k ka cs h]
 | .slice o _ es,h=>by
  simp only[V.pure,h0k]at h;rw[V.sh,b5K k ka es h.2];cases o <;> first | rfl | simp[Own.plain]at h
 | .func _ cs,h=>by rw[V.sh,b4Z k ka cs h]
 | .meth _ cs,h=>by rw[V.sh,b4Z k ka cs h]
 | .iface _ v,h=>by rw[V.sh,V.sh_pure k ka v h]
 | .agg cs,h=>by rw[V.sh,b4Z k ka cs h]
 | .tuple cs,h=>by rw[V.sh,b4Z k ka cs h]
theorem b4Z(k ka:Nat):∀ x:List V,b0Y x=true→shL k ka x=x
 | [],_=>rfl
 | x::r,h=>by
  simp only[b0Y,h0k]at h;rw[shL,V.sh_pure k ka x h.1,b4Z k ka r h.2]
theorem b5K(k ka:Nat):∀ x:List (List V),b0P x=true→d4Q k ka x=x
 | [],_=>rfl
 | x::r,h=>by
  simp only[b0P,h0k]at h;rw[d4Q,b4Z k ka x h.1,b5K k ka r h.2]
end
structure Moved(G1:Gh)(a1:List Nat)(G2:Gh)(a2:List Nat)(k ka:Nat):Prop where
 F:∀ b o v,G1.F b o=some v→G2.F b o=some v
 φ:∀ (i:Nat) b,G1.φ[i]? = some b→G2.φ[k+i]? = some b
 ρ:∀ (j:Nat),j<a1.length→G2.ρ[ka+j]? = G1.ρ[j]?
 a:∀ (j:Nat) n,a1[j]? = some n→a2[ka+j]? = some n
theorem d2I.sh{G1 G2:Gh}{a1 a2:List Nat}{k ka j gen:Nat}{C:Nat→Nat→Prop}(hm:Moved G1 a1 G2 a2 k ka)(h:d2I G1 a1 j gen C):d2I G2 a2 (ka+j) gen C:=by
 obtain⟨n,h1,h2,h3⟩:=h;refine⟨n,hm.a _ _ h1,h2,fun e=>?_⟩;obtain⟨b,hi,h4,h5⟩:=h3 e;exact⟨b,hi,(hm.ρ j (b0w h1)).trans h4,h5⟩
theorem RV.sh{P:Program}{G1 G2:Gh}{a1 a2:List Nat}{k ka:Nat}(hm:Moved G1 a1 G2 a2 k ka){x:V}{v:Value}(hx:RV P G1 a1 x v):RV P G2 a2 (x.sh k ka) v:=by
 induction hx with
 | junk v=>exact .junk v
 | bool b=>exact .bool b
 | int k n=>exact .int k n
 | str s hs=>exact .str s hs
 | nilp=>exact .nilp
 | ptr id off b hb=>exact .ptr _ off b (hm.φ _ _ hb)
 | fptr cs b o hd _ ih =>
  rw[V.sh,b4v];refine .fptr _ b o (fun j hj=>(hd j (by simpa using hj)).imp fun v hv=>hm.F _ _ _ hv) fun j c v hc hv=>?_
  rw[h0u]at hc;obtain⟨c',hc',rfl⟩:=h0p.1 hc;obtain⟨u,hu⟩:=hd j (b0w hc');have:=hm.F _ _ _ hu;rw[hv]at this;cases this
  exact ih j c' v hc' hu
 | snil o e ho =>
  rw[V.sh,d4Q];refine .snil _ e ?_;cases o with
  | arr j=>exact ho.imp fun n hn=>hm.a _ _ hn
  | _=>exact ho
 | sodd e a c=>exact .sodd e a c
 | slice o e es b off cap ho h1 h2 h3 h4 hd _ ih =>
  rw[V.sh,c7T];have hl:(es.map (shL k ka)).length=es.length:=h0v ..;have he:∀ (i:Nat) el,(es.map (shL k ka))[i]? = some el→∃ el',es[i]? = some el'∧el=el'.map (V.sh k ka):=fun i el hi=>by
   rw[h0u]at hi;obtain⟨c',hc',rfl⟩:=h0p.1 hi;exact⟨c',hc',b4v ..⟩
  have key:=RV.slice (P:=P) (G:=G2) (arr:=a2) (o.sh ka) e (es.map (shL k ka)) b off cap;rw[hl]at key;refine key ?_ (fun i el hi=>?_) h2 h3 h4 (fun i el j hi hj=>?_) fun i el j c v hi hj hv=>?_
  ·cases o with
   | arr j =>
    obtain⟨n,q1,q2,q3⟩:=ho;exact⟨n,hm.a _ _ q1,q2,fun e=>(hm.ρ j (b0w q1)).trans (q3 e)⟩
   | _=>exact ho
  ·obtain⟨el',g1,rfl⟩:=he i el hi;rw[h0v];exact h1 i el' g1
  ·obtain⟨el',g1,rfl⟩:=he i el hi;exact(hd i el' j g1 (by simpa using hj)).imp fun v hv=>hm.F _ _ _ hv
  ·obtain⟨el',g1,rfl⟩:=he i el hi;rw[h0u]at hj;obtain⟨c',hc',rfl⟩:=h0p.1 hj;obtain⟨u,hu⟩:=hd i el' j g1 (b0w hc');have:=hm.F _ _ _ hu;rw[hv]at this;cases this
   exact ih i el' j c' v g1 hc' hu
 | mslice id off len cap e b hb h1 h2 h3=>exact .mslice _ off len cap e b (hm.φ _ _ hb) h1 h2 h3
 | nilmap=>exact .nilmap
 | map id b hb=>exact .map _ b (hm.φ _ _ hb)
 | nilfunc=>exact .nilfunc
 | func f caps cs hl _ ih =>
  rw[V.sh,b4v];refine .func f _ cs (by rw[h0v];exact hl) fun j c v hc hv=>?_
  rw[h0u]at hc;obtain⟨c',hc',rfl⟩:=h0p.1 hc;exact ih j c' v hc' hv
 | meth f xs vs hl _ ih =>
  rw[V.sh,b4v];refine .meth f _ vs (by rw[h0v];exact hl) fun j c v hc hv=>?_
  rw[h0u]at hc;obtain⟨c',hc',rfl⟩:=h0p.1 hc;exact ih j c' v hc' hv
 | nilif=>exact .nilif
 | iface t x v _ ih=>exact .iface t _ v ih
 | agg cs vs hl _ ih =>
  rw[V.sh,b4v];refine .agg _ vs (by rw[h0v];exact hl) fun j c v hc hv=>?_
  rw[h0u]at hc;obtain⟨c',hc',rfl⟩:=h0p.1 hc;exact ih j c' v hc' hv
 | vec id j gen len e b o cap hv h1 h2=>exact .vec _ _ gen len e b o cap (hv.sh hm) h1 h2
 | vptr id j gen off b o hv=>exact .vptr _ _ gen off b o (hv.sh hm)
 | tuple cs vs hl _ ih =>
  rw[V.sh,b4v];refine .tuple _ vs (by rw[h0v];exact hl) fun j c v hc hv=>?_
  rw[h0u]at hc;obtain⟨c',hc',rfl⟩:=h0p.1 hc;exact ih j c' v hc' hv
def VObj.sh(k ka:Nat):VObj→VObj
 | .cells cs => .cells (shL k ka cs)
 | .map es => .map (es.map fun p=>(p.1.sh k ka,p.2.sh k ka))
 | .siter s pos => .siter s pos
 | .tcells t cs => .tcells t (shL k ka cs)
 | _ => .dead
def VObj.whole:VObj→Bool
 | .builder .. | .vec .. => false
 | _=>true
theorem c3s.sh{P:Program}{G1 G2:Gh}{a1 a2:List Nat}{k ka:Nat}(hm:Moved G1 a1 G2 a2 k ka){w:World}{b:Nat}{ob:VObj}(h:c3s P G1 a1 w b ob):c3s P G2 a2 w b (ob.sh k ka):=by
 have hc:∀ (c:Array Value) (cs:List V),(∀ (j:Nat) x,cs[j]? = some x→∃ v,c[j]? = some v∧RV P G1 a1 x v)→∀ (j:Nat) x,(shL k ka cs)[j]? = some x→∃ v,c[j]? = some v∧RV P G2 a2 x v:=fun c cs h3 j x hx=>by
  rw[b4v,h0u]at hx;obtain⟨c',hc',rfl⟩:=h0p.1 hx;exact(h3 j c' hc').imp fun v hv=>⟨hv.1,hv.2.sh hm⟩
 cases ob with
 | cells cs =>
  obtain⟨c,e,h1,h2,h3⟩:=h;exact⟨c,e,h1,by rw[b4v,h0v];exact h2,hc c cs h3⟩
 | map es =>
  obtain⟨m,clk,h1,h2,h3⟩:=h;refine⟨m,clk,h1,by rw[h0v];exact h2,fun j kx vx hj=>?_⟩;rw[h0u]at hj;obtain⟨p,hp,e⟩:=h0p.1 hj;cases e
  exact(h3 j p.1 p.2 hp).imp fun v hv=>⟨hv.1,hv.2.1.sh hm,hv.2.2.sh hm⟩
 | siter s pos=>exact h
 | dead=>trivial
 | vec _ _ _ _=>trivial
 | builder t s=>trivial
 | tcells t cs =>
  obtain⟨c,h1,h2,h3⟩:=h;exact⟨c,h1,by rw[b4v,h0v];exact h2,hc c cs h3⟩
theorem b1Y{α:Type}{l r:List α}{i:Nat}{x:α}(h:(l++r)[i]? = some x):(i<l.length∧l[i]? = some x)∨∃ j,i=l.length+j∧r[j]? = some x:=by
 by_cases hi:i<l.length
 ·rw[h0e hi]at h;exact .inl ⟨hi,h⟩
 ·rw[h0g (by omega)]at h;exact .inr ⟨i - l.length,by omega,h⟩
theorem b3g{α:Type}{l r:List α}{j:Nat}:(l++r)[l.length+j]? = r[j]?:=by
 rw[h0g (by omega)];congr 1;omega
theorem RelW.join{E:Env}{F:Nat→Nat→Option Value}{φ φ1:List Nat}{ρ ρ1:List (Nat×Nat×Nat)}{heap h0:List VObj}{arr a0:List Nat}{w0:Base}{w w':World}{F1:Nat→Nat→Option Value}
  (F0:Nat→Nat→Option Value) (hr:RelW E ⟨F0,φ,ρ⟩ heap arr w0 w) (hnew:∀ b o v,F b o=some v→b<w.heap.size→F0 b o=some v) (hbw:Below w.heap.size w w')
  (h1:RelW E ⟨F,φ,ρ⟩ heap arr w0 w') (h2:RelW E ⟨F,φ1,ρ1⟩ h0 a0 ⟨w,F1,[]⟩ w') (hs:∀ (i:Nat) ob,h0[i]? = some ob→ob.whole=true) :
  RelW E ⟨F,φ++φ1,ρ++ρ1⟩ (heap++h0.map (VObj.sh heap.length arr.length)) (arr++a0) w0 w'∧Ext ⟨F,φ,ρ⟩ arr ⟨F,φ++φ1,ρ++ρ1⟩ (arr++a0)∧Moved ⟨F,φ1,ρ1⟩ a0 ⟨F,φ++φ1,ρ++ρ1⟩ (arr++a0) heap.length arr.length:=by
 have hφ:∀ (i:Nat) b,φ[i]? = some b→b<w.heap.size:=fun i b hb=>(hr.geφ i b hb).2
 have hρ:∀ (k b lo hi:Nat),ρ[k]? = some (b,lo,hi)→lo<hi→b<w.heap.size:=fun k b lo hi hk hlt=>by
  obtain⟨⟨c,e,q,_⟩,_⟩:=hr.reg k b lo hi hk hlt;exact(h0B.1 q).1
 have hw:w0.w.heap.size≤w.heap.size:=hr.below.size;have l1:φ.length=heap.length:=h1.lenφ;have l2:φ1.length=h0.length:=h2.lenφ;have r1:ρ.length=arr.length:=h1.lenρ;have r2:ρ1.length=a0.length:=h2.lenρ;have hm:Moved ⟨F,φ1,ρ1⟩ a0 ⟨F,φ++φ1,ρ++ρ1⟩ (arr++a0) heap.length arr.length:=⟨fun _ _ _ h=>h,fun i b hb=>by
  show(φ++φ1)[heap.length+i]? = _;rw[←l1,b3g];exact hb,fun j _=>by
  show(ρ++ρ1)[arr.length+j]? = _;rw[←r1,b3g],fun j n hn=>by rw[b3g];exact hn⟩
 have hx:Ext ⟨F,φ,ρ⟩ arr ⟨F,φ++φ1,ρ++ρ1⟩ (arr++a0):=⟨fun _ _ _ h=>h,fun i b hb=>by
  show(φ++φ1)[i]? = _;rw[h0e (b0w hb)];exact hb,fun k n hn=>⟨n,by rw[h0e (b0w hn)];exact hn,h0q _,fun _=>by
  show(ρ++ρ1)[k]? = _;rw[h0e (by rw[r1];exact b0w hn)]⟩⟩
 have hg2:∀ (i:Nat) b,φ1[i]? = some b→w.heap.size≤b:=fun i b hb=>(h2.geφ i b hb).1
 have hob:∀ (i:Nat) ob,(heap++h0.map (VObj.sh heap.length arr.length))[i]? = some ob→(i<heap.length∧heap[i]? = some ob)∨∃ j ob',i=heap.length+j∧h0[j]? = some ob'∧ob=ob'.sh heap.length arr.length:=fun i ob hi=>by
  rcases b1Y hi with h | ⟨j,rfl,h⟩
  ·exact .inl h
  ·rw[h0u]at h;obtain⟨c',hc',rfl⟩:=h0p.1 h;exact .inr ⟨j,c',rfl,hc',rfl⟩
 refine⟨⟨h1.newF,fun g cs hg=>⟨(h1.glob g cs hg).1,(h1.glob g cs hg).2.mono hx⟩,h1.below,h1.frz,h1.one,?_,by simp[l1,l2],?_,?_,?_,by simp[r1,r2],?_,?_,?_,?_,h1.ini,?_⟩,hx,hm⟩
 ·intro id ob hid;rcases hob id ob hid with⟨hl,hg⟩ | ⟨j,ob',rfl,hg,rfl⟩
  ·obtain⟨b,hb,hr⟩:=h1.obj id ob hg;exact⟨b,hx.φ _ _ hb,hr.keep hx rfl⟩
  ·obtain⟨b,hb,hr⟩:=h2.obj j ob' hg;exact⟨b,hm.φ _ _ hb,hr.sh hm⟩
 ·intro i j b hi hj;rcases b1Y hi with⟨_,g1⟩ | ⟨i',rfl,g1⟩ <;> rcases b1Y hj with⟨_,g2⟩ | ⟨j',rfl,g2⟩
  ·exact h1.nod i j b g1 g2
  ·have:=hφ _ _ g1;have:=hg2 _ _ g2;omega
  ·have:=hφ _ _ g2;have:=hg2 _ _ g1;omega
  ·rw[h2.nod i' j' b g1 g2]
 ·intro id b o hb hd;rcases b1Y hb with⟨hl,g1⟩ | ⟨i',rfl,g1⟩
  ·exact h1.sep id b o g1 (by rwa [h0e (by omega)]at hd)
  ·refine h2.sep i' b o g1 fun e=>hd ?_
   rw[l1,b3g,h0u,e];rfl
 ·intro id b hb;rcases b1Y hb with⟨hl,g1⟩ | ⟨i',rfl,g1⟩
  ·exact h1.geφ id b g1
  ·have:=h2.geφ i' b g1;exact⟨h1n hw this.1,this.2⟩
 ·intro k b lo hi hk hlt;rcases b1Y hk with⟨hl,g1⟩ | ⟨k',rfl,g1⟩
  ·obtain⟨q1,q2,q3,q4⟩:=h1.reg k b lo hi g1 hlt;refine⟨q1,fun id hid ob hob'=>?_,q3,q4⟩;rcases b1Y hid with⟨hl',g2⟩ | ⟨i',rfl,g2⟩
   ·exact q2 id g2 ob (by rwa [h0e (by omega)]at hob')
   ·have:=hρ _ _ _ _ g1 hlt;have:=hg2 _ _ g2;omega
  ·obtain⟨q1,q2,q3,q4⟩:=h2.reg k' b lo hi g1 hlt;refine⟨q1,fun id hid ob hob'=>?_,q3,h1n hw q4⟩;rcases b1Y hid with⟨hl',g2⟩ | ⟨i',rfl,g2⟩
   ·have:=hφ _ _ g2;have:w.heap.size≤b:=q4;omega
   ·rw[l1,b3g,h0u]at hob';obtain⟨c',hc',rfl⟩:=h0p.1 hob';have h3:=q2 i' g2 c' hc';have h4:=hs i' c' hc';cases c' <;> first | rfl | (cases h3;done) | (cases h4;done)
 ·intro k k' b lo hi lo' hi' hne hk hk' g1 g2;rcases b1Y hk with⟨_,q1⟩ | ⟨i',rfl,q1⟩ <;> rcases b1Y hk' with⟨_,q2⟩ | ⟨j',rfl,q2⟩
  ·exact h1.regd k k' b lo hi lo' hi' hne q1 q2 g1 g2
  ·have:=hρ _ _ _ _ q1 g1;have:w.heap.size≤b:=(h2.reg _ _ _ _ q2 g2).2.2.2;omega
  ·have:=hρ _ _ _ _ q2 g2;have:w.heap.size≤b:=(h2.reg _ _ _ _ q1 g1).2.2.2;omega
  ·exact h2.regd i' j' b lo hi lo' hi' (by omega) q1 q2 g1 g2
 ·intro k b lo hi hk;rcases b1Y hk with⟨_,q1⟩ | ⟨i',rfl,q1⟩
  ·exact h1.fre k b lo hi q1
  ·exact(h2.fre i' b lo hi q1).imp (fun h=>h1n hw h) fun h=>h
 ·intro id t s b hi hb;rcases hob id _ hi with⟨hl,hg⟩ | ⟨j,ob',rfl,hg,e⟩
  ·have hb':φ[id]? = some b:=by
    rcases b1Y hb with⟨_,g⟩ | ⟨i',rfl,g⟩
    ·exact g
    ·omega
   refine(hr.bld id t s b hg hb').keep (hbw.block b (hφ _ _ hb')) fun g hlt ⟨s1,s2,s3⟩=>⟨hbw.block g hlt,fun o=>?_,fun i hi'=>?_,fun k lo hi' hk=>?_⟩
   ·show F g o=none;cases hF':F g o with
    | none=>rfl
    | some v=>have q:=hnew g o v hF' hlt;have q2:F0 g o=none:=s1 o;rw[q2]at q;cases q
   ·rcases b1Y hi' with⟨_,g1⟩ | ⟨i',rfl,g1⟩
    ·exact s2 i g1
    ·have:=hg2 _ _ g1;omega
   ·rcases b1Y hk with⟨_,g1⟩ | ⟨i',rfl,g1⟩
    ·exact s3 k lo hi' g1
    ·rcases h1A lo hi' with hl2 | hl2
     ·have:w.heap.size≤g:=(h2.reg _ _ _ _ g1 hl2).2.2.2;omega
     ·exact hl2
  ·cases ob' <;> cases e
 ·refine⟨fun id k gen e cs hi=>?_,fun id id' k g g' e e' cs cs' h3 h4=>?_⟩
  ·rcases hob id _ hi with⟨hl,hg⟩ | ⟨j,ob',rfl,hg,e⟩
   ·obtain⟨q1,q2,b,hi',q3,q4,q5⟩:=h1.vs.at_ id k gen e cs hg;refine⟨by rw[h0e (b0w q1)];exact q1,q2,b,hi',?_,q4,fun j x hj=>(q5 j x hj).imp fun v hv=>⟨hv.1,hv.2.1.mono hx,hv.2.2⟩⟩;show(ρ++ρ1)[k]? = _;rw[h0e (by rw[r1];exact b0w q1)];exact q3
   ·cases ob' <;> cases e
  ·rcases hob id _ h3 with⟨hl,hg⟩ | ⟨j,ob',rfl,hg,e⟩ <;> rcases hob id' _ h4 with⟨hl',hg'⟩ | ⟨j',ob'',rfl,hg',e'⟩
   ·exact h1.vs.uni id id' k g g' _ _ cs cs' hg hg'
   ·cases ob'' <;> cases e'
   ·cases ob' <;> cases e
   ·cases ob' <;> cases e
theorem b0q.shift{E:Env}{f:FuncId}{args cargs:List V}{h:List VObj}{a:List Nat}{K K':b1y}(hp:b0Y cargs=true)(hc:b0q E.alive f cargs [] [] K)(ha:args.map share=cargs)
  (hk:∀ v h0 a0,K v h0 a0→(∀ ob∈h0,ob.whole=true)∧K' (v.sh h.length a.length) (h++h0.map (VObj.sh h.length a.length)) (a++a0)):b0q E f args h a K':=by
 intro G w0 w vals hr hargs;have hargs':b8a E.P ⟨G.F,[],[]⟩ [] cargs vals:=by
  have:=hargs.share;rw[ha]at this;exact⟨this.1,fun j x v hx hv=>(this.2 j x v hx hv).pure (b2Y hp j x hx) _ _ fun _ _ _ h=>h⟩
 refine(hc _ _ w vals hr.al.hide hargs').mono fun e w' hg=>?_
 obtain⟨val,he,v,h0,a0,G1,hv,hx,hr1,hrv⟩:=hg.alive
 replace hr1:=hr1.unal
 obtain⟨g1,g2⟩:=hr.back (F':=G1.F) hx.F hr1.newF hr1.frz hr1.one hr1.below;obtain⟨hw,hk'⟩:=hk v h0 a0 hv;obtain⟨j1,j2,j3⟩:=RelW.join (F:=G1.F) (φ:=G.φ) (ρ:=G.ρ) (φ1:=G1.φ) (ρ1:=G1.ρ) (F1:=G.F) G.F hr hr1.newF hr1.below g1 hr1 fun i ob hi=>hw ob (h0j hi)
 exact .inl ⟨val,he,_,_,_,_,hk',g2.trans j2,j1,hrv.sh j3⟩
end Go.Vg
namespace Go.Vg
def b3M(B:List (ByteArray×ByteArray))(cls:ByteArray):List ByteArray×ByteArray:=b7B B cls (B.length+1) [] ((b1G B cls).getD ⟨#[]⟩)
theorem c7O(B:List (ByteArray×ByteArray))(cls:ByteArray):∀ (f:Nat) (out:List ByteArray) (next:ByteArray),(b7B B cls f out next).1.length≤out.length+f
 | 0,out,next=>by simp[b7B]
 | f+1,out,next=>by
  rw[b7B];split
  ·simp
  ·have:=c7O B cls f (out++[next]) ((b1G B next).getD ⟨#[]⟩);simp only[h0h,List.length_singleton]at this;omega
theorem b8X(B:List (ByteArray×ByteArray))(cls:ByteArray):(b3M B cls).1.length≤B.length+1:=by
 have:=c7O B cls (B.length+1) [] ((b1G B cls).getD ⟨#[]⟩);simpa[b3M]using this
theorem b7c:∀ {a y:List Nat},b8I a (a++y)
 | [],[]=>trivial
 | [],_::_=>trivial
 | x::r,y=>⟨rfl,b7c⟩
theorem b8f{α:Type}{l:List α}{x:α}{y:List α}:(l++x::y)[l.length]? = some x:=by simp
theorem c3w{α:Type}{l:List α}{x z:α}{y:List α}:(l++x::y).set l.length z=l++z::y:=by simp
end Go.Vg
namespace Go.Proofs.YtighfcpaplmaiaaGreatDoor
open Go Go.Vg Go.Proofs
theorem c2W(B:List (ByteArray×ByteArray))(nm ds:V)(p b m:Nat)(h:List VObj)(a:List Nat)(cls:ByteArray)(hp:h[p]? = some (.cells [nm,.map b,.map m,ds]))(hb:h[b]? = some (.map (b6y B)))(hB:B.length≤1000000)(hnm:nm.some? = true)(hds:ds.some? = true){K:b1y}
  (hK:K (.tuple [sl 9 ((b3M B cls).1.map b0n),.str (b3M B cls).2]) h a):b0q env 63 [.ptr p 0,.str cls] h a K:=by
 refine b0q.tidy0 ?_;have hbl:=b0w hb;have hpl:=b0w hp;refine b0y (fn:=Tryz.f63) Tryz.func63 rfl (by rw[Tryz.ntmps63];simp) ?_;simp -implicitDefEqProofs only[go_sem,Tryz.f63,c1o,b0I hp,b0I hb,hp,hb];generalize hgo:b3M B cls=goal at hK;have hfin:∀ out next n z,b3M B cls=(out,next)→(∃ z',h++z=h++z')∧(∃ y,a++[n]=a++y)∧K (.tuple [sl 9 (out.map b0n),.str next]) h a:=by
  intro out next n z e;rw[hgo]at e;subst e;exact⟨⟨_,rfl⟩,⟨_,rfl⟩,hK⟩
 refine b1u (α:=List ByteArray×ByteArray) (fun s=>⟨[(8,.str s.2),(7,.map h.length),(6,.slice (.arr a.length) 9 (s.1.map b0n)),(5,.str ⟨#[]⟩),(4,.slice .nil 0 []),(0,.ptr p 0),(1,.str cls)],
   h++[.map (b2R (cls::s.1))],a++[s.1.length]⟩)
  (fun s=>b7B B cls (B.length+1 - s.1.length) s.1 s.2=goal∧s.1.Nodup∧∀ x∈s.1,(b1G B x).isSome=true) (fun s=>B.length+1 - s.1.length) ([],(b1G B cls).getD ⟨#[]⟩) ?_ ⟨by simpa[b3M]using hgo,by simp,by simp⟩ ?_
 ·simp -implicitDefEqProofs only[go_sem];exact⟨by omega,rfl,b7c⟩
 ·rintro⟨out,next⟩ ⟨i1,i2,i3⟩;simp only at i1 i2 i3;have hle:out.length≤B.length:=by
   have:=c1x out (B.map (·.1)) i2 fun x hx=>b7E (i3 x hx)
   simpa using this
  obtain⟨f,hf⟩:∃ f,B.length+1 - out.length=f+1:=⟨B.length - out.length,by omega⟩
  rw[hf,b7B]at i1;simp -implicitDefEqProofs only[go_sem,c1o,b9p,d3l,b0I hp,b0I hb,hp,hb,b8f,c3w];have hstop:(decide (next=⟨#[]⟩) || !(b1G B next).isSome || (cls::out).any fun x=>decide (x=next))=true→b3M B cls=(out,next):=fun h=>by
   rw[if_pos h]at i1;rw[hgo,←i1]
  refine⟨fun h1=>⟨fun h2=>⟨fun h3=>hfin _ _ _ _ (hstop (by simp[h3])),fun h3=>?_⟩,fun h2=>hfin _ _ _ _ (hstop (by simp[h2]))⟩,fun h1=>hfin _ _ _ _ (hstop (by simp[h1]))⟩;have hsm:(b1G B next).isSome=true:=by simpa using h2
  have hc:¬ (decide (next=⟨#[]⟩) || !(b1G B next).isSome || (cls::out).any fun x=>decide (x=next))=true:=by
   rw[h3,h2];simp[h1]
  rw[if_neg hc]at i1;rw[d2C h3];simp -implicitDefEqProofs only[go_sem,c1o,b0I hp,b0I hb,hp,hb,b8f,c3w];have hno:next ∉ out:=fun hm=>by
   have:((cls::out).any fun x=>decide (x=next))=true:=by simp;exact .inr hm
   rw[h3]at this;cases this
  refine⟨by omega,(out++[next],(b1G B next).getD ⟨#[]⟩),by simp;omega,⟨?_,?_,?_⟩,⟨rfl,by simp[b0n]⟩,rfl,by simp only[h0h,List.length_singleton];simp -implicitDefEqProofs only[go_sem]⟩
  ·have:B.length+1 - (out++[next]).length=f:=by simp;omega
   simp only[this];exact i1
  ·simp only[];rw[h1v];exact⟨i2,by simp,fun x hx y hy=>by simp at hy;subst hy;rintro rfl;exact hno hx⟩
  ·intro x hx;rcases h0E.1 hx with h | h
   ·exact i3 x h
   ·simp at h;subst h;exact hsm
def c2j(B:List (ByteArray×ByteArray))(M:List Dl)(cls name:ByteArray):Option Dl:=(cls::(b3M B cls).1).findSome? fun s=>M.find? fun d=>decide (s=d.owner) && decide (name=d.name)
theorem d8e{M:List Dl}{o n:ByteArray}{K:V→Prop}:b1L env 54 (b1e [0,0] [.str o,.str n] (mapM M) 0) true K=K (b2F (M.find? fun d=>decide (o=d.owner) && decide (n=d.name))):=by
 have key:∀ (M:List Dl) (i:Nat),(∃ j e,b1e [0,0] [.str o,.str n] (mapM M) i=some (some (j,.agg (Dl.enc e)))∧(M.find? fun d=>decide (o=d.owner) && decide (n=d.name))=some e)∨(b1e [0,0] [.str o,.str n] (mapM M) i=some none∧(M.find? fun d=>decide (o=d.owner) && decide (n=d.name))=none):=by
  intro M;induction M with
  | nil=>exact fun i => .inr ⟨rfl,rfl⟩
  | cons e r ih =>
   intro i;have heq:Vg.eqL [V.str o,V.str n] [V.str e.owner,V.str e.name]=some (decide (o=e.owner) && decide (n=e.name)):=by
    simp only[Vg.eqL,eq1,h1g]
   have h1:b1e [0,0] [.str o,.str n] (mapM (e::r)) i=if(decide (o=e.owner) && decide (n=e.name))=true then some (some (i,.agg e.enc))else b1e [0,0] [.str o,.str n] (mapM r) (i+1):=by
    simp only[mapM,h0s,b1e,heq];have hf:b3F [0,0] [V.str o,V.str n] [V.str e.owner,V.str e.name]=true:=rfl;rw[if_pos hf];cases (decide (o=e.owner) && decide (n=e.name)) <;> rfl
   rw[h1,h0W];by_cases h:(decide (o=e.owner) && decide (n=e.name))=true
   ·exact .inl ⟨i,_,by rw[if_pos h],by rw[h]⟩
   ·rw[if_neg h];have:(decide (o=e.owner) && decide (n=e.name))=false:=by simpa using h
    rw[this];exact ih (i+1)
 rcases key M 0 with⟨j,e,h1,h2⟩ | ⟨h1,h2⟩
 ·rw[h1,h2];simp -implicitDefEqProofs only[go_sem,b2F];rfl
 ·rw[h1,h2];simp -implicitDefEqProofs only[go_sem,b2F,d1S];rfl
theorem d5I(B:List (ByteArray×ByteArray))(M:List Dl)(nm ds:V)(p b m:Nat)(h:List VObj)(a:List Nat)(cls name:ByteArray)(hp:h[p]? = some (.cells [nm,.map b,.map m,ds]))(hb:h[b]? = some (.map (b6y B)))(hm:h[m]? = some (.map (mapM M)))
  (hB:B.length≤1000000) (hnm:nm.some? = true) (hds:ds.some? = true) {K:b1y} (hK:K (b2F (c2j B M cls name)) h a) :
  b0q env 62 [.ptr p 0,.str cls,.str name] h a K:=by
 refine b0q.tidy0 ?_;refine b0y (fn:=Tryz.f62) Tryz.func62 rfl (by rw[Tryz.ntmps62];simp) ?_;simp -implicitDefEqProofs only[go_sem,Tryz.f62];refine c2W B nm ds p b m _ _ cls (b0I hp) (b0I hb) hB hnm hds ?_;simp -implicitDefEqProofs only[go_sem];have hlook:c2j B M cls name=(cls::(b3M B cls).1).findSome? fun s=>M.find? fun d=>decide (s=d.owner) && decide (name=d.name):=rfl
 have hll:(cls::(b3M B cls).1).length≤B.length+2:=by have:=b8X B cls;simp only[h0o];omega
 generalize(b3M B cls).1=ch at hlook hll ⊢;obtain⟨L,hL⟩:∃ L,L=cls::ch:=⟨_,rfl⟩
 rw[←hL]at hlook hll;refine⟨by rw[hL,h0o]at hll;omega,fun h0=>?_,fun h0 _=>?_⟩
 ·have hch:ch=[]:=by simpa using h0
  subst hch;obtain⟨y,hy⟩:∃ y:List Nat,y=[]:=⟨_,rfl⟩
  refine b0l (β:=List VObj) L (fun pre zz=>⟨[(25,.int .i64 pre.length),(24,.int .i64 L.length),(23,sl 9 (L.map b0n)),(7,.bool false),(6,.ptr h.length 0),(0,.ptr p 0),(2,.str name)],
   h ++ .cells [.int .i64 0,.str ⟨#[]⟩,.str ⟨#[]⟩,.int .i64 0,.int .i64 0]::zz,a++y⟩)
   (fun pre post _=>c2j B M cls name=post.findSome? fun s=>M.find? fun d=>decide (s=d.owner) && decide (name=d.name)) [] ?_ hlook ?_ ?_
  ·rw[hL];simp -implicitDefEqProofs only[go_sem];rw[hy];exact⟨⟨rfl,rfl⟩,b7c,by simp,.inl (by simp)⟩
  ·intro zz he;simp -implicitDefEqProofs only[go_sem,b8f];rw[he]at hK;exact⟨⟨_,rfl⟩,⟨_,rfl⟩,hK⟩
  ·rintro pre s post zz hx he;have hpl:L.length=pre.length+1+post.length:=by rw[hx];simp;omega
   have hgx:(L.map b0n).getD (pre.length:Int).toNat []=b0n s:=by rw[hx];simp[h0c]
   have hlt:((pre.length:Int)<L.length)=True:=by simp;omega
   have hw:IntKind.i64.wrap (↑pre.length+1)=↑(pre.length+1):=b0g (by omega);rw[List.findSome?_cons]at he;simp -implicitDefEqProofs only[go_sem,hgx,hlt,b0n,b5a,d8e,b2F,b0I hp,b0I hm,hp,hm,b8f,c3w,h0x,g9Y,List.getElem?_concat_length,g9Z,h0a];cases hf:M.find? (fun d=>decide (s=d.owner) && decide (name=d.name))with
   | some e =>
    rw[hf]at he;rw[he]at hK;exact⟨fun _=>⟨⟨_,rfl⟩,⟨_,rfl⟩,hK⟩,fun h=>(by cases h)⟩
   | none =>
    rw[hf]at he;exact⟨fun h=>(by cases h),fun _=>⟨_,he,hw,b0r,by simp,.inl (by simp)⟩⟩
 ·refine fun _=>?_
  obtain⟨y,hy⟩:∃ y:List Nat,y=[1+ch.length]:=⟨_,rfl⟩
  refine b0l (β:=List VObj) L (fun pre zz=>⟨[(25,.int .i64 pre.length),(24,.int .i64 L.length),(23,sl 9 (L.map b0n)),(7,.bool false),(6,.ptr h.length 0),(0,.ptr p 0),(2,.str name)],
   h ++ .cells [.int .i64 0,.str ⟨#[]⟩,.str ⟨#[]⟩,.int .i64 0,.int .i64 0]::zz,a++y⟩)
   (fun pre post _=>c2j B M cls name=post.findSome? fun s=>M.find? fun d=>decide (s=d.owner) && decide (name=d.name)) [] ?_ hlook ?_ ?_
  ·rw[hL];simp -implicitDefEqProofs only[go_sem];rw[hy];exact⟨⟨rfl,rfl⟩,by simp -implicitDefEqProofs only[go_sem],by simp,.inl (by simp)⟩
  ·intro zz he;simp -implicitDefEqProofs only[go_sem,b8f];rw[he]at hK;exact⟨⟨_,rfl⟩,⟨_,rfl⟩,hK⟩
  ·rintro pre s post zz hx he;have hpl:L.length=pre.length+1+post.length:=by rw[hx];simp;omega
   have hgx:(L.map b0n).getD (pre.length:Int).toNat []=b0n s:=by rw[hx];simp[h0c]
   have hlt:((pre.length:Int)<L.length)=True:=by simp;omega
   have hw:IntKind.i64.wrap (↑pre.length+1)=↑(pre.length+1):=b0g (by omega);rw[List.findSome?_cons]at he;simp -implicitDefEqProofs only[go_sem,hgx,hlt,b0n,b5a,d8e,b2F,b0I hp,b0I hm,hp,hm,b8f,c3w,h0x,g9Y,List.getElem?_concat_length,g9Z,h0a];cases hf:M.find? (fun d=>decide (s=d.owner) && decide (name=d.name))with
   | some e =>
    rw[hf]at he;rw[he]at hK;exact⟨fun _=>⟨⟨_,rfl⟩,⟨_,rfl⟩,hK⟩,fun h=>(by cases h)⟩
   | none =>
    rw[hf]at he;exact⟨fun h=>(by cases h),fun _=>⟨_,he,hw,b0r,by simp,.inl (by simp)⟩⟩
def b1H(u:List Un)(cls name:ByteArray):Option Dl:=c2j (b0C (btU u) (b0e u 0)) (b3x (b0e u 0)) cls name
theorem f5f(k ka:Nat):∀ B:List (ByteArray×ByteArray),(b6y B).map (fun p=>(p.1.sh k ka,p.2.sh k ka))=b6y B
 | []=>rfl
 | x::r=>by
  have:=f5f k ka r;simp only[b6y,h0s]at this ⊢;rw[this];rfl
theorem f6z(k ka:Nat):∀ M:List Dl,(mapM M).map (fun p=>(p.1.sh k ka,p.2.sh k ka))=mapM M
 | []=>rfl
 | x::r=>by
  have:=f6z k ka r;simp only[mapM,h0s]at this ⊢;rw[this];rfl
theorem c1J:∀ B:List (ByteArray×ByteArray),b0P (B.map fun p=>[V.str p.1])=true
 | []=>rfl
 | x::r=>by show(b0Y _ && b0P _)=true;rw[c1J r];rfl
theorem d8Y(u:List Un)(hu:b2D u){h:List VObj}{a:List Nat}{K:b1y}
  (hK:K (.ptr (h.length+2) 0) (h++[.map (b6y (b0C (btU u) (b0e u 0))),.map (mapM (b3x (b0e u 0))),.cells [.slice (.arr a.length) 9 ((b0C (btU u) (b0e u 0)).map fun p=>[.str p.1]),.map h.length,.map (h.length+1),sl 54 ((b0e u 0).map Dl.enc)]]) (a++[(b0C (btU u) (b0e u 0)).length])) :
  b0q env 61 [sl 70 (u.map Un.enc)] h a K:=by
 refine b0q.shift (cargs:=[sl 70 (u.map Un.enc)]) (by simp -implicitDefEqProofs only[go_sem];exact b0v _) (b0q.toE (E:=env) (E':=env.alive) rfl rfl rfl (fun _=>Iff.rfl) (fun _ _ h=>h) (g5f u hu)) (by simp -implicitDefEqProofs only[go_sem]) ?_;rintro v h0 a0 ⟨rfl,rfl,rfl⟩;refine⟨by simp[VObj.whole],?_⟩;simp only[h0s,h0T,VObj.sh,f5f,f6z,V.sh,shL];rw[b5K _ _ _ (c1J _),V.sh_pure _ _ (sl 54 ((b0e u 0).map Dl.enc)) (by simp -implicitDefEqProofs only[go_sem];exact b0D _)];exact hK
theorem c5K(u:List Un)(hu:b2D u)(cls name:ByteArray):b0s env 32 [sl 70 (u.map Un.enc),.str cls,.str name] (b2F (b1H u cls name)):=by
 have hdl:=b0H u 0 fun y hy=>(hu.2 y hy).1
 have hul:=hu.1;have hbl:=b1i (btU u) (b0e u 0);refine b0i (fn:=Tryz.f32) Tryz.func32 rfl (by rw[Tryz.ntmps32];simp) (by simp -implicitDefEqProofs only[go_sem];exact b0v _) (by simp -implicitDefEqProofs only[go_sem,b2F]) ?_;simp -implicitDefEqProofs only[go_sem,Tryz.f32];refine d8Y u hu ?_;simp -implicitDefEqProofs only[go_sem];refine d5I _ (b3x (b0e u 0)) _ _ _ _ _ _ _ cls name rfl rfl rfl (by omega) (by rfl) (by rfl) ?_;simp -implicitDefEqProofs only[go_sem,b2F];rfl
end Go.Proofs.YtighfcpaplmaiaaGreatDoor
namespace Go.Vg
def VObj.isVec:VObj→Bool
 | .vec .. => true
 | _=>false
def b4f(e:TypeId)(n0 m0:Nat)(z:List VObj)(y:List Nat)(v:V)(l:List (List V)):Prop :=
 (l=[]∧∃ e0,v = .slice .nil e0 [])∨(l≠[]∧∃ j k gen,v = .vec (n0+j) (m0+k) gen l.length e∧z[j]? = some (.vec (m0+k) gen e l.flatten)∧y[k]? = some gen)
theorem b4f.nil{e n0 m0 e0:Nat}{z:List VObj}{y:List Nat}:b4f e n0 m0 z y (.slice .nil e0 []) [] := .inl ⟨rfl,e0,rfl⟩
theorem b4f.asl{e n0 m0:Nat}{z:List VObj}{y:List Nat}{v:V}{l:List (List V)}(h:b4f e n0 m0 z y v l):b8p v=false:=by
 rcases h with⟨_,e0,rfl⟩ | ⟨_,j,k,gen,rfl,_⟩ <;> rfl
theorem b4f.app{e n0 m0:Nat}{z:List VObj}{y:List Nat}{v:V}{l:List (List V)}(h:b4f e n0 m0 z y v l)(z2:List VObj)(y2:List Nat):b4f e n0 m0 (z++z2) (y++y2) v l:=by
 rcases h with h | ⟨h1,j,k,gen,h2,h3,h4⟩
 ·exact .inl h
 ·exact .inr ⟨h1,j,k,gen,h2,by rw[h0e (b0w h3)];exact h3,by rw[h0e (b0w h4)];exact h4⟩
def f6o(z z':List VObj):Prop:=∀ (i:Nat) ob,z[i]? = some ob→ob.isVec=false→z'[i]? = some ob
theorem f6o.refl{z:List VObj}:f6o z z:=fun _ _ h _=>h
theorem b7e{c:Nat}:∀ {l:List (List V)},(∀ el∈l,el.length=c)→l.flatten.length=l.length * c
 | [],_=>by simp
 | x::r,h=>by
  rw[h1b,h0h,b7e fun el he=>h el (by simp[he]),h x (by simp),h0o,h0V];omega
theorem b4x{E:Env}{e e':Nat}{o:Own}{h0 z:List VObj}{a0 y:List Nat}{v:V}{l:List (List V)}{x:List V}{K:b1y}(hv:b4f e h0.length a0.length z y v l)
  (hlen:∀ el∈l,el.length=E.P.cellsOf e) (hok:b0W E.P e=true) (hb:(l.length+1) * E.P.bytesOf e≤140737488355328)
  (hK:∀ v' z' y',b4f e h0.length a0.length z' y' v' (l++[x])→z.length≤z'.length→f6o z z'→y.length≤y'.length→K v' (h0++z') (a0++y')) :
  c4d E (h0++z) (a0++y) (some (.slice e)) (some (.slice e')) v (.slice o e [x]) K:=by
 rcases hv with⟨rfl,e0,rfl⟩ | ⟨h1,j,k,gen,rfl,h3,h4⟩
 ·rw[b8x];refine⟨⟨by simp,rfl,hok⟩,⟨rfl,.inl rfl,by simpa using hb⟩,?_⟩;rw[h0x,h0x,h0h,h0h];refine hK _ _ _ (.inr ⟨by simp,z.length,y.length,b8U,by simp,?_,by simp⟩) (by simp) (fun i ob hi _=>by rw[h0e (b0w hi)];exact hi) (by simp);simp
 ·have hj:=b0w h3;have hk:=b0w h4;have hg:(h0++z)[h0.length+j]? = some (.vec (a0.length+k) gen e l.flatten):=by rw[b3g];exact h3
  rw[c1j,hg,c0a];refine⟨⟨by simp,rfl,hok⟩,⟨rfl,rfl,b7e hlen,by simpa using hb⟩,?_⟩;have e1:(h0++z).set (h0.length+j) (.vec (a0.length+k) (gen+1) e (l.flatten++[x].flatten))=h0++z.set j (.vec (a0.length+k) (gen+1) e (l.flatten++[x].flatten)):=by
   rw[h0N _ _ (by omega)];congr 2;omega
  have e2:(a0++y).set (a0.length+k) (gen+1)=a0++y.set k (gen+1):=by
   rw[h0N _ _ (by omega)];congr 2;omega
  rw[e1,e2];refine hK _ _ _ (.inr ⟨by simp,j,k,gen+1,by simp,?_,h0i hk⟩) (by simp) (fun i ob hi hiv=>?_) (by simp)
  ·rw[h0i hj];simp
  ·by_cases ei:i=j
   ·subst ei;rw[h3]at hi;cases hi;cases hiv
   ·rw[h0m (Ne.symm ei)];exact hi
theorem c1Q{c:Nat}:∀ {l:List (List V)},(∀ el∈l,el.length=c)→b3a c l.length l.flatten=l
 | [],_=>rfl
 | x::r,h=>by
  have hx:=h x (by simp);rw[h0o,b3a,h1b,List.take_left' hx,List.drop_left' hx,c1Q fun el he=>h el (by simp[he])]
theorem b0q.accR{E:Env}{f:FuncId}{args:List V}{h:List VObj}{a:List Nat}{K:b1y}
  (hc:b0q E f args h a fun v h' a'=>∃ z y e l,h'=h++z∧a'=a++y∧b4f e h.length a.length z y v l∧b0W E.P e=true∧(∀ el∈l,el.length=E.P.cellsOf e)∧b0P l=true∧K (sl e l) h a) :
  b0q E f args h a K:=by
 refine b0q.tidy0 fun G w0 w vals hrel ha=>?_
 refine(hc G w0 w vals hrel ha).mono fun e' w' hg=>?_
 rcases hg with⟨val,he,v,heap',arr',G',hv,hx,hr,hrv⟩ | hd
 ·obtain⟨z,y,e,l,rfl,rfl,hacc,hok,hlen,hpl,hK⟩:=hv;have hps:(share (sl e l)).pure=true:=by
   unfold sl;cases l with
   | nil=>rfl
   | cons b r=>simpa[share,shareA,share1,sl,V.pure,Own.plain]using hpl
  have hss:share (sl e l)=sl e l:=by cases l <;> rfl
  rcases hacc with⟨rfl,e0,rfl⟩ | ⟨h1,j,k,gen,rfl,h3,h4⟩
  ·refine .inl ⟨val,he,_,_,_,G',⟨⟨z,rfl⟩,⟨y,rfl⟩,hps,?_⟩,hx,hr,hrv.share1⟩;rw[hss];exact hK
  ·have hg:(h++z)[h.length+j]? = some (.vec (a.length+k) gen e l.flatten):=by rw[b3g];exact h3
   obtain⟨i,zz,hi',hz,hz1,hzs,his,hib,hs1,hb1,hb2⟩:=b2J hok;have hlp:0<l.length:=List.length_pos_iff.2 h1;have hfl:=b7e hlen;have hpos:0<l.flatten.length:=by rw[hfl];exact Nat.mul_pos hlp hs1
   obtain⟨G'',b,hi,g1,g2,g3,g4,g5⟩:=hr.freezeV hg hpos;have hth:=hrv.thawV g2 g1 hok (by rw[hfl];exact h0q _) g5;rw[c1Q hlen]at hth;have hj:=b0w h3;have hk:=b0w h4;refine .inl ⟨val,he,_,_,_,G'',⟨⟨z.set j .dead,?_⟩,⟨y.set k (gen+1),?_⟩,hps,?_⟩,hx.trans g3,g4,hth⟩
   ·rw[h0N _ _ (by omega)];congr 2;omega
   ·rw[h0N _ _ (by omega)];congr 2;omega
   ·rw[hss];exact hK
 ·exact .inr hd
theorem c4P{E:Env}{f:FuncId}{args:List V}{e:TypeId}{l:List (List V)}(hp:b0Y args=true)(hpl:b0P l=true)(hok:b0W E.P e=true)(hlen:∀ el∈l,el.length=E.P.cellsOf e)
  (h:b0q E f args [] [] fun v h' a'=>b4f e 0 0 h' a' v l) (hal:E.alive=E:=by exact rfl):b0s E f args (sl e l):=by
 refine⟨hp,?_,?_⟩
 ·unfold sl;cases l with
  | nil=>rfl
  | cons b r=>simpa[V.pure,Own.plain]using hpl
 ·rw[hal];refine b0q.accR (h.mono fun v h' a' hv=>⟨h',a',e,l,rfl,rfl,hv,hok,hlen,hpl,rfl⟩)
def b1E(l:List ByteArray):List ByteArray:=l.mergeSort fun a b=>decide (a.data.toList≤b.data.toList)
theorem b1N(l:List ByteArray):(b1E l).Perm l:=List.mergeSort_perm l _
theorem b4B(l:List ByteArray):(b1E l).length=l.length:=(b1N l).length_eq
end Go.Vg
namespace Go.Proofs.YtighfcpaplmaiaaGreatDoor
open Go Go.Vg Go.Proofs Go.Shelf Go.RowKit Go.Sort
theorem c8u(l:List ByteArray):(b1E l).map (·.data.toList)=(l.map (·.data.toList)).mergeSort fun x y=>decide (x≤y):=by
 unfold b1E;rw[List.map_mergeSort];intro a _ b _;rfl
theorem b9D:∀ l:List ByteArray,(l.map b0n).flatten=l.map V.str
 | []=>rfl
 | x::r=>by simp only[h0s,h1b,b9D r];rfl
theorem b6H{h0 z:List VObj}{a0 y:List Nat}{v:V}{l:List ByteArray}{K:b1y}(hv:b4f 9 h0.length a0.length z y v (l.map b0n))
  (hK:∀ z',b4f 9 h0.length a0.length z' y v ((b1E l).map b0n)→z'.length=z.length→f6o z z'→K (.tuple []) (h0++z') (a0++y)) :
  b0q (envV 28) 70 [v] (h0++z) (a0++y) K:=by
 intro G w0 w vals hr ha;obtain⟨u,vs,rfl,hu,ha⟩:=ha.cons;rw[ha.nil];rcases hv with⟨hl,e0,rfl⟩ | ⟨h1,j,k,gen,rfl,h3,h4⟩
 ·have hl':l=[]:=by simpa using hl
  subst hl';have hu2:=hu.nil_is.1;subst hu2;refine(Any.sort_Strings_none Tryz.lays192 none 0 w).mono ?_;rintro e w' ⟨rfl,rfl⟩;exact .inl ⟨_,rfl,_,_,_,G,hK z (.inl ⟨by simp[b1E],e0,rfl⟩) rfl f6o.refl,Ext.refl _ _,hr,.tuple _ _ rfl (by simp)⟩
 ·rw[h0v]at hu hK;rw[b9D]at h3;have hg:(h0++z)[h0.length+j]? = some (.vec (a0.length+k) gen 9 (l.map V.str)):=by rw[b3g];exact h3
  obtain⟨hak,hgg,b,hi,hρ,hch,hcells⟩:=hr.vs.at_ _ _ _ _ _ hg;cases hu with
  | vec _ _ _ _ _ b' off cap hvv g1 g2 =>
  obtain⟨n,q1,q2,q3⟩:=hvv;rw[hak]at q1;cases q1
  obtain⟨b1,hi1,q4,q5,q6,q7,q8⟩:=q3 rfl;rw[hρ]at q4;cases q4
  subst q7 q8;have hce:Tryz.prog.cellsOf 9=1:=by kernel_rfl
  rw[show(envV 28).P=Tryz.prog from rfl,hce,Nat.mul_one]at q5;subst q5;have hlp:0<l.length:=by
   rcases Nat.eq_zero_or_pos l.length with h | h
   ·exact absurd (by rw[List.length_eq_zero_iff.1 h];rfl) h1
   ·exact h
  have hhi:0<hi:=by omega
  obtain⟨⟨c,t,hb,hcz⟩,hloose,hFn,hw0⟩:=hr.reg _ b 0 hi hρ hhi;have hblk:b<w.heap.size:=(h0B.1 hb).1;have hget:∀ (m:Nat) x,l[m]? = some x→w.cell? ⟨b,m,none⟩=some (.string x)∧x.size≤1152921504606846976:=fun m x hm=>by
   obtain⟨v,r1,r2,r3⟩:=hcells m (.str x) (by rw[h0u,hm];rfl);cases r2 with
   | str _ hs=>exact⟨r1,hs⟩
  have hH:Holds encStr w b 0 (l.map (·.data.toList)).toArray:=by
   intro m hm;have hml:m<l.length:=by simpa using hm
   have:=hget m l[m] (h0f hml);rw[h0w];refine⟨?_,by simp[World.frozen?,hb]⟩;rw[this.1,getElem!_pos _ m hm];simp[encStr]
  have hcall:=Any.sort_Strings Tryz.lays192 b 0 hi (l.map (·.data.toList)) w hH hblk (by rw[h0v];omega);rw[h0v]at hcall;refine hcall.mono ?_;rintro e w' ⟨rfl,n,os,rfl⟩;rw[←c8u];have hsl:=b4B l;have hmem:∀ x∈b1E l,x.size≤1152921504606846976:=fun x hx=>by
   obtain⟨m,hm,rfl⟩:=h1h ((b1N l).mem_iff.1 hx);exact(hget m _ (h0f hm)).2
  have hsz2:((b1E l).map (·.data.toList)).toArray.size=l.length:=by simp[hsl]
  obtain⟨hx,hr'⟩:=hr.vecStep2 (gen':=gen) (cs':=(b1E l).map V.str) (w':=putRow encStr (Sort.ahead w n) b 0 ((b1E l).map (·.data.toList)).toArray) (c':=putCells encStr 0 ((b1E l).map (·.data.toList)).toArray c) hg hρ hhi (h0q _) hb (by rw[h0v,hsl];exact q6) (fun m x hm=>by
    rw[h0u]at hm;obtain⟨s,hs,rfl⟩:=h0p.1 hm;have hml:=b0w hs;have hmc:m<c.size:=by omega
    refine⟨.string s,?_,.str _ (hmem s (h0j hs)),rfl⟩;simp only[putCells,Array.getElem?_mapIdx,h0t hmc,h0D];rw[if_pos ⟨Nat.zero_le _,by rw[hsz2];omega⟩,Nat.sub_zero,getElem!_pos _ m (by rw[hsz2];omega)];obtain⟨hm2,rfl⟩:=h0b.1 hs;simp[encStr]) rfl rfl rfl (by simp[putRow,mapBlock,Sort.ahead]) (fun k' hk'=>by
    simp only[putRow,mapBlock,Array.getElem?_modify];rw[if_neg (Ne.symm hk')];rfl) (by
    simp only[putRow,mapBlock,Array.getElem?_modify];rw[if_pos trivial,show(Sort.ahead w n).heap=w.heap from rfl,hb];rfl) (by simp[putCells]) (fun m hm=>by
    simp only[putCells,Array.getElem?_mapIdx];cases hcj:c[m]? with
    | none=>rfl
    | some y =>
     simp only[h0D];rw[if_neg];intro h;have:=h.2;rw[hsz2]at this;omega)
  have hset:(a0++y).set (a0.length+k) gen=a0++y:=b3n hak;rw[hset]at hx hr';have hst:(h0++z).set (h0.length+j) (.vec (a0.length+k) gen 9 ((b1E l).map V.str))=h0++z.set j (.vec (a0.length+k) gen 9 ((b1E l).map V.str)):=by
   rw[h0N _ _ (by omega)];congr 2;omega
  rw[hst]at hr';have hj:=b0w h3;refine .inl ⟨_,rfl,_,_,_,G,hK _ (.inr ⟨?_,j,k,gen,?_,?_,h4⟩) (by simp) (fun i ob hi hiv=>?_),hx,hr'.belowW ⟨rfl,rfl,rfl,?_,fun i hi=>?_⟩,.tuple _ _ rfl (by simp)⟩
  ·intro h;have:=congrArg List.length h;rw[h0v,hsl,h0J]at this;omega
  ·rw[h0v,hsl]
  ·rw[h0i hj,b9D]
  ·by_cases ei:i=j
   ·subst ei;rw[h3]at hi;cases hi;cases hiv
   ·rw[h0m (Ne.symm ei)];exact hi
  ·simp[putRow,mapBlock,Sort.ahead]
  ·exact heap_grow_old _ _ hi
end Go.Proofs.YtighfcpaplmaiaaGreatDoor
namespace Go.Vg
def c7h(B:List (ByteArray×ByteArray))(cls:ByteArray)(p:ByteArray×ByteArray):Bool:=(b3M B p.1).1.any fun x=>decide (x=cls)
def d8E(B:List (ByteArray×ByteArray))(cls:ByteArray):List ByteArray:=b1E ((B.filter (c7h B cls)).map (·.1))
def c9U(p:ByteArray×ByteArray):List V:=[.str p.1]
theorem b1k{N:Nat}{x:V}:tell N x x:=by
 have refl1:∀ x,Vg.tell1 N x x:=fun x=>by
  unfold Vg.tell1;split <;> simp_all
 have reflL:∀ cs,b7v N cs cs:=fun cs=>by
  induction cs with
  | nil=>trivial
  | cons x r ih=>exact And.intro (refl1 x) ih
 cases x
 case agg cs=>exact reflL cs
 all_goals(unfold tell;first | exact refl1 _ | trivial | simp[Vg.tell1])
end Go.Vg
namespace Go.Proofs.YtighfcpaplmaiaaGreatDoor
open Go Go.Vg Go.Proofs
theorem b3m:b0W Tryz.prog 9=true:=by kernel_rfl
theorem b3z{l:List ByteArray}:∀ el∈l.map b0n,el.length=(envV 28).P.cellsOf 9:=by
 intro el h;obtain⟨x,_,rfl⟩:=h1p.1 h;have hc:Tryz.prog.cellsOf 9=1:=by kernel_rfl
 rw[show(envV 28).P=Tryz.prog from rfl,hc];rfl
theorem g3Z(B:List (ByteArray×ByteArray))(o:Own)(ds:V)(p b m:Nat)(h:List VObj)(a:List Nat)(cls:ByteArray)(hp:h[p]? = some (.cells [.slice o 9 (B.map c9U),.map b,.map m,ds]))(hb:h[b]? = some (.map (b6y B)))
  (hB:B.length≤1000000) (hds:ds.some? = true) {K:b1y} (hK:K (sl 9 ((d8E B cls).map b0n)) h a) :
  b0q env 64 [.ptr p 0,.str cls] h a K:=by
 refine b0q.ofV (tv:=28) (b0q.accR ?_);refine b0y (fn:=Tryz.f64) Tryz.func64 rfl (by rw[Tryz.ntmps64];simp) ?_;simp -implicitDefEqProofs only[go_sem,Tryz.f64,b0I hp,hp];intro _ _;refine b0l (β:=V×List VObj×List Nat) B (fun pre b=>⟨[(17,.int .i64 pre.length),(16,.int .i64 B.length),(15,sl 9 (B.map c9U)),(5,b.1),(0,.ptr p 0),(1,.str cls)],h++b.2.1,a++b.2.2⟩)
  (fun pre post b=>b4f 9 h.length a.length b.2.1 b.2.2 b.1 (((pre.filter (c7h B cls)).map (·.1)).map b0n)) (.slice .nil 0 [],[],[]) ?_ b4f.nil ?_ ?_
 ·simp -implicitDefEqProofs only[go_sem];rfl
 ·rintro⟨v,z,y⟩ hacc;simp only at hacc ⊢;simp -implicitDefEqProofs only[go_sem];refine b6H hacc fun z' hacc' _ _=>?_
  simp -implicitDefEqProofs only[go_sem];refine⟨z',y,_,_,rfl,rfl,hacc',b3m,b3z,b5L _,hK⟩
 ·rintro pre x post ⟨v,z,y⟩ hx hacc;have hpl:B.length=pre.length+1+post.length:=by rw[hx];simp;omega
  have hgx:(B.map c9U).getD (pre.length:Int).toNat []=c9U x:=by rw[hx];simp[h0c]
  have hlt:((pre.length:Int)<B.length)=True:=by simp;omega
  have hw:IntKind.i64.wrap (↑pre.length+1)=↑(pre.length+1):=b0g (by omega);simp only at hacc ⊢;have hfl:(pre.filter (c7h B cls)).length≤pre.length:=h1o _ _;have hfs:(((pre++[x]).filter (c7h B cls)).map (·.1)).map b0n=((pre.filter (c7h B cls)).map (·.1)).map b0n++if c7h B cls x=true then [b0n x.1]else []:=by
   rw[List.filter_append,h0M,h0M];congr 1;by_cases hs:c7h B cls x=true
   ·simp[List.filter_cons,hs]
   ·simp[List.filter_cons,hs]
  have hsb:c7h B cls x=(b3M B x.1).1.any fun s=>decide (s=cls):=rfl
  have hbl:(envV 28).P.bytesOf 9=16:=by
   rw[show(envV 28).P=Tryz.prog from rfl];kernel_rfl
  simp -implicitDefEqProofs only[go_sem,hgx,hlt,c9U];refine b0q.toV (c2W B _ ds p b m _ _ x.1 (b0I hp) (b0I hb) hB (by cases o <;> rfl) hds ?_);simp -implicitDefEqProofs only[go_sem];intro _ _;have hchl:=b8X B x.1;generalize(b3M B x.1).1=ch at hsb hchl ⊢;refine b0l (β:=Unit) ch (fun q _=>⟨[(29,.int .i64 q.length),(28,.int .i64 ch.length),(27,sl 9 (ch.map b0n)),(7,.str x.1),(17,.int .i64 pre.length),(16,.int .i64 B.length),(15,sl 9 (B.map c9U)),(5,v),(0,.ptr p 0),(1,.str cls)],h++z,a++y⟩)
   (fun q r _=>c7h B cls x=r.any fun s=>decide (s=cls)) () ?_ hsb ?_ ?_
  ·simp -implicitDefEqProofs only[go_sem];exact⟨rfl,by simp⟩
  ·intro _ he;have hsf:c7h B cls x=false:=he;rw[hsf,if_neg (by simp),h0F]at hfs;simp -implicitDefEqProofs only[go_sem];rw[hfs];exact⟨(v,z,y),hacc,⟨hw,b1k⟩,b0r,by simp -implicitDefEqProofs only[go_sem],by simp,.inl (by simp)⟩
  ·rintro q s r _ hq he;have hql:ch.length=q.length+1+r.length:=by rw[hq];simp;omega
   have hgq:(ch.map b0n).getD (q.length:Int).toNat []=b0n s:=by rw[hq];simp[h0c]
   have hltq:((q.length:Int)<ch.length)=True:=by simp;omega
   have hwq:IntKind.i64.wrap (↑q.length+1)=↑(q.length+1):=b0g (by omega);simp -implicitDefEqProofs only[go_sem,hgq,hltq,b0n,hacc.asl];refine⟨fun hsc=>?_,fun hsc=>⟨(),by rw[he,List.any_cons,h0z hsc,h0Y],hwq,by simp⟩⟩;have hst:c7h B cls x=true:=by rw[he,List.any_cons,h0H hsc,Bool.true_or]
   rw[hst,if_pos rfl]at hfs;refine b4x hacc b3z b3m (by rw[hbl,h0v,h0v];omega) fun v' z' y' hacc' hz1 hz2 hy1=>?_
   simp -implicitDefEqProofs only[go_sem];rw[hfs];exact⟨(v',z',y'),hacc',⟨hw,b1k⟩,b0r,by simp -implicitDefEqProofs only[go_sem],by simp,.inl (by simp)⟩
end Go.Proofs.YtighfcpaplmaiaaGreatDoor
namespace Go.Vg
def b9y(u:List Un)(cls:ByteArray):List ByteArray:=d8E (b0C (btU u) (b0e u 0)) cls
def b5y(d e:Dl):Bool:=decide (d.kind=e.kind) && (decide (d.owner=e.owner) && decide (d.name=e.name))
def c0Z(d:Dl):Bool:=decide (d.kind=2) || decide (d.kind=4)
def b2b:List Dl→List Dl→Option Dl
 | _,[]=>none
 | acc,d::r=>if c0Z d=true then if(acc.any (b5y d))=true then some d else b2b (acc++[d]) r else b2b acc r
def b4j(u:List Un)(B:List (ByteArray×ByteArray))(d:Dl):Bool:=decide (d.kind=2) && (!decide (btU u d=⟨#[]⟩) && !(b1G B (btU u d)).isSome)
def b3D(B:List (ByteArray×ByteArray))(d:Dl):Bool:=decide (d.kind=2) && (!decide ((b3M B d.name).2=⟨#[]⟩) && decide ((b3M B d.name).2=d.name))
def baU(u:List Un)(d:Dl):Int:=match u[d.unit.toNat]? with
 | some x=>match(b0o x.tree)[d.node.toNat]? with
  | some n=>(b4u n.kids (d.node+1)).2
  | none=>0
 | none=>0
def b3r(u:List Un)(l:List Dl):Int×Int×Int:=match b2b [] l with
 | some d=>(6,d.unit,d.node)
 | none=>match l.find? (b4j u (b0C (btU u) l))with
  | some d=>(9,d.unit,baU u d)
  | none=>match l.find? (b3D (b0C (btU u) l))with
   | some d=>(10,d.unit,d.node)
   | none=>(0,0,0)
abbrev KD:=Int×ByteArray×ByteArray
def f9a(k:KD):List V:=[.int .i64 k.1,.str k.2.1,.str k.2.2,.int .i64 0,.int .i64 0]
theorem d2e:KeyA [1,0,0,1,1] f9a:=by
 refine⟨fun a b=>rfl,fun a b=>?_⟩;obtain⟨a1,a2,a3⟩:=a;obtain⟨b1,b2,b3⟩:=b;simp only[f9a,eqL,eq1,if_true,h1g,Option.some.injEq,decide_true];rw[h1k];simp
theorem c8f{κ β:Type}[DecidableEq κ]{k:κ}{v:β}:∀ {M:List (κ×β)},b1t M k=none→b4e M k v=M++[(k,v)]
 | [],_=>rfl
 | p::r,h=>by
  rw[b1t]at h;split at h
  ·cases h
  ·rename_i hk;rw[b4e,if_neg hk,c8f h];rfl
def c0Y(l:List Dl):List (KD×Unit):=l.map fun d=>((d.kind,d.owner,d.name),())
def c3l(l:List Dl):List (V×V):=b3R (fun a => .agg (f9a a)) (fun _:Unit => .bool true) (c0Y l)
theorem b9N(d:Dl):∀ l:List Dl,(b1t (c0Y l) (d.kind,d.owner,d.name)).isSome=l.any (b5y d)
 | []=>rfl
 | e::r=>by
  show(b1t (((e.kind,e.owner,e.name),())::c0Y r) (d.kind,d.owner,d.name)).isSome=_;rw[b1t,List.any_cons];by_cases h:(d.kind,d.owner,d.name)=(e.kind,e.owner,e.name)
  ·rw[if_pos h];have:b5y d e=true:=by
    simp only[Prod.mk.injEq]at h;simp[b5y,h]
   rw[this];rfl
  ·rw[if_neg h,b9N d r];have:b5y d e=false:=by
    simp only[Prod.mk.injEq]at h;cases hs:b5y d e with
    | false=>rfl
    | true =>
     simp only[b5y,h0k,h0l]at hs;exact absurd hs h
   rw[this,h0Y]
def c3E(p:Int×Int×Int):V := .tuple [.int .i64 p.1,.agg [.int .i64 p.2.1,.int .i64 p.2.2]]
end Go.Vg
namespace Go.Proofs.YtighfcpaplmaiaaGreatDoor
open Go Go.Vg Go.Proofs
theorem c6q:flatK Tryz.prog 54=some [1,0,0,1,1]:=by kernel_rfl
theorem f0O{acc:List Dl}{d:Dl}{K:V→Prop}:b1L env 4 (b1e [1,0,0,1,1] [.int .i64 d.kind,.str d.owner,.str d.name,.int .i64 0,.int .i64 0] (c3l acc) 0) false K=K (.bool (acc.any (b5y d))):=by
 have h:=d5C (E:=env) (et:=4) (ve:=fun _:Unit=>V.bool true) (z := .bool false) d2e (M:=c0Y acc) (k:=((d.kind,d.owner,d.name):KD)) (K:=K) (by kernel_rfl) (by kernel_rfl);have e:b1L env 4 (b1e [1,0,0,1,1] [.int .i64 d.kind,.str d.owner,.str d.name,.int .i64 0,.int .i64 0] (c3l acc) 0) false K=_:=h;rw[e,←b9N d acc];cases b1t (c0Y acc) (d.kind,d.owner,d.name) <;> rfl
theorem f4s{acc:List Dl}{d:Dl}{h:List VObj}{id:Nat}{L:List VObj→Prop}(hn:acc.any (b5y d)=false):b3Z h id (c3l acc) (.agg [.int .i64 d.kind,.str d.owner,.str d.name,.int .i64 0,.int .i64 0]) (.bool true) (b1e [1,0,0,1,1] [.int .i64 d.kind,.str d.owner,.str d.name,.int .i64 0,.int .i64 0] (c3l acc) 0) L=L (h.set id (.map (c3l (acc++[d])))):=by
 have h1:b1t (c0Y acc) (d.kind,d.owner,d.name)=none:=by
  have:=b9N d acc;rw[hn]at this;cases hg:b1t (c0Y acc) (d.kind,d.owner,d.name)with
  | none=>rfl
  | some v=>rw[hg]at this;cases this
 have h2:c3l (acc++[d])=b3R (fun a => .agg (f9a a)) (fun _:Unit => .bool true) (b4e (c0Y acc) (d.kind,d.owner,d.name) ()):=by
  rw[c8f h1,c3l,c0Y,h0M];rfl
 rw[h2];exact c6Q (ve:=fun _:Unit=>V.bool true) d2e (M:=c0Y acc) (k:=((d.kind,d.owner,d.name):KD)) (v:=())
theorem d7A(k ka:Nat)(acc:List Dl):ltP k ka (c3l acc)=true:=b8h (fun _=>rfl) (fun _=>rfl) k ka _
theorem g0D(u:List Un)(hu:b2D u)(cls:ByteArray):b0s env 34 [sl 70 (u.map Un.enc),.str cls] (sl 9 ((b9y u cls).map b0n)):=by
 have hdl:=b0H u 0 fun y hy=>(hu.2 y hy).1
 have hul:=hu.1;have hbl:=b1i (btU u) (b0e u 0);refine b0i (fn:=Tryz.f34) Tryz.func34 rfl (by rw[Tryz.ntmps34];simp) (by simp -implicitDefEqProofs only[go_sem];exact b0v _) (by simp -implicitDefEqProofs only[go_sem]) ?_;simp -implicitDefEqProofs only[go_sem,Tryz.f34];refine d8Y u hu ?_;simp -implicitDefEqProofs only[go_sem];refine g3Z (b0C (btU u) (b0e u 0)) (.arr 0) (sl 54 ((b0e u 0).map Dl.enc)) _ _ 1 _ _ cls rfl rfl (by omega) (by rfl) ?_;simp -implicitDefEqProofs only[go_sem];rfl
theorem f6X(u:List Un)(hu:b2D u):b0s env 88 [sl 70 (u.map Un.enc)] (c3E (b3r u (b0e u 0))):=by
 have hdl:=b0H u 0 fun y hy=>(hu.2 y hy).1
 have hul:=hu.1;have hbl:=b1i (btU u) (b0e u 0);have hat:∀ d∈b0e u 0,_:=fun d hd=>b4w u 0 d hd
 refine b0i (fn:=Tryz.f88) Tryz.func88 rfl (by rw[Tryz.ntmps88];simp) (by simp -implicitDefEqProofs only[go_sem];exact b0v _) (by simp -implicitDefEqProofs only[go_sem,c3E]) ?_;simp -implicitDefEqProofs only[go_sem,Tryz.f88];refine d8Y u hu ?_;simp -implicitDefEqProofs only[go_sem];intro _ _;have hBB:=b1i (btU u) (b0e u 0);generalize hdd:b0e u 0=dl at hat hdl hbl ⊢;generalize hB:b0C (btU u) dl=B at hbl ⊢;obtain⟨goal,hgoal⟩:∃ g,b3r u dl=g:=⟨_,rfl⟩
 rw[hgoal];have hg1:=hgoal;unfold b3r at hg1;rw[hB]at hg1;refine b0l (β:=List Dl) dl (fun pre acc=>⟨[(27,.int .i64 pre.length),(26,.int .i64 dl.length),(25,sl 54 (dl.map Dl.enc)),(5,.map 4),(4,.ptr 3 0),(3,.ptr 0 0),(2,.int .i64 0),(0,sl 70 (u.map Un.enc))],
   [.cells [.int .i64 0,.int .i64 0],.map (b6y B),.map (mapM (b3x dl)),.cells [.slice (.arr 0) 9 (B.map fun p=>[V.str p.1]),.map 1,.map 2,sl 54 (dl.map Dl.enc)],.map (c3l acc)],[B.length]⟩)
  (fun pre post acc=>b2b [] dl=b2b acc post) [] ?_ rfl ?_ ?_
 ·simp -implicitDefEqProofs only[go_sem];exact⟨rfl,rfl⟩
 ·intro acc he;simp -implicitDefEqProofs only[go_sem];intro _ _;rw[he,b2b]at hg1;simp only at hg1;refine b0l (β:=Unit) dl (fun pre _=>⟨[(59,.int .i64 pre.length),(58,.int .i64 dl.length),(57,sl 54 (dl.map Dl.enc)),(4,.ptr 3 0),(3,.ptr 0 0),(2,.int .i64 0),(0,sl 70 (u.map Un.enc))],
    [.cells [.int .i64 0,.int .i64 0],.map (b6y B),.map (mapM (b3x dl)),.cells [.slice (.arr 0) 9 (B.map fun p=>[V.str p.1]),.map 1,.map 2,sl 54 (dl.map Dl.enc)]],[B.length]⟩)
   (fun pre post _=>dl.find? (b4j u B)=post.find? (b4j u B)) () ?_ rfl ?_ ?_
  ·simp -implicitDefEqProofs only[go_sem];rw[b7R,b7U,b2m,b0m _ _ _ (b0v u),b0m _ _ _ (b0D dl)];exact⟨rfl,.inr ⟨rfl,rfl⟩⟩
  ·intro _ he2;rw[he2,List.find?_nil]at hg1;simp only at hg1;simp -implicitDefEqProofs only[go_sem];intro _ _;refine b0l (β:=Unit) dl (fun pre _=>⟨[(101,.int .i64 pre.length),(100,.int .i64 dl.length),(99,sl 54 (dl.map Dl.enc)),(4,.ptr 3 0),(3,.ptr 0 0),(2,.int .i64 0)],
     [.cells [.int .i64 0,.int .i64 0],.map (b6y B),.map (mapM (b3x dl)),.cells [.slice (.arr 0) 9 (B.map fun p=>[V.str p.1]),.map 1,.map 2,sl 54 (dl.map Dl.enc)]],[B.length]⟩)
    (fun pre post _=>dl.find? (b3D B)=post.find? (b3D B)) () ?_ rfl ?_ ?_
   ·simp -implicitDefEqProofs only[go_sem];rfl
   ·intro _ he3;rw[he3,List.find?_nil]at hg1;simp only at hg1;simp -implicitDefEqProofs only[go_sem];rw[←hg1];rfl
   ·rintro pre d post _ hx he3;have hpl:dl.length=pre.length+1+post.length:=by rw[hx];simp;omega
    have hgx:(dl.map Dl.enc).getD (pre.length:Int).toNat []=d.enc:=by rw[hx];simp[h0c]
    have hlt:((pre.length:Int)<dl.length)=True:=by simp;omega
    have hw:IntKind.i64.wrap (↑pre.length+1)=↑(pre.length+1):=b0g (by omega);have hdp:=b0m 4 1 _ (b0D dl);rw[h0W]at he3;have hir:b3D B d=(decide (d.kind=2) && (!decide ((b3M B d.name).2=⟨#[]⟩) && decide ((b3M B d.name).2=d.name))):=rfl;simp -implicitDefEqProofs only[go_sem,hgx,hlt];refine⟨fun h2=>?_,fun h2=>?_⟩
    ·have h2':¬ d.kind=2:=by simpa using h2
     have:b3D B d=false:=by rw[hir,h0z h2',h0U]
     rw[this]at he3;rw[b7R,b7U,b2m,hdp];exact⟨(),he3,hw,.inr ⟨rfl,rfl⟩⟩
    ·have h2':d.kind=2:=by simpa using h2
     rw[h0H h2',h0S]at hir;refine c2W B _ _ 3 1 2 _ _ d.name rfl rfl (by omega) (by rfl) (by rfl) ?_;simp -implicitDefEqProofs only[go_sem];generalize(b3M B d.name).2=en at hir ⊢;have hno:b3D B d=false→(∃ b:Unit,dl.find? (b3D B)=post.find? (b3D B)∧IntKind.i64.wrap (↑pre.length+1)=↑(pre.length+1)∧(False∨(ltP 4 1 (b6y B) && (ltP 4 1 (mapM (b3x dl)) && (b6K 4 1 (List.map (fun p=>[V.str p.fst]) B) && b6K 4 1 (List.map Dl.enc dl))))=true∧b6K 4 1 (List.map Dl.enc dl)=true)):=fun h=>by
      rw[h]at he3;rw[b7R,b7U,b2m,hdp];exact⟨(),he3,hw,.inr ⟨rfl,rfl⟩⟩
     refine⟨fun hen=>⟨fun hed=>?_,fun hed=>hno (by rw[hir,h0z hed,Bool.and_false])⟩,fun hen=>hno (by rw[hir,hen,h0U])⟩;have:b3D B d=true:=by rw[hir,hen,h0H hed];rfl
     rw[this]at he3;rw[he3]at hg1;refine sdq ?_;simp -implicitDefEqProofs only[go_sem];rw[←hg1];rfl
  ·rintro pre d post _ hx he2;have hpl:dl.length=pre.length+1+post.length:=by rw[hx];simp;omega
   have hgx:(dl.map Dl.enc).getD (pre.length:Int).toNat []=d.enc:=by rw[hx];simp[h0c]
   have hlt:((pre.length:Int)<dl.length)=True:=by simp;omega
   have hw:IntKind.i64.wrap (↑pre.length+1)=↑(pre.length+1):=b0g (by omega);have hup:=b0m 4 1 _ (b0v u);have hdp:=b0m 4 1 _ (b0D dl);obtain⟨un,x,e1,e2,e3,nd,n,e4,e5,e6,e7,e8⟩:=hat d (by rw[hx];simp);rw[h0W]at he2;have hnb:b4j u B d=(decide (d.kind=2) && (!decide (btU u d=⟨#[]⟩) && !(b1G B (btU u d)).isSome)):=rfl;simp -implicitDefEqProofs only[go_sem,hgx,hlt];refine⟨fun h2=>?_,fun h2=>?_⟩
   ·have h2':¬ d.kind=2:=by simpa using h2
    have:b4j u B d=false:=by rw[hnb,h0z h2',h0U]
    rw[this]at he2;rw[b7R,b7U,b2m,hdp,hup];exact⟨(),he2,hw,.inr ⟨rfl,rfl⟩⟩
   ·have h2':d.kind=2:=by simpa using h2
    rw[h0H h2',h0S]at hnb;have hxm:x∈u:=h0j e2;have hnm:n∈b0o x.tree:=h0j e5;have hnl:=b6m x.tree n hnm;have hxl:=(hu.2 x hxm).1;have hbs:=f4f u hu un nd x n e2 e5 (fun kk hk=>by
     obtain⟨k,t,g,ks⟩:=n;have:=c4x (k:=k) (t:=t) (g:=g) (ks:=ks) (x:=kk) hk;omega) (by
     obtain⟨k,t,g,ks⟩:=n;have:=b3L ks;rw[b0Z]at hnl;simp only[Nd.kids];omega)
    have hb:(b4u n.kids (nd+1)).1.text=btU u d:=by
     unfold btU;rw[e1,e4];simp only[h0w,h0n,e2,e5];rw[c0d n.kids (nd+1) 0]
    have hba:(b4u n.kids (nd+1)).2=baU u d:=by
     unfold baU;rw[e1,e4];simp only[h0w,h0n,e2,e5]
    rw[e1,e4,h0w,h0w];refine hbs.cq ?_;generalize b4u n.kids (nd+1)=bb at hb hba ⊢;obtain⟨⟨bk,bx,bg,bks⟩,bi⟩:=bb
    replace hb:bx=btU u d:=hb
    replace hba:bi=baU u d:=hba
    simp -implicitDefEqProofs only[go_sem,hb,hba,b9p];refine sdq ?_;simp -implicitDefEqProofs only[go_sem,hb,hba,b9p];have hno:b4j u B d=false→(∃ b:Unit,dl.find? (b4j u B)=post.find? (b4j u B)∧IntKind.i64.wrap (↑pre.length+1)=↑(pre.length+1)∧(False∨(ltP 4 1 (b6y B) && (ltP 4 1 (mapM (b3x dl)) && (b6K 4 1 (List.map (fun p=>[V.str p.1]) B) && b6K 4 1 (List.map Dl.enc dl))))=true∧(b6K 4 1 (List.map Dl.enc dl) && b6K 4 1 (List.map Un.enc u))=true)):=fun h=>by
     rw[h]at he2;rw[b7R,b7U,b2m,hdp,hup];exact⟨(),he2,hw,.inr ⟨rfl,rfl⟩⟩
    refine⟨fun hen=>⟨fun hed=>?_,fun hed=>hno (by rw[hnb,hed,Bool.and_false])⟩,fun hen=>hno (by rw[hnb,hen,h0U])⟩;have:b4j u B d=true:=by rw[hnb,hen,hed];rfl
    rw[this]at he2;rw[he2]at hg1;refine sdq ?_;simp -implicitDefEqProofs only[go_sem];rw[←hg1];rfl
 ·rintro pre d post acc hx he;have hpl:dl.length=pre.length+1+post.length:=by rw[hx];simp;omega
  have hgx:(dl.map Dl.enc).getD (pre.length:Int).toNat []=d.enc:=by rw[hx];simp[h0c]
  have hlt:((pre.length:Int)<dl.length)=True:=by simp;omega
  have hw:IntKind.i64.wrap (↑pre.length+1)=↑(pre.length+1):=b0g (by omega);rw[b2b]at he;have hup:=b0m 5 1 _ (b0v u);have hdp:=b0m 5 1 _ (b0D dl);by_cases hcm:c0Z d=true
  ·have hk:d.kind=2∨d.kind=4:=by simpa[c0Z]using hcm
   rw[if_pos hcm]at he;have hlk:=@f0O acc d;have hst:=@f4s acc d;rcases hk with hk | hk
   all_goals(
    rw[hk]at hlk hst;simp -implicitDefEqProofs only[go_sem,hgx,hlt,c6q,hk,hlk];refine⟨fun ha=>?_,fun ha=>?_⟩
    ·rw[if_pos ha]at he;rw[he]at hg1;refine sdq ?_;simp -implicitDefEqProofs only[go_sem];rw[←hg1];rfl
    ·rw[if_neg (by rw[ha];simp)]at he;have hst':=fun h id L=>@hst h id L ha
     simp -implicitDefEqProofs only[go_sem,hgx,hlt,c6q,hk,hst'];refine⟨_,he,hw,rfl,.inr ?_⟩;rw[b7R,b7U,b2m,hdp,hup,d7A];exact⟨rfl,rfl⟩)
  ·rw[if_neg hcm]at he;have hk:¬ d.kind=2∧¬ d.kind=4:=by simpa[c0Z]using hcm
   simp -implicitDefEqProofs only[go_sem,hgx,hlt,c6q,hk.1,hk.2];refine⟨_,he,hw,rfl,.inr ?_⟩;rw[b7R,b7U,b2m,hdp,hup,d7A];exact⟨rfl,rfl⟩
end Go.Proofs.YtighfcpaplmaiaaGreatDoor
namespace Go.Vg
def f1X(k:ByteArray×ByteArray):List V:=[.str k.1,.str k.2]
theorem c7u:KeyA [0,0] f1X:=by
 refine⟨fun a b=>rfl,fun a b=>?_⟩;obtain⟨a1,a2⟩:=a;obtain⟨b1,b2⟩:=b;simp only[f1X,eqL,eq1,h1g,Option.some.injEq];rw[h1k];simp
section
variable {α : Type} {l r : List α} {i : Nat} {y : α}
theorem b0d:(l++r)[l.length+i]? = r[i]?:=b3g
theorem b0a:(l++r)[l.length]? = r[0]?:=by have:=b3g (l:=l) (r:=r) (j:=0);simpa using this
theorem b0c:(l++r).set (l.length+i) y=l++r.set i y:=by rw[h0N _ _ (by omega)];congr 2;omega
theorem b0b:(l++r).set l.length y=l++r.set 0 y:=by rw[h0N _ _ (by omega)];congr 2;omega
end
def b8L:Option Sg→V
 | none => .agg [.slice .nil 0 [],.str ⟨#[]⟩,.bool false]
 | some s => .agg (s.enc++[.bool true])
theorem d5J(s:Sg):b0Y s.enc=true:=by simp -implicitDefEqProofs only[Sg.enc,go_sem]
theorem f0c(o:Option Sg):(b8L o).pure=true:=by
 cases o with
 | none=>rfl
 | some s =>
  have h:=d5J s;simp only[Sg.enc,b0Y,h1g,h0k]at h;simp only[b8L,Sg.enc,V.pure,b0Y,h0a,h0Q,h.1,h.2];rfl
end Go.Vg
namespace Go.Proofs.YtighfcpaplmaiaaGreatDoor
open Go Go.Vg Go.Proofs
abbrev KnM:=List ((Int×Int)×ByteArray)
abbrev SgM:=List ((ByteArray×ByteArray)×Option Sg)
abbrev AbM:=List (ByteArray×List ByteArray)
def c9P(M:KnM):List (V×V):=b3R (fun a => .agg (f0n a)) V.str M
def b5o(M:SgM):List (V×V):=b3R (fun a => .agg (f1X a)) b8L M
def c9B(M:AbM):List (V×V):=b3R V.str (fun l=>sl 9 (l.map b0n)) M
def ck4(D:List ((Int×Int)×(Int×Int)))(kn:KnM)(sg:SgM)(ab:AbM)(z:List VObj):List VObj := .map (c9l D) :: .map (c9P kn) :: .map (b5o sg) :: .map (c9B ab)::z
def ckF(u:List Un)(tb:List (List Rw))(ub:List Us)(n:Nat):List V:=[sl 70 (u.map Un.enc),sl 45 (tb.map b0p),.map n,sl 24 (ub.map atE),.map (n+1),.map (n+2),.map (n+3)]
section
variable {u : List Un} {tb : List (List Rw)} {ub : List Us} {n : Nat}
@[go_sem] theorem g8n:List.drop 1 (ckF u tb ub n)=sl 45 (tb.map b0p)::(ckF u tb ub n).tail.tail:=rfl
@[go_sem] theorem g8y:List.drop 2 (ckF u tb ub n)=[.map n,sl 24 (ub.map atE),.map (n+1),.map (n+2),.map (n+3)]:=rfl
@[go_sem] theorem d0U:List.drop 3 (ckF u tb ub n)=[sl 24 (ub.map atE),.map (n+1),.map (n+2),.map (n+3)]:=rfl
@[go_sem] theorem g6D:List.drop 4 (ckF u tb ub n)=[.map (n+1),.map (n+2),.map (n+3)]:=rfl
@[go_sem] theorem g5y:List.drop 5 (ckF u tb ub n)=[.map (n+2),.map (n+3)]:=rfl
@[go_sem] theorem g5r:List.drop 6 (ckF u tb ub n)=[.map (n+3)]:=rfl
@[go_sem] theorem f4p{K:V→Prop}:vHead (ckF u tb ub n) K=K (sl 70 (u.map Un.enc)):=rfl
end
theorem f1R:b2S Tryz.prog 232=b8L none:=by kernel_rfl
theorem b9t:flatK Tryz.prog 230=some [0,0]:=by kernel_rfl
def mtS(u:List Un)(k:ByteArray×ByteArray):Option Sg:=(b1H u k.1 k.2).map fun d=>b2W ((b0f u).getD d.unit.toNat []) d.node.toNat
theorem c5T{sg:SgM}{c n:ByteArray}{K:V→Prop}:b1L env 232 (b1e [0,0] [.str c,.str n] (b5o sg) 0) true K=K (.tuple [((b1t sg (c,n)).map b8L).getD (b8L none),.bool (b1t sg (c,n)).isSome]) :=
 c6p (E:=env) (ve:=b8L) c7u (k:=(c,n)) f1R (by kernel_rfl)
theorem d8s{sg:SgM}{c n:ByteArray}{o:Option Sg}{h:List VObj}{id:Nat}{L:List VObj→Prop}:b3Z h id (b5o sg) (.agg [.str c,.str n]) (b8L o) (b1e [0,0] [.str c,.str n] (b5o sg) 0) L=L (h.set id (.map (b5o (b4e sg (c,n) o)))) :=
 c6Q (ve:=b8L) c7u (k:=(c,n)) (v:=o)
theorem d3k(k ka:Nat):∀ l r:List VObj,ltH k ka (l++r)=(ltH k ka l && ltH k ka r)
 | [],r=>by simp[ltH]
 | x::l,r=>by rw[h0a,ltH,ltH,d3k k ka l r,Bool.and_assoc]
theorem g0z(k ka:Nat)(D:List ((Int×Int)×(Int×Int)))(kn:KnM)(sg:SgM)(ab:AbM)(z:List VObj):ltH k ka (ck4 D kn sg ab z)=ltH k ka z:=by
 have h1:ltP k ka (c9l D)=true:=d9l k ka D;have h2:ltP k ka (c9P kn)=true:=b8h (fun _=>rfl) (fun _=>rfl) k ka kn;have h3:ltP k ka (b5o sg)=true:=b8h (fun _=>rfl) (fun _=>f0c _) k ka sg;have h4:ltP k ka (c9B ab)=true:=b8h (fun _=>rfl) (fun l=>by simp -implicitDefEqProofs only[go_sem]) k ka ab;simp only[ck4,ltH,VObj.lt,h1,h2,h3,h4,h0S]
theorem b0q.tidyCk{f:FuncId}{args:List V}{pre z:List VObj}{a:List Nat}{D:List ((Int×Int)×(Int×Int))}{kn:KnM}{sg:SgM}{ab:AbM}{K:b1y}
  (hc:b0q env f args (pre++ck4 D kn sg ab z) a fun v h' a'=>∃ kn' sg' ab' z' y,h'=pre++ck4 D kn' sg' ab' (z++z')∧a'=a++y∧(share v).pure=true∧K (share v) (pre++ck4 D kn' sg' ab' z) a) :
  b0q env f args (pre++ck4 D kn sg ab z) a K:=by
 refine b0q.tidy (hc.mono ?_);rintro v h' a' ⟨kn',sg',ab',z',y,rfl,rfl,hp,hk⟩;refine⟨pre++ck4 D kn' sg' ab' z,z',y,by simp[ck4],rfl,by simp[ck4],hp,fun hl=>?_,hk⟩;rw[d3k,g0z]at hl ⊢;exact hl
def b6A:Option Sg→V
 | none => .tuple [.agg [sl 9 [],.str ⟨#[]⟩],.bool false]
 | some s => .tuple [.agg s.enc,.bool true]
theorem f1N{sg:SgM}{c n:ByteArray}{h:List VObj}{id:Nat}{L:List VObj→Prop}:b3Z h id (b5o sg) (.agg [.str c,.str n]) (.agg [.slice .nil 0 [],.str ⟨#[]⟩,.bool false]) (b1e [0,0] [.str c,.str n] (b5o sg) 0) L=L (h.set id (.map (b5o (b4e sg (c,n) none)))):=d8s (o:=none)
theorem f0B{sg:SgM}{c n:ByteArray}{s:Sg}{h:List VObj}{id:Nat}{L:List VObj→Prop}:b3Z h id (b5o sg) (.agg [.str c,.str n]) (.agg [sl 9 (s.params.map b0n),.str s.result,.bool true]) (b1e [0,0] [.str c,.str n] (b5o sg) 0) L=L (h.set id (.map (b5o (b4e sg (c,n) (some s))))):=d8s (o:=some s)
structure CkW(u:List Un):Prop where
 fit:b2D u
 br:∀ x∈u,x.broken=false
 gram:∀ l∈b0f u,gramL l
 fn:∀ d∈b0e u 0,(d.kind=1∨d.kind=4)→∃ un nd l,d.unit=((un:Nat):Int)∧d.node=((nd:Nat):Int)∧(b0f u)[un]? = some l∧nd<l.length∧(b0h l nd).kind=2
theorem d1U{l:List Dl}:∀ d∈b3x l,d∈l∧d.kind=4:=by
 have key:∀ (l M:List Dl),∀ d∈l.foldl d0z M,d∈M∨(d∈l∧d.kind=4):=by
  intro l;induction l with
  | nil=>intro M d h;exact .inl h
  | cons x r ih =>
   intro M d h;rcases ih _ d h with h | ⟨h1,h2⟩
   ·unfold d0z at h;split at h
    ·rename_i hc;rcases h0E.1 h with h | h
     ·exact .inl h
     ·have:=h0R.1 h;subst this;exact .inr ⟨by simp,hc.1⟩
    ·exact .inl h
   ·exact .inr ⟨by simp[h1],h2⟩
 intro d h;rcases key l [] d h with h | h
 ·simp at h
 ·exact h
theorem b4M{u:List Un}{c n:ByteArray}{d:Dl}(h:b1H u c n=some d):d∈b0e u 0∧d.kind=4:=by
 unfold b1H c2j at h;obtain⟨s,_,hs⟩:=List.exists_of_findSome?_eq_some h;exact d1U d (h0Z hs)
theorem c6B(u:List Un)(tb:List (List Rw))(ub:List Us)(n:Nat):(ckF u tb ub n).map jk1=ckG (sl 70 (u.map Un.enc)) (tb.map b0p) [.junk,sl 24 (ub.map atE),.junk,.junk,.junk]:=by
 simp -implicitDefEqProofs only[ckF,ckG,h0s,h0T,go_sem]
theorem b9n(u:List Un)(tb:List (List Rw))(ub:List Us):b0Y (ckG (sl 70 (u.map Un.enc)) (tb.map b0p) [.junk,sl 24 (ub.map atE),.junk,.junk,.junk])=true:=by
 simp -implicitDefEqProofs only[ckG,go_sem,b0v,b1g,b6g];rfl
theorem b5e{tb:List (List Rw)}{un:Nat}{l:List Rw}(h:tb[un]? = some l):(tb.map b0p)[un]? = some [sl 48 (l.map Rw.enc)]:=by rw[h0u,h];rfl
theorem d3F(u:List Un)(tb:List (List Rw))(ub:List Us)(n:Nat){un i:Nat}{l:List Rw}(hu:tb[un]? = some l)(h:c2c l i):b0B env 148 [.fptr (ckF u tb ub n),.agg [.int .i64 un,.int .i64 i]] (.agg (b2W l i).enc) :=
 ⟨_,.inr (by simp only[h0s,h0T,jkA,c6B]),f5o _ _ _ un i l (b5e hu) h (b9n u tb ub)⟩
theorem b0B.callsS{E:Env}{f:FuncId}{args cargs:List V}{h:List VObj}{a:List Nat}{r:V}{K:b1y}(hp:b0B E f cargs r)(ha:args.map share=cargs)(hk:K r h a):b0q E f args h a K:=b0B.calls (ha ▸ hp) hk
theorem b5b{E:Env}{f:FuncId}{args cargs:List V}{h:List VObj}{a:List Nat}{r:V}{K:b1y}(hp:b0B E f cargs r)(ha:args.map share=cargs)(hk:K r h a):vPC E f args h a K:=⟨r,ha ▸ hp,hk⟩
def d8u:Wk := .one 0 (.one 1 (.one 2 (.br 3 (.one 4 (.one 5 (.stop))) (.br 4 (.one 3 (.one 5 (.stop))) (.stop)))))
theorem b7T(u:List Un)(hW:CkW u)(ub:List Us)(pre:List VObj)(D:List ((Int×Int)×(Int×Int)))(kn:KnM)(sg:SgM)(ab:AbM)(z:List VObj)(a:List Nat)(cls name:ByteArray)(hm:c5H (mtS u) sg){K:b1y}
  (hK:∀ sg',c5H (mtS u) sg'→K (b6A (mtS u (cls,name))) (pre++ck4 D kn sg' ab z) a) :
  b0q env 150 [.fptr (ckF u (b0f u) ub pre.length),.str cls,.str name] (pre++ck4 D kn sg ab z) a K:=by
 refine b0q.tidyCk ?_;refine b0y (fn:=Tryz.f150) Tryz.func150 rfl (by rw[Tryz.ntmps150];simp) ?_;simp -implicitDefEqProofs only[go_sem,Tryz.f150,ck4,b0d,b0a,b0c,b0b,g9Y,g9Z,h0a];refine sdq ?_;cases hg:b1t sg (cls,name)with
 | some o =>
  have ho:=hm _ _ hg;subst ho;cases hms:mtS u (cls,name)with
  | none =>
   simp -implicitDefEqProofs only[go_sem,b0d,b0a,b0c,b0b,g9Y,g9Z,h0a,b9t,c5T,hg,h0D,h0A,hms,b8L,h0L];refine b1f (cs:=[]) d8u b4c (by kernel_rfl) ?_;simp -implicitDefEqProofs only[go_sem,b0d,b0a,b0c,b0b,g9Y,g9Z,h0a,d8u];rw[hms]at hK;exact⟨kn,sg,ab,_,[],rfl,by simp,hK sg hm⟩
  | some s =>
   simp -implicitDefEqProofs only[go_sem,b0d,b0a,b0c,b0b,g9Y,g9Z,h0a,b9t,c5T,hg,h0D,h0A,hms,b8L,h0L,Sg.enc];refine b1f (cs:=[]) d8u b4c (by kernel_rfl) ?_;simp -implicitDefEqProofs only[go_sem,b0d,b0a,b0c,b0b,g9Y,g9Z,h0a,d8u];rw[hms]at hK;exact⟨kn,sg,ab,_,[],rfl,by simp,hK sg hm⟩
 | none =>
  simp -implicitDefEqProofs only[go_sem,b0d,b0a,b0c,b0b,g9Y,g9Z,h0a,b9t,c5T,hg,h1r,h1f,b8L,h0y];refine(c5K u hW.fit cls name).calls (by simp -implicitDefEqProofs only[go_sem]) ?_;cases hlu:b1H u cls name with
  | none =>
   have hms:mtS u (cls,name)=none:=by simp only[mtS,hlu];rfl
   simp -implicitDefEqProofs only[go_sem,b0d,b0a,b0c,b0b,g9Y,g9Z,h0a,b2F,h0y];refine sdq ?_;simp -implicitDefEqProofs only[go_sem,b0d,b0a,b0c,b0b,g9Y,g9Z,h0a,b9t,f1N];refine b1f (cs:=[]) d8u b4c (by kernel_rfl) ?_;simp -implicitDefEqProofs only[go_sem,b0d,b0a,b0c,b0b,g9Y,g9Z,h0a,d8u];rw[hms]at hK;have hm':=hm.set (cls,name);rw[hms]at hm';exact⟨kn,_,ab,_,[],rfl,by simp,hK _ hm'⟩
  | some d =>
   obtain⟨hdm,hd4⟩:=b4M hlu;obtain⟨un,nd,l,q1,q2,q3,q4,q5⟩:=hW.fn d hdm (.inr hd4);have hso:=(hW.gram l (h0j q3)).sign nd q4 q5;have hms:mtS u (cls,name)=some (b2W l nd):=by
    simp only[mtS,hlu,h0D,q1,q2,h0n];rw[h0c,q3];rfl
   simp -implicitDefEqProofs only[go_sem,b0d,b0a,b0c,b0b,g9Y,g9Z,h0a,b2F,h0L,h0A];rw[q1,q2];refine b0B.callsS (d3F u (b0f u) ub pre.length q3 hso) (by simp -implicitDefEqProofs only[go_sem]) ?_;generalize b2W l nd=s at hms ⊢;simp -implicitDefEqProofs only[go_sem,b0d,b0a,b0c,b0b,g9Y,g9Z,h0a,Sg.enc];refine sdq ?_;simp -implicitDefEqProofs only[go_sem,b0d,b0a,b0c,b0b,g9Y,g9Z,h0a,b9t,f0B];refine b1f (cs:=[]) d8u b4c (by kernel_rfl) ?_;simp -implicitDefEqProofs only[go_sem,b0d,b0a,b0c,b0b,g9Y,g9Z,h0a,d8u];rw[hms]at hK;have hm':=hm.set (cls,name);rw[hms]at hm';exact⟨kn,_,ab,_,[],rfl,by simp,hK _ hm'⟩
theorem f1v{ab:AbM}{c:ByteArray}{K:V→Prop}:b1L env 28 (b1v .string (.str c) (c9B ab) 0) true K=K (.tuple [((b1t ab c).map fun l=>sl 9 (l.map b0n)).getD (.slice .nil 0 []),.bool (b1t ab c).isSome]) :=
 d9O (E:=env) (ve:=fun l:List ByteArray=>sl 9 (l.map b0n)) (k:=c) (by kernel_rfl) (by kernel_rfl)
theorem f5N{ab:AbM}{c:ByteArray}{l:List ByteArray}{h:List VObj}{id:Nat}{L:List VObj→Prop}:b3Z h id (c9B ab) (.str c) (sl 9 (l.map b0n)) (b1v .string (.str c) (c9B ab) 0) L=L (h.set id (.map (c9B (b4e ab c l)))) :=
 d8q (ve:=fun l:List ByteArray=>sl 9 (l.map b0n)) (k:=c) (v:=l)
theorem d2x(u:List Un)(hW:CkW u)(ub:List Us)(pre:List VObj)(D:List ((Int×Int)×(Int×Int)))(kn:KnM)(sg:SgM)(ab:AbM)(z:List VObj)(a:List Nat)(cls:ByteArray)(hm:c5H (b8W u) ab){K:b1y}
  (hK:∀ ab',c5H (b8W u) ab'→K (sl 9 ((b8W u cls).map b0n)) (pre++ck4 D kn sg ab' z) a) :
  b0q env 184 [.fptr (ckF u (b0f u) ub pre.length),.str cls] (pre++ck4 D kn sg ab z) a K:=by
 refine b0q.tidyCk ?_;refine b0y (fn:=Tryz.f184) Tryz.func184 rfl (by rw[Tryz.ntmps184];simp) ?_;simp -implicitDefEqProofs only[go_sem,Tryz.f184,ck4,b0d,b0a,b0c,b0b,g9Y,g9Z,h0a,f1v];cases hg:b1t ab cls with
 | some l =>
  have hl:=hm _ _ hg;subst hl;refine⟨fun h=>(by cases h),fun _=>⟨kn,sg,ab,[],[],by simp,by simp,?_,?_⟩⟩
  ·simp only[h0D,h0A];simp -implicitDefEqProofs only[go_sem]
  ·simp only[h0D,h0A];simp -implicitDefEqProofs only[go_sem];exact hK ab hm
 | none =>
  refine⟨fun _=>?_,fun h=>(by cases h)⟩;refine(f0w u hW.fit cls).calls (by simp -implicitDefEqProofs only[go_sem]) ?_;simp -implicitDefEqProofs only[go_sem,b0d,b0a,b0c,b0b,g9Y,g9Z,h0a,f5N];exact⟨kn,sg,_,[],[],by simp[ck4],by simp,hK _ (hm.set cls)⟩
open Go Go.Vg Go.Proofs
def tI:ByteArray:=⟨#[105,110,116]⟩
def tB:ByteArray:=⟨#[98,111,111,108]⟩
def rwK(tb:List (List Rw))(k:Int×Int):Rw:=b0h (tb.getD k.1.toNat []) k.2.toNat
def kdK(tb:List (List Rw))(k:Int×Int)(j:Nat):Int×Int:=(k.1,(b1c (tb.getD k.1.toNat []) k.2.toNat j:Nat))
def rcT(s:ByteArray):ByteArray:=if s=tI∨s=tB then⟨#[]⟩else s
def c9R(tb:List (List Rw))(r:Int×Int→ByteArray)(d:Int×Int):ByteArray:=if(rwK tb d).kind=4 then(rwK tb (kdK tb d 0)).text else if(rwK tb d).kind=10 then r (kdK tb d 0)else if(rwK tb d).kind=9 then b4h (tb.getD d.1.toNat []) (tb.getD d.1.toNat []).length (b1c (tb.getD d.1.toNat []) d.2.toNat 0)else⟨#[]⟩
def tyB(tb:List (List Rw))(D:List ((Int×Int)×(Int×Int)))(mt:ByteArray×ByteArray→Option Sg)(r:Int×Int→ByteArray)(k:Int×Int):ByteArray :=
 if(rwK tb k).kind=17 then tI else if(rwK tb k).kind=18 then tB
 else if(rwK tb k).kind=19 then(match b1t D k with | some d=>c9R tb r d | none=>⟨#[]⟩)
 else if(rwK tb k).kind=20 then(match b1t D k with | some d=>(b2W (tb.getD d.1.toNat []) d.2.toNat).result | none=>⟨#[]⟩)
 else if(rwK tb k).kind=21 then(match mt (rcT (r (kdK tb k 0)),(rwK tb k).text)with | some s=>s.result | none=>⟨#[]⟩)
 else if(rwK tb k).kind=22 then(rwK tb k).text
 else if(rwK tb k).kind=23 then(match b9d (tb.getD k.1.toNat []) k.2.toNat with | some p=>c7y (tb.getD k.1.toNat []) p | none=>⟨#[]⟩)
 else if(rwK tb k).kind=24∨(rwK tb k).kind=25 then opT (rwK tb k).text
 else if(rwK tb k).kind=26 then r (kdK tb k 0)else⟨#[]⟩
def tyN(tb:List (List Rw))(D:List ((Int×Int)×(Int×Int)))(mt:ByteArray×ByteArray→Option Sg):Nat→Int×Int→ByteArray
 | 0,_=>⟨#[]⟩
 | f+1,k=>tyB tb D mt (tyN tb D mt f) k
def tgt(tb:List (List Rw))(D:List ((Int×Int)×(Int×Int)))(k q:Int×Int):Prop :=
 (((rwK tb k).kind=21∨(rwK tb k).kind=26)∧q=kdK tb k 0)∨((rwK tb k).kind=19∧∃ d,b1t D k=some d∧(rwK tb d).kind=10∧q=kdK tb d 0)
theorem c5e{tb:List (List Rw)}{D:List ((Int×Int)×(Int×Int))}{mt:ByteArray×ByteArray→Option Sg}{r r':Int×Int→ByteArray}{k:Int×Int}(h:∀ q,tgt tb D k q→r q=r' q):tyB tb D mt r k=tyB tb D mt r' k:=by
 unfold tyB;by_cases h19:(rwK tb k).kind=19
 ·rw[if_neg (by omega),if_neg (by omega),if_pos h19,if_neg (by omega),if_neg (by omega),if_pos h19];cases hd:b1t D k with
  | none=>rfl
  | some d =>
   simp only;unfold c9R;by_cases h10:(rwK tb d).kind=10
   ·rw[if_neg (by omega),if_pos h10,if_neg (by omega),if_pos h10];exact h _ (.inr ⟨h19,d,hd,h10,rfl⟩)
   ·rw[if_neg h10,if_neg h10]
 ·by_cases h21:(rwK tb k).kind=21
  ·have:=h _ (.inl ⟨.inl h21,rfl⟩);simp[h21,this]
  ·by_cases h26:(rwK tb k).kind=26
   ·have:=h _ (.inl ⟨.inr h26,rfl⟩);simp[h26,this]
   ·simp only[h19,h21,h26,if_false]
def Val(tb:List (List Rw))(k:Int×Int):Prop:=∃ (un i:Nat) (l:List Rw),k=((un:Int),(i:Int))∧tb[un]? = some l∧i<l.length
def b2v(u:List Un):List ((Int×Int)×(Int×Int)):=c6a (b2O (b2c (b0e u 0)) (b0f u) 0)
structure CkT(u:List Un):Prop extends CkW u where
 mu:∃ μ:Int×Int→Nat,∀ k,Val (b0f u) k→μ k<((b0f u).getD k.1.toNat []).length∧∀ q,tgt (b0f u) (b2v u) k q→Val (b0f u) q∧q.1=k.1∧μ q<μ k
 d19:∀ k d,Val (b0f u) k→(rwK (b0f u) k).kind=19∨(rwK (b0f u) k).kind=11→b1t (b2v u) k=some d→Val (b0f u) d∧((rwK (b0f u) d).kind=4∨(rwK (b0f u) d).kind=9∨(rwK (b0f u) d).kind=10)
 d20:∀ k d,Val (b0f u) k→(rwK (b0f u) k).kind=20→b1t (b2v u) k=some d→Val (b0f u) d∧(rwK (b0f u) d).kind=2
def tyS(u:List Un)(k:Int×Int):ByteArray:=tyN (b0f u) (b2v u) (mtS u) (((b0f u).getD k.1.toNat []).length+1) k
theorem c9w{u:List Un}{μ:Int×Int→Nat}(hμ:∀ k,Val (b0f u) k→μ k<((b0f u).getD k.1.toNat []).length∧∀ q,tgt (b0f u) (b2v u) k q→Val (b0f u) q∧q.1=k.1∧μ q<μ k) :
  ∀ (f:Nat) (k:Int×Int),Val (b0f u) k→μ k<f→tyN (b0f u) (b2v u) (mtS u) f k=tyN (b0f u) (b2v u) (mtS u) (f+1) k:=by
 intro f;induction f with
 | zero=>intro k _ h;omega
 | succ f ih =>
  intro k hk h;rw[tyN,tyN];refine c5e fun q hq=>?_
  obtain⟨h1,h2,h3⟩:=(hμ k hk).2 q hq;exact ih q h1 (by omega)
theorem d9L{u:List Un}{μ:Int×Int→Nat}(hμ:∀ k,Val (b0f u) k→μ k<((b0f u).getD k.1.toNat []).length∧∀ q,tgt (b0f u) (b2v u) k q→Val (b0f u) q∧q.1=k.1∧μ q<μ k)
  {k:Int×Int} (hk:Val (b0f u) k) {f:Nat} (h:((b0f u).getD k.1.toNat []).length≤f):tyN (b0f u) (b2v u) (mtS u) f k=tyS u k:=by
 have key:∀ n f,μ k<f→tyN (b0f u) (b2v u) (mtS u) (f+n) k=tyN (b0f u) (b2v u) (mtS u) f k:=by
  intro n;induction n with
  | zero=>intro f _;rfl
  | succ n ih=>intro f hf;rw[←h1s,←c9w hμ _ k hk (by omega),ih f hf]
 have hm:=(hμ k hk).1;have h1:=key (f - ((b0f u).getD k.1.toNat []).length) ((b0f u).getD k.1.toNat []).length hm;have h2:=key 1 ((b0f u).getD k.1.toNat []).length hm;rw[show((b0f u).getD k.1.toNat []).length+(f - ((b0f u).getD k.1.toNat []).length)=f by omega]at h1;rw[h1,←h2];rfl
theorem d2D{u:List Un}(hT:CkT u){k:Int×Int}(hk:Val (b0f u) k):tyS u k=tyB (b0f u) (b2v u) (mtS u) (tyS u) k:=by
 obtain⟨μ,hμ⟩:=hT.mu;show tyB _ _ _ (tyN _ _ _ _) k=_;refine c5e fun q hq=>?_
 obtain⟨h1,h2,h3⟩:=(hμ k hk).2 q hq;exact d9L hμ h1 (by rw[h2];exact h0q _)
end Go.Proofs.YtighfcpaplmaiaaGreatDoor
