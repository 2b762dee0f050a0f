import Derived.Test.YtighfcpaplmaiaaGreatDoorVgFr
import Derived.Test.YtighfcpaplmaiaaGreatDoorVgQ
set_option linter.unusedVariables false
set_option linter.unusedSimpArgs false
set_option maxRecDepth 20000
namespace Go.Vg
structure gramL(l:List Rw):Prop where
 ok:rowsOK l
 rng:∀ i<l.length,1≤(b0j l i).kind∧(b0j l i).kind≤26
 least:∀ i<l.length,b0U (b0j l i).kind≤(b0j l i).kids.length
 fit:∀ i<l.length,∀ j<(b0j l i).kids.length,b3P (b0j l i).kind j (b0j l (b1d l i j)).kind=true
 word:∀ i<l.length,(b2n (b0j l i).kind (b0j l i).text || b5t (b0j l i).kind (b0j l i).text)=true
 kid:∀ i<l.length,∀ j<(b0j l i).kids.length,i<b1d l i j∧b1d l i j<l.length∧(b0j l (b1d l i j)).parent=i
 root:0<l.length→(b0j l 0).kind=1
 par:∀ i<l.length,0<i→∃ p,(b0j l i).parent=((p:Nat):Int)∧p<i∧∃ j<(b0j l p).kids.length,b1d l p j=i
 sign:∀ i<l.length,(b0j l i).kind=2→c0H l i
def upF(l:List Rw):Nat→Int→Option Nat
 | 0,_=>none
 | f+1,k=>if k<0 then none else if(b0j l k.toNat).kind=2 then some k.toNat else upF l f (b0j l k.toNat).parent
def b8I(l:List Rw)(i:Nat):Option Nat:=upF l (l.length+1) (b0j l i).parent
def c6Q(l:List Rw)(i:Nat):ByteArray:=if(b0j l (b0j l i).parent.toNat).kind=7 then(b0j l (b0j l i).parent.toNat).text else⟨#[]⟩
def opT(t:ByteArray):ByteArray:=if t=⟨#[43]⟩∨t=⟨#[45]⟩∨t=⟨#[42]⟩∨t=⟨#[47]⟩then⟨#[105,110,116]⟩else⟨#[98,111,111,108]⟩
def b4d(l:List Rw):Nat→Nat→ByteArray
 | 0,_=>⟨#[]⟩
 | f+1,i=>if(b0j l i).kind=26 then b4d l f (b1d l i 0)else if(b0j l i).kind=17 then⟨#[105,110,116]⟩else if(b0j l i).kind=18 then⟨#[98,111,111,108]⟩else if(b0j l i).kind=24∨(b0j l i).kind=25 then opT (b0j l i).text else⟨#[]⟩
def b1T(l:List Rw):Nat→Nat→Bool
 | 0,_=>false
 | f+1,i=>decide ((b0j l i).kind=17∨(b0j l i).kind=18∨(b0j l i).kind=24∨(b0j l i).kind=25∨(b0j l i).kind=26) && (b0j l i).kids.all fun k=>b1T l f k
end Go.Vg
namespace Go.Proofs.YtighfcpaplmaiaaGreatDoor
open Go Go.Vg Go.Proofs
def ckG(x0:V)(tabs:List (List V))(r0:List V):List V:=x0::sl 45 tabs::r0
@[go_sem] theorem f6T{x0:V}{tabs:List (List V)}{r0:List V}:List.drop 1 (ckG x0 tabs r0)=sl 45 tabs::r0:=rfl
theorem b9g(x0:V)(r0:List V)(tabs:List (List V))(un i:Nat)(l:List Rw)(hu:tabs[un]? = some [sl 48 (l.map Rw.enc)])(hi:i<l.length)(hp:b1a (ckG x0 tabs r0)=true):b0u env 91 [.fptr (ckG x0 tabs r0),.agg [.int .i64 un,.int .i64 i]] (.agg (b0j l i).enc):=by
 obtain⟨g1,g2⟩:=c0b hu
 refine b0i (fn:=Tryz.f91) Tryz.func91 rfl (by rw[Tryz.ntmps91];simp) (by simp -implicitDefEqProofs only[go_sem];exact hp) (by simp -implicitDefEqProofs only[go_sem];exact b8v _) ?_
 simp -implicitDefEqProofs only[go_sem,Tryz.f91,ckG]
 refine b0h (cs:=[]) b0v (by kernel_rfl) ?_
 simp -implicitDefEqProofs only[go_sem,g1,g2,b0F hi]
 exact⟨by omega,by rw[b4D]⟩
theorem c4P(x0:V)(r0:List V)(tabs:List (List V))(un i k:Nat)(l:List Rw)(hu:tabs[un]? = some [sl 48 (l.map Rw.enc)])(hi:i<l.length)(hk:k<(b0j l i).kids.length)(hp:b1a (ckG x0 tabs r0)=true):b0u env 146 [.fptr (ckG x0 tabs r0),.agg [.int .i64 un,.int .i64 i],.int .i64 k] (.agg [.int .i64 un,.int .i64 (b1d l i k)]):=by
 refine b0i (fn:=Tryz.f146) Tryz.func146 rfl (by rw[Tryz.ntmps146];simp) (by simp -implicitDefEqProofs only[go_sem];exact hp) (by simp -implicitDefEqProofs only[go_sem]) ?_
 simp -implicitDefEqProofs only[go_sem,Tryz.f146]
 have hR:=b9g x0 r0 tabs un i l hu hi hp
 have hki:(k:Int)<(b0j l i).kids.length:=by omega
 refine b0h (cs:=[]) b0v (by kernel_rfl) ?_
 simp -implicitDefEqProofs only[go_sem]
 refine b0B hR (by simp -implicitDefEqProofs only[go_sem]) ?_
 simp -implicitDefEqProofs only[go_sem,b3T hk]
 exact hki
theorem f3K(x0:V)(r0:List V)(tabs:List (List V))(un i:Nat)(l:List Rw)(hu:tabs[un]? = some [sl 48 (l.map Rw.enc)])(h:c0H l i)(hp:b1a (ckG x0 tabs r0)=true):b0u env 148 [.fptr (ckG x0 tabs r0),.agg [.int .i64 un,.int .i64 i]] (.agg (b2O l i).enc):=by
 obtain⟨h0,h1,h2,h3,h4,h5,h6⟩:=h
 refine b0i (fn:=Tryz.f148) Tryz.func148 rfl (by rw[Tryz.ntmps148];simp) (by simp -implicitDefEqProofs only[go_sem];exact hp) (by simp -implicitDefEqProofs only[go_sem,Sg.enc]) ?_
 simp -implicitDefEqProofs only[go_sem,Tryz.f148]
 refine(c4P x0 r0 tabs un i 1 l hu h1 (by omega) hp).calls (by simp -implicitDefEqProofs only[go_sem];rfl) ?_
 simp -implicitDefEqProofs only[go_sem]
 refine(b9g x0 r0 tabs un (b1d l i 1) l hu h4 hp).calls (by simp -implicitDefEqProofs only[go_sem]) ?_
 simp -implicitDefEqProofs only[go_sem]
 refine(c4P x0 r0 tabs un i 0 l hu h1 (by omega) hp).calls (by simp -implicitDefEqProofs only[go_sem];rfl) ?_
 simp -implicitDefEqProofs only[go_sem]
 refine(b9g x0 r0 tabs un (b1d l i 0) l hu h3 hp).calls (by simp -implicitDefEqProofs only[go_sem]) ?_
 simp -implicitDefEqProofs only[go_sem]
 intro _ _
 have hks:=h6
 have hkd:∀ j,j<(b0j l (b1d l i 0)).kids.length→True:=fun _ _=>trivial
 generalize hq:(b0j l (b1d l i 0)).kids=ks at h5 h6 hks hkd ⊢
 refine b0n (β:=Unit) ks (fun pre _=>⟨[(23,.int .i64 pre.length),(22,.int .i64 ks.length),(6,.ptr 3 0),(5,.ptr 2 0),(4,.ptr 1 0),(0,.fptr (ckG x0 tabs r0))],
   [.dead,.cells [.slice .nil 0 [],.str ⟨#[]⟩],.cells [.slice (.arr 0) 9 ((b6m l pre).map b0p),.str (b0j l (b1d l i 1)).text],.cells [.int .i64 un,.int .i64 (b1d l i 0)]],[pre.length]⟩) (fun _ _ _=>True) () ?_ trivial ?_ ?_
 ·simp only[b6m,g9P]
  simp -implicitDefEqProofs only[go_sem]
  try rfl
 ·intro _ _
  simp -implicitDefEqProofs only[go_sem]
  simp[b2O,Sg.enc,hq]
 ·rintro pre x post _ hx _
  have hpl:ks.length=pre.length+1+post.length:=by rw[hx];simp;omega
  obtain⟨q1,q2,q3⟩:=h6 x (by rw[hx];simp)
  have hj:pre.length<(b0j l (b1d l i 0)).kids.length:=by rw[hq];omega
  have hkx:b1d l (b1d l i 0) pre.length=x:=by
   show(b0j l (b1d l i 0)).kids.getD pre.length 0=x
   rw[hq,hx];simp[g8Z]
  have hlt:((pre.length:Int)<ks.length)=True:=by simp;omega
  have hpp:b6m l (pre++[x])=b6m l pre++[(b0j l (b1d l x 0)).text]:=by simp[b6m]
  have hppl:(b6m l pre).length=pre.length:=by simp[b6m]
  simp -implicitDefEqProofs only[go_sem,hlt]
  refine b0h (cs:=[]) b0v (by kernel_rfl) ?_
  simp -implicitDefEqProofs only[go_sem,hppl]
  refine b0B (c4P x0 r0 tabs un (b1d l i 0) pre.length l hu h3 hj hp) (by simp -implicitDefEqProofs only[go_sem]) ?_
  rw[hkx]
  simp -implicitDefEqProofs only[go_sem,hppl]
  refine b0B (c4P x0 r0 tabs un x 0 l hu q1 q2 hp) (by simp -implicitDefEqProofs only[go_sem];rfl) ?_
  simp -implicitDefEqProofs only[go_sem,hppl]
  refine b0B (b9g x0 r0 tabs un (b1d l x 0) l hu q3 hp) (by simp -implicitDefEqProofs only[go_sem]) ?_
  simp -implicitDefEqProofs only[go_sem,hppl]
  exact⟨by omega,(),b0g (by omega),by rw[hpp,g9I];rfl⟩
theorem c9f(x0:V)(r0:List V)(tabs:List (List V))(un i:Nat)(l:List Rw)(hu:tabs[un]? = some [sl 48 (l.map Rw.enc)])(hi:i<l.length)(hr:rowsOK l)(hp:b1a (ckG x0 tabs r0)=true) :
  b0u env 147 [.fptr (ckG x0 tabs r0),.agg [.int .i64 un,.int .i64 i]] (.tuple [.agg [.int .i64 (if(b8I l i).isSome then(un:Int)else 0),.int .i64 ((b8I l i).getD 0:Nat)],.bool (b8I l i).isSome]):=by
 obtain⟨g1,g2⟩:=c0b hu
 refine b0i (fn:=Tryz.f147) Tryz.func147 rfl (by rw[Tryz.ntmps147];simp) (by simp -implicitDefEqProofs only[go_sem];exact hp) (by simp -implicitDefEqProofs only[go_sem]) ?_
 simp -implicitDefEqProofs only[go_sem,Tryz.f147]
 refine(b9g x0 r0 tabs un i l hu hi hp).calls (by simp -implicitDefEqProofs only[go_sem]) ?_
 simp -implicitDefEqProofs only[go_sem]
 have hp0:=hr.par i hi
 have hfu:b8I l i=upF l (l.length+1) (b0j l i).parent:=rfl
 refine b1A (α:=Int×Nat) (fun b=>⟨[(6,.int .i64 b.1),(4,.ptr 1 0),(3,.ptr 0 0),(0,.fptr (ckG x0 tabs r0))],[.cells [.int .i64 un,.int .i64 i],.cells [.int .i64 0,.int .i64 0]],[]⟩)
  (fun b => -1≤b.1∧b.1+1<b.2∧b.1<l.length∧b8I l i=upF l b.2 b.1) (fun b=>(b.1+1).toNat) ((b0j l i).parent,l.length+1) ?_ ⟨hp0.2,by simp;omega,by simp;omega,hfu⟩ ?_
 ·simp -implicitDefEqProofs only[go_sem]
  try rfl
 ·rintro⟨k,f⟩ ⟨h1,h2,h3,h4⟩
  simp only at h1 h2 h3 h4 ⊢
  obtain⟨f,rfl⟩:∃ f',f=f'+1:=⟨f - 1,by omega⟩
  simp -implicitDefEqProofs only[go_sem]
  refine⟨fun hk=>?_,fun hk=>?_⟩
  ·obtain⟨k,rfl⟩:=g9T hk
   have hkl:k<l.length:=by omega
   have hgk:=b0F hkl
   have hklt:((k:Int)<l.length)=True:=by simp;omega
   have hk0:(0≤(k:Int))=True:=by simp
   have hpk:=hr.par k hkl
   refine b0h (cs:=[]) b0v (by kernel_rfl) ?_
   simp -implicitDefEqProofs only[go_sem,g1,g2,hgk,hklt,hk0,Rw.enc]
   rw[upF,if_neg (by omega),g9j]at h4
   refine⟨fun h2=>?_,fun h2=>?_⟩
   ·rw[if_pos h2]at h4
    rw[h4];rfl
   ·rw[if_neg h2]at h4
    refine b0h (cs:=[]) b0v (by kernel_rfl) ?_
    simp -implicitDefEqProofs only[go_sem,g1,g2,hgk,hklt,hk0,Rw.enc]
    exact⟨((b0j l k).parent,f),by simp only;omega,⟨hpk.2,by simp only;omega,by simp only;omega,h4⟩,rfl⟩
  ·have hk':k<0:=by omega
   rw[upF,if_pos hk']at h4
   rw[h4]
   try rfl
theorem f0D(x0:V)(r0:List V)(tabs:List (List V))(un i:Nat)(l:List Rw)(hu:tabs[un]? = some [sl 48 (l.map Rw.enc)])(hi:i<l.length)(hr:rowsOK l)(h0:0≤(b0j l i).parent)(hp:b1a (ckG x0 tabs r0)=true) :
  b0u env 153 [.fptr (ckG x0 tabs r0),.agg [.int .i64 un,.int .i64 i]] (.str (c6Q l i)):=by
 obtain⟨g1,g2⟩:=c0b hu
 refine b0i (fn:=Tryz.f153) Tryz.func153 rfl (by rw[Tryz.ntmps153];simp) (by simp -implicitDefEqProofs only[go_sem];exact hp) (by simp -implicitDefEqProofs only[go_sem]) ?_
 simp -implicitDefEqProofs only[go_sem,Tryz.f153]
 obtain⟨p,hpe⟩:=g9T h0
 have hpl:p<l.length:=by have:=(hr.par i hi).1;omega
 have hgp:=b0F hpl
 have hplt:((p:Int)<l.length)=True:=by simp;omega
 have hp0:(0≤(p:Int))=True:=by simp
 have hR:=b9g x0 r0 tabs un i l hu hi hp
 refine b0h (cs:=[]) b0v (by kernel_rfl) ?_
 simp -implicitDefEqProofs only[go_sem,g1,g2]
 refine b0B hR rfl ?_
 simp -implicitDefEqProofs only[go_sem,g1,g2,hgp,hplt,hp0,hpe,Rw.enc]
 rw[c6Q,hpe,g9j]
 refine⟨fun h=>?_,fun h=>?_⟩
 ·rw[if_neg (by simpa using h)]
 ·rw[if_pos (by simpa using h)]
theorem d9F(x0:V)(r0:List V)(tabs:List (List V))(un i:Nat)(l:List Rw)(hu:tabs[un]? = some [sl 48 (l.map Rw.enc)])(hi:i<l.length)(hg:gramL l)(hp:b1a (ckG x0 tabs r0)=true) :
  b0u env 186 [.fptr (ckG x0 tabs r0),.agg [.int .i64 un,.int .i64 i]] (.str (b4d l l.length i)):=by
 obtain⟨g1,g2⟩:=c0b hu
 refine b0i (fn:=Tryz.f186) Tryz.func186 rfl (by rw[Tryz.ntmps186];simp) (by simp -implicitDefEqProofs only[go_sem];exact hp) (by simp -implicitDefEqProofs only[go_sem]) ?_
 simp -implicitDefEqProofs only[go_sem,Tryz.f186]
 refine b1A (α:=Nat×Nat) (fun b=>⟨[(4,.str ⟨#[]⟩),(3,.ptr 0 0),(0,.fptr (ckG x0 tabs r0))],[.cells [.int .i64 un,.int .i64 b.1]],[]⟩)
  (fun b=>b.1<l.length∧l.length≤b.1+b.2∧b4d l l.length i=b4d l b.2 b.1) (fun b=>b.2) (i,l.length) ?_ ⟨hi,by simp,rfl⟩ ?_
 ·simp -implicitDefEqProofs only[go_sem]
  try rfl
 ·rintro⟨k,f⟩ ⟨h1,h2,h3⟩
  simp only at h1 h2 h3 ⊢
  obtain⟨f,rfl⟩:∃ f',f=f'+1:=⟨f - 1,by omega⟩
  simp -implicitDefEqProofs only[go_sem]
  refine(b9g x0 r0 tabs un k l hu h1 hp).calls (by simp -implicitDefEqProofs only[go_sem]) ?_
  simp -implicitDefEqProofs only[go_sem]
  have hle:=hg.least k h1
  rw[b4d]at h3
  refine⟨fun h26=>?_,fun h26=>?_⟩
  ·rw[if_pos h26]at h3
   have hk1:0<(b0j l k).kids.length:=by rw[h26]at hle;simp[b0U]at hle;omega
   have hkd:=hg.kid k h1 0 hk1
   refine(c4P x0 r0 tabs un k 0 l hu h1 hk1 hp).calls (by simp -implicitDefEqProofs only[go_sem];rfl) ?_
   simp -implicitDefEqProofs only[go_sem]
   exact⟨(b1d l k 0,f),by simp,⟨hkd.2.1,by simp only;omega,h3⟩,rfl⟩
  ·rw[if_neg h26]at h3
   refine(b9g x0 r0 tabs un k l hu h1 hp).calls (by simp -implicitDefEqProofs only[go_sem]) ?_
   simp -implicitDefEqProofs only[go_sem]
   rw[h3]
   refine⟨fun h=>by rw[if_pos h],fun h17=>⟨fun h=>by rw[if_neg h17,if_pos h],fun h18=>⟨fun h=>⟨fun _=>?_,fun hn=>absurd h hn⟩,fun h24=>⟨fun h=>?_,fun h25=>?_⟩⟩⟩⟩
   ·refine(b6Z (b0j l k)).calls (show [V.agg ((b0j l k).enc.map share1)]=_ by rw[b4D]) ?_
    simp -implicitDefEqProofs only[go_sem]
    rw[if_neg h17,if_neg h18,if_pos (Or.inl h)];rfl
   ·refine(b6Z (b0j l k)).calls (show [V.agg ((b0j l k).enc.map share1)]=_ by rw[b4D]) ?_
    simp -implicitDefEqProofs only[go_sem]
    rw[if_neg h17,if_neg h18,if_pos (Or.inr h)];rfl
   ·rw[if_neg h17,if_neg h18,if_neg (by omega)]
theorem c8a(x0:V)(r0:List V)(tabs:List (List V))(un:Nat)(l:List Rw)(hu:tabs[un]? = some [sl 48 (l.map Rw.enc)])(hg:gramL l)(hp:b1a (ckG x0 tabs r0)=true):∀ (f i:Nat),i<l.length→l.length≤i+f →
  b0u env 154 [.fptr (ckG x0 tabs r0),.agg [.int .i64 un,.int .i64 i]] (.bool (b1T l f i)):=by
 obtain⟨g1,g2⟩:=c0b hu
 intro f
 induction f with
 | zero=>intro i hi hf;omega
 | succ f ih =>
  intro i hi hf
  refine b0i (fn:=Tryz.f154) Tryz.func154 rfl (by rw[Tryz.ntmps154];simp) (by simp -implicitDefEqProofs only[go_sem];exact hp) (by simp -implicitDefEqProofs only[go_sem]) ?_
  simp -implicitDefEqProofs only[go_sem,Tryz.f154]
  refine(b9g x0 r0 tabs un i l hu hi hp).calls (by simp -implicitDefEqProofs only[go_sem]) ?_
  by_cases hc:(b0j l i).kind=17∨(b0j l i).kind=18∨(b0j l i).kind=24∨(b0j l i).kind=25∨(b0j l i).kind=26
  ·have hc2:=hc
   rcases hc2 with h | h | h | h | h
   all_goals(
    simp -implicitDefEqProofs only[go_sem,h]
    refine(b9g x0 r0 tabs un i l hu hi hp).calls (by simp -implicitDefEqProofs only[go_sem]) ?_
    simp -implicitDefEqProofs only[go_sem]
    intro _ _
    have hcon:b1T l (f+1) i=(b0j l i).kids.all fun k=>b1T l f k:=by rw[b1T,g9D hc,g9O]
    have hkd:=hg.kid i hi
    rw[hcon]
    have hki:∀ j,j<(b0j l i).kids.length→b1d l i j=(b0j l i).kids.getD j 0:=fun _ _=>rfl
    have hkb:=(hg.ok.kids i hi).1
    generalize hks:(b0j l i).kids=ks at hkd hki hkb ⊢
    refine b0n (β:=Unit) ks (fun pre _=>⟨[(21,.int .i64 pre.length),(20,.int .i64 ks.length),(19,sl 3 (ks.map b0M)),(4,.bool false),(3,.ptr 0 0),(0,.fptr (ckG x0 tabs r0))],[.cells [.int .i64 un,.int .i64 i]],[]⟩)
     (fun pre post _=>(ks.all fun k=>b1T l f k)=post.all fun k=>b1T l f k) () ?_ rfl ?_ ?_
    ·simp -implicitDefEqProofs only[go_sem]
     try rfl
    ·intro _ he
     simp -implicitDefEqProofs only[go_sem]
     rw[he];rfl
    ·rintro pre x post _ hx he
     have hpl:ks.length=pre.length+1+post.length:=by rw[hx];simp;omega
     have hlt:((pre.length:Int)<ks.length)=True:=by simp;omega
     have hj:pre.length<ks.length:=by omega
     have hkx:b1d l i pre.length=x:=by rw[hki _ hj,hx];simp[g8Z]
     have hkd2:=hkd _ hj
     have hw:IntKind.i64.wrap (↑pre.length+1)=↑(pre.length+1):=b0g (by omega)
     rw[hkx]at hkd2
     simp -implicitDefEqProofs only[go_sem,hlt]
     refine(c4P x0 r0 tabs un i pre.length l hu hi (by rw[hks];exact hj) hp).calls (by simp -implicitDefEqProofs only[go_sem]) ?_
     rw[hkx]
     simp -implicitDefEqProofs only[go_sem]
     refine(ih x hkd2.2.1 (by omega)).calls (by simp -implicitDefEqProofs only[go_sem]) ?_
     simp -implicitDefEqProofs only[go_sem]
     rw[List.all_cons]at he
     refine⟨fun h=>?_,fun h=>⟨(),?_,hw⟩⟩
     ·rw[he]
      cases hcx:b1T l f x with
      | true=>rw[hcx]at h;cases h
      | false=>rfl
     ·rw[he]
      cases hcx:b1T l f x with
      | true=>rfl
      | false=>rw[hcx]at h;cases h)
  ·have hc':=hc
   simp only[not_or]at hc'
   simp -implicitDefEqProofs only[go_sem,hc'.1,hc'.2.1,hc'.2.2.1,hc'.2.2.2.1,hc'.2.2.2.2]
   rw[b1T,g9v hc];rfl
end Go.Proofs.YtighfcpaplmaiaaGreatDoor
namespace Go.Vg
mutual
theorem b4U{k ka:Nat}:∀ cs:List V,(∀ (j:Nat) c,cs[j]? = some c→c.lt k ka=true)→ltL k ka cs=true
 | [],_=>rfl
 | x::r,h=>by
  simp only[ltL,g9g]
  exact⟨h 0 x rfl,b4U r fun j c hc=>h (j+1) c (by simpa using hc)⟩
end
theorem c6e{k ka:Nat}:∀ cs:List (List V),(∀ (j:Nat) c,cs[j]? = some c→ltL k ka c=true)→b6J k ka cs=true
 | [],_=>rfl
 | x::r,h=>by
  simp only[b6J,g9g]
  exact⟨h 0 x rfl,c6e r fun j c hc=>h (j+1) c (by simpa using hc)⟩
theorem d1o{k ka:Nat}:∀ es:List (V×V),(∀ (j:Nat) x y,es[j]? = some (x,y)→x.lt k ka=true∧y.lt k ka=true)→ltP k ka es=true
 | [],_=>rfl
 | (x,y)::r,h=>by
  simp only[ltP,g9g]
  exact⟨h 0 x y rfl,d1o r fun j x y hc=>h (j+1) x y (by simpa using hc)⟩
theorem d1D{k ka:Nat}:∀ h:List VObj,(∀ (j:Nat) c,h[j]? = some c→c.lt k ka=true)→ltH k ka h=true
 | [],_=>rfl
 | x::r,h=>by
  simp only[ltH,g9g]
  exact⟨h 0 x rfl,d1D r fun j c hc=>h (j+1) c (by simpa using hc)⟩
theorem b0w{α:Type}{l:List α}{i:Nat}{x:α}(h:l[i]? = some x):i<l.length:=(g8Y.1 h).1
theorem RV.lt{P:Program}{G:Gh}{arr:List Nat}{x:V}{v:Value}(hx:RV P G arr x v):x.lt G.φ.length arr.length=true:=by
 induction hx with
 | junk v=>rfl
 | bool b=>rfl
 | int k n=>rfl
 | str s hs=>rfl
 | nilp=>rfl
 | ptr id off b hb=>simp only[V.lt,g9h];exact b0w hb
 | fptr cs b o hd _ ih =>
  simp only[V.lt]
  refine b4U cs fun j c hc=>?_
  obtain⟨v,hv⟩:=hd j (b0w hc)
  exact ih j c v hc hv
 | snil o e ho =>
  simp only[V.lt,b6J,h0b]
  cases o with
  | arr k =>
   obtain⟨n,hn⟩:=ho
   simp only[Own.lt,g9h];exact b0w hn
  | _=>rfl
 | sodd e a c=>rfl
 | slice o e es b off cap ho h1 h2 h3 h4 hd _ ih =>
  simp only[V.lt,g9g]
  refine⟨?_,c6e es fun i el hi=>b4U el fun j c hj=>?_⟩
  ·cases o with
   | arr k =>
    obtain⟨n,hn,_⟩:=ho
    simp only[Own.lt,g9h];exact b0w hn
   | _=>rfl
  ·obtain⟨v,hv⟩:=hd i el j hi (b0w hj)
   exact ih i el j c v hi hj hv
 | mslice id off len cap e b hb h1 h2 h3=>simp only[V.lt,g9h];exact b0w hb
 | nilmap=>rfl
 | map id b hb=>simp only[V.lt,g9h];exact b0w hb
 | nilfunc=>rfl
 | func f caps cs hl _ ih =>
  simp only[V.lt]
  refine b4U caps fun j c hc=>?_
  have hj:j<cs.size:=by rw[←hl];exact b0w hc
  exact ih j c _ hc (g9p hj)
 | meth f xs cs hl _ ih =>
  simp only[V.lt]
  refine b4U xs fun j c hc=>?_
  have hj:j<cs.size:=by rw[←hl];exact b0w hc
  exact ih j c _ hc (g9p hj)
 | nilif=>rfl
 | iface t x v _ ih=>exact ih
 | agg cs vs hl _ ih =>
  simp only[V.lt]
  refine b4U cs fun j c hc=>?_
  have hj:j<vs.size:=by rw[←hl];exact b0w hc
  exact ih j c _ hc (g9p hj)
 | vec id k gen len e b o cap hv h1 h2 =>
  obtain⟨n,hn,_⟩:=hv
  simp only[V.lt,g9h];exact b0w hn
 | vptr id k gen off b o hv =>
  obtain⟨n,hn,_⟩:=hv
  simp only[V.lt,g9h];exact b0w hn
 | tuple cs vs hl _ ih =>
  simp only[V.lt]
  refine b4U cs fun j c hc=>?_
  have hj:j<vs.size:=by rw[←hl];exact b0w hc
  exact ih j c _ hc (g9p hj)
theorem RelW.lt{E:Env}{G:Gh}{heap:List VObj}{arr:List Nat}{w0:Base}{w:World}(h:RelW E G heap arr w0 w):ltH heap.length arr.length heap=true:=by
 refine d1D heap fun id ob hid=>?_
 obtain⟨b,hb,hr⟩:=h.obj id ob hid
 rw[←h.lenφ]
 have cellsLt:∀ (c:Array Value) (cs:List V),c.size=cs.length→(∀ (j:Nat) x,cs[j]? = some x→∃ v,c[j]? = some v∧RV E.P G arr x v)→ltL G.φ.length arr.length cs=true:=fun c cs _ h3 =>
  b4U cs fun j x hx=>by
   obtain⟨v,_,hv⟩:=h3 j x hx
   exact hv.lt
 cases ob with
 | cells cs =>
  obtain⟨c,e,h1,h2,h3⟩:=hr
  exact cellsLt c cs h2 h3
 | map es =>
  obtain⟨m,clk,h1,h2,h3⟩:=hr
  exact d1o es fun j x y hj=>by
   obtain⟨e,_,q1,q2⟩:=h3 j x y hj
   exact⟨q1.lt,q2.lt⟩
 | siter s pos=>rfl
 | dead=>rfl
 | vec k gen e cs =>
  obtain⟨q1,q2,b',hi,q3,q4,q5⟩:=h.vs.at_ id k gen e cs hid
  simp only[VObj.lt,g9g,g9h]
  exact⟨b0w q1,b4U cs fun j x hx=>by obtain⟨v,_,hv,_⟩:=q5 j x hx;exact hv.lt⟩
 | builder t s=>rfl
 | tcells t cs =>
  obtain⟨c,h1,h2,h3⟩:=hr
  exact cellsLt c cs h2 h3
theorem b0r.tidy{E:Env}{f:FuncId}{args:List V}{h:List VObj}{a:List Nat}{K:b1z}
  (hc:b0r E f args h a fun v h' a'=>∃ h0 z y,h'=h0++z∧a'=a++y∧h0.length=h.length∧(share v).pure=true∧(ltH h.length a.length h=true→ltH h.length a.length h0=true)∧K (share v) h0 a) :
  b0r E f args h a K:=by
 intro G w0 w vals hr hargs
 refine(hc G w0 w vals hr hargs).mono fun e w' hg=>hg.imp (fun⟨val,he,v,heap',arr',G',⟨h0,z,y,e1,e2,hl,hp,hlt,hk⟩,hx,hr',hrv⟩=>?_) id
 subst e1 e2
 have hl0:=hlt hr.lt
 have ht:(h0++z).take h.length=h0:=by rw[List.take_append_of_le_length (by omega),←hl,List.take_length]
 have ha:(a++y).take a.length=a:=by simp
 have hcut:=hr'.cut (k:=h.length) (ka:=a.length) (by rw[ht];exact hl0)
 rw[ht,ha]at hcut
 refine⟨val,he,share v,h0,a,G'.cut h.length a.length,hk,⟨hx.F,fun id b hb=>?_,fun j m hj=>?_⟩,hcut,hrv.share.pure hp _ _ fun _ _ _ h=>h⟩
 ·have:=b0w hb
  rw[hr.lenφ]at this
  exact(b1E this).trans (hx.φ id b hb)
 ·have hja:=b0w hj
  obtain⟨n',g1,g2,g3⟩:=hx.ρ j m hj
  rw[g9a hja,hj]at g1
  cases g1
  exact⟨m,hj,g9m _,fun _=>(b1E hja).trans (g3 rfl)⟩
theorem b0r.tidy0{E:Env}{f:FuncId}{args:List V}{h:List VObj}{a:List Nat}{K:b1z}
  (hc:b0r E f args h a fun v h' a'=>(∃ z,h'=h++z)∧(∃ y,a'=a++y)∧(share v).pure=true∧K (share v) h a):b0r E f args h a K:=by
 refine b0r.tidy (hc.mono ?_)
 rintro v h' a' ⟨⟨z,rfl⟩,⟨y,rfl⟩,hp,hk⟩
 exact⟨h,z,y,rfl,rfl,rfl,hp,fun h=>h,hk⟩
open Go.RowKit
def Own.sh(ka:Nat):Own→Own
 | .arr k => .arr (ka+k)
 | o=>o
mutual
def V.sh(k ka:Nat):V→V
 | .ptr id o => .ptr (k+id) o
 | .mslice id a b c e => .mslice (k+id) a b c e
 | .map id => .map (k+id)
 | .vec id j g l e => .vec (k+id) (ka+j) g l e
 | .vptr id j g o => .vptr (k+id) (ka+j) g o
 | .fptr cs => .fptr (shL k ka cs)
 | .slice o e es => .slice (o.sh ka) e (d3T k ka es)
 | .func f cs => .func f (shL k ka cs)
 | .meth f cs => .meth f (shL k ka cs)
 | .iface t v => .iface t (v.sh k ka)
 | .agg cs => .agg (shL k ka cs)
 | .tuple cs => .tuple (shL k ka cs)
 | .junk => .junk
 | .bool b => .bool b
 | .int i n => .int i n
 | .str s => .str s
 | .nilp => .nilp
 | .nilmap => .nilmap
 | .nilfunc => .nilfunc
 | .nilif => .nilif
def shL(k ka:Nat):List V→List V
 | []=>[]
 | x::r=>x.sh k ka::shL k ka r
def d3T(k ka:Nat):List (List V)→List (List V)
 | []=>[]
 | x::r=>shL k ka x::d3T k ka r
end
theorem b4k(k ka:Nat):∀ cs:List V,shL k ka cs=cs.map (V.sh k ka)
 | []=>rfl
 | x::r=>by rw[shL,b4k k ka r];rfl
theorem c6Z(k ka:Nat):∀ cs:List (List V),d3T k ka cs=cs.map (shL k ka)
 | []=>rfl
 | x::r=>by rw[d3T,c6Z k ka r];rfl
mutual
theorem V.sh_pure(k ka:Nat):∀ x:V,x.pure=true→x.sh k ka=x
 | .junk,_ | .bool _,_ | .int _ _,_ | .str _,_ | .nilp,_ | .nilmap,_ | .nilfunc,_ | .nilif,_=>rfl
 | .ptr ..,h | .mslice ..,h | .map _,h | .vec ..,h | .vptr ..,h=>by simp[V.pure]at h
 | .fptr cs,h=>by rw[V.sh,b4L k ka cs h]
 | .slice o _ es,h=>by
  simp only[V.pure,g9g]at h
  rw[V.sh,b5x k ka es h.2]
  cases o <;> first | rfl | simp[Own.plain]at h
 | .func _ cs,h=>by rw[V.sh,b4L k ka cs h]
 | .meth _ cs,h=>by rw[V.sh,b4L k ka cs h]
 | .iface _ v,h=>by rw[V.sh,V.sh_pure k ka v h]
 | .agg cs,h=>by rw[V.sh,b4L k ka cs h]
 | .tuple cs,h=>by rw[V.sh,b4L k ka cs h]
theorem b4L(k ka:Nat):∀ x:List V,b1a x=true→shL k ka x=x
 | [],_=>rfl
 | x::r,h=>by
  simp only[b1a,g9g]at h
  rw[shL,V.sh_pure k ka x h.1,b4L k ka r h.2]
theorem b5x(k ka:Nat):∀ x:List (List V),b0R x=true→d3T k ka x=x
 | [],_=>rfl
 | x::r,h=>by
  simp only[b0R,g9g]at h
  rw[d3T,b4L k ka x h.1,b5x k ka r h.2]
end
structure Moved(G1:Gh)(a1:List Nat)(G2:Gh)(a2:List Nat)(k ka:Nat):Prop where
 F:∀ b o v,G1.F b o=some v→G2.F b o=some v
 φ:∀ (i:Nat) b,G1.φ[i]? = some b→G2.φ[k+i]? = some b
 ρ:∀ (j:Nat),j<a1.length→G2.ρ[ka+j]? = G1.ρ[j]?
 a:∀ (j:Nat) n,a1[j]? = some n→a2[ka+j]? = some n
theorem d1u.sh{G1 G2:Gh}{a1 a2:List Nat}{k ka j gen:Nat}{C:Nat→Nat→Prop}(hm:Moved G1 a1 G2 a2 k ka)(h:d1u G1 a1 j gen C):d1u G2 a2 (ka+j) gen C:=by
 obtain⟨n,h1,h2,h3⟩:=h
 refine⟨n,hm.a _ _ h1,h2,fun e=>?_⟩
 obtain⟨b,hi,h4,h5⟩:=h3 e
 exact⟨b,hi,(hm.ρ j (b0w h1)).trans h4,h5⟩
theorem RV.sh{P:Program}{G1 G2:Gh}{a1 a2:List Nat}{k ka:Nat}(hm:Moved G1 a1 G2 a2 k ka){x:V}{v:Value}(hx:RV P G1 a1 x v):RV P G2 a2 (x.sh k ka) v:=by
 induction hx with
 | junk v=>exact .junk v
 | bool b=>exact .bool b
 | int k n=>exact .int k n
 | str s hs=>exact .str s hs
 | nilp=>exact .nilp
 | ptr id off b hb=>exact .ptr _ off b (hm.φ _ _ hb)
 | fptr cs b o hd _ ih =>
  rw[V.sh,b4k]
  refine .fptr _ b o (fun j hj=>(hd j (by simpa using hj)).imp fun v hv=>hm.F _ _ _ hv) fun j c v hc hv=>?_
  rw[g9q]at hc
  obtain⟨c',hc',rfl⟩:=g9l.1 hc
  obtain⟨u,hu⟩:=hd j (b0w hc')
  have:=hm.F _ _ _ hu
  rw[hv]at this
  cases this
  exact ih j c' v hc' hu
 | snil o e ho =>
  rw[V.sh,d3T]
  refine .snil _ e ?_
  cases o with
  | arr j=>exact ho.imp fun n hn=>hm.a _ _ hn
  | _=>exact ho
 | sodd e a c=>exact .sodd e a c
 | slice o e es b off cap ho h1 h2 h3 h4 hd _ ih =>
  rw[V.sh,c6Z]
  have hl:(es.map (shL k ka)).length=es.length:=g9r ..
  have he:∀ (i:Nat) el,(es.map (shL k ka))[i]? = some el→∃ el',es[i]? = some el'∧el=el'.map (V.sh k ka):=fun i el hi=>by
   rw[g9q]at hi
   obtain⟨c',hc',rfl⟩:=g9l.1 hi
   exact⟨c',hc',b4k ..⟩
  have key:=RV.slice (P:=P) (G:=G2) (arr:=a2) (o.sh ka) e (es.map (shL k ka)) b off cap
  rw[hl]at key
  refine key ?_ (fun i el hi=>?_) h2 h3 h4 (fun i el j hi hj=>?_) fun i el j c v hi hj hv=>?_
  ·cases o with
   | arr j =>
    obtain⟨n,q1,q2,q3⟩:=ho
    exact⟨n,hm.a _ _ q1,q2,fun e=>(hm.ρ j (b0w q1)).trans (q3 e)⟩
   | _=>exact ho
  ·obtain⟨el',g1,rfl⟩:=he i el hi
   rw[g9r];exact h1 i el' g1
  ·obtain⟨el',g1,rfl⟩:=he i el hi
   exact(hd i el' j g1 (by simpa using hj)).imp fun v hv=>hm.F _ _ _ hv
  ·obtain⟨el',g1,rfl⟩:=he i el hi
   rw[g9q]at hj
   obtain⟨c',hc',rfl⟩:=g9l.1 hj
   obtain⟨u,hu⟩:=hd i el' j g1 (b0w hc')
   have:=hm.F _ _ _ hu
   rw[hv]at this
   cases this
   exact ih i el' j c' v g1 hc' hu
 | mslice id off len cap e b hb h1 h2 h3=>exact .mslice _ off len cap e b (hm.φ _ _ hb) h1 h2 h3
 | nilmap=>exact .nilmap
 | map id b hb=>exact .map _ b (hm.φ _ _ hb)
 | nilfunc=>exact .nilfunc
 | func f caps cs hl _ ih =>
  rw[V.sh,b4k]
  refine .func f _ cs (by rw[g9r];exact hl) fun j c v hc hv=>?_
  rw[g9q]at hc
  obtain⟨c',hc',rfl⟩:=g9l.1 hc
  exact ih j c' v hc' hv
 | meth f xs vs hl _ ih =>
  rw[V.sh,b4k]
  refine .meth f _ vs (by rw[g9r];exact hl) fun j c v hc hv=>?_
  rw[g9q]at hc
  obtain⟨c',hc',rfl⟩:=g9l.1 hc
  exact ih j c' v hc' hv
 | nilif=>exact .nilif
 | iface t x v _ ih=>exact .iface t _ v ih
 | agg cs vs hl _ ih =>
  rw[V.sh,b4k]
  refine .agg _ vs (by rw[g9r];exact hl) fun j c v hc hv=>?_
  rw[g9q]at hc
  obtain⟨c',hc',rfl⟩:=g9l.1 hc
  exact ih j c' v hc' hv
 | vec id j gen len e b o cap hv h1 h2=>exact .vec _ _ gen len e b o cap (hv.sh hm) h1 h2
 | vptr id j gen off b o hv=>exact .vptr _ _ gen off b o (hv.sh hm)
 | tuple cs vs hl _ ih =>
  rw[V.sh,b4k]
  refine .tuple _ vs (by rw[g9r];exact hl) fun j c v hc hv=>?_
  rw[g9q]at hc
  obtain⟨c',hc',rfl⟩:=g9l.1 hc
  exact ih j c' v hc' hv
def VObj.sh(k ka:Nat):VObj→VObj
 | .cells cs => .cells (shL k ka cs)
 | .map es => .map (es.map fun p=>(p.1.sh k ka,p.2.sh k ka))
 | .siter s pos => .siter s pos
 | .tcells t cs => .tcells t (shL k ka cs)
 | _ => .dead
def VObj.whole:VObj→Bool
 | .builder .. | .vec .. => false
 | _=>true
theorem c2r.sh{P:Program}{G1 G2:Gh}{a1 a2:List Nat}{k ka:Nat}(hm:Moved G1 a1 G2 a2 k ka){w:World}{b:Nat}{ob:VObj}(h:c2r P G1 a1 w b ob):c2r P G2 a2 w b (ob.sh k ka):=by
 have hc:∀ (c:Array Value) (cs:List V),(∀ (j:Nat) x,cs[j]? = some x→∃ v,c[j]? = some v∧RV P G1 a1 x v)→∀ (j:Nat) x,(shL k ka cs)[j]? = some x→∃ v,c[j]? = some v∧RV P G2 a2 x v:=fun c cs h3 j x hx=>by
  rw[b4k,g9q]at hx
  obtain⟨c',hc',rfl⟩:=g9l.1 hx
  exact(h3 j c' hc').imp fun v hv=>⟨hv.1,hv.2.sh hm⟩
 cases ob with
 | cells cs =>
  obtain⟨c,e,h1,h2,h3⟩:=h
  exact⟨c,e,h1,by rw[b4k,g9r];exact h2,hc c cs h3⟩
 | map es =>
  obtain⟨m,clk,h1,h2,h3⟩:=h
  refine⟨m,clk,h1,by rw[g9r];exact h2,fun j kx vx hj=>?_⟩
  rw[g9q]at hj
  obtain⟨p,hp,e⟩:=g9l.1 hj
  cases e
  exact(h3 j p.1 p.2 hp).imp fun v hv=>⟨hv.1,hv.2.1.sh hm,hv.2.2.sh hm⟩
 | siter s pos=>exact h
 | dead=>trivial
 | vec _ _ _ _=>trivial
 | builder t s=>trivial
 | tcells t cs =>
  obtain⟨c,h1,h2,h3⟩:=h
  exact⟨c,h1,by rw[b4k,g9r];exact h2,hc c cs h3⟩
theorem b1X{α:Type}{l r:List α}{i:Nat}{x:α}(h:(l++r)[i]? = some x):(i<l.length∧l[i]? = some x)∨∃ j,i=l.length+j∧r[j]? = some x:=by
 by_cases hi:i<l.length
 ·rw[g9a hi]at h;exact .inl ⟨hi,h⟩
 ·rw[g9c (by omega)]at h
  exact .inr ⟨i - l.length,by omega,h⟩
theorem b3g{α:Type}{l r:List α}{j:Nat}:(l++r)[l.length+j]? = r[j]?:=by
 rw[g9c (by omega)];congr 1;omega
theorem RelW.join{E:Env}{F:Nat→Nat→Option Value}{φ φ1:List Nat}{ρ ρ1:List (Nat×Nat×Nat)}{heap h0:List VObj}{arr a0:List Nat}{w0:Base}{w w':World}{F1:Nat→Nat→Option Value}
  (F0:Nat→Nat→Option Value) (hr:RelW E ⟨F0,φ,ρ⟩ heap arr w0 w) (hnew:∀ b o v,F b o=some v→b<w.heap.size→F0 b o=some v) (hbw:Below w.heap.size w w')
  (h1:RelW E ⟨F,φ,ρ⟩ heap arr w0 w') (h2:RelW E ⟨F,φ1,ρ1⟩ h0 a0 ⟨w,F1,[]⟩ w') (hs:∀ (i:Nat) ob,h0[i]? = some ob→ob.whole=true) :
  RelW E ⟨F,φ++φ1,ρ++ρ1⟩ (heap++h0.map (VObj.sh heap.length arr.length)) (arr++a0) w0 w'∧Ext ⟨F,φ,ρ⟩ arr ⟨F,φ++φ1,ρ++ρ1⟩ (arr++a0)∧Moved ⟨F,φ1,ρ1⟩ a0 ⟨F,φ++φ1,ρ++ρ1⟩ (arr++a0) heap.length arr.length:=by
 have hφ:∀ (i:Nat) b,φ[i]? = some b→b<w.heap.size:=fun i b hb=>(hr.geφ i b hb).2
 have hρ:∀ (k b lo hi:Nat),ρ[k]? = some (b,lo,hi)→lo<hi→b<w.heap.size:=fun k b lo hi hk hlt=>by
  obtain⟨⟨c,e,q,_⟩,_⟩:=hr.reg k b lo hi hk hlt
  exact(g9x.1 q).1
 have hw:w0.w.heap.size≤w.heap.size:=hr.below.size
 have l1:φ.length=heap.length:=h1.lenφ
 have l2:φ1.length=h0.length:=h2.lenφ
 have r1:ρ.length=arr.length:=h1.lenρ
 have r2:ρ1.length=a0.length:=h2.lenρ
 have hm:Moved ⟨F,φ1,ρ1⟩ a0 ⟨F,φ++φ1,ρ++ρ1⟩ (arr++a0) heap.length arr.length:=⟨fun _ _ _ h=>h,fun i b hb=>by
  show(φ++φ1)[heap.length+i]? = _
  rw[←l1,b3g];exact hb,fun j _=>by
  show(ρ++ρ1)[arr.length+j]? = _
  rw[←r1,b3g],fun j n hn=>by rw[b3g];exact hn⟩
 have hx:Ext ⟨F,φ,ρ⟩ arr ⟨F,φ++φ1,ρ++ρ1⟩ (arr++a0):=⟨fun _ _ _ h=>h,fun i b hb=>by
  show(φ++φ1)[i]? = _
  rw[g9a (b0w hb)];exact hb,fun k n hn=>⟨n,by rw[g9a (b0w hn)];exact hn,g9m _,fun _=>by
  show(ρ++ρ1)[k]? = _
  rw[g9a (by rw[r1];exact b0w hn)]⟩⟩
 have hg2:∀ (i:Nat) b,φ1[i]? = some b→w.heap.size≤b:=fun i b hb=>(h2.geφ i b hb).1
 have hob:∀ (i:Nat) ob,(heap++h0.map (VObj.sh heap.length arr.length))[i]? = some ob→(i<heap.length∧heap[i]? = some ob)∨∃ j ob',i=heap.length+j∧h0[j]? = some ob'∧ob=ob'.sh heap.length arr.length:=fun i ob hi=>by
  rcases b1X hi with h | ⟨j,rfl,h⟩
  ·exact .inl h
  ·rw[g9q]at h
   obtain⟨c',hc',rfl⟩:=g9l.1 h
   exact .inr ⟨j,c',rfl,hc',rfl⟩
 refine⟨⟨h1.newF,fun g cs hg=>⟨(h1.glob g cs hg).1,(h1.glob g cs hg).2.mono hx⟩,h1.below,h1.frz,h1.one,?_,by simp[l1,l2],?_,?_,?_,by simp[r1,r2],?_,?_,?_,?_,h1.ini,?_⟩,hx,hm⟩
 ·intro id ob hid
  rcases hob id ob hid with⟨hl,hg⟩ | ⟨j,ob',rfl,hg,rfl⟩
  ·obtain⟨b,hb,hr⟩:=h1.obj id ob hg
   exact⟨b,hx.φ _ _ hb,hr.keep hx rfl⟩
  ·obtain⟨b,hb,hr⟩:=h2.obj j ob' hg
   exact⟨b,hm.φ _ _ hb,hr.sh hm⟩
 ·intro i j b hi hj
  rcases b1X hi with⟨_,g1⟩ | ⟨i',rfl,g1⟩ <;> rcases b1X hj with⟨_,g2⟩ | ⟨j',rfl,g2⟩
  ·exact h1.nod i j b g1 g2
  ·have:=hφ _ _ g1;have:=hg2 _ _ g2;omega
  ·have:=hφ _ _ g2;have:=hg2 _ _ g1;omega
  ·rw[h2.nod i' j' b g1 g2]
 ·intro id b o hb hd
  rcases b1X hb with⟨hl,g1⟩ | ⟨i',rfl,g1⟩
  ·exact h1.sep id b o g1 (by rwa [g9a (by omega)]at hd)
  ·refine h2.sep i' b o g1 fun e=>hd ?_
   rw[l1,b3g,g9q,e];rfl
 ·intro id b hb
  rcases b1X hb with⟨hl,g1⟩ | ⟨i',rfl,g1⟩
  ·exact h1.geφ id b g1
  ·have:=h2.geφ i' b g1
   exact⟨h0i hw this.1,this.2⟩
 ·intro k b lo hi hk hlt
  rcases b1X hk with⟨hl,g1⟩ | ⟨k',rfl,g1⟩
  ·obtain⟨q1,q2,q3,q4⟩:=h1.reg k b lo hi g1 hlt
   refine⟨q1,fun id hid ob hob'=>?_,q3,q4⟩
   rcases b1X hid with⟨hl',g2⟩ | ⟨i',rfl,g2⟩
   ·exact q2 id g2 ob (by rwa [g9a (by omega)]at hob')
   ·have:=hρ _ _ _ _ g1 hlt;have:=hg2 _ _ g2;omega
  ·obtain⟨q1,q2,q3,q4⟩:=h2.reg k' b lo hi g1 hlt
   refine⟨q1,fun id hid ob hob'=>?_,q3,h0i hw q4⟩
   rcases b1X hid with⟨hl',g2⟩ | ⟨i',rfl,g2⟩
   ·have:=hφ _ _ g2;have:w.heap.size≤b:=q4;omega
   ·rw[l1,b3g,g9q]at hob'
    obtain⟨c',hc',rfl⟩:=g9l.1 hob'
    have h3:=q2 i' g2 c' hc'
    have h4:=hs i' c' hc'
    cases c' <;> first | rfl | (cases h3;done) | (cases h4;done)
 ·intro k k' b lo hi lo' hi' hne hk hk' g1 g2
  rcases b1X hk with⟨_,q1⟩ | ⟨i',rfl,q1⟩ <;> rcases b1X hk' with⟨_,q2⟩ | ⟨j',rfl,q2⟩
  ·exact h1.regd k k' b lo hi lo' hi' hne q1 q2 g1 g2
  ·have:=hρ _ _ _ _ q1 g1;have:w.heap.size≤b:=(h2.reg _ _ _ _ q2 g2).2.2.2;omega
  ·have:=hρ _ _ _ _ q2 g2;have:w.heap.size≤b:=(h2.reg _ _ _ _ q1 g1).2.2.2;omega
  ·exact h2.regd i' j' b lo hi lo' hi' (by omega) q1 q2 g1 g2
 ·intro k b lo hi hk
  rcases b1X hk with⟨_,q1⟩ | ⟨i',rfl,q1⟩
  ·exact h1.fre k b lo hi q1
  ·exact(h2.fre i' b lo hi q1).imp (fun h=>h0i hw h) fun h=>h
 ·intro id t s b hi hb
  rcases hob id _ hi with⟨hl,hg⟩ | ⟨j,ob',rfl,hg,e⟩
  ·have hb':φ[id]? = some b:=by
    rcases b1X hb with⟨_,g⟩ | ⟨i',rfl,g⟩
    ·exact g
    ·omega
   refine(hr.bld id t s b hg hb').keep (hbw.block b (hφ _ _ hb')) fun g hlt ⟨s1,s2,s3⟩=>⟨hbw.block g hlt,fun o=>?_,fun i hi'=>?_,fun k lo hi' hk=>?_⟩
   ·show F g o=none
    cases hF':F g o with
    | none=>rfl
    | some v=>have q:=hnew g o v hF' hlt;have q2:F0 g o=none:=s1 o;rw[q2]at q;cases q
   ·rcases b1X hi' with⟨_,g1⟩ | ⟨i',rfl,g1⟩
    ·exact s2 i g1
    ·have:=hg2 _ _ g1;omega
   ·rcases b1X hk with⟨_,g1⟩ | ⟨i',rfl,g1⟩
    ·exact s3 k lo hi' g1
    ·rcases h0v lo hi' with hl2 | hl2
     ·have:w.heap.size≤g:=(h2.reg _ _ _ _ g1 hl2).2.2.2;omega
     ·exact hl2
  ·cases ob' <;> cases e
 ·refine⟨fun id k gen e cs hi=>?_,fun id id' k g g' e e' cs cs' h3 h4=>?_⟩
  ·rcases hob id _ hi with⟨hl,hg⟩ | ⟨j,ob',rfl,hg,e⟩
   ·obtain⟨q1,q2,b,hi',q3,q4,q5⟩:=h1.vs.at_ id k gen e cs hg
    refine⟨by rw[g9a (b0w q1)];exact q1,q2,b,hi',?_,q4,fun j x hj=>(q5 j x hj).imp fun v hv=>⟨hv.1,hv.2.1.mono hx,hv.2.2⟩⟩
    show(ρ++ρ1)[k]? = _
    rw[g9a (by rw[r1];exact b0w q1)];exact q3
   ·cases ob' <;> cases e
  ·rcases hob id _ h3 with⟨hl,hg⟩ | ⟨j,ob',rfl,hg,e⟩ <;> rcases hob id' _ h4 with⟨hl',hg'⟩ | ⟨j',ob'',rfl,hg',e'⟩
   ·exact h1.vs.uni id id' k g g' _ _ cs cs' hg hg'
   ·cases ob'' <;> cases e'
   ·cases ob' <;> cases e
   ·cases ob' <;> cases e
theorem b0r.shift{E:Env}{f:FuncId}{args cargs:List V}{h:List VObj}{a:List Nat}{K K':b1z}(hp:b1a cargs=true)(hc:b0r E.alive f cargs [] [] K)(ha:args.map share=cargs)
  (hk:∀ v h0 a0,K v h0 a0→(∀ ob∈h0,ob.whole=true)∧K' (v.sh h.length a.length) (h++h0.map (VObj.sh h.length a.length)) (a++a0)):b0r E f args h a K':=by
 intro G w0 w vals hr hargs
 have hargs':b8d E.P ⟨G.F,[],[]⟩ [] cargs vals:=by
  have:=hargs.share
  rw[ha]at this
  exact⟨this.1,fun j x v hx hv=>(this.2 j x v hx hv).pure (b2L hp j x hx) _ _ fun _ _ _ h=>h⟩
 refine(hc _ _ w vals hr.al.hide hargs').mono fun e w' hg=>?_
 obtain⟨val,he,v,h0,a0,G1,hv,hx,hr1,hrv⟩:=hg.alive
 replace hr1:=hr1.unal
 obtain⟨g1,g2⟩:=hr.back (F':=G1.F) hx.F hr1.newF hr1.frz hr1.one hr1.below
 obtain⟨hw,hk'⟩:=hk v h0 a0 hv
 obtain⟨j1,j2,j3⟩:=RelW.join (F:=G1.F) (φ:=G.φ) (ρ:=G.ρ) (φ1:=G1.φ) (ρ1:=G1.ρ) (F1:=G.F) G.F hr hr1.newF hr1.below g1 hr1 fun i ob hi=>hw ob (g9f hi)
 exact .inl ⟨val,he,_,_,_,_,hk',g2.trans j2,j1,hrv.sh j3⟩
end Go.Vg
