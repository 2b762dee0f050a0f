import Derived.Test.YtighfcpaplmaiaaGreatDoorTmG
set_option linter.unusedVariables false
set_option linter.unusedSimpArgs false
set_option maxRecDepth 20000
set_option maxHeartbeats 8000000
namespace Go.Vg
def b5X(k:Int)(t:ByteArray):Bool:=if k=18 then decide (t=⟨#[116,114,117,101]⟩) || decide (t=⟨#[102,97,108,115,101]⟩)else if k=23 then decide (t=⟨#[115,101,108,102]⟩)else if k=24 then decide (0<b3s k t)else if k=25 then decide (t=⟨#[45]⟩) || decide (t=⟨#[33]⟩)else decide (t=⟨#[]⟩)
def f7e(k:Int)(t:ByteArray)(n:Nat):Int:=if k=8 then(if t=⟨#[]⟩then 0 else 2)else if k=14 then min n 1 else if k=3 then 2+max ((n:Int) - 1) 0 else if k=20 then 3+max ((n:Int) - 1) 0 else if k=21 then 4+max ((n:Int) - 2) 0
 else if k=7∨k=9∨k=10∨k=22 then 4 else if k=11 then 3 else if k=2∨k=6∨k=12∨k=26 then 2 else if 1≤k∧k≤26 then 1 else 0
def Nd.own(n:Nd):Int:=f7e n.kind n.text n.kids.length
end Go.Vg
namespace Go.Proofs.YtighfcpaplmaiaaGreatDoor
open Go Go.Vg Go.Proofs
theorem f0R(n:Nd):b0s env 240 [.agg n.enc] (.bool (b5X n.kind n.text)):=by
 obtain⟨k,t,g,ks⟩:=n;refine b0i (fn:=Tryz.f240) Tryz.func240 rfl (by rw[Tryz.ntmps240];simp) (by simp -implicitDefEqProofs only[go_sem]) rfl ?_;simp -implicitDefEqProofs only[go_sem,Tryz.f240,Nd.kind,Nd.text];refine⟨fun h=>⟨fun c=>?_,fun c=>?_⟩,fun h=>⟨fun h2=>?_,fun h2=>⟨fun h3=>?_,fun h3=>⟨fun h4=>⟨fun c=>?_,fun c=>?_⟩,fun h4=>?_⟩⟩⟩⟩
 ·simp[b5X,h,c]
 ·simp[b5X,h,c]
 ·simp[b5X,h2]
 ·refine(b4i (.mk k t g ks)).calls (by simp -implicitDefEqProofs only[go_sem]) ?_;simp -implicitDefEqProofs only[go_sem];simp[b5X,h3,Nd.level,Nd.kind,Nd.text]
 ·simp[b5X,h4,c]
 ·simp[b5X,h4,c]
 ·simp[b5X,h,h2,h3,h4]
theorem f4z(n:Nd):b0s env 232 [.agg n.enc] (.int .i64 n.own):=by
 obtain⟨k,t,g,ks⟩:=n;refine b0i (fn:=Tryz.f232) Tryz.func232 rfl (by rw[Tryz.ntmps232];simp) (by simp -implicitDefEqProofs only[go_sem]) rfl ?_;simp -implicitDefEqProofs only[go_sem,Tryz.f232,Nd.kind,Nd.text,Nd.kids,Nd.own];intro _ hl;rw[Vg.wrap_small (x:=(ks.length:Int) - 1) (by omega) (by omega),Vg.wrap_small (x:=(ks.length:Int) - 2) (by omega) (by omega),
  Vg.wrap_small (x:=2+if(ks.length:Int) - 1<0 then 0 else(ks.length:Int) - 1) (by split <;> omega) (by split <;> omega),
  Vg.wrap_small (x:=3+if(ks.length:Int) - 1<0 then 0 else(ks.length:Int) - 1) (by split <;> omega) (by split <;> omega),
  Vg.wrap_small (x:=4+if(ks.length:Int) - 2<0 then 0 else(ks.length:Int) - 2) (by split <;> omega) (by split <;> omega)]
 repeat' (first | apply And.intro | intro)
 all_goals(unfold f7e;congr 1;repeat' split)
 all_goals first | omega | contradiction
end Go.Proofs.YtighfcpaplmaiaaGreatDoor
set_option maxHeartbeats 8000000
namespace Go.Vg
def b3l(p pos k:Int):Bool :=
 if pos<0 then false else if p=1 then decide (b1D k=1)else if p=2 then decide (pos=0∧k=3∨pos=1∧k=5∨pos=2∧k=6)else if p=3 then decide (k=4)else if p=4 then decide (pos=0∧k=5)
 else if p=6 then decide (b1D k=2)else if p=7 then decide (pos=0∧k=8∨0<pos∧k=2)else if p=13 then decide (pos=0∧b1D k=3∨pos=1∧k=6∨pos=2∧k=14)else if p=14 then decide (pos=0∧k=6)
 else if p=15 then decide (pos=0∧b1D k=3∨pos=1∧k=6)else if p=20∨p=21 then decide (b1D k=3)else if p=24 then decide (pos<2∧b1D k=3)
 else if p=9∨p=10∨p=11∨p=12∨p=16∨p=25∨p=26 then decide (pos=0∧b1D k=3)else false
def b2K:Int→ByteArray→List Nd→Bool
 | k,t,a::b::_=>if k=24 then(if b3s k t=3∧a.level=3 then false else decide (b3s k t≤a.level∧b3s k t<b.level))else if k=25 then decide (6≤a.level)else if k=21 then decide (a.level=7)else true
 | k,t,[a]=>if k=25 then decide (6≤a.level)else if k=21 then decide (a.level=7)else true
 | k,t,[]=>true
end Go.Vg
namespace Go.Proofs.YtighfcpaplmaiaaGreatDoor
open Go Go.Vg Go.Proofs
theorem d9F(p pos k:Int):b0s env 239 [.int .i64 p,.int .i64 pos,.int .i64 k] (.bool (b3l p pos k)):=by
 refine b0i (fn:=Tryz.f239) Tryz.func239 rfl (by rw[Tryz.ntmps239];simp) rfl rfl ?_;simp -implicitDefEqProofs only[go_sem,Tryz.f239]
 repeat' (first | apply And.intro | (refine(c7Z k).calls rfl ?_;simp -implicitDefEqProofs only[go_sem]) | intro)
 all_goals(try(simp_all [b3l];done))
 all_goals(congr 1;unfold b3l;grind)
end Go.Proofs.YtighfcpaplmaiaaGreatDoor
set_option maxHeartbeats 8000000
namespace Go.Vg
def Nd.levels(n:Nd):Bool:=b2K n.kind n.text n.kids
def b5Q:List UInt8→Int→Int
 | [],n=>n
 | c::r,n=>b5Q r (10 * n+((c.toNat:Int) - 48))
def c2n(s:ByteArray):Bool := !decide ((s.size:Int)=0) && !decide (13<(s.size:Int)) && !(decide (1<(s.size:Int)) && decide (b5q s 0=48)) && (s.data.toList.all fun c=>b1K c.toNat) && decide (b5Q s.data.toList 0≤1000000000000)
end Go.Vg
namespace Go.Proofs.YtighfcpaplmaiaaGreatDoor
open Go Go.Vg Go.Proofs
theorem d2E(n:Nd)(h0:n.kind=24→2≤n.kids.length)(h1:n.kind=25∨n.kind=21→1≤n.kids.length):b0s env 241 [.agg n.enc] (.bool n.levels):=by
 obtain⟨k,t,g,ks⟩:=n;simp only[Nd.kind,Nd.kids]at h0 h1;refine b0i (fn:=Tryz.f241) Tryz.func241 rfl (by rw[Tryz.ntmps241];simp) (by simp -implicitDefEqProofs only[go_sem]) rfl ?_;rcases ks with _ | ⟨a,_ | ⟨b,r⟩⟩
 ·have hk:¬ k=24∧¬ k=25∧¬ k=21:=⟨fun h=>by simp at h0;omega,fun h=>by simp at h1;omega,fun h=>by simp at h1;omega⟩
  simp -implicitDefEqProofs only[go_sem,Tryz.f241,hk.1,hk.2.1,hk.2.2];rfl
 ·have hk:¬ k=24:=fun h=>by simp at h0;omega
  simp -implicitDefEqProofs only[go_sem,Tryz.f241,hk];refine⟨fun h=>⟨by omega,?_⟩,fun h=>⟨fun h2=>⟨by omega,?_⟩,fun h2=>?_⟩⟩
  ·refine(b4i a).calls (by simp -implicitDefEqProofs only[go_sem]) ?_;simp -implicitDefEqProofs only[go_sem];simp[Nd.levels,b2K,Nd.kind,Nd.text,Nd.kids,h]
  ·refine(b4i a).calls (by simp -implicitDefEqProofs only[go_sem]) ?_;simp -implicitDefEqProofs only[go_sem];simp[Nd.levels,b2K,Nd.kind,Nd.text,Nd.kids,h2]
  ·simp[Nd.levels,b2K,Nd.kind,Nd.text,Nd.kids,h,h2]
 ·simp -implicitDefEqProofs only[go_sem,Tryz.f241];refine⟨fun h=>?_,fun h=>⟨fun h2=>⟨by omega,?_⟩,fun h2=>⟨fun h3=>⟨by omega,?_⟩,fun h3=>?_⟩⟩⟩
  ·refine(b4i (.mk k t g (a::b::r))).calls (by simp -implicitDefEqProofs only[go_sem]) ?_;simp -implicitDefEqProofs only[go_sem];have hlv:(Nd.mk k t g (a::b::r)).level=b3s 24 t:=by simp[Nd.level,Nd.kind,Nd.text,h]
   rw[hlv];have hm:(Nd.mk k t g (a::b::r)).levels=(if b3s 24 t=3∧a.level=3 then false else decide (b3s 24 t≤a.level∧b3s 24 t<b.level)):=by simp[Nd.levels,b2K,Nd.kind,Nd.text,Nd.kids,h]
   rw[hm];have e:∀ x:Nd,List.map share [V.agg x.enc]=[V.agg x.enc]:=fun x=>by simp -implicitDefEqProofs only[go_sem]
   repeat' (first | apply And.intro | (refine(b4i a).calls (e a) ?_;simp -implicitDefEqProofs only[go_sem]) | (refine(b4i b).calls (e b) ?_;simp -implicitDefEqProofs only[go_sem]) | omega | intro)
   all_goals(try simp_all)
   all_goals omega
  ·refine(b4i a).calls (by simp -implicitDefEqProofs only[go_sem]) ?_;simp -implicitDefEqProofs only[go_sem];simp[Nd.levels,b2K,Nd.kind,Nd.text,Nd.kids,h2]
  ·refine(b4i a).calls (by simp -implicitDefEqProofs only[go_sem]) ?_;simp -implicitDefEqProofs only[go_sem];simp[Nd.levels,b2K,Nd.kind,Nd.text,Nd.kids,h3]
  ·simp[Nd.levels,b2K,Nd.kind,Nd.text,Nd.kids,h,h2,h3]
theorem c9O(s:ByteArray):b0s env 229 [.str s] (.bool (c2n s)):=by
 refine b0i (fn:=Tryz.f229) Tryz.func229 rfl (by rw[Tryz.ntmps229];simp) rfl rfl ?_;simp -implicitDefEqProofs only[go_sem,Tryz.f229];intro hs;refine⟨fun a1 _=>⟨fun a2 _=>⟨fun a3=>⟨by omega,fun a4=>?_,fun a4=>?_⟩,fun a3=>?_⟩,fun a2=>?_⟩,fun a1=>?_⟩
 ·simp[c2n,a3,a4]
 all_goals try(simp[c2n,a1];done)
 all_goals try(simp[c2n,a2];done)
 all_goals
  refine b0l (β:=Int) s.data.toList (fun pre n=>⟨[(4,.int .i64 pre.length),(3,.int .i64 n),(0,.str s)],[],[]⟩)
   (fun pre post n=>(pre.all fun c=>b1K c.toNat)=true∧b5Q post n=b5Q s.data.toList 0∧0≤n∧n.toNat<10 ^ pre.length) 0 ?_ ?_ ?_ ?_
  ·simp -implicitDefEqProofs only[go_sem];trivial
  ·simp
  ·rintro n ⟨i1,i2,i3,i4⟩;simp -implicitDefEqProofs only[go_sem,←b3Q];intro _;have hd:b5Q s.data.toList 0=n:=by rw[←i2];rfl
   unfold c2n;rw[i1,hd];simp_all
  ·rintro pre x post n hx ⟨i1,i2,i3,i4⟩;have hz:=b2Q hx;simp -implicitDefEqProofs only[go_sem,hz,b1W hx];intro hl;have hno:b1K (x.toNat:Int)=false→V.bool false=V.bool (c2n s):=by
    intro hf;have:(s.data.toList.all fun c=>b1K c.toNat)=false:=by rw[hx];simp[hf]
    unfold c2n;rw[this];simp
   refine⟨fun c=>⟨fun d=>hno (by unfold b1K;simp;omega),fun d=>?_⟩,fun c=>hno (by unfold b1K;simp;omega)⟩;have hp:pre.length≤12:=by rw[hz]at a2;simp at a2;omega
   have h10:(10:Nat) ^ pre.length≤10 ^ 12:=Nat.pow_le_pow_right (by decide) hp;have h12:(10:Nat) ^ 12=1000000000000:=by decide
   rw[h12]at h10;have hdig:b1K (x.toNat:Int)=true:=by unfold b1K;simp;omega
   refine⟨10 * n+((x.toNat:Int) - 48),⟨by simp[i1,hdig],by rw[←i2];rfl,by omega,?_⟩,b0g (by omega),?_⟩
   ·rw[Nat.pow_succ];omega
   ·rw[f5F (by omega) (by omega),Vg.wrap_small (x:=10 * n) (by omega) (by omega),Vg.wrap_small (x:=(x.toNat:Int) - 48) (by omega) (by omega),Vg.wrap_small (by omega) (by omega)]
end Go.Proofs.YtighfcpaplmaiaaGreatDoor
namespace Go.Vg
mutual
def b5J:Nd→Int→Int
 | .mk k t g ks,l=>if 60<l∨b9M k<(ks.length:Int)then 4001 else min (b4P ks 1 (l+1)) 4001
def b4P:List Nd→Int→Int→Int
 | [],k,_=>k
 | x::r,k,l=>if 4000<k then k else b4P r (k+b5J x l) l
end
theorem d5d(n:Nd)(l:Int):b5J n l≤4001:=by
 obtain⟨k,t,g,ks⟩:=n;rw[b5J];split <;> omega
theorem d2s:∀ (ks:List Nd),(∀ x∈ks,∀ l,1≤b5J x l)→∀ k l,k≤b4P ks k l:=by
 intro ks;induction ks with
 | nil=>intro _ k l;rw[b4P];exact Int.le_refl _
 | cons x r ih =>
  intro h k l;rw[b4P];split
  ·exact Int.le_refl _
  ·have:=ih (fun y hy=>h y (by simp[hy])) (k+b5J x l) l;have:=h x (by simp) l;omega
theorem d4W:∀ (n:Nd) (l:Int),1≤b5J n l:=by
 refine Nd.all fun k t g ks ih l=>?_
 rw[b5J];split
 ·omega
 ·have:=d2s ks ih 1 (l+1);omega
end Go.Vg
namespace Go.Proofs.YtighfcpaplmaiaaGreatDoor
open Go Go.Vg Go.Proofs
theorem d9i:(n:Nd)→∀ (l:Int),0≤l→l≤1000→b0s env 198 [.agg n.enc,.int .i64 l] (.int .i64 (b5J n l)):=by
 refine Nd.all fun k t g ks ih l h0 h1=>?_
 refine b0i (fn:=Tryz.f198) Tryz.func198 rfl (by rw[Tryz.ntmps198];simp) (by simp -implicitDefEqProofs only[go_sem]) rfl ?_;simp -implicitDefEqProofs only[go_sem,Tryz.f198];refine sdq ?_;simp -implicitDefEqProofs only[go_sem];refine⟨fun a1=>b0L (d9x k) rfl ?_,fun a1=>?_⟩
 ·simp -implicitDefEqProofs only[go_sem];refine⟨fun a2=>?_,fun a2=>?_⟩
  ·rw[b5J,if_pos (by omega)]
  ·refine b0l (β:=Int) ks (fun pre n=>⟨[(6,.int .i64 pre.length),(5,.int .i64 n),(2,.ptr 0 0),(1,.int .i64 l)],[VObj.cells (Nd.mk k t g ks).enc],[]⟩)
    (fun _ post n=>min (b4P post n (l+1)) 4001=b5J (.mk k t g ks) l∧1≤n∧n≤100000) 1 ?_ ?_ ?_ ?_
   ·simp -implicitDefEqProofs only[go_sem];rfl
   ·refine⟨?_,by omega,by omega⟩;rw[b5J,if_neg (by omega)]
   ·rintro n ⟨i1,i2,i3⟩;simp -implicitDefEqProofs only[go_sem];intro _ _;rw[←i1,b4P];congr 1;split <;> omega
   ·rintro pre x post n rfl ⟨i1,i2,i3⟩;simp -implicitDefEqProofs only[go_sem];intro _ hl;have hx:=d5d x (l+1);have hx':=d4W x (l+1);refine⟨fun c=>?_,fun c=>?_⟩
    ·rw[Vg.wrap_small (by omega) (by omega)];refine(ih x b1x (l+1) (by omega) (by omega)).calls (by simp -implicitDefEqProofs only[go_sem]) ?_;simp -implicitDefEqProofs only[go_sem];refine⟨n+b5J x (l+1),⟨?_,by omega,by omega⟩,b0g (by have:=b2t hl;omega),Vg.wrap_small (by omega) (by omega)⟩;rw[←i1,b4P,if_neg (by omega)]
    ·have e:b4P (x::post) n (l+1)=n:=by rw[b4P,if_pos (by omega)]
     rw[←i1,e];congr 1;split <;> omega
 ·rw[b5J,if_pos (by omega)]
end Go.Proofs.YtighfcpaplmaiaaGreatDoor
namespace Go.Vg
def b1C(k:Int):List Nd→Int→Bool
 | [],_=>true
 | x::r,i=>b3l k i x.kind && b1C k r (i+1)
def Nd.shape(n:Nd):Bool := !decide (n.kind<1) && !decide (26<n.kind) && !decide ((n.kids.length:Int)<b0S n.kind) && b1C n.kind n.kids 0 && (b2s n.kind n.text || b5X n.kind n.text) && n.levels
end Go.Vg
namespace Go.Proofs.YtighfcpaplmaiaaGreatDoor
open Go Go.Vg Go.Proofs
theorem c7q(n:Nd):b0s env 228 [.agg n.enc] (.bool n.shape):=by
 obtain⟨k,t,g,ks⟩:=n;refine b0i (fn:=Tryz.f228) Tryz.func228 rfl (by rw[Tryz.ntmps228];simp) (by simp -implicitDefEqProofs only[go_sem]) rfl ?_;simp -implicitDefEqProofs only[go_sem,Tryz.f228];refine sdq ?_;simp -implicitDefEqProofs only[go_sem];refine⟨fun a1=>⟨fun a2=>b0L (d6O k) rfl ?_,fun a2=>?_⟩,fun a1=>?_⟩
 ·simp -implicitDefEqProofs only[go_sem];refine⟨fun a3=>?_,fun a3=>?_⟩
  ·simp[Nd.shape,Nd.kind,Nd.kids,a3]
  ·refine b0l (β:=Unit) ks (fun pre _=>⟨[(3,.int .i64 pre.length),(1,.ptr 0 0)],[VObj.cells (Nd.mk k t g ks).enc],[]⟩)
    (fun pre post _=>b1C k post pre.length=b1C k ks 0) () ?_ ?_ ?_ ?_
   ·simp -implicitDefEqProofs only[go_sem];rfl
   ·rfl
   ·intro _ i1;simp -implicitDefEqProofs only[go_sem];intro _ _;have hlv:=d2E (.mk k t g ks) (fun h=>by simp only[Nd.kind]at h;subst h;simp[b0S]at a3;simp only[Nd.kids];omega)
     (fun h=>by simp only[Nd.kind]at h;rcases h with h | h <;> subst h <;> simp[b0S]at a3 <;> simp only[Nd.kids] <;> omega)
    refine(c7C (.mk k t g ks)).calls (by simp -implicitDefEqProofs only[go_sem]) ?_;simp -implicitDefEqProofs only[go_sem];have hf:b1C k ks 0=true:=by rw[←i1];rfl
    have hs:(Nd.mk k t g ks).shape=((b2s k t || b5X k t) && (Nd.mk k t g ks).levels):=by simp[Nd.shape,Nd.kind,Nd.text,Nd.kids,a1,a2,a3,hf]
    rw[hs];simp only[Nd.kind,Nd.text];refine⟨fun c=>?_,fun c=>?_⟩
    ·refine(f0R (.mk k t g ks)).calls (by simp -implicitDefEqProofs only[go_sem]) ?_;simp -implicitDefEqProofs only[go_sem,Nd.kind,Nd.text];refine⟨fun d=>hlv.calls (by simp -implicitDefEqProofs only[go_sem]) ?_,fun d=>?_⟩
     ·simp -implicitDefEqProofs only[go_sem];simp[c,d]
     ·simp[c,d]
    ·refine hlv.cq ?_;simp -implicitDefEqProofs only[go_sem];simp[c]
   ·rintro pre x post _ rfl i1;obtain⟨xk,xt,xg,xks⟩:=x;simp -implicitDefEqProofs only[go_sem];intro _ hl;refine sdq ?_;simp -implicitDefEqProofs only[go_sem];refine b0L (d9F k pre.length xk) rfl ?_;simp -implicitDefEqProofs only[go_sem];have hcast:((pre.length+1:Nat):Int)=(pre.length:Int)+1:=by omega
    refine⟨fun c=>?_,fun c=>⟨(),?_,b0g (by have:=b2t hl;omega)⟩⟩
    ·have hf:b1C k (pre++Nd.mk xk xt xg xks::post) 0=false:=by rw[←i1,b1C];simp only[Nd.kind];simp at c;simp[c]
     simp[Nd.shape,Nd.kind,Nd.text,Nd.kids,hf]
    ·rw[←i1,b1C,hcast];simp only[Nd.kind];simp at c;simp[c]
 ·simp[Nd.shape,Nd.kind,a2]
 ·simp[Nd.shape,Nd.kind,a1]
end Go.Proofs.YtighfcpaplmaiaaGreatDoor
namespace Go.Vg
def b2A(c:UInt8):Bool:=decide (c.toNat=32∨c.toNat=9∨c.toNat=10)
def b2f:List UInt8→Option Nat
 | []=>none
 | c::r=>if c.toNat=10 then some 1 else(b2f r).map (· + 1)
def b4t:List UInt8→Bool
 | c::_=>decide (c.toNat=47)
 | []=>false
def adv:List UInt8→Nat
 | []=>0
 | c::r=>if b2A c then 1 else if decide (c.toNat=47) && b4t r then(b2f (c::r)).getD 0 else 0
theorem c0w{s:ByteArray}{pre post:List UInt8}{x:UInt8}(h:s.data.toList=pre++x::post){i:Int}(hi:i=pre.length):b5q s i=x.toNat:=by rw[hi];exact b1W h
end Go.Vg
namespace Go.Proofs.YtighfcpaplmaiaaGreatDoor
open Go Go.Vg Go.Proofs
theorem d3e(s:ByteArray)(pre l:List UInt8)(hs:s.data.toList=pre++l):b0s env 250 [.str s,.int .i64 pre.length] (.int .i64 (pre.length+adv l:Nat)):=by
 refine b0i (fn:=Tryz.f250) Tryz.func250 rfl (by rw[Tryz.ntmps250];simp) rfl rfl ?_;have hz:s.size=pre.length+l.length:=by rw[b2Q hs];simp
 rcases l with _ | ⟨c,r⟩
 ·simp -implicitDefEqProofs only[go_sem,Tryz.f250];intro hb;simp at hz;exact⟨fun _=>by simp[adv],fun h=>absurd h (by omega)⟩
 ·simp -implicitDefEqProofs only[go_sem,Tryz.f250,b1W hs];intro hb;simp only[h0o]at hz;rw[b0g (n:=pre.length) (by omega)];refine⟨fun h=>absurd h (by omega),fun _=>⟨by omega,fun h1=>⟨by omega,fun h2=>⟨by omega,fun h3=>?_,fun h3=>⟨by omega,fun h4 _=>⟨fun h5=>⟨by omega,fun h6=>?_,fun h6=>?_⟩,fun h5=>?_⟩,fun h4=>?_⟩⟩,fun h2=>?_⟩,fun h1=>?_⟩⟩
  ·have:b2A c=true:=by unfold b2A;simp;omega
   simp[adv,this]
  ·have hbl:b2A c=false:=by unfold b2A;simp;omega
   rcases r with _ | ⟨d,r⟩
   ·simp at hz;omega
   ·have hs2:s.data.toList=(pre++[c])++d::r:=by rw[hs];simp
    rw[c0w hs2 (by simp)]at h6;have:b4t (d::r)=false:=by unfold b4t;simp at h6 ⊢;omega
    simp[adv,hbl,this]
  ·have hbl:b2A c=false:=by unfold b2A;simp;omega
   rcases r with _ | ⟨d,r⟩
   ·simp at hz;omega
   ·have hs2:s.data.toList=(pre++[c])++d::r:=by rw[hs];simp
    rw[c0w hs2 (by simp)]at h6;have h47:b4t (d::r)=true:=by unfold b4t;simp at h6 ⊢;omega
    have hadv:adv (c::d::r)=(b2f (c::d::r)).getD 0:=by simp at h4;simp[adv,hbl,h47];omega
    rw[hadv];refine b0l (β:=Unit) (c::d::r) (fun q _=>⟨[(5,.int .i64 (pre.length+q.length:Nat)),(1,.int .i64 pre.length),(0,.str s)],[],[]⟩)
     (fun q post _=>b2f (c::d::r)=(b2f post).map (· + q.length)) () ?_ ?_ ?_ ?_
    ·simp -implicitDefEqProofs only[go_sem];try trivial
    ·simp
    ·intro _ i1;have hsz:s.size=pre.length+(c::d::r).length:=by rw[b2Q hs];simp
     simp -implicitDefEqProofs only[go_sem,hsz];intro _;rw[i1];simp[b2f]
    ·rintro q x post _ hx i1;have hs3:s.data.toList=(pre++q)++x::post:=by rw[hs,hx];simp
     have hsz:s.size=pre.length+q.length+(post.length+1):=by rw[b2Q hs3];simp;omega
     have hlt:(((pre.length+q.length:Nat):Int)<(s.size:Int))=True:=by simp;omega
     simp -implicitDefEqProofs only[go_sem,hlt,c0w hs3 (i:=((pre.length+q.length:Nat):Int)) (by simp)];intro _;refine⟨fun e=>?_,fun e=>⟨(),?_,?_⟩⟩
     ·have e':x.toNat=10:=by omega
      rw[b0g (by omega),i1,b2f,if_pos e'];simp;omega
     ·have e':¬ x.toNat=10:=by omega
      rw[i1,b2f,if_neg e',Option.map_map];congr 1;funext y
      simp;omega
     ·rw[b0g (by omega)];rfl
  ·have hbl:b2A c=false:=by unfold b2A;simp;omega
   have:r=[]:=h0G (by omega);subst this;simp[adv,hbl,b4t]
  ·have hbl:b2A c=false:=by unfold b2A;simp;omega
   simp at h4;have:¬ c.toNat=47:=by omega
   simp[adv,hbl,this]
  ·have:b2A c=true:=by unfold b2A;simp;omega
   simp[adv,this]
  ·have:b2A c=true:=by unfold b2A;simp;omega
   simp[adv,this]
end Go.Proofs.YtighfcpaplmaiaaGreatDoor
namespace Go.Vg
theorem b6s:∀ (l:List UInt8) n,b2f l=some n→n≤l.length∧1≤n
 | [],n,h=>by simp[b2f]at h
 | c::r,n,h=>by
  rw[b2f]at h;split at h
  ·cases h;simp
  ·obtain⟨m,hm,rfl⟩:=h0p.1 h;have:=b6s r m hm;simp;omega
theorem d8x(l:List UInt8):adv l≤l.length:=by
 cases l with
 | nil=>simp[adv]
 | cons c r =>
  rw[adv];split
  ·simp
  ·split
   ·cases h:b2f (c::r)with
    | none=>simp
    | some n=>have:=b6s _ _ h;simpa using this.1
   ·simp
def b3i(l:List UInt8):Nat:=if h:adv l=0 then 0 else adv l+b3i (l.drop (adv l))
 termination_by l.length
 decreasing_by have:=d8x l;simp;omega
def b2V(s:ByteArray):Bool:=decide (b3i s.data.toList=s.size)
end Go.Vg
namespace Go.Proofs.YtighfcpaplmaiaaGreatDoor
open Go Go.Vg Go.Proofs
theorem f6P(s:ByteArray)(pre l:List UInt8)(hs:s.data.toList=pre++l)(hb:s.size≤1000000000):b0s env 245 [.str s,.int .i64 pre.length] (.int .i64 (pre.length+b3i l:Nat)):=by
 refine b0i (fn:=Tryz.f245) Tryz.func245 rfl (by rw[Tryz.ntmps245];simp) rfl rfl ?_;have hz:s.size=pre.length+l.length:=by rw[b2Q hs];simp
 have h1:((pre.length:Int)<0)=False:=by simp
 have h2:((s.size:Int)<(pre.length:Int))=False:=by simp;omega
 simp -implicitDefEqProofs only[go_sem,Tryz.f245,h1,h2];intro _;refine b1u (α:=List UInt8×List UInt8) (fun a=>⟨[(0,.str s),(1,.int .i64 a.1.length)],[],[]⟩) (fun a=>s.data.toList=a.1++a.2∧a.1.length+b3i a.2=pre.length+b3i l) (fun a=>a.2.length) (pre,l) ?_ ⟨hs,rfl⟩ ?_
 ·simp -implicitDefEqProofs only[go_sem]
 ·rintro⟨p,q⟩ ⟨i1,i2⟩;simp only at i1 i2;have hzq:s.size=p.length+q.length:=by rw[b2Q i1];simp
  simp -implicitDefEqProofs only[go_sem];refine(d3e s p q i1).calls rfl ?_;simp -implicitDefEqProofs only[go_sem];have hle:=d8x q;have hsplit:s.data.toList=(p++q.take (adv q))++q.drop (adv q):=by rw[i1];simp
  refine⟨fun c=>?_,fun c=>?_⟩
  ·refine(d3e s p q i1).calls rfl ?_;simp -implicitDefEqProofs only[go_sem];refine⟨(p++q.take (adv q),q.drop (adv q)),?_,⟨hsplit,?_⟩,?_⟩
   ·simp;omega
   ·have:b3i q=adv q+b3i (q.drop (adv q)):=by rw[b3i,dif_neg (by omega)]
    simp;omega
   ·simp;omega
  ·have h0:adv q=0:=by omega
   have:b3i q=0:=by rw[b3i,dif_pos h0]
   rw[←i2,this];simp
theorem d6x(s:ByteArray)(hb:s.size≤1000000000):b0s env 233 [.str s] (.bool (b2V s)):=by
 refine b0i (fn:=Tryz.f233) Tryz.func233 rfl (by rw[Tryz.ntmps233];simp) rfl rfl ?_;simp -implicitDefEqProofs only[go_sem,Tryz.f233];have h:=f6P s [] s.data.toList rfl hb;simp only[h0J,h0w]at h;refine b0s.calls h rfl ?_;simp -implicitDefEqProofs only[go_sem];intro _;unfold b2V;congr 1;by_cases e:b3i s.data.toList=s.size
 ·simp[e]
 ·rw[h0z e];simp;omega
end Go.Proofs.YtighfcpaplmaiaaGreatDoor
namespace Go.Vg
theorem b0Z{k t g ks}:(b0o (.mk k t g ks)).length=(b0k ks).length+1:=by rw[b0o];rfl
def Nd.zero:Nd := .mk 0 ⟨#[]⟩ [] []
@[go_sem] theorem c9y{E:Env}{heap:List VObj}{K:V→List VObj→Prop}{id off len cap e1 e e2 e':Nat}{es:List (List V)}(hn:es≠[]):d7r E heap (some (.slice e)) (some (.slice e2)) (.mslice id off len cap e1) (sl e' es) K=d8K E heap heap[id]? e id off len e' es K:=by
 cases es with
 | nil=>exact absurd rfl hn
 | cons=>rfl
theorem f4l:∀ l:List ByteArray,(l.map b0n).flatten=l.map V.str
 | []=>rfl
 | x::r=>by simp[f4l r,b0n]
theorem d7U:∀ (l:List ByteArray),b3a 1 l.length (l.map V.str)=l.map b0n
 | []=>rfl
 | x::r=>by simp[b3a,d7U r,b0n]
end Go.Vg
namespace Go.Proofs.YtighfcpaplmaiaaGreatDoor
open Go Go.Vg Go.Proofs
theorem g2a:(n:Nd)→(b0o n).length≤1000000→b0s env 156 [.agg n.enc] (.int .i64 (b0o n).length):=by
 refine Nd.all fun k t g ks ih hs=>?_
 refine b0i (fn:=Tryz.f156) Tryz.func156 rfl (by rw[Tryz.ntmps156];simp) (by simp -implicitDefEqProofs only[go_sem]) rfl ?_;simp -implicitDefEqProofs only[go_sem,Tryz.f156];intro _ hl;rw[b0Z]at hs ⊢;refine b0l (β:=Unit) ks (fun pre _=>⟨[(9,.int .i64 pre.length),(8,.int .i64 ks.length),(7,sl 66 (ks.map Nd.enc)),(3,.int .i64 ((b0k pre).length+1:Nat))],[.dead],[]⟩) (fun _ _ _=>True) () ?_ trivial ?_ ?_
 ·simp -implicitDefEqProofs only[go_sem];exact⟨rfl,rfl⟩
 ·intro _ _;simp -implicitDefEqProofs only[go_sem]
 ·rintro pre x post _ rfl _;have hp:=b2t hl;have hsz:(b0k (pre++x::post)).length=(b0k pre).length+(b0o x).length+(b0k post).length:=by
   rw[b1n,b0k];simp;omega
  simp -implicitDefEqProofs only[go_sem];refine(ih x b1x (by omega)).calls (by simp -implicitDefEqProofs only[go_sem]) ?_;simp -implicitDefEqProofs only[go_sem];refine⟨(),b0g (by omega),?_⟩;rw[b1s,h0h,Vg.wrap_small (by omega) (by omega)];omega
theorem d0H(l:List ByteArray):b0s env 98 [sl 9 (l.map b0n)] (sl 9 (l.map b0n)):=by
 refine d3i (fn:=Tryz.f98) Tryz.func98 rfl (by rw[Tryz.ntmps98];simp) (by simp -implicitDefEqProofs only[go_sem]) (by simp -implicitDefEqProofs only[go_sem]) ?_;simp -implicitDefEqProofs only[go_sem,Tryz.f98];intro hb hl;refine⟨fun h0=>?_,fun h0 _ _=>?_⟩
 ·have:l=[]:=h0G (by omega);subst this;rfl
 ·have hn:l.map b0n≠[]:=by
   intro h;apply h0;simp at h;simp[h]
  refine⟨hb,?_⟩;rw[c9y hn];simp -implicitDefEqProofs only[go_sem];rw[f4l,h0w,List.drop_eq_nil_of_le (by simp),h0F];refine⟨by simp,by simp[V.cell],by simp,by rw[d7U]⟩
theorem d8Q:(n:Nd)→b0s env 68 [.agg n.enc] (.agg n.enc):=by
 refine Nd.all fun k t g ks ih=>?_
 refine b0i (fn:=Tryz.f68) Tryz.func68 rfl (by rw[Tryz.ntmps68];simp) (by simp -implicitDefEqProofs only[go_sem]) (by simp -implicitDefEqProofs only[go_sem]) ?_;simp -implicitDefEqProofs only[go_sem,Tryz.f68];refine sdq ?_;simp -implicitDefEqProofs only[go_sem];refine vPd (d0H g) ?_;simp -implicitDefEqProofs only[go_sem];intro hb hl;refine b0l (β:=Unit) ks (fun pre _=>⟨[(17,.int .i64 pre.length),(16,.int .i64 ks.length),(15,sl 66 (ks.map Nd.enc)),(3,.ptr 2 0),(2,.ptr 1 0)],
   [.dead,.cells [.int .i64 0,.str ⟨#[]⟩,.slice .nil 0 [],.slice .nil 0 []],.cells [.int .i64 k,.str t,sl 9 (g.map b0n),.slice (.arr 0) 66 (pre.map Nd.enc)]],[pre.length]⟩)
  (fun _ _ _=>True) () ?_ trivial ?_ ?_
 ·simp -implicitDefEqProofs only[go_sem];rfl
 ·intro _ _;simp -implicitDefEqProofs only[go_sem]
 ·rintro pre x post _ rfl _;have hp:=b2t hl;simp -implicitDefEqProofs only[go_sem];refine sdq ?_;simp -implicitDefEqProofs only[go_sem];refine vPd (ih x b1x) ?_;simp -implicitDefEqProofs only[go_sem];refine⟨by simp at hb;omega,(),b0g (by omega),?_⟩;have e:List.map Nd.enc pre++[x.enc]=List.map Nd.enc (pre++[x]):=by simp
  exact .inr (by rw[e];exact b0m _ _ _ (b8V _))
theorem f0d:(n:Nd)→(b0o n).length≤1000000→∀ (i:Nat),i≤9223372036854775807→b0s env 67 [.agg n.enc,.int .i64 i]
  (match(b0o n)[i]? with | some x => .tuple [.agg x.enc,.int .i64 0,.bool true] | none => .tuple [.agg Nd.zero.enc,.int .i64 (b0o n).length,.bool false]):=by
 refine Nd.all fun k t g ks ih hn i hi=>?_
 refine b0i (fn:=Tryz.f67) Tryz.func67 rfl (by rw[Tryz.ntmps67];simp) (by simp -implicitDefEqProofs only[go_sem]) (by split <;> simp -implicitDefEqProofs only[go_sem]) ?_;simp -implicitDefEqProofs only[go_sem,Tryz.f67];have hz:Nd.zero.enc=[.int .i64 0,.str ⟨#[]⟩,.slice .shared 0 [],.slice .shared 0 []]:=rfl;rw[b0Z]at hn;refine⟨fun h0=>?_,fun h0 hb hl=>?_⟩
 ·have:i=0:=by omega
  subst this;simp[b0o,b8y]
 refine b0l (β:=Unit) ks (fun pre _=>⟨[(19,.int .i64 pre.length),(18,.int .i64 ks.length),(17,sl 66 (ks.map Nd.enc)),(7,.int .i64 ((b0k pre).length+1:Nat)),(6,.bool false),(5,.int .i64 0),(4,.ptr 1 0),(1,.int .i64 i)],
   [.dead,.cells [.int .i64 0,.str ⟨#[]⟩,.slice .nil 0 [],.slice .nil 0 []]],[]⟩) (fun pre _ _=>(b0k pre).length<i) () ?_ ?_ ?_ ?_
 ·simp -implicitDefEqProofs only[go_sem];exact⟨rfl,rfl⟩
 ·show 0<i;omega
 ·intro _ hlt;simp -implicitDefEqProofs only[go_sem];have:(b0o (.mk k t g ks))[i]? = none:=by
   rw[h0O];rw[b0Z];omega
  rw[this,b0Z,hz]
 ·rintro pre x post _ rfl hlt;have hp:=b2t hl;have hsz:(b0k (pre++x::post)).length=(b0k pre).length+(b0o x).length+(b0k post).length:=by
   rw[b1n,b0k];simp;omega
  simp -implicitDefEqProofs only[go_sem];have ew:IntKind.i64.wrap (↑i - ↑((b0k pre).length+1))=((i - ((b0k pre).length+1):Nat):Int):=by
   rw[Vg.wrap_small (by omega) (by omega)];omega
  rw[ew];have hih:=ih x b1x (by omega) (i - ((b0k pre).length+1)) (by omega);cases hq:(b0o x)[i - ((b0k pre).length+1)]? with
  | none =>
   rw[hq]at hih;have hql:(b0o x).length≤i - ((b0k pre).length+1):=by simpa using hq
   refine hih.cq ?_;simp -implicitDefEqProofs only[go_sem];have e:(b0k (pre++[x])).length=(b0k pre).length+(b0o x).length:=by rw[b1s,h0h]
   refine⟨(),by omega,b0g (by omega),?_⟩;rw[e,Vg.wrap_small (by omega) (by omega)];omega
  | some y =>
   rw[hq]at hih;have hql:=(h0b.1 hq).1;refine hih.cq ?_;simp -implicitDefEqProofs only[go_sem];have:(b0o (.mk k t g (pre++x::post)))[i]? = some y:=by
    rw[b0o,b1n,b0k];obtain⟨m,rfl⟩:∃ m,i=m+1:=⟨i - 1,by omega⟩
    rw[g9Y,h0g (by omega),h0e (by omega),←hq];congr 1;omega
   rw[this]
theorem TAt(n:Nd)(hn:(b0o n).length≤1000000)(i:Int)(hi:i≤9223372036854775807):b0s env 36 [.agg n.enc,.int .i64 i]
  (.tuple [.agg (((if 0≤i then(b0o n)[i.toNat]? else none)).getD Nd.zero).enc,.bool ((if 0≤i then(b0o n)[i.toNat]? else none)).isSome]):=by
 refine b0i (fn:=Tryz.f36) Tryz.func36 rfl (by rw[Tryz.ntmps36];simp) (by simp -implicitDefEqProofs only[go_sem]) (by simp -implicitDefEqProofs only[go_sem]) ?_;simp -implicitDefEqProofs only[go_sem,Tryz.f36];have hz:Nd.zero.enc=[.int .i64 0,.str ⟨#[]⟩,.slice .shared 0 [],.slice .shared 0 []]:=rfl;refine⟨fun h0=>?_,fun h0=>?_⟩
 ·rw[if_neg (by omega)];rfl
 ·rw[if_pos (by omega)];have hih:=f0d n hn i.toNat (by omega);rw[show((i.toNat:Nat):Int)=i by omega]at hih;cases hq:(b0o n)[i.toNat]? with
  | none =>
   rw[hq]at hih;refine hih.cq ?_;simp -implicitDefEqProofs only[go_sem];rfl
  | some y =>
   rw[hq]at hih;refine hih.cq ?_;simp -implicitDefEqProofs only[go_sem];refine(d8Q y).calls (by simp -implicitDefEqProofs only[go_sem]) ?_;simp -implicitDefEqProofs only[go_sem];rfl
end Go.Proofs.YtighfcpaplmaiaaGreatDoor
namespace Go.Vg
open Go.RowKit
theorem RelW.freezeV{E:Env}{G:Gh}{heap:List VObj}{arr:List Nat}{w0:Base}{w:World}(h:RelW E G heap arr w0 w){id k gen:Nat}{e:TypeId}{cs:List V}(hh:heap[id]? = some (.vec k gen e cs))(hpos:0<cs.length) :
  ∃ G' b hi,G.ρ[k]? = some (b,0,hi)∧arr[k]? = some gen∧Ext G arr G' (arr.set k (gen+1))∧RelW E G' (heap.set id .dead) (arr.set k (gen+1)) w0 w ∧
   ∀ (j:Nat) c,cs[j]? = some c→∃ u,G'.F b j=some u∧RV E.P G' (arr.set k (gen+1)) c u:=by
 obtain⟨hak,hgg,b,hi,hρ,hch,hcells⟩:=h.vs.at_ _ _ _ _ _ hh;have hidl:=(h0b.1 hh).1;have hkl:=(h0b.1 hak).1;have hkρ:=(h0b.1 hρ).1;have hhi:0<hi:=by omega
 obtain⟨⟨c0,e0,r1,r2⟩,r3,r4,r5⟩:=h.reg k b 0 hi hρ hhi
 let G':Gh:=⟨fun b' o=>if b'=b∧o<cs.length then w.cell? ⟨b,o,none⟩else G.F b' o,G.φ,G.ρ.set k (b,hi,hi)⟩
 have hF:∀ b' o,G'.F b' o=if b'=b∧o<cs.length then w.cell? ⟨b,o,none⟩else G.F b' o:=fun _ _=>rfl
 have hx:Ext G arr G' (arr.set k (gen+1)):=by
  refine⟨fun b' o v hv=>?_,fun _ _ h=>h,fun j n hj=>?_⟩
  ·rw[hF,if_neg (fun hc=>by
    obtain⟨rfl,ho⟩:=hc;rw[r4 o (Nat.zero_le _) (by omega)]at hv;cases hv)]
   exact hv
  ·by_cases ej:j=k
   ·subst ej;rw[hak]at hj;cases hj;exact⟨gen+1,h0i hkl,by omega,fun e=>by omega⟩
   ·exact⟨n,by rw[h0m (Ne.symm ej)];exact hj,h0q _,fun _=>by
     show(G.ρ.set k _)[j]? = _;rw[h0m (Ne.symm ej)]⟩
 have hset:∀ (i:Nat) o,(heap.set id .dead)[i]? = some o→o ≠ .dead→i≠id∧heap[i]? = some o:=fun i o ho hn=>by
  by_cases ei:i=id
  ·subst ei;rw[h0i hidl]at ho;cases ho;exact absurd rfl hn
  ·rw[h0m (Ne.symm ei)]at ho;exact⟨ei,ho⟩
 have hρ':∀ (j b' lo hi':Nat),G'.ρ[j]? = some (b',lo,hi')→lo<hi'→j≠k∧G.ρ[j]? = some (b',lo,hi'):=fun j b' lo hi' hj hlt=>by
  change (G.ρ.set k (b,hi,hi))[j]? = _ at hj
  by_cases ej:j=k
  ·subst ej;rw[h0i hkρ]at hj;cases hj;omega
  ·rw[h0m (Ne.symm ej)]at hj;exact⟨ej,hj⟩
 refine⟨G',b,hi,hρ,hak,hx,⟨fun b' o v hv hlt=>?_,fun g ds hg=>⟨(h.glob g ds hg).1,(h.glob g ds hg).2.mono hx⟩,h.below,fun b' o v hv=>?_,fun b' o v hv=>?_,fun i ob hi'=>?_,by simp[G',h.lenφ],h.nod,fun i b' o hi' hd=>?_,h.geφ,by simp[G',h.lenρ],
  fun j b' lo hi' hj hlt=>?_,fun j j' b' lo hi1 lo' hi2 hne h1 h2 hl1 hl2=>h.regd j j' b' lo hi1 lo' hi2 hne (hρ' _ _ _ _ h1 hl1).2 (hρ' _ _ _ _ h2 hl2).2 hl1 hl2,fun j b' lo hi' hj=>?_,fun i t s b' hi' hb'=>?_,h.ini,⟨fun i k1 g1 e1 cs1 hi1=>?_,fun i i' k1 g1 g1' e1 e1' cs1 cs1' h1 h2=>?_⟩⟩,fun j c hj=>?_⟩
 ·rw[hF,if_neg (fun hc=>by omega)]at hv;exact h.newF b' o v hv hlt
 ·rw[hF]at hv;split at hv
  ·rename_i hc;rw[hc.1];exact hv
  ·exact h.frz _ _ _ hv
 ·rw[hF]at hv;split at hv
  ·rename_i hc;obtain⟨v',q1,q2,q3⟩:=hcells o _ (h0f hc.2);rw[hv]at q1;cases q1;exact q3
  ·exact h.one _ _ _ hv
 ·by_cases ei:i=id
  ·subst ei;rw[h0i hidl]at hi';cases hi'
   obtain⟨b',hb',_⟩:=h.obj i _ hh;exact⟨b',hb',trivial⟩
  ·rw[h0m (Ne.symm ei)]at hi';obtain⟨b',hb',hr⟩:=h.obj i ob hi';exact⟨b',hb',hr.keep hx rfl⟩
 ·have ei:i≠id:=fun ei=>by subst ei;rw[h0i hidl]at hd;exact absurd rfl hd
  rw[h0m (Ne.symm ei)]at hd;rw[hF,if_neg (fun hc=>?_)]
  ·exact h.sep i b' o hi' hd
  ·obtain⟨rfl,_⟩:=hc;have hil:i<heap.length:=by rw[←h.lenφ];exact(h0b.1 hi').1
   have hl:=r3 i hi' _ (h0f hil);cases ho:heap[i]with
   | dead=>rw[h0f hil,ho]at hd;exact absurd rfl hd
   | vec k1 g1 e1 cs1 =>
    rw[ho]at hl;simp only[VObj.looseAt,beq_iff_eq]at hl;subst hl;exact ei (h.vs.uni i id k1 g1 gen e1 e cs1 cs (by rw[h0f hil,ho]) hh)
   | _=>rw[ho]at hl;cases hl
 ·obtain⟨ej,hj'⟩:=hρ' _ _ _ _ hj hlt;obtain⟨s1,s2,s3,s4⟩:=h.reg j b' lo hi' hj' hlt;refine⟨s1,fun i hi1 ob hob=>?_,fun o h1 h2=>?_,s4⟩
  ·by_cases ei:i=id
   ·subst ei;rw[h0i hidl]at hob;cases hob;rfl
   ·rw[h0m (Ne.symm ei)]at hob;exact s2 i hi1 ob hob
  ·rw[hF,if_neg (fun hc=>?_)]
   ·exact s3 o h1 h2
   ·obtain⟨rfl,ho⟩:=hc;rcases h.regd k j b' 0 hi lo hi' (Ne.symm ej) hρ hj' hhi hlt with q | q <;> omega
 ·change (G.ρ.set k (b,hi,hi))[j]? = _ at hj
  by_cases ej:j=k
  ·subst ej;rw[h0i hkρ]at hj;cases hj;exact .inl r5
  ·rw[h0m (Ne.symm ej)]at hj;exact h.fre j b' lo hi' hj
 ·obtain⟨ei,hi1⟩:=hset i _ hi' (by intro h;cases h);refine(h.bld i t s b' hi1 hb').keep rfl fun g hg ⟨s1,s2,s3⟩=>⟨rfl,fun o=>?_,s2,fun j lo hi2 hj=>?_⟩
  ·rw[hF,if_neg (fun hc=>?_)]
   ·exact s1 o
   ·have:=s3 k 0 hi (by rw[hc.1];exact hρ);omega
  ·change (G.ρ.set k (b,hi,hi))[j]? = _ at hj
   by_cases ej:j=k
   ·subst ej;rw[h0i hkρ]at hj;cases hj;omega
   ·rw[h0m (Ne.symm ej)]at hj;exact s3 j lo hi2 hj
 ·obtain⟨ei,hi2⟩:=hset i _ hi1 (by intro h;cases h);obtain⟨q1,q2,b1,hi3,q3,q4,q5⟩:=h.vs.at_ _ _ _ _ _ hi2;have hk1:k1≠k:=fun e0=>by
   subst e0;exact ei (h.vs.uni i id _ _ _ _ _ _ _ hi2 hh)
  refine⟨by rw[h0m (Ne.symm hk1)];exact q1,q2,b1,hi3,?_,q4,fun j x hj=>?_⟩
  ·show(G.ρ.set k (b,hi,hi))[k1]? = _;rw[h0m (Ne.symm hk1)];exact q3
  ·obtain⟨v,p1,p2,p3⟩:=q5 j x hj;exact⟨v,p1,p2.mono hx,p3⟩
 ·obtain⟨_,a1⟩:=hset i _ h1 (by intro h;cases h);obtain⟨_,a2⟩:=hset i' _ h2 (by intro h;cases h);exact h.vs.uni _ _ _ _ _ _ _ _ _ a1 a2
 ·have hjl:=(h0b.1 hj).1;obtain⟨v,q1,q2,q3⟩:=hcells j c hj;exact⟨v,by rw[hF,if_pos ⟨rfl,hjl⟩];exact q1,q2.mono hx⟩
theorem RV.thawV{P:Program}{G G':Gh}{arr arr':List Nat}{id k gen len e b hi:Nat}{cs:List V}{v:Value}(h:RV P G arr (.vec id k gen len e) v)(hak:arr[k]? = some gen)(hρ:G.ρ[k]? = some (b,0,hi))(hok:b0W P e=true)(hl:len * P.cellsOf e≤cs.length)
  (hc:∀ (j:Nat) c,cs[j]? = some c→∃ u,G'.F b j=some u∧RV P G' arr' c u):RV P G' arr' (Vg.sl e (b3a (P.cellsOf e) len cs)) v:=by
 obtain⟨i,z,hi',hz,hz1,hzs,his,hib,hs1,hb1,hb2⟩:=b2J hok;cases h with
 | vec _ _ _ _ _ b' o cap hv h1 h2 =>
  obtain⟨n,q1,q2,q3⟩:=hv;rw[hak]at q1;cases q1
  obtain⟨b1,hi1,q4,q5,q6,q7,q8⟩:=q3 rfl;rw[hρ]at q4;cases q4
  subst q7 q8;have hlen:=b5O (P.cellsOf e) len cs;have:=RV.ofCells (P:=P) (G:=G') (arr:=arr') (o := .shared) (e:=e) (es:=b3a (P.cellsOf e) len cs) (b:=b) (off:=0) (cap:=cap) trivial (fun i el hi=>(b5C _ _ _ _ _ hl hi).1) (by rw[hlen];exact h2) hb1 (by rw[hlen];exact q6)
   (fun i el j c hi hj=>by
    obtain⟨u,hu,hr⟩:=hc _ _ ((b5C _ _ _ _ _ hl hi).2 j c hj);exact⟨u,by rw[h0w];exact hu,hr⟩)
  rw[hlen]at this;exact this.sl
theorem b0q.thawV{E:Env}{f:FuncId}{args:List V}{heap:List VObj}{arr:List Nat}{K:b1y}
  (h:b0q E f args heap arr fun v h' a'=>∃ id k gen len e cs,v = .vec id k gen len e∧h'[id]? = some (.vec k gen e cs)∧0<cs.length∧b0W E.P e=true∧len * E.P.cellsOf e≤cs.length∧K (sl e (b3a (E.P.cellsOf e) len cs)) (h'.set id .dead) (a'.set k (gen+1))) :
  b0q E f args heap arr K:=by
 intro G w0 w vals hrel ha;refine(h G w0 w vals hrel ha).mono fun e' w' hg=>?_
 rcases hg with⟨val,he,v,heap',arr',G',hv,hx,hr,hrv⟩ | hd
 ·obtain⟨id,k,gen,len,e,cs,rfl,h1,h2,h3,h4,hK⟩:=hv;obtain⟨G'',b,hi,g1,g2,g3,g4,g5⟩:=hr.freezeV h1 h2;exact .inl ⟨val,he,_,_,_,G'',hK,hx.trans g3,g4,hrv.thawV g2 g1 h3 h4 g5⟩
 ·exact .inr hd
theorem b7t{E:Env}{hb ab n:Nat}{c:Code}{s:St}{Q:VEx→St→Prop}{α β:Type}(xs:List α)(S:List α→β→St)(I:List α→List α→β→Prop)(b0:β)(T:β→St)(h0:c5u hb ab s (S [] b0))(hI:I [] xs b0)
  (hw:∀ b,I xs [] b→b7h E hb ab n (S xs b) (T b))
  (stop:∀ b,I xs [] b→vc E hb ab n c (T b) (f1z Q))
  (step:∀ pre x post b,xs=pre++x::post→I pre (x::post) b→vc E hb ab n c (S pre b) (d1P hb ab S I pre x post Q)):Snd E hb ab n (.loop c) s Q:=by
 refine c3m (fun m t=>∃ pre post b,t=S pre b∧xs=pre++post∧I pre post b∧post.length=m) ⟨_,_,h0.weak,[],xs,b0,rfl,rfl,hI,rfl⟩ fun m t ⟨pre,post,b,ht,hx,hi,hm⟩=>?_
 subst ht;cases post with
 | nil =>
  have:xs=pre:=by simpa using hx
  subst this;refine(c7I (hw b hi) (b5p _ _ _ (stop b hi))).mono fun e s hq=>?_
  cases e with
  | normal=>exact hq.elim
  | exit id=>exact hq
  | ret=>exact hq
 | cons x post =>
  refine(b5p _ _ _ (step pre x post b hx hi)).mono fun e s hq=>?_
  cases e with
  | normal =>
   obtain⟨b',h1,h2⟩:=hq;refine⟨post.length,S (pre++[x]) b',by simp at hm;omega,h2.weak,pre++[x],post,b',rfl,by simp[hx],h1,rfl⟩
  | exit id=>exact hq
  | ret=>exact hq
theorem b7h.freezeH{E:Env}{hb ab n:Nat}{tm:List (Nat×V)}{h:List VObj}{a:List Nat}(id:Nat){cs:List V}(hh:h[id]? = some (.cells cs))(hc:cs.all V.cell=true) :
  b7h E hb ab n ⟨tm,h,a⟩ ⟨frT E.P id cs tm,h.set id .dead,a⟩:=by
 intro B G ac w q1 q2 q3 q4;obtain⟨G',b,hφ,hx,hr,hφ',hcs⟩:=q4.rw.freezeO hh hc;exact⟨G',q3.trans hx,hr,⟨fun i=>by
   show RV _ _ _ (b1Z (frT E.P id cs tm) i) _;rw[d7j];exact(q4.rt.tm i).frV hx hφ hcs,q4.rt.sz⟩,q4.df⟩
end Go.Vg
namespace Go.Vg
structure Rw where
 parent:Int
 kind:Int
 text:ByteArray
 gaps:List ByteArray
 kids:List Nat
def b0J(n:Nat):List V:=[.int .i64 n]
def Rw.enc(r:Rw):List V:=[.int .i64 r.parent,.int .i64 r.kind,.str r.text,sl 9 (r.gaps.map b0n),sl 3 (r.kids.map b0J)]
def b1r(l:List Rw):List V:=(l.map Rw.enc).flatten
theorem b7H(a b:List Rw):b1r (a++b)=b1r a++b1r b:=by simp[b1r]
theorem b2G:∀ l:List Rw,(b1r l).length=l.length * 5
 | []=>rfl
 | x::r=>by
  have:=b2G r;simp only[b1r,h0s,h1b,h0h]at this ⊢;rw[this];simp[Rw.enc];omega
mutual
def b0u:Nd→Int→Nat→List Rw
 | .mk k t g ks,p,a=>⟨p,k,t,g,b0E ks (a+1)⟩::b0X ks a (a+1)
def b0X:List Nd→Nat→Nat→List Rw
 | [],_,_=>[]
 | x::r,p,a=>b0u x p a++b0X r p (a+(b0o x).length)
def b0E:List Nd→Nat→List Nat
 | [],_=>[]
 | x::r,a=>a::b0E r (a+(b0o x).length)
end
theorem b4a(x:Nd):∀ (pre:List Nd) a,b0E (pre++[x]) a=b0E pre a++[a+(b0k pre).length]
 | [],a=>by simp[b0E,b0k]
 | y::r,a=>by
  simp only[h0a,b0E,b4a x r,b0k,h0h];rw[h1s]
theorem b0U:∀ (l:List Nd) a,(b0E l a).length=l.length
 | [],_=>rfl
 | x::r,a=>by simp[b0E,b0U r]
theorem b4z(x:Nd)(p:Nat):∀ (pre:List Nd) a,b0X (pre++[x]) p a=b0X pre p a++b0u x p (a+(b0k pre).length)
 | [],a=>by simp[b0X,b0k]
 | y::r,a=>by
  simp only[h0a,b0X,b4z x p r,b0k,h0h,h0x];rw[h1s]
mutual
theorem b0K:∀ (n:Nd) p a,(b0u n p a).length=(b0o n).length
 | .mk k t g ks,p,a=>by rw[b0u,b0Z,h0o,b3q ks]
theorem b3q:∀ (l:List Nd) p a,(b0X l p a).length=(b0k l).length
 | [],_,_=>rfl
 | x::r,p,a=>by rw[b0X,b0k,h0h,h0h,b0K x,b3q r]
end
theorem d2K{a:List Nat}{n m:Nat}:(a++[n]).set a.length m=a++[m]:=by rw[h0N _ _ (h0q _)];simp
theorem b9f(rs:List Rw)(r:Rw)(q:List Rw)(kl:List Nat)(hr:r.kids=[]):List.take ((rs.length:Int).toNat * 5+4) (b1r (rs++r::q))++[sl 3 (kl.map b0J)]++List.drop ((rs.length:Int).toNat * 5+4+1) (b1r (rs++r::q))=b1r (rs++{ r with kids:=kl }::q):=by
 have hl:=b2G rs;have e:b1r (rs++r::q)=(b1r rs++[.int .i64 r.parent,.int .i64 r.kind,.str r.text,sl 9 (r.gaps.map b0n)])++([sl 3 (r.kids.map b0J)]++b1r q):=by
  rw[b7H];simp[b1r,Rw.enc]
 have e':b1r (rs++{ r with kids:=kl }::q)=(b1r rs++[.int .i64 r.parent,.int .i64 r.kind,.str r.text,sl 9 (r.gaps.map b0n)])++([sl 3 (kl.map b0J)]++b1r q):=by
  rw[b7H];simp[b1r,Rw.enc]
 rw[e,e',show(rs.length:Int).toNat=rs.length by omega];have hlen:(b1r rs++[.int .i64 r.parent,.int .i64 r.kind,.str r.text,sl 9 (r.gaps.map b0n)]).length=rs.length * 5+4:=by simp[hl]
 rw[←hlen,List.take_left,←h1y,List.drop_left];simp
theorem d0e{A:List V}{n m:Nat}(hA:A.length=n)(hm:n<m)(v:V):List.take (0+((n:Nat):Int).toNat * 1) (A++List.replicate (m - n) (.int .i64 0))++[v]++List.drop (0+((n:Nat):Int).toNat * 1+1) (A++List.replicate (m - n) (.int .i64 0)) =
  (A++[v])++List.replicate (m - (n+1)) (.int .i64 0):=by
 rw[show 0+((n:Nat):Int).toNat * 1=A.length by omega,List.take_left,←h1y,List.drop_left];congr 1;rw[List.drop_replicate];congr 1
theorem c4p(n:Nat):(List.replicate n [V.int .i64 0]).flatten=List.replicate n (V.int .i64 0):=by
 induction n with
 | zero=>rfl
 | succ n ih=>rw[List.replicate_succ,h1b,ih];rfl
theorem d1d:∀ (l:List Nat),b3a 1 l.length (l.map fun n:Nat=>V.int .i64 n)=l.map b0J
 | []=>rfl
 | x::r=>by simp[b3a,d1d r,b0J]
section
variable {h l : List VObj} {id i : Nat} {x y : VObj}
theorem b0I(ho:h[id]? = some x):(h++l)[id]? = some x:=by rw[h0e (h0b.1 ho).1];exact ho
theorem b1h(ho:id<h.length):(h++l).set id x=h.set id x++l:=List.set_append_left _ _ ho
theorem b4s(ho:id<h.length):(h.set id x++l)[id]? = some x:=by rw[h0e (by simpa using ho),h0i ho]
theorem b5G(ho:id<h.length):(h.set id x++l).set id y=h.set id y++l:=by rw[List.set_append_left _ _ (by simpa using ho),List.set_set]
theorem b3I:(h.set id x++l)[h.length]? = l[0]?:=by rw[h0g (by simp)];simp
theorem b1V:(h.set id x++l)[h.length+i]? = l[i]?:=by rw[h0g (by simp)];simp
theorem b3G:(h.set id x++l).set h.length y=h.set id x++l.set 0 y:=by rw[h0N _ _ (by simp)];simp
theorem b1U:(h.set id x++l).set (h.length+i) y=h.set id x++l.set i y:=by rw[h0N _ _ (by simp)];simp
theorem b1P:(h.set id x).length=h.length:=List.length_set
end
end Go.Vg
namespace Go.Proofs.YtighfcpaplmaiaaGreatDoor
open Go Go.Vg Go.Proofs
theorem g4Q:(n:Nd)→∀ (h:List VObj) (a:List Nat) (id k gen:Nat) (rs:List Rw) (p:Int),h[id]? = some (.vec k gen 48 (b1r rs))→0<rs.length→rs.length+(b0o n).length≤1000000 →
  b0q (envV 45) 77 [.vec id k gen rs.length 48,.agg n.enc,.int .i64 p] h a fun v h' a'=>∃ gen' z,v = .vec id k gen' (rs.length+(b0o n).length) 48 ∧
   h'=h.set id (.vec k gen' 48 (b1r (rs++b0u n p rs.length)))++z∧a'=a.set k gen':=by
 refine Nd.all fun k t g ks ih h a id kk gen rs p hid hrs hn=>?_
 refine b0y (fn:=Tryz.f77) Tryz.func77 rfl (by rw[Tryz.ntmps77];simp) ?_;simp -implicitDefEqProofs only[go_sem,Tryz.f77];intro hl1;refine sdq ?_;simp -implicitDefEqProofs only[go_sem];refine b0L (b0s.toV (d0H g)) (by simp -implicitDefEqProofs only[go_sem]) ?_;have hlt:id<h.length:=(h0b.1 hid).1;simp -implicitDefEqProofs only[go_sem,b0I hid,b1h hlt,b4s hlt,b5G hlt,b3I,b1V,b3G,b1U,b1P];rw[b0Z]at hn ⊢;have hel:=b2G rs;have e0:∀ kl:List Nat,b1r rs++[[V.int .i64 p,.int .i64 k,.str t,sl 9 (g.map b0n),sl 3 (kl.map b0J)]].flatten=b1r (rs++[⟨p,k,t,g,kl⟩]):=fun kl=>by
  rw[b7H];rfl
 have e1:b1r rs++[[V.int .i64 p,.int .i64 k,.str t,sl 9 (g.map b0n),V.slice .shared 0 []]].flatten=b1r (rs++[⟨p,k,t,g,[]⟩]):=e0 [];rw[e1];refine⟨by simp,⟨hel,by omega⟩,fun _ _=>⟨fun hz=>?_,fun hz hb _=>⟨by omega,fun _ hl=>?_⟩⟩⟩
 ·have:ks=[]:=h0G (by omega);subst this;exact⟨gen+1,[_],by simp[b0k],by simp only[b0u,b0X,b0E];rfl,rfl⟩
 refine b7t (β:=Nat×List VObj) ks (fun pre b=>⟨[(37,.int .i64 pre.length),(36,.int .i64 ks.length),(35,sl 66 (ks.map Nd.enc)),(8,.mslice (h.length+1) 0 ks.length ks.length 3),(7,.int .i64 rs.length),
    (0,.vec id kk b.1 (rs.length+1+(b0k pre).length) 48)],
   h.set id (.vec kk b.1 48 (b1r (rs++⟨p,k,t,g,[]⟩::b0X pre rs.length (rs.length+1)))) ++ .dead :: .cells ((b0E pre (rs.length+1)).map (fun n:Nat => .int .i64 n)++List.replicate (ks.length - pre.length) (.int .i64 0))::b.2,a.set kk b.1⟩)
  (fun _ _ _=>True) (gen+1,[]) (fun b=>⟨[(37,.int .i64 ks.length),(36,.int .i64 ks.length),(35,sl 66 (ks.map Nd.enc)),(8,sl 3 ((b0E ks (rs.length+1)).map b0J)),(7,.int .i64 rs.length),
    (0,.vec id kk b.1 (rs.length+1+(b0k ks).length) 48)],
   h.set id (.vec kk b.1 48 (b1r (rs++⟨p,k,t,g,[]⟩::b0X ks rs.length (rs.length+1)))) ++ .dead :: .dead::b.2,a.set kk b.1⟩) ?_ trivial ?_ ?_ ?_
 ·simp -implicitDefEqProofs only[go_sem,b1P];simp only[b0k,b0X,b0E,h0J,h1m,h0T,h0Q,Nat.sub_zero,c4p];simp -implicitDefEqProofs only[go_sem];rfl
 ·intro b _;have hkl:=b0U ks (rs.length+1);have hw:=b7h.freezeH (E:=envV 45) (hb:=h.length) (ab:=a.length) (n:=58) (tm:=[(37,.int .i64 ks.length),(36,.int .i64 ks.length),(35,sl 66 (ks.map Nd.enc)),(8,.mslice (h.length+1) 0 ks.length ks.length 3),(7,.int .i64 rs.length),
    (0,.vec id kk b.1 (rs.length+1+(b0k ks).length) 48)]) (h:=h.set id (.vec kk b.1 48 (b1r (rs++⟨p,k,t,g,[]⟩::b0X ks rs.length (rs.length+1)))) ++ .dead :: .cells ((b0E ks (rs.length+1)).map (fun n:Nat => .int .i64 n)++List.replicate (ks.length - ks.length) (.int .i64 0))::b.2) (a:=a.set kk b.1)
   (h.length+1) (cs:=(b0E ks (rs.length+1)).map (fun n:Nat => .int .i64 n)) (by rw[b1V];simp) (by simp[V.cell])
  have hch:b3a 1 ks.length ((b0E ks (rs.length+1)).map fun n:Nat=>V.int .i64 n)=(b0E ks (rs.length+1)).map b0J:=by
   have:=d1d (b0E ks (rs.length+1))
   rwa [hkl]at this
  simp -implicitDefEqProofs only[frT,frV,h0s,h0T,go_sem,b1U,Nat.sub_self,List.replicate_zero,h0F,h0v,hkl,Nat.mul_one,h0q,and_self,if_true,g9Z,List.set_cons_zero,hch]at hw ⊢;exact hw
 ·intro b _;simp -implicitDefEqProofs only[go_sem,b0I hid,b1h hlt,b4s hlt,b5G hlt,b3I,b1V,b3G,b1U,b1P];have e2:=b2G (rs++(⟨p,k,t,g,[]⟩:Rw)::b0X ks rs.length (rs.length+1));refine⟨by omega,by rw[e2];simp;omega,b.1,.dead :: .dead::b.2,by congr 1;omega,?_,rfl⟩;congr 3
  rw[b0u];exact b9f rs ⟨p,k,t,g,[]⟩ _ _ rfl
 ·rintro pre x post b rfl _;have hp:=b2t hl;simp -implicitDefEqProofs only[go_sem,b0I hid,b1h hlt,b4s hlt,b5G hlt,b3I,b1V,b3G,b1U,b1P,g9Y,g9Z];intro hlen;have hkl:=b0U pre (rs.length+1);refine⟨by simp[hkl],?_⟩;rw[d0e (by simp[hkl]) (by simp)];have e:(rs++(⟨p,k,t,g,[]⟩:Rw)::b0X pre rs.length (rs.length+1)).length=rs.length+1+(b0k pre).length:=by
   simp[b3q];omega
  have hsz:(b0k (pre++x::post)).length=(b0k pre).length+(b0o x).length+(b0k post).length:=by
   rw[b1n,b0k];simp;omega
  rw[←e];refine b0q.mono (ih x b1x _ _ id kk b.1 (rs++(⟨p,k,t,g,[]⟩:Rw)::b0X pre rs.length (rs.length+1)) rs.length (b4s hlt) (by omega) (by omega)) ?_;rintro v h' a' ⟨gen',z,rfl,rfl,rfl⟩;simp -implicitDefEqProofs only[go_sem,b0I hid,b1h hlt,b4s hlt,b5G hlt,b3I,b1V,b3G,b1U,b1P,g9Y,g9Z];have e2:rs.length+1+(b0k (pre++[x])).length=rs.length+1+(b0k pre).length+(b0o x).length:=by rw[b1s,h0h];omega
  refine⟨(gen',b.2++VObj.cells x.enc::z),⟨b0g (by omega),?_⟩,?_⟩
  ·rw[e,e2,b7s];trivial
  ·rw[e,b4z,b4a,h0M,h0x rs,h0a];exact⟨b0r,by rw[b2o];trivial,.inl (by simp)⟩
theorem f4W(h:List VObj)(a:List Nat)(n:Nd)(p:Int)(hn:(b0o n).length≤1000000):b0q (envV 45) 77 [.slice .nil 0 [],.agg n.enc,.int .i64 p] h a fun v h' a'=>∃ gen',v = .vec (h.length+1) a.length gen' (b0o n).length 48 ∧
   h'[h.length+1]? = some (.vec a.length gen' 48 (b1r (b0u n p 0)))∧a'=a++[gen']:=by
 obtain⟨k,t,g,ks⟩:=n;refine b0y (fn:=Tryz.f77) Tryz.func77 rfl (by rw[Tryz.ntmps77];simp) ?_;simp -implicitDefEqProofs only[go_sem,Tryz.f77];refine sdq ?_;simp -implicitDefEqProofs only[go_sem];refine b0L (b0s.toV (d0H g)) (by simp -implicitDefEqProofs only[go_sem]) ?_;simp -implicitDefEqProofs only[go_sem];rw[b0Z]at hn ⊢;have e0:∀ kl:List Nat,[].flatten++[[V.int .i64 p,.int .i64 k,.str t,sl 9 (g.map b0n),sl 3 (kl.map b0J)]].flatten=b1r [⟨p,k,t,g,kl⟩]:=fun kl=>rfl
 have e1:[].flatten++[[V.int .i64 p,.int .i64 k,.str t,sl 9 (g.map b0n),V.slice .shared 0 []]].flatten=b1r [⟨p,k,t,g,[]⟩]:=e0 [];rw[e1];refine⟨by simp,fun _ _=>⟨fun hz=>?_,fun hz hb _=>⟨by omega,fun _ hl=>?_⟩⟩⟩
 ·have:ks=[]:=h0G (by omega);subst this;exact⟨b8U,by simp[b0k],by simp only[b0u,b0X,b0E],rfl⟩
 refine b7t (β:=Nat×List VObj) ks (fun pre b=>⟨[(37,.int .i64 pre.length),(36,.int .i64 ks.length),(35,sl 66 (ks.map Nd.enc)),(8,.mslice (h.length+2) 0 ks.length ks.length 3),(7,.int .i64 (0:Nat)),
    (0,.vec (h.length+1) a.length b.1 (1+(b0k pre).length) 48)],
   h ++ .dead :: .vec a.length b.1 48 (b1r (⟨p,k,t,g,[]⟩::b0X pre 0 1)) :: .cells ((b0E pre 1).map (fun n:Nat => .int .i64 n)++List.replicate (ks.length - pre.length) (.int .i64 0))::b.2,a++[b.1]⟩)
  (fun _ _ _=>True) (b8U,[]) (fun b=>⟨[(37,.int .i64 ks.length),(36,.int .i64 ks.length),(35,sl 66 (ks.map Nd.enc)),(8,sl 3 ((b0E ks 1).map b0J)),(7,.int .i64 (0:Nat)),
    (0,.vec (h.length+1) a.length b.1 (1+(b0k ks).length) 48)],
   h ++ .dead :: .vec a.length b.1 48 (b1r (⟨p,k,t,g,[]⟩::b0X ks 0 1)) :: .dead::b.2,a++[b.1]⟩) ?_ trivial ?_ ?_ ?_
 ·simp only[b0k,b0X,b0E,h0J,h1m,h0T,h0Q,Nat.sub_zero,c4p];simp -implicitDefEqProofs only[go_sem];rfl
 ·intro b _;have hkl:=b0U ks 1;have hw:=b7h.freezeH (E:=envV 45) (hb:=h.length) (ab:=a.length) (n:=58) (tm:=[(37,.int .i64 ks.length),(36,.int .i64 ks.length),(35,sl 66 (ks.map Nd.enc)),(8,.mslice (h.length+2) 0 ks.length ks.length 3),(7,.int .i64 (0:Nat)),
    (0,.vec (h.length+1) a.length b.1 (1+(b0k ks).length) 48)]) (h:=h ++ .dead :: .vec a.length b.1 48 (b1r (⟨p,k,t,g,[]⟩::b0X ks 0 1)) :: .cells ((b0E ks 1).map (fun n:Nat => .int .i64 n)++List.replicate (ks.length - ks.length) (.int .i64 0))::b.2) (a:=a++[b.1])
   (h.length+2) (cs:=(b0E ks 1).map (fun n:Nat => .int .i64 n)) (by rw[h0g (by omega)];simp) (by simp[V.cell])
  have hch:b3a 1 ks.length ((b0E ks 1).map fun n:Nat=>V.int .i64 n)=(b0E ks 1).map b0J:=by
   have:=d1d (b0E ks 1)
   rwa [hkl]at this
  simp -implicitDefEqProofs only[frT,frV,h0s,h0T,go_sem,Nat.sub_self,List.replicate_zero,h0F,h0v,hkl,Nat.mul_one,h0q,and_self,if_true,g9Z,List.set_cons_zero,hch]at hw ⊢;exact hw
 ·intro b _;simp -implicitDefEqProofs only[go_sem,g9Y,g9Z,d2K];have e2:=b2G ((⟨p,k,t,g,[]⟩:Rw)::b0X ks 0 1);refine⟨by omega,by rw[e2];simp;omega,b.1,by congr 1;omega,?_,rfl⟩;refine congrArg (fun x=>some (VObj.vec a.length b.1 48 x)) ?_;rw[b0u];exact b9f [] ⟨p,k,t,g,[]⟩ _ _ rfl
 ·rintro pre x post b rfl _;have hp:=b2t hl;simp -implicitDefEqProofs only[go_sem,g9Y,g9Z,d2K];intro hlen;have hkl:=b0U pre 1;refine⟨by simp[hkl],?_⟩;rw[d0e (by simp[hkl]) (by simp)];have e:((⟨p,k,t,g,[]⟩:Rw)::b0X pre 0 1).length=1+(b0k pre).length:=by
   simp[b3q];omega
  have hsz:(b0k (pre++x::post)).length=(b0k pre).length+(b0o x).length+(b0k post).length:=by
   rw[b1n,b0k];simp;omega
  rw[←e];refine b0q.mono (g4Q x _ _ (h.length+1) a.length b.1 ((⟨p,k,t,g,[]⟩:Rw)::b0X pre 0 1) (0:Nat) (by rw[h0g (by omega)];simp) (by omega) (by omega)) ?_;rintro v h' a' ⟨gen',z,rfl,rfl,rfl⟩;simp -implicitDefEqProofs only[go_sem,g9Y,g9Z,d2K];have e3:(b0X pre 0 1).length+1=1+(b0k pre).length:=by rw[b3q];omega
  have e2:1+(b0k (pre++[x])).length=1+(b0k pre).length+(b0o x).length:=by rw[b1s,h0h];omega
  refine⟨(gen',b.2++VObj.cells x.enc::z),⟨b0g (by omega),?_⟩,?_⟩
  ·rw[e3,e2,b7s];trivial
  ·rw[e3,b4z,b4a,h0M];exact⟨⟨by rw[b6i];trivial,by rw[h0s,h0T,b4C];trivial,b0r⟩,by rw[b2o];trivial,.inl (by simp)⟩
theorem d0k:∀ (l:List Rw),b3a 5 l.length (b1r l)=l.map Rw.enc
 | []=>rfl
 | x::r=>by
  have:=d0k r;have e:b1r (x::r)=x.enc++b1r r:=rfl;rw[h0o,b3a,e,List.take_left' (by rfl),List.drop_left' (by rfl),this];rfl
theorem c0J:∀ l:List Nat,b0P (l.map b0J)=true
 | []=>rfl
 | x::r=>by simp -implicitDefEqProofs only[h0s,b0P,c0J r,h1g,b0J,go_sem]
theorem b0T(l:List Rw):b0P (l.map Rw.enc)=true:=by
 induction l with
 | nil=>rfl
 | cons x r ih=>simp -implicitDefEqProofs only[h0s,b0P,ih,h1g,Rw.enc,go_sem];exact c0J _
theorem d4H(n:Nd)(hn:(b0o n).length≤1000000):b0s env 41 [.agg n.enc] (sl 48 ((b0u n (-1) 0).map Rw.enc)):=by
 refine b0s.ofV (tv:=45) ?_;refine b0i (fn:=Tryz.f41) Tryz.func41 rfl (by rw[Tryz.ntmps41];simp) (by simp -implicitDefEqProofs only[go_sem]) (by simp -implicitDefEqProofs only[go_sem];exact b0T _) ?_;simp -implicitDefEqProofs only[go_sem,Tryz.f41];refine b0q.thawV (b0q.mono (f4W _ _ n (-1) hn) ?_);rintro v h' a' ⟨gen',rfl,h1,rfl⟩;have hl:=b0K n (-1) 0;have hp:0<(b0o n).length:=by cases n;rw[b0Z];omega
 have e:=b2G (b0u n (-1) 0);refine⟨_,_,_,_,_,_,rfl,h1,by omega,by simp -implicitDefEqProofs only[go_sem],by simp -implicitDefEqProofs only[go_sem];omega,?_⟩;simp -implicitDefEqProofs only[go_sem];rw[←hl,d0k]
end Go.Proofs.YtighfcpaplmaiaaGreatDoor
namespace Go.Vg
section
variable {a l : List Nat} {k i g g' n m : Nat}
theorem f2i(hk:k<a.length):(a.set k g++l).set k g'=a.set k g'++l:=by rw[List.set_append_left _ _ (by simpa using hk),List.set_set]
theorem f6y:(a.set k g++l)[a.length]? = l[0]?:=by rw[h0g (by simp)];simp
theorem f5x:(a.set k g++l).set a.length n=a.set k g++l.set 0 n:=by rw[h0N _ _ (by simp)];simp
theorem c1U:(a.set k g).length=a.length:=List.length_set
theorem f5X(hk:k<a.length):(a.set k g++l)[k]? = some g:=by rw[h0e (by simpa using hk),h0i hk]
theorem d7T{m:Nat}:(a++l)[a.length+m]? = l[m]?:=by rw[h0g (by omega)];simp
theorem d2d{m:Nat}:(a++l).set (a.length+m) n=a++l.set m n:=by rw[h0N _ _ (by omega)];simp
theorem f1V:(a++l).set a.length n=a++l.set 0 n:=by rw[h0N _ _ (by omega)];simp
theorem b8b:∀ {a l:List Nat},b8I a (a++l)
 | [],l=>by cases l <;> trivial
 | x::r,l=>⟨rfl,b8b⟩
theorem d8n:(l++a).length=l.length+a.length:=h0h
end
end Go.Vg
namespace Go.Proofs.YtighfcpaplmaiaaGreatDoor
open Go Go.Vg Go.Proofs
theorem f2h:(n:Nd)→∀ (h:List VObj) (a:List Nat) (id k gen:Nat) (rs:List Rw) (p:Int),h[id]? = some (.vec k gen 48 (b1r rs))→a[k]? = some gen→0<rs.length→rs.length+(b0o n).length≤1000000 →
  b0q (envV 45) 86 [.vec id k gen rs.length 48,.agg n.enc,.int .i64 p] h a fun v h' a'=>∃ gen' z y,v = .vec id k gen' (rs.length+(b0o n).length) 48 ∧
   h'=h.set id (.vec k gen' 48 (b1r (rs++b0u n p rs.length)))++z∧a'=a.set k gen'++y:=by
 refine Nd.all fun k t g ks ih h a id kk gen rs p hid hak hrs hn=>?_
 have hlt:id<h.length:=(h0b.1 hid).1;refine b0y (fn:=Tryz.f86) Tryz.func86 rfl (by rw[Tryz.ntmps86];simp) ?_;simp -implicitDefEqProofs only[go_sem,Tryz.f86];intro hl1;simp -implicitDefEqProofs only[go_sem,b0I hid,b1h hlt,b4s hlt,b5G hlt,b3I,b1V,b3G,b1U,b1P];rw[b0Z]at hn ⊢;have hkl0:kk<a.length:=(h0b.1 hak).1;have hel:=b2G rs;have e0:∀ kl:List Nat,b1r rs++[[V.int .i64 p,.int .i64 k,.str t,sl 9 (g.map b0n),sl 3 (kl.map b0J)]].flatten=b1r (rs++[⟨p,k,t,g,kl⟩]):=fun kl=>by
  rw[b7H];rfl
 have e1:b1r rs++[[V.int .i64 p,.int .i64 k,.str t,sl 9 (g.map b0n),V.slice .shared 0 []]].flatten=b1r (rs++[⟨p,k,t,g,[]⟩]):=e0 [];rw[e1];refine⟨by simp,⟨hel,by omega⟩,?_⟩;refine b7t (β:=Nat×List VObj×List Nat) ks (fun pre b=>⟨[(9,.int .i64 pre.length),(8,.slice (.arr a.length) 3 ((b0E pre (rs.length+1)).map b0J)),(7,.int .i64 rs.length),(4,.ptr h.length 0),
    (0,.vec id kk b.1 (rs.length+1+(b0k pre).length) 48)],
   h.set id (.vec kk b.1 48 (b1r (rs++⟨p,k,t,g,[]⟩::b0X pre rs.length (rs.length+1)))) ++ .cells (Nd.mk k t g ks).enc::b.2.1,a.set kk b.1++pre.length::b.2.2⟩)
  (fun _ _ _=>True) (gen+1,[],[]) (fun b=>⟨[(9,.int .i64 ks.length),(8,sl 3 ((b0E ks (rs.length+1)).map b0J)),(7,.int .i64 rs.length),(4,.ptr h.length 0),
    (0,.vec id kk b.1 (rs.length+1+(b0k ks).length) 48)],
   h.set id (.vec kk b.1 48 (b1r (rs++⟨p,k,t,g,[]⟩::b0X ks rs.length (rs.length+1)))) ++ .cells (Nd.mk k t g ks).enc::b.2.1,a.set kk b.1++ks.length::b.2.2⟩) ?_ trivial ?_ ?_ ?_
 ·simp only[b0k,b0X,b0E,h0J,h1m,h0T];simp -implicitDefEqProofs only[go_sem,b1P,c1U];exact⟨⟨rfl,by omega⟩,b8b⟩
 ·intro b _;refine c5u.weak ?_;simp -implicitDefEqProofs only[go_sem,b1P,c1U];rw[d8n,c1U];omega
 ·intro b _;simp -implicitDefEqProofs only[go_sem,b0I hid,b1h hlt,b4s hlt,b5G hlt,b3I,b1V,b3G,b1U,b1P,g9Y,g9Z];intro _ _;have e2:=b2G (rs++(⟨p,k,t,g,[]⟩:Rw)::b0X ks rs.length (rs.length+1));refine⟨by omega,by rw[e2];simp;omega,b.1,.cells (Nd.mk k t g ks).enc::b.2.1,ks.length::b.2.2,by congr 1;omega,?_,rfl⟩;rw[b8y];congr 3
  rw[b0u];exact b9f rs ⟨p,k,t,g,[]⟩ _ _ rfl
 ·rintro pre x post b rfl _;have hsz:(b0k (pre++x::post)).length=(b0k pre).length+(b0o x).length+(b0k post).length:=by
   rw[b1n,b0k];simp;omega
  simp -implicitDefEqProofs only[go_sem,b0I hid,b1h hlt,b4s hlt,b5G hlt,b3I,b1V,b3G,b1U,b1P,g9Y,g9Z,f6y,f5x,c1U];intro hb hl hlen;have hp:=b2t hl;have hkl:=b0U pre (rs.length+1);have hpl:pre.length<(pre++x::post).length:=by simp
  refine⟨by rw[hkl];omega,by rw[hkl],?_⟩;have e:(rs++(⟨p,k,t,g,[]⟩:Rw)::b0X pre rs.length (rs.length+1)).length=rs.length+1+(b0k pre).length:=by
   simp[b3q];omega
  rw[←e];refine b0q.mono (ih x b1x _ _ id kk b.1 (rs++(⟨p,k,t,g,[]⟩:Rw)::b0X pre rs.length (rs.length+1)) rs.length (b4s hlt) (f5X hkl0) (by omega) (by omega)) ?_;rintro v h' a' ⟨gen',z,y,rfl,rfl,rfl⟩;simp -implicitDefEqProofs only[go_sem,b0I hid,b1h hlt,b4s hlt,b5G hlt,b3I,b1V,b3G,b1U,b1P,g9Y,g9Z,f6y,f5x,c1U,f2i hkl0];have e2:rs.length+1+(b0k (pre++[x])).length=rs.length+1+(b0k pre).length+(b0o x).length:=by rw[b1s,h0h];omega
  have e3:rs++(⟨p,k,t,g,[]⟩:Rw)::b0X pre rs.length (rs.length+1)++b0u x rs.length (rs.length+1+(b0k pre).length)=rs++⟨p,k,t,g,[]⟩::b0X (pre++[x]) rs.length (rs.length+1):=by
   rw[b4z,h0x,h0a]
  refine⟨(gen',b.2.1++z,b.2.2++y),⟨b0g (by omega),?_,?_⟩,?_⟩
  ·rw[e,b4a,h0M];rfl
  ·rw[e,e2,b7s];trivial
  ·rw[e,e3,hkl,h0x,h0a];refine⟨b0r,by rw[b2o];trivial,by rw[d8n,c1U];omega,.inl ⟨?_,h0q _⟩⟩;simp only[h0h];omega
theorem d4l(h:List VObj)(a:List Nat)(n:Nd)(p:Int)(hn:(b0o n).length≤1000000):b0q (envV 45) 86 [.slice .nil 0 [],.agg n.enc,.int .i64 p] h a fun v h' a'=>∃ gen' y,v = .vec (h.length+1) a.length gen' (b0o n).length 48 ∧
   h'[h.length+1]? = some (.vec a.length gen' 48 (b1r (b0u n p 0)))∧a'=a++gen'::y:=by
 obtain⟨k,t,g,ks⟩:=n;refine b0y (fn:=Tryz.f86) Tryz.func86 rfl (by rw[Tryz.ntmps86];simp) ?_;simp -implicitDefEqProofs only[go_sem,Tryz.f86];rw[b0Z]at hn ⊢;have e1:[].flatten++[[V.int .i64 p,.int .i64 k,.str t,sl 9 (g.map b0n),V.slice .shared 0 []]].flatten=b1r [⟨p,k,t,g,[]⟩]:=rfl;rw[e1];refine⟨by simp,?_⟩;refine b7t (β:=Nat×List VObj×List Nat) ks (fun pre b=>⟨[(9,.int .i64 pre.length),(8,.slice (.arr (a.length+1)) 3 ((b0E pre 1).map b0J)),(7,.int .i64 (0:Nat)),(4,.ptr h.length 0),
    (0,.vec (h.length+1) a.length b.1 (1+(b0k pre).length) 48)],
   h ++ .cells (Nd.mk k t g ks).enc :: .vec a.length b.1 48 (b1r (⟨p,k,t,g,[]⟩::b0X pre 0 1))::b.2.1,a++b.1::pre.length::b.2.2⟩)
  (fun _ _ _=>True) (b8U,[],[]) (fun b=>⟨[(9,.int .i64 ks.length),(8,sl 3 ((b0E ks 1).map b0J)),(7,.int .i64 (0:Nat)),(4,.ptr h.length 0),
    (0,.vec (h.length+1) a.length b.1 (1+(b0k ks).length) 48)],
   h ++ .cells (Nd.mk k t g ks).enc :: .vec a.length b.1 48 (b1r (⟨p,k,t,g,[]⟩::b0X ks 0 1))::b.2.1,a++b.1::ks.length::b.2.2⟩) ?_ trivial ?_ ?_ ?_
 ·simp only[b0k,b0X,b0E,h0J,h1m,h0T];simp -implicitDefEqProofs only[go_sem];exact⟨⟨rfl,by simp⟩,by rw[show a++[b8U,0]=(a++[b8U])++[0]by simp];exact b8b,by simp,.inl (by simp)⟩
 ·intro b _;refine c5u.weak ?_;simp -implicitDefEqProofs only[go_sem];simp
 ·intro b _;simp -implicitDefEqProofs only[go_sem,g9Y,g9Z];intro _ _;have e2:=b2G ((⟨p,k,t,g,[]⟩:Rw)::b0X ks 0 1);refine⟨by omega,by rw[e2];simp;omega,b.1,ks.length::b.2.2,by congr 1;omega,?_,rfl⟩;refine congrArg (fun x=>some (VObj.vec a.length b.1 48 x)) ?_;rw[b0u];exact b9f [] ⟨p,k,t,g,[]⟩ _ _ rfl
 ·rintro pre x post b rfl _;have hsz:(b0k (pre++x::post)).length=(b0k pre).length+(b0o x).length+(b0k post).length:=by
   rw[b1n,b0k];simp;omega
  simp -implicitDefEqProofs only[go_sem,g9Y,g9Z,d7T,d2d];intro hb hl hlen;have hp:=b2t hl;have hkl:=b0U pre 1;have hpl:pre.length<(pre++x::post).length:=by simp
  refine⟨by rw[hkl];omega,by rw[hkl],?_⟩;have e:((⟨p,k,t,g,[]⟩:Rw)::b0X pre 0 1).length=1+(b0k pre).length:=by
   simp[b3q];omega
  rw[←e];refine b0q.mono (f2h x _ _ (h.length+1) a.length b.1 ((⟨p,k,t,g,[]⟩:Rw)::b0X pre 0 1) (0:Nat) (by rw[h0g (by omega)];simp) (by rw[h0g (by omega)];simp) (by omega) (by omega)) ?_;rintro v h' a' ⟨gen',z,y,rfl,rfl,rfl⟩;simp -implicitDefEqProofs only[go_sem,g9Y,g9Z,d7T,d2d,f1V];have e3:(b0X pre 0 1).length+1=1+(b0k pre).length:=by rw[b3q];omega
  have e2:1+(b0k (pre++[x])).length=1+(b0k pre).length+(b0o x).length:=by rw[b1s,h0h];omega
  refine⟨(gen',b.2.1++z,b.2.2++y),⟨b0g (by omega),?_,?_⟩,⟨?_,b0r⟩,?_,by simp,.inl ⟨?_,?_⟩⟩
  ·rw[e3,b4a,h0M];rfl
  ·rw[e3,e2,b7s];trivial
  ·rw[e3,b4z,b6i];trivial
  ·rw[hkl,h0x,h0a,h0a,b2o];trivial
  ·simp only[h0h];omega
  ·rw[hkl];simp
theorem c5G(n:Nd)(hn:(b0o n).length≤1000000):b0s env 53 [.agg n.enc] (sl 48 ((b0u n (-1) 0).map Rw.enc)):=by
 refine b0s.ofV (tv:=45) ?_;refine b0i (fn:=Tryz.f53) Tryz.func53 rfl (by rw[Tryz.ntmps53];simp) (by simp -implicitDefEqProofs only[go_sem]) (by simp -implicitDefEqProofs only[go_sem];exact b0T _) ?_;simp -implicitDefEqProofs only[go_sem,Tryz.f53];refine b0q.thawV (b0q.mono (d4l _ _ n (-1) hn) ?_);rintro v h' a' ⟨gen',y,rfl,h1,rfl⟩;have hl:=b0K n (-1) 0;have hp:0<(b0o n).length:=by cases n;rw[b0Z];omega
 have e:=b2G (b0u n (-1) 0);refine⟨_,_,_,_,_,_,rfl,h1,by omega,by simp -implicitDefEqProofs only[go_sem],by simp -implicitDefEqProofs only[go_sem];omega,?_⟩;simp -implicitDefEqProofs only[go_sem];rw[←hl,d0k]
end Go.Proofs.YtighfcpaplmaiaaGreatDoor
namespace Go.Vg
inductive Tr where
 | stop
 | br (i:Nat) (t o:Tr)
def Tr.heads:Tr→List Nat
 | .stop=>[]
 | .br i _ o=>i::o.heads
def Tr.ok(ops:List Oper):Nat→Array Bool→Tr→Bool
 | 0,_,.stop=>true
 | 0,_,.br _ _ _=>false
 | _+1,_,.stop=>true
 | n+1,listed,.br i t o=>Region.ready .any ops.toArray (listed.setIfInBounds i true) == t.heads && t.ok ops n (listed.setIfInBounds i true) && o.ok ops (n+1) listed
def kAt(d:Option Nat)(M:St→Prop)(tm:List (Nat×V)):b1y:=fun v h a=>M (St.put ⟨tm,h,a⟩ d v)
mutual
def f6Q(E:Env)(n:Nat)(ops:List Oper)(cs:List Nat)(Q:St→Prop):Tr→St→Prop
 | .stop,_=>True
 | .br i t o,s=>dAt E n ops cs i (f5G E n ops cs Q t) s∧f6Q E n ops cs Q o s
def f5G(E:Env)(n:Nat)(ops:List Oper)(cs:List Nat)(Q:St→Prop):Tr→St→Prop
 | .stop,s=>Q s
 | .br i t o,s=>dAt E n ops cs i (f5G E n ops cs Q t) s∧f6Q E n ops cs Q o s
end
section
variable {E : Env} {n : Nat} {ops : List Oper} {cs : List Nat} {Q : St → Prop}
def dOf(E:Env)(n:Nat)(ops:List Oper)(c:Bool)(M:St→Prop)(s:St):Option Oper→Prop
 | none=>M s
 | some o=>c3A n o=true∧∃ b,gst ops n o s.tmps=some b∧(b=true→b1m E c s o.op fun v h a=>M (St.put ⟨s.tmps,h,a⟩ o.dst v))∧(b=false→M (s.put o.dst (.tuple [])))
@[go_sem] theorem g6x{i:Nat}{M:St→Prop}{s:St}:dAt E n ops cs i M s=dOf E n ops (cs.contains i) M s ops[i]?:=by
 unfold dAt dOf;split <;> rename_i h <;> rw[h]
@[go_sem] theorem f7c{c:Bool}{M:St→Prop}{s:St}{dst:Option Nat}{op:Op}{ty:TypeId}{pos:String}{after:Array Edge} :
  dOf E n ops c M s (some ⟨dst,op,ty,pos,after,none⟩)=(c3A n ⟨dst,.move (.tmp 0),ty,pos,after,none⟩=true∧b1m E c s op (kAt dst M s.tmps)):=by
 unfold dOf;apply propext;constructor
 ·rintro⟨h0,b,hb,h1,_⟩;have:b=true:=by
   have:gst ops n ⟨dst,op,ty,pos,after,none⟩ s.tmps=some true:=rfl;rw[this]at hb;cases hb;rfl
  exact⟨h0,h1 this⟩
 ·rintro⟨h0,h1⟩;exact⟨h0,true,rfl,fun _=>h1,fun e=>by cases e⟩
@[go_sem] theorem f7L{M:St→Prop}{tm:List (Nat×V)}{d:Nat}{v:V}{h:List VObj}{a:List Nat}:kAt (some d) M tm v h a=M ⟨(d,v)::tm,h,a⟩:=rfl
@[go_sem] theorem f8o{M:St→Prop}{tm:List (Nat×V)}{v:V}{h:List VObj}{a:List Nat}:kAt none M tm v h a=M ⟨tm,h,a⟩:=rfl
end
inductive Wk where
 | stop
 | one (i:Nat) (t:Wk)
 | br (i:Nat) (t o:Wk)
def Wk.heads:Wk→List Nat
 | .stop=>[]
 | .one _ _=>[]
 | .br i _ o=>i::o.heads
def Wk.ok(ops:List Oper)(cs:List Nat):Bool→Nat→Array Bool→Wk→Bool
 | true,_,l,.stop=>(Region.ready .any ops.toArray l).isEmpty
 | false,_,_,.stop=>true
 | true,f+1,l,.one i t=>(Region.ready .any ops.toArray l).contains i && d5g ops cs l i && t.ok ops cs true f (l.setIfInBounds i true)
 | b,f+1,l,.br i t o=>(!b || Region.ready .any ops.toArray l == i::o.heads) && (Region.ready .any ops.toArray l).contains i && t.ok ops cs true f (l.setIfInBounds i true) && o.ok ops cs false (f+1) l
 | _,_,_,_=>false
def g9f(ops:List Oper)(cs:List Nat)(t:Wk):Bool:=t.ok ops cs true ops.length (Array.replicate ops.length false)
mutual
def b6w(E:Env)(n:Nat)(ops:List Oper)(cs:List Nat)(Q:St→Prop):Wk→St→Prop
 | .stop,_=>True
 | .one _ _,_=>False
 | .br i t o,s=>dAt E n ops cs i (b3X E n ops cs Q t) s∧b6w E n ops cs Q o s
def b3X(E:Env)(n:Nat)(ops:List Oper)(cs:List Nat)(Q:St→Prop):Wk→St→Prop
 | .stop,s=>Q s
 | .one i t,s=>dAt E n ops cs i (b3X E n ops cs Q t) s
 | .br i t o,s=>dAt E n ops cs i (b3X E n ops cs Q t) s∧b6w E n ops cs Q o s
end
theorem c8d{E:Env}{n:Nat}{ops:List Oper}{cs:List Nat}{Q:St→Prop}(hQ:∀ s t,St.eqv s t→Q s→Q t):∀ (t:Wk) (fuel:Nat) (l:Array Bool) (s:St),b9H ops l→l.size=ops.length →
  (t.ok ops cs true fuel l=true→b3X E n ops cs Q t s→c9z E n ops cs Q fuel l s) ∧
  (t.ok ops cs false fuel l=true→b6w E n ops cs Q t s→∀ i∈t.heads,∀ f,fuel=f+1→dAt E n ops cs i (c9z E n ops cs Q f (l.setIfInBounds i true)) s)
 | .stop,fuel,l,s,hcl,hsz=>by
  refine⟨fun hr h=>?_,fun _ _ i hi=>by simp[Wk.heads]at hi⟩;simp only[Wk.ok,List.isEmpty_iff]at hr;rw[b3X]at h;cases fuel with
  | zero=>exact⟨hr,h⟩
  | succ f=>exact⟨fun _=>h,fun i hi=>by rw[hr]at hi;cases hi⟩
 | .one i t,0,l,s,hcl,hsz=>⟨fun h=>by simp[Wk.ok]at h,fun h=>by simp[Wk.ok]at h⟩
 | .br i t o,0,l,s,hcl,hsz=>⟨fun h=>by simp[Wk.ok]at h,fun h=>by simp[Wk.ok]at h⟩
 | .one i t,fuel+1,l,s,hcl,hsz=>by
  refine⟨fun hok h=>?_,fun hok=>by simp[Wk.ok]at hok⟩;simp only[Wk.ok,h0k]at hok;obtain⟨⟨hr,ho⟩,hB'⟩:=hok;have hr':i∈Region.ready .any ops.toArray l:=by simpa using hr
  rw[b3X]at h;unfold d5g at ho;cases hk:ops[i]? with
  | none=>rw[hk]at ho;cases ho
  | some ok =>
   rw[hk]at ho;simp only[List.all_eq_true,List.mem_range]at ho;refine first hQ hk fuel l s hcl hsz (fun j oj hj hjk hun hno=>?_) hr' (b4l h fun u hu=>(c8d hQ t fuel _ u (b6j hcl hr') (by simpa using hsz)).1 hB' hu);have:=ho j (h0b.1 hj).1;simp only[hj,h1u,beq_iff_eq,hjk,false_or,hun,h0r,hno,h0k]at this;exact this
 | .br i t o,f+1,l,s,hcl,hsz=>by
  have key:∀ b,(Wk.br i t o).ok ops cs b (f+1) l=true→dAt E n ops cs i (b3X E n ops cs Q t) s→b6w E n ops cs Q o s→∀ j∈Wk.heads (.br i t o),dAt E n ops cs j (c9z E n ops cs Q f (l.setIfInBounds j true)) s:=by
   intro b hok ha hb j hj;have hok':((Region.ready .any ops.toArray l).contains i=true∧t.ok ops cs true f (l.setIfInBounds i true)=true)∧o.ok ops cs false (f+1) l=true:=by
    cases b <;> simp only[Wk.ok,h0k]at hok
    ·exact⟨⟨hok.1.1.2,hok.1.2⟩,hok.2⟩
    ·exact⟨⟨hok.1.1.2,hok.1.2⟩,hok.2⟩
   obtain⟨⟨hr,ht⟩,ho⟩:=hok';have hr':i∈Region.ready .any ops.toArray l:=by simpa using hr
   rcases h0C.1 hj with e | e
   ·subst e;exact b4l ha fun s' hs'=>(c8d hQ t f _ s' (b6j hcl hr') (by simpa using hsz)).1 ht hs'
   ·exact(c8d hQ o (f+1) l s hcl hsz).2 ho hb j e f rfl
  refine⟨fun hok h=>?_,fun hok h j hj g hg=>?_⟩
  ·rw[b3X]at h;have hh:Region.ready .any ops.toArray l=i::o.heads:=by
    simp only[Wk.ok,h0k,Bool.not_true,h0Y,beq_iff_eq]at hok;exact hok.1.1.1
   refine⟨fun e=>(by rw[hh]at e;cases e),fun j hj=>?_⟩;rw[hh]at hj;exact key true hok h.1 h.2 j hj
  ·rw[b6w]at h;cases hg
   exact key false hok h.1 h.2 j hj
theorem b8k{E:Env}{n:Nat}{ops:List Oper}{cs:List Nat}{Q R:St→Prop}(hQ:∀ s,Q s→R s):∀ (t:Wk) (s:St),(b3X E n ops cs Q t s→b3X E n ops cs R t s)∧(b6w E n ops cs Q t s→b6w E n ops cs R t s)
 | .stop,s=>by simp only[b3X,b6w];exact⟨hQ s,fun h=>h⟩
 | .one i t,s=>by
  simp only[b3X,b6w];exact⟨fun h=>b4l h fun u hu=>(b8k hQ t u).1 hu,fun h=>h⟩
 | .br i t o,s=>by
  simp only[b3X,b6w];exact⟨fun h=>⟨b4l h.1 fun u hu=>(b8k hQ t u).1 hu,(b8k hQ o s).2 h.2⟩,fun h=>⟨b4l h.1 fun u hu=>(b8k hQ t u).1 hu,(b8k hQ o s).2 h.2⟩⟩
theorem b1f{E:Env}{n:Nat}{ops:List Oper}{cs:List Nat}{hb ab:Nat}{s:St}{Q:VEx→St→Prop}{id:Nat}(t:Wk)(hm:E.P.follows .mixedOrders=true)(hB:g9f ops cs t=true)
  (h:b3X E n ops cs (Q .normal) t s):Snd E hb ab n (.region id ops.toArray true) s Q:=by
 intro B G a w h1 h2 h3 h4;have h5:Rel E G s B.w0 n a { w with drawn:=w.drawn+1 }:=⟨h4.rw.drew _,h4.rt,h4.df⟩
 refine wp_region_any hm ?_;have hany:=(c8d (E:=E) (n:=n) (cs:=cs) (Q:=fun s=>∃ t,St.eqv t s∧Q .normal t) (fun s t he ⟨u,hu,hq⟩=>⟨u,⟨fun i=>(hu.1 i).trans (he.1 i),hu.2.1.trans he.2.1,hu.2.2.trans he.2.2⟩,hq⟩) t ops.length (Array.replicate ops.length false) s
  (fun j o ho hj=>by
   have:(Array.replicate ops.length false).getD j false=false:=by simp[h1w,Array.getElem?_replicate];split <;> rfl
   rw[this]at hj;cases hj) (by simp)).1 hB ((b8k (fun u hu=>⟨u,.refl _,hu⟩) t s).1 h)
 have:=b4F (w0:=B.w0) (QQ:=f0K E n B Q) ops.length _ s G a _ h5 hany (fun s' G' a' w' ⟨t,ht,hq⟩ q2 q3 => .inl ⟨.normal,t,G',rfl,hq,by rw[ht.2.2];exact h3.trans q2,⟨by rw[ht.2.1,ht.2.2];exact q3.rw,⟨fun i=>by
   show RV _ _ _ (b1Z t.tmps i) _;rw[ht.1 i,ht.2.2];exact q3.rt.tm i,q3.rt.sz⟩,q3.df⟩⟩)
  fun ch a' w' q1 q2 => .inr ⟨ch,rfl,q1,q2.ext h3⟩
 simpa using this
section
variable {E : Env} {n : Nat} {ops : List Oper} {cs : List Nat} {Q : St → Prop}
@[go_sem] theorem f3c{s:St}:b3X E n ops cs Q .stop s=Q s:=by rw[b3X]
@[go_sem] theorem f2p{s:St}:b6w E n ops cs Q .stop s=True:=by rw[b6w]
@[go_sem] theorem f5P{i:Nat}{t:Wk}{s:St}:b3X E n ops cs Q (.one i t) s=dAt E n ops cs i (b3X E n ops cs Q t) s:=by rw[b3X]
@[go_sem] theorem f7A{i:Nat}{t o:Wk}{s:St}:b3X E n ops cs Q (.br i t o) s=(dAt E n ops cs i (b3X E n ops cs Q t) s∧b6w E n ops cs Q o s):=by rw[b3X]
@[go_sem] theorem f8M{i:Nat}{t o:Wk}{s:St}:b6w E n ops cs Q (.br i t o) s=(dAt E n ops cs i (b3X E n ops cs Q t) s∧b6w E n ops cs Q o s):=by rw[b6w]
end
def dGd(E:Env)(c:Bool)(M:St→Prop)(s:St)(dst:Option Nat)(op:Op)(want:Bool)(x:V):Prop:=match x with
 | .bool b=>(b=want→b1m E c s op (kAt dst M s.tmps))∧(b = !want→M (s.put dst (.tuple [])))
 | .tuple []=>M (s.put dst (.tuple []))
 | _=>False
def dGo(E:Env)(n:Nat)(c:Bool)(M:St→Prop)(s:St)(dst:Option Nat)(op:Op)(want:Bool)(o:Option Nat):Prop:=match o with
 | some d=>d<n∧dGd E c M s dst op want (b1Z s.tmps d)
 | none=>False
section
variable {E : Env} {n : Nat} {ops : List Oper} {c : Bool} {M : St → Prop} {s : St} {dst : Option Nat} {op : Op} {want : Bool}
@[go_sem] theorem f4C{j:Nat}{ty:TypeId}{pos:String}{after:Array Edge} :
  dOf E n ops c M s (some ⟨dst,op,ty,pos,after,some (j,want)⟩)=(c3A n ⟨dst,.move (.tmp 0),ty,pos,after,none⟩=true∧dGo E n c M s dst op want (b5Y ops j)):=by
 unfold dOf dGo;have hd:c3A n ⟨dst,op,ty,pos,after,some (j,want)⟩=c3A n ⟨dst,.move (.tmp 0),ty,pos,after,none⟩:=rfl;simp only[hd,gst];congr 1;cases hj:b5Y ops j with
 | none=>simp
 | some d =>
  simp only;by_cases hdn:d<n
  ·simp only[hdn,if_true,true_and];unfold dGd;generalize b1Z s.tmps d=x;cases x
   case bool b =>
    apply propext;constructor
    ·rintro⟨q,h1,h2,h3⟩;simp only[Option.some.injEq]at h1;refine⟨fun e=>h2 (by rw[←h1,e];simp),fun e=>h3 (by rw[←h1,e];cases want <;> rfl)⟩
    ·rintro⟨h1,h2⟩;refine⟨_,rfl,fun e=>h1 (by simpa using e),fun e=>h2 (by cases b <;> cases want <;> simp_all)⟩
   case tuple vs =>
    cases vs with
    | nil=>simp
    | cons=>simp
   all_goals simp
  ·simp[hdn]
@[go_sem] theorem f9t{d:Nat}:dGo E n c M s dst op want (some d)=(d<n∧dGd E c M s dst op want (b1Z s.tmps d)):=rfl
@[go_sem] theorem g6Q:dGd E c M s dst op true (.bool true)=b1m E c s op (kAt dst M s.tmps):=by simp[dGd]
@[go_sem] theorem g6y{tm:List (Nat×V)}{h:List VObj}{a:List Nat}:dGd E c M ⟨tm,h,a⟩ dst op true (.bool false)=kAt dst M tm (.tuple []) h a:=by simp[dGd,kAt]
end
structure Dl where
 kind:Int
 owner:ByteArray
 name:ByteArray
 unit:Int
 node:Int
def Dl.enc(d:Dl):List V:=[.int .i64 d.kind,.str d.owner,.str d.name,.int .i64 d.unit,.int .i64 d.node]
def Dl.zero:Dl:=⟨0,⟨#[]⟩,⟨#[]⟩,0,0⟩
@[go_sem] theorem g5U(d:Dl):d.enc.length=5:=rfl
@[go_sem] theorem g0y(d:Dl):List.take 5 d.enc=d.enc:=rfl
@[go_sem] theorem f7Q(d:Dl):List.map share1 d.enc=d.enc:=rfl
@[go_sem] theorem f9M(d:Dl):d.enc.all V.cell=true:=rfl
@[go_sem] theorem d9K(d:Dl):b0Y d.enc=true:=rfl
@[go_sem] theorem g4j(d:Dl){K:V→Prop}:vHead d.enc K=K (.int .i64 d.kind):=rfl
@[go_sem] theorem g9s(d:Dl):List.drop 1 d.enc=[.str d.owner,.str d.name,.int .i64 d.unit,.int .i64 d.node]:=rfl
@[go_sem] theorem g8V(d:Dl):List.drop 2 d.enc=[.str d.name,.int .i64 d.unit,.int .i64 d.node]:=rfl
@[go_sem] theorem g9m(d:Dl):List.drop 3 d.enc=[.int .i64 d.unit,.int .i64 d.node]:=rfl
@[go_sem] theorem g8U(d:Dl):List.drop 4 d.enc=[.int .i64 d.node]:=rfl
theorem b0D:∀ l:List Dl,b0P (l.map Dl.enc)=true
 | []=>rfl
 | x::r=>by simp only[h0s,b0P,b0D r,h1g,d9K]
structure Ar where
 fn:ByteArray
 cls:ByteArray
 method:Bool
def Ar.enc(x:Ar):List V:=[.str x.fn,.str x.cls,.bool x.method]
@[go_sem] theorem g6q(d:Ar):d.enc.length=3:=rfl
@[go_sem] theorem g4B(d:Ar):List.take 3 d.enc=d.enc:=rfl
def b2u(k:Int)(t:ByteArray)(u m:Int)(x:Ar):Option Dl :=
 if k=2 then some (if x.method=true then⟨4,x.cls,t,u,m⟩else⟨1,⟨#[]⟩,t,u,m⟩)
 else if k=7 then some ⟨2,⟨#[]⟩,t,u,m⟩
 else if k=9 then some ⟨3,⟨#[]⟩,t,u,m⟩
 else if k=4 then some ⟨5,x.fn,t,u,m⟩
 else if k=10 then some ⟨6,x.fn,t,u,m⟩
 else none
def b4b(k:Int)(t:ByteArray)(x:Ar):Ar :=
 ⟨if k=2 then(if x.method=true then x.cls++⟨#[46]⟩++t else t)else x.fn,t,decide (k=7)⟩
mutual
def b1z:Nd→Int→Nat→Ar→List Dl
 | .mk k t g ks,u,m,x=>(b2u k t u m x).toList++b0V ks u (m+1) (b4b k t x)
def b0V:List Nd→Int→Nat→Ar→List Dl
 | [],_,_,_=>[]
 | y::r,u,m,x=>b1z y u m x++b0V r u (m+(b0o y).length) x
end
theorem b6F(y:Nd)(u:Int)(x:Ar):∀ (pre:List Nd) m,b0V (pre++[y]) u m x=b0V pre u m x++b1z y u (m+(b0k pre).length) x
 | [],m=>by simp[b0V,b0k]
 | z::r,m=>by
  simp only[h0a,b0V,b6F y u x r,b0k,h0h,h0x];rw[h1s]
mutual
theorem b9T:∀ (n:Nd) u m x,(b1z n u m x).length≤(b0o n).length
 | .mk k t g ks,u,m,x=>by
  have:=b6t ks u (m+1) (b4b k t x);rw[b1z,b0Z,h0h];have:(b2u k t u m x).toList.length≤1:=by cases b2u k t u m x <;> simp
  omega
theorem b6t:∀ (l:List Nd) u m x,(b0V l u m x).length≤(b0k l).length
 | [],_,_,_=>h0q _
 | y::r,u,m,x=>by
  have h1:=b9T y u m x;have h2:=b6t r u (m+(b0o y).length) x;rw[b0V,b0k,h0h,h0h];omega
end
def b9u(n:Nd):Prop:=∀ x∈b0o n,x.text.size≤1000000
theorem b7i{k t g}{ks:List Nd}{x:Nd}(h:b9u (.mk k t g ks))(hx:x∈ks):b9u x:=by
 intro y hy;refine h y ?_;rw[b0o];refine List.mem_cons_of_mem _ ?_;clear h;induction ks with
 | nil=>cases hx
 | cons z r ih =>
  rw[b0k];rcases h0C.1 hx with rfl | hx
  ·exact h1e _ hy
  ·exact h1j _ (ih hx)
theorem c1n{k t g}{ks:List Nd}(h:b9u (.mk k t g ks)):t.size≤1000000:=h (.mk k t g ks) (by rw[b0o];exact List.mem_cons_self ..)
def Ar.ok(x:Ar):Prop:=x.cls.size≤1000000
theorem d3h{k t g}{ks:List Nd}{x:Ar}(h:b9u (.mk k t g ks)):(b4b k t x).ok:=c1n h
end Go.Vg
namespace Go.Proofs.YtighfcpaplmaiaaGreatDoor
open Go Go.Vg Go.Proofs
theorem f0k(n:Nd)(u m:Int)(x:Ar):b0s env 138 [.agg n.enc,.agg [.int .i64 u,.int .i64 m],.agg x.enc]
  (.tuple [.agg ((b2u n.kind n.text u m x).getD Dl.zero).enc,.bool (b2u n.kind n.text u m x).isSome]):=by
 obtain⟨k,t,g,ks⟩:=n;refine b0i (fn:=Tryz.f138) Tryz.func138 rfl (by rw[Tryz.ntmps138];simp) (by simp -implicitDefEqProofs only[go_sem,Ar.enc]) (by simp -implicitDefEqProofs only[go_sem]) ?_;simp -implicitDefEqProofs only[go_sem,Tryz.f138,Ar.enc];simp only[Nd.kind,Nd.text,b2u]
 repeat' (first | apply And.intro | intro)
 all_goals(simp_all [Dl.enc,Dl.zero];done)
theorem d6l(n:Nd)(x:Ar)(hx:x.ok)(ht:n.text.size≤1000000):b0s env 139 [.agg n.enc,.agg x.enc] (.agg (b4b n.kind n.text x).enc):=by
 obtain⟨k,t,g,ks⟩:=n;refine b0i (fn:=Tryz.f139) Tryz.func139 rfl (by rw[Tryz.ntmps139];simp) (by simp -implicitDefEqProofs only[go_sem,Ar.enc]) (by simp -implicitDefEqProofs only[go_sem,Ar.enc]) ?_;simp -implicitDefEqProofs only[go_sem,Tryz.f139,Ar.enc];simp only[Nd.kind,Nd.text,b4b]at ht ⊢;unfold Ar.ok at hx;have h1:(ByteArray.mk #[46]).size=1:=rfl;refine⟨fun h=>⟨fun hb=>⟨by omega,by rw[ByteArray.size_append,h1];omega,?_⟩,fun hb=>?_⟩,fun h=>?_⟩ <;> simp_all <;> (try rfl)
theorem b8T{α:Type}{a b:List α}:(a++b).length=a.length+b.length:=h0h
def c6H:Wk := .one 0 (.one 1 (.one 2 (.one 3 (.one 4 (.one 5 (.one 6 (.one 7 (.br 8 (.one 9 (.one 10 (.one 11 (.one 12 (.one 13 (.one 14 .stop)))))) (.br 12 (.one 8 (.one 9 (.one 10 (.one 11 (.one 13 (.one 14 .stop)))))) .stop)))))))))
theorem f1u:(n:Nd)→∀ (h:List VObj) (a:List Nat) (kk:Nat) (es:List Dl) (u:Int) (m:Nat) (x:Ar),a[kk]? = some es.length→es.length+(b0o n).length≤1000000→m+(b0o n).length≤1000000→b9u n→x.ok →
  b0q env 85 [.slice (.arr kk) 54 (es.map Dl.enc),.agg n.enc,.agg [.int .i64 u,.int .i64 m],.agg x.enc] h a fun v h' a' =>
   v = .tuple [.slice (.arr kk) 54 ((es++b1z n u m x).map Dl.enc),.agg [.int .i64 u,.int .i64 (m+(b0o n).length:Nat)]]∧(∃ z,h'=h++z)∧a'=a.set kk (es.length+(b1z n u m x).length):=by
 refine Nd.all fun k t g ks ih h a kk es u m x ha hn hm hs hx=>?_
 refine b0y (fn:=Tryz.f85) Tryz.func85 rfl (by rw[Tryz.ntmps85];simp) ?_;simp -implicitDefEqProofs only[go_sem,Tryz.f85,Ar.enc];have ht:=c1n hs;rw[b0Z]at hn hm ⊢;have hbl:b0s env 139 [.agg (Nd.mk k t g ks).enc,.agg x.enc] (.agg (b4b k t x).enc):=d6l (.mk k t g ks) x hx ht;have hdl:=f0k (.mk k t g ks) u m x;simp only[Nd.kind,Nd.text]at hdl;rw[b1z];have hbk:=d3h (x:=x) hs;generalize b4b k t x=y at hbl hbk ⊢;generalize b2u k t u m x=o at hdl ⊢;have ha2:a.set kk es.length=a:=by
  apply List.ext_getElem?;intro i;by_cases hi:kk=i
  ·subst hi;rw[h0i (h0b.1 ha).1,ha]
  ·rw[h0m hi]
 refine hdl.calls (by simp -implicitDefEqProofs only[go_sem,Ar.enc]) ?_;simp -implicitDefEqProofs only[go_sem,Option.isSome,Ar.enc];cases o with
 | none =>
  simp only[h0y,Option.toList,h0Q];simp -implicitDefEqProofs only[go_sem];refine hbl.calls (by simp -implicitDefEqProofs only[go_sem,Ar.enc]) ?_;simp -implicitDefEqProofs only[go_sem,Ar.enc];refine b0l (β:=List VObj) ks (fun pre z=>⟨[(15,.int .i64 pre.length),(14,.ptr (h.length+6) 0),(13,.ptr (h.length+5) 0),(10,.slice (.arr kk) 54 ((es++b0V pre u (m+1) y).map Dl.enc)),(9,.ptr (h.length+3) 0),(8,.slice .nil 0 []),(5,.ptr h.length 0)],
    h ++ .cells (Nd.mk k t g ks).enc :: .dead :: .dead :: .cells [.int .i64 0,.int .i64 0] :: .dead :: .cells y.enc :: .cells [.int .i64 u,.int .i64 (m+1+(b0k pre).length:Nat)]::z,a.set kk (es++b0V pre u (m+1) y).length⟩)
   (fun _ _ _=>True) [] ?_ trivial ?_ ?_
  ·simp only[b0V,b0k,h0J,h1m,h0F];simp -implicitDefEqProofs only[go_sem,Ar.enc,h0M];exact⟨rfl,Vg.wrap_small (by omega) (by omega),by rw[ha2,b2o];trivial⟩
  ·intro z _;simp -implicitDefEqProofs only[go_sem,g9Y,g9Z];intro _ _;refine sdq ?_;simp -implicitDefEqProofs only[go_sem,g9Y,g9Z];exact⟨by rw[show m+1+(b0k ks).length=m+((b0k ks).length+1)by omega],⟨_,rfl⟩,by rw[h0h]⟩
  ·rintro pre w post z rfl _;have hsz:(b0k (pre++w::post)).length=(b0k pre).length+(b0o w).length+(b0k post).length:=by
    rw[b1n,b0k];simp;omega
   have hwl:=b6t pre u (m+1) y;simp -implicitDefEqProofs only[go_sem,g9Y,g9Z];intro hb hl;have hp:=b2t hl;have hel:(es++b0V pre u (m+1) y).length+(b0o w).length≤1000000:=by simp at hn ⊢;omega
   refine b1f (cs:=[8]) c6H b4c (by kernel_rfl) ?_;simp -implicitDefEqProofs only[go_sem,c6H,g9Y,g9Z];have e1:(b0k (pre++[w])).length=(b0k pre).length+(b0o w).length:=by rw[b1s,h0h]
   have e2:(es++b0V pre u (m+1) y)++b1z w u (m+1+(b0k pre).length) y=es++b0V (pre++[w]) u (m+1) y:=by rw[b6F,h0x]
   refine⟨?_,?_⟩
   ·refine b0q.mono (ih w b1x _ _ kk (es++b0V pre u (m+1) y) u (m+1+(b0k pre).length) y (c2p ha) hel (by omega) (b7i hs b1x) hbk) ?_;rintro v h' a' ⟨rfl,⟨z',rfl⟩,rfl⟩;simp -implicitDefEqProofs only[go_sem,g9Y,g9Z];exact⟨_,⟨b0g (by omega),by rw[e2]⟩,⟨by rw[e1];omega,b0r⟩,by rw[←b8T,e2,b2o];trivial,.inl (by simp only[h0h,h0o,h0J];omega)⟩
   ·refine b0q.mono (ih w b1x _ _ kk (es++b0V pre u (m+1) y) u (m+1+(b0k pre).length) y (c2p ha) hel (by omega) (b7i hs b1x) hbk) ?_;rintro v h' a' ⟨rfl,⟨z',rfl⟩,rfl⟩;simp -implicitDefEqProofs only[go_sem,g9Y,g9Z];exact⟨_,⟨b0g (by omega),by rw[e2]⟩,⟨by rw[e1];omega,b0r⟩,by rw[←b8T,e2,b2o];trivial,.inl (by simp only[h0h,h0o,h0J];omega)⟩
 | some d =>
  simp only[h0L,h0A,Option.toList];simp -implicitDefEqProofs only[go_sem];refine⟨by omega,ha,?_⟩;refine hbl.calls (by simp -implicitDefEqProofs only[go_sem,Ar.enc]) ?_;simp -implicitDefEqProofs only[go_sem,Ar.enc];refine b0l (β:=List VObj) ks (fun pre z=>⟨[(15,.int .i64 pre.length),(14,.ptr (h.length+6) 0),(13,.ptr (h.length+5) 0),(10,.slice (.arr kk) 54 (((es++[d])++b0V pre u (m+1) y).map Dl.enc)),(9,.ptr (h.length+3) 0),(8,.slice .nil 0 []),(5,.ptr h.length 0)],
    h ++ .cells (Nd.mk k t g ks).enc :: .dead :: .dead :: .cells [.int .i64 0,.int .i64 0] :: .dead :: .cells y.enc :: .cells [.int .i64 u,.int .i64 (m+1+(b0k pre).length:Nat)]::z,a.set kk ((es++[d])++b0V pre u (m+1) y).length⟩)
   (fun _ _ _=>True) [] ?_ trivial ?_ ?_
  ·simp only[b0V,b0k,h0J,h1m,h0F];simp -implicitDefEqProofs only[go_sem,Ar.enc,h0M];exact⟨rfl,Vg.wrap_small (by omega) (by omega)⟩
  ·intro z _;simp -implicitDefEqProofs only[go_sem,g9Y,g9Z];intro _ _;refine sdq ?_;simp -implicitDefEqProofs only[go_sem,g9Y,g9Z];exact⟨by rw[show m+1+(b0k ks).length=m+((b0k ks).length+1)by omega,h0x];rfl,⟨_,rfl⟩,by rw[h0h,h0h];congr 1;simp;omega⟩
  ·rintro pre w post z rfl _;have hsz:(b0k (pre++w::post)).length=(b0k pre).length+(b0o w).length+(b0k post).length:=by
    rw[b1n,b0k];simp;omega
   have hwl:=b6t pre u (m+1) y;simp -implicitDefEqProofs only[go_sem,g9Y,g9Z];intro hb hl;have hp:=b2t hl;have hel:((es++[d])++b0V pre u (m+1) y).length+(b0o w).length≤1000000:=by simp at hn ⊢;omega
   refine b1f (cs:=[8]) c6H b4c (by kernel_rfl) ?_;simp -implicitDefEqProofs only[go_sem,c6H,g9Y,g9Z];have e1:(b0k (pre++[w])).length=(b0k pre).length+(b0o w).length:=by rw[b1s,h0h]
   have e2:((es++[d])++b0V pre u (m+1) y)++b1z w u (m+1+(b0k pre).length) y=(es++[d])++b0V (pre++[w]) u (m+1) y:=by rw[b6F,h0x]
   refine⟨?_,?_⟩
   ·refine b0q.mono (ih w b1x _ _ kk ((es++[d])++b0V pre u (m+1) y) u (m+1+(b0k pre).length) y (c2p ha) hel (by omega) (b7i hs b1x) hbk) ?_;rintro v h' a' ⟨rfl,⟨z',rfl⟩,rfl⟩;simp -implicitDefEqProofs only[go_sem,g9Y,g9Z];exact⟨_,⟨b0g (by omega),by rw[e2]⟩,⟨by rw[e1];omega,b0r⟩,by rw[←b8T,e2,b2o];trivial,.inl (by simp only[h0h,h0o,h0J];omega)⟩
   ·refine b0q.mono (ih w b1x _ _ kk ((es++[d])++b0V pre u (m+1) y) u (m+1+(b0k pre).length) y (c2p ha) hel (by omega) (b7i hs b1x) hbk) ?_;rintro v h' a' ⟨rfl,⟨z',rfl⟩,rfl⟩;simp -implicitDefEqProofs only[go_sem,g9Y,g9Z];exact⟨_,⟨b0g (by omega),by rw[e2]⟩,⟨by rw[e1];omega,b0r⟩,by rw[←b8T,e2,b2o];trivial,.inl (by simp only[h0h,h0o,h0J];omega)⟩
end Go.Proofs.YtighfcpaplmaiaaGreatDoor
namespace Go.Vg
structure Un where
 path:ByteArray
 text:ByteArray
 tree:Nd
 broken:Bool
def Un.enc(x:Un):List V:=[.str x.path,.str x.text]++x.tree.enc++[.bool x.broken]
@[go_sem] theorem d7L(d:Un):d.enc.length=7:=by simp[Un.enc,b3z]
@[go_sem] theorem g4q(d:Un):List.take 7 d.enc=d.enc:=by rw[List.take_of_length_le (by rw[d7L];exact h0q _)]
@[go_sem] theorem f7s(d:Un):List.map share1 d.enc=d.enc:=by simp only[Un.enc,h0M,d2M];rfl
@[go_sem] theorem g2i(d:Un):d.enc.all V.cell=true:=by simp only[Un.enc,List.all_append,d5Q];rfl
@[go_sem] theorem d9q(d:Un):b0Y d.enc=true:=by
 obtain⟨p,t,⟨k,x,g,ks⟩,b⟩:=d;simp -implicitDefEqProofs only[Un.enc,Nd.enc,h0a,h0Q,b0Y,V.pure,h0S,go_sem]
@[go_sem] theorem f7n(d:Un):List.drop 6 d.enc=[.bool d.broken]:=by
 obtain⟨p,t,⟨k,x,g,ks⟩,b⟩:=d;rfl
@[go_sem] theorem f6r(d:Un):(List.drop 2 d.enc).length=5:=by rw[h1i,d7L]
@[go_sem] theorem f7f(d:Un):List.take 4 (List.drop 2 d.enc)=d.tree.enc:=by
 obtain⟨p,t,⟨k,x,g,ks⟩,b⟩:=d;rfl
@[go_sem] theorem f5b(d:Un){K:V→Prop}:vHead (List.drop 2 d.enc) K=K (.int .i64 d.tree.kind):=by
 obtain⟨p,t,⟨k,x,g,ks⟩,b⟩:=d;rfl
theorem b0v:∀ l:List Un,b0P (l.map Un.enc)=true
 | []=>rfl
 | x::r=>by simp only[h0s,b0P,b0v r,h1g,d9q]
def Ar.none:Ar:=⟨⟨#[]⟩,⟨#[]⟩,false⟩
def b0e:List Un→Nat→List Dl
 | [],_=>[]
 | x::r,i=>(if x.broken=true then []else b1z x.tree i 0 Ar.none)++b0e r (i+1)
theorem b9R(x:Un):∀ (pre:List Un) i,b0e (pre++[x]) i=b0e pre i++(if x.broken=true then []else b1z x.tree (i+pre.length:Nat) 0 Ar.none)
 | [],i=>by simp[b0e]
 | y::r,i=>by
  simp only[h0a,b0e,b9R x r,h0x,h0o];rw[show i+1+r.length=i+(r.length+1)by omega]
def b2D(u:List Un):Prop:=u.length≤1000∧∀ x∈u,(b0o x.tree).length≤1000∧b9u x.tree
theorem b0H:∀ (u:List Un) i,(∀ x∈u,(b0o x.tree).length≤1000)→(b0e u i).length≤u.length * 1000
 | [],_,_=>by simp[b0e]
 | x::r,i,h=>by
  have h1:=b0H r (i+1) fun y hy=>h y (by simp[hy])
  have h2:=b9T x.tree i 0 Ar.none;have h3:=h x (by simp);rw[b0e,h0h,h0o];have h4:(if x.broken=true then []else b1z x.tree i 0 Ar.none).length≤1000:=by
   by_cases hb:x.broken=true
   ·rw[if_pos hb,h0J];omega
   ·rw[if_neg hb];omega
  omega
end Go.Vg
namespace Go.Proofs.YtighfcpaplmaiaaGreatDoor
open Go Go.Vg Go.Proofs
theorem b7j(u:List Un)(hu:b2D u):b0s env 52 [sl 70 (u.map Un.enc)] (sl 54 ((b0e u 0).map Dl.enc)):=by
 refine b0i (fn:=Tryz.f52) Tryz.func52 rfl (by rw[Tryz.ntmps52];simp) (by simp -implicitDefEqProofs only[go_sem];exact b0v _) (by simp -implicitDefEqProofs only[go_sem];exact b0D _) ?_;simp -implicitDefEqProofs only[go_sem,Tryz.f52];have hul:=hu.1;refine b0l (β:=Unit) u (fun pre _=>⟨[(4,.int .i64 pre.length),(3,.slice (.arr 0) 54 ((b0e pre 0).map Dl.enc)),(2,.slice .nil 0 []),(0,sl 70 (u.map Un.enc))],[],[(b0e pre 0).length]⟩)
  (fun _ _ _=>True) () ?_ trivial ?_ ?_
 ·simp only[b0e];simp -implicitDefEqProofs only[go_sem];rfl
 ·intro _ _;simp -implicitDefEqProofs only[go_sem]
 ·rintro pre x post _ rfl _;have hx:=hu.2 x b1x;have hpl:(pre++x::post).length=pre.length+1+post.length:=by simp;omega
  have hdl:=b0H pre 0 fun y hy=>(hu.2 y (by simp[hy])).1
  have hsn:=b9R x pre 0;simp -implicitDefEqProofs only[go_sem];intro hb hl;refine⟨fun hbr=>?_,fun hbr=>?_⟩
  ·have hbf:x.broken=false:=by simpa using hbr
   rw[hbf]at hsn;simp only[h0r,if_false,h0w]at hsn;refine b0q.mono (f1u x.tree [] [(b0e pre 0).length] 0 (b0e pre 0) pre.length 0 Ar.none rfl (by omega) (by omega) hx.2 (Nat.zero_le _)) ?_;rintro v h' a' ⟨rfl,⟨z,rfl⟩,rfl⟩;simp -implicitDefEqProofs only[go_sem];exact⟨(),⟨b0g (by omega),by rw[hsn]⟩,by rw[hsn,h0h],.inr (by rw[b0m _ _ _ (b0D _),b0m _ _ _ (b0v _)];rfl)⟩
  ·have hbt:x.broken=true:=by simpa using hbr
   rw[hbt]at hsn;simp only[if_true,h0F]at hsn;exact⟨(),⟨b0g (by omega),by rw[hsn]⟩,by rw[hsn]⟩
def c6E(l:List Dl)(kind:Int)(owner name:ByteArray):Option Dl:=l.find? fun d=>decide (d.kind=kind) && decide (d.owner=owner) && decide (d.name=name)
def b2F(o:Option Dl):V := .tuple [.agg (o.getD Dl.zero).enc,.bool o.isSome]
end Go.Proofs.YtighfcpaplmaiaaGreatDoor
namespace Go.Vg
@[go_sem] theorem g7v(d:Rw):d.enc.length=5:=rfl
@[go_sem] theorem g3h(d:Rw):List.take 5 d.enc=d.enc:=rfl
@[go_sem] theorem g5a(d:Rw){K:V→Prop}:vHead d.enc K=K (.int .i64 d.parent):=rfl
@[go_sem] theorem g9e(d:Rw):List.drop 1 d.enc=[.int .i64 d.kind,.str d.text,sl 9 (d.gaps.map b0n),sl 3 (d.kids.map b0J)]:=rfl
@[go_sem] theorem g9J(d:Rw):List.drop 2 d.enc=[.str d.text,sl 9 (d.gaps.map b0n),sl 3 (d.kids.map b0J)]:=rfl
@[go_sem] theorem g9v(d:Rw):List.drop 4 d.enc=[sl 3 (d.kids.map b0J)]:=rfl
@[go_sem] theorem g3q(d:Rw):d.enc.all V.cell=true:=rfl
theorem c3y{l:List Rw}{i:Nat}{r:Rw}(h:l[i]? = some r):(l.map Rw.enc).getD i []=r.enc:=by
 rw[h0c,h0u,h];rfl
theorem b8Y{l:List Rw}{i:Int}{r:Rw}(h:l[i.toNat]? = some r):(l.map Rw.enc).getD i.toNat []=r.enc:=c3y h
theorem b7x{l:List Rw}{i:Nat}{r:Rw}(h:l[i]? = some r):(l.map Rw.enc).getD (i:Int).toNat []=r.enc:=c3y h
def okR(l:List Rw):Prop:=l.length≤1000000∧∀ (i:Nat) r,l[i]? = some r → -1≤r.parent∧r.parent<i∧r.text.size≤1000000
def b3C(l:List Rw)(at_:Nat):Option ByteArray:=match l[at_]? with
 | none=>none
 | some r=>if r.parent<0 then none else match l[r.parent.toNat]? with
  | none=>none
  | some q=>if q.kind=7 then some q.text else none
def fnR(l:List Rw):Nat→Int→ByteArray
 | 0,_=>⟨#[]⟩
 | f+1,p=>if p<0 then⟨#[]⟩else match l[p.toNat]? with
  | none=>⟨#[]⟩
  | some r=>if r.kind=2 then(match b3C l p.toNat with | some c=>c++⟨#[46]⟩++r.text | none=>r.text)else fnR l f r.parent
end Go.Vg
namespace Go.Proofs.YtighfcpaplmaiaaGreatDoor
open Go Go.Vg Go.Proofs
def b8J(o:Option ByteArray):V := .tuple [.str (o.getD ⟨#[]⟩),.bool o.isSome]
theorem d7C(l:List Rw)(hl:okR l)(at_:Nat)(ha:at_<l.length):b0s env 56 [sl 48 (l.map Rw.enc),.int .i64 at_] (b8J (b3C l at_)):=by
 have hg:=h0f ha;generalize l[at_]=r at hg;have hp:=hl.2 at_ r hg;have hln:=hl.1;refine b0i (fn:=Tryz.f56) Tryz.func56 rfl (by rw[Tryz.ntmps56];simp) (by simp -implicitDefEqProofs only[go_sem];exact b0T _) (by simp -implicitDefEqProofs only[go_sem,b8J]) ?_;simp -implicitDefEqProofs only[go_sem,Tryz.f56,b7x hg];refine⟨by omega,?_⟩;by_cases h0:r.parent<0
 ·have:b3C l at_=none:=by rw[b3C,hg];simp[h0]
  rw[this];exact⟨fun h=>absurd h0 h,fun _=>rfl⟩
 ·have hq:r.parent.toNat<l.length:=by omega
  have hgq:=h0f hq;generalize l[r.parent.toNat]=q at hgq;have hp2:=hl.2 _ q hgq;have:b3C l at_=if q.kind=7 then some q.text else none:=by rw[b3C,hg];simp[h0,hgq]
  rw[this];refine⟨fun _=>?_,fun h=>absurd h h0⟩;simp -implicitDefEqProofs only[go_sem,b8Y hgq,b7x hg];refine⟨by omega,fun h=>?_,fun h=>⟨by omega,?_⟩⟩
  ·have h7:¬ q.kind=7:=by simpa using h
   rw[if_neg h7];rfl
  ·have h7:q.kind=7:=by simpa using h
   rw[if_pos h7];rfl
theorem d2i(l:List Rw)(hl:okR l)(at_:Nat)(r:Rw)(hg:l[at_]? = some r):b0s env 57 [sl 48 (l.map Rw.enc),.int .i64 at_] (.str (fnR l (l.length+1) r.parent)):=by
 have hp:=hl.2 at_ r hg;have ha:=(h0b.1 hg).1;have hln:=hl.1;refine b0i (fn:=Tryz.f57) Tryz.func57 rfl (by rw[Tryz.ntmps57];simp) (by simp -implicitDefEqProofs only[go_sem];exact b0T _) (by simp -implicitDefEqProofs only[go_sem]) ?_;simp -implicitDefEqProofs only[go_sem,Tryz.f57,b7x hg];refine⟨by omega,?_⟩;refine b1u (α:=Int×Nat) (fun b=>⟨[(5,.int .i64 b.1),(4,.str ⟨#[]⟩),(0,sl 48 (l.map Rw.enc))],[],[]⟩) (fun b => -1≤b.1∧b.1+1<b.2∧b.1<l.length∧fnR l b.2 b.1=fnR l (l.length+1) r.parent) (fun b=>(b.1+1).toNat) (r.parent,l.length+1) ?_ ⟨hp.1,by simp;omega,by simp;omega,rfl⟩ ?_
 ·simp -implicitDefEqProofs only[go_sem]
 ·rintro⟨p,f⟩ ⟨i1,i2,i3,i4⟩;simp only at i1 i2 i3 i4;rw[←i4];simp -implicitDefEqProofs only[go_sem];obtain⟨f,rfl⟩:∃ f',f=f'+1:=⟨f - 1,by omega⟩
  refine⟨fun h0=>⟨by omega,?_⟩,fun h0=>by rw[fnR,if_pos (by omega)]⟩;have hq:p.toNat<l.length:=by omega
  have hgq:=h0f hq;generalize l[p.toNat]=q at hgq;have hp2:=hl.2 _ q hgq;have hpn:((p.toNat:Nat):Int)=p:=by omega
  have hcl:=d7C l hl p.toNat hq;rw[hpn]at hcl;rw[fnR,if_neg (by omega),hgq];simp -implicitDefEqProofs only[go_sem,b8Y hgq];have hcs:∀ c,b3C l p.toNat=some c→c.size≤1000000:=fun c hc=>by
   rw[b3C,hgq]at hc;simp only at hc;split at hc
   ·cases hc
   ·split at hc
    ·cases hc
    ·rename_i q2 hq2;split at hc
     ·cases hc;exact(hl.2 _ _ hq2).2.2
     ·cases hc
  refine⟨fun h=>?_,fun h=>?_⟩
  ·have h2:¬ q.kind=2:=by simpa using h
   refine⟨by omega,(q.parent,f),by simp only;omega,⟨by simp only;omega,by simp only;omega,by simp only;omega,by rw[if_neg h2]⟩,rfl⟩
  ·have h2:q.kind=2:=by simpa using h
   simp only[h2,if_true];cases hc:b3C l p.toNat with
   | none =>
    rw[hc]at hcl;refine hcl.cq ?_;simp -implicitDefEqProofs only[go_sem,b8J,Option.isSome,Option.getD,b8Y hgq];omega
   | some c =>
    have:=hcs c hc;rw[hc]at hcl;refine hcl.cq ?_;simp -implicitDefEqProofs only[go_sem,b8J,Option.isSome,Option.getD,b8Y hgq];have h1:(ByteArray.mk #[46]).size=1:=rfl;exact⟨by omega,by omega,by rw[ByteArray.size_append,h1];omega⟩
def b5x(k:Int):Option Int:=if k=2 then some 1 else if k=7 then some 2 else if k=9 then some 3 else if k=4 then some 5 else if k=10 then some 6 else none
def b8G:VObj := .map [(.int .i64 2,.int .i64 1),(.int .i64 7,.int .i64 2),(.int .i64 9,.int .i64 3),(.int .i64 4,.int .i64 5),(.int .i64 10,.int .i64 6)]
theorem f4R(h:List VObj)(a:List Nat)(K:b1y)(hK:K (.map h.length) (h++[b8G]) a):b0q env 55 [] h a K:=by
 refine b0y (fn:=Tryz.f55) Tryz.func55 rfl (by rw[Tryz.ntmps55];simp) ?_;simp -implicitDefEqProofs only[go_sem,Tryz.f55,Int.reduceBEq];exact hK
end Go.Proofs.YtighfcpaplmaiaaGreatDoor
