import Derived.Test.YtighfcpaplmaiaaGreatDoorUaA
set_option linter.unusedVariables false
set_option linter.unusedSimpArgs false
set_option maxRecDepth 20000
namespace Go.Vg
def c2w(d:Dl):List V:=[.int .i64 d.unit,.int .i64 d.node]
def b5f(k:Int)(n:ByteArray)(d:Dl):Bool:=decide (k=d.kind) && decide (n=d.name)
def c9n(M:List Dl)(d:Dl):List Dl:=if(M.any (b5f d.kind d.name))=false then M++[d]else M
def b1Y(l:List Dl):List Dl:=l.foldl c9n []
def c2Y(M:List Dl):List (V×V):=M.map fun d=>(.agg [.int .i64 d.kind,.str d.name],.agg (c2w d))
theorem c7Q{l:List Dl}{d:Dl}:b1Y (l++[d])=c9n (b1Y l) d:=by simp[b1Y]
theorem d4M(k:Int)(n:ByteArray):∀ (M:List Dl) (i:Nat),(∃ j e,b1f [1,0] [.int .i64 k,.str n] (c2Y M) i=some (some (j,.agg (c2w e)))∧M.find? (b5f k n)=some e)∨(b1f [1,0] [.int .i64 k,.str n] (c2Y M) i=some none∧M.find? (b5f k n)=none)
 | [],i => .inr ⟨rfl,rfl⟩
 | e::r,i=>by
  have heq:eqL [V.int .i64 k,V.str n] [V.int .i64 e.kind,V.str e.name]=some (b5f k n e):=by
   simp only[eqL,eq1,h0b];rfl
  have h1:b1f [1,0] [.int .i64 k,.str n] (c2Y (e::r)) i=if b5f k n e=true then some (some (i,.agg (c2w e)))else b1f [1,0] [.int .i64 k,.str n] (c2Y r) (i+1):=by
   simp only[c2Y,g9o,b1f,heq]
   have hf:b3A [1,0] [V.int .i64 k,V.str n] [V.int .i64 e.kind,V.str e.name]=true:=rfl
   rw[if_pos hf]
   cases b5f k n e <;> rfl
  rw[h1,g9S]
  by_cases h:b5f k n e=true
  ·exact .inl ⟨i,e,by rw[if_pos h],by rw[h]⟩
  ·rw[if_neg h]
   have:b5f k n e=false:=by simpa using h
   rw[this]
   exact d4M k n r (i+1)
theorem c7q{M:List Dl}{p:Dl→Bool}(h:M.find? p=none):M.any p=false:=by
 rw[List.any_eq_false]
 intro x hx
 have:=List.find?_eq_none.1 h x hx
 simpa using this
theorem c7c{M:List Dl}{p:Dl→Bool}{e:Dl}(h:M.find? p=some e):M.any p=true:=by
 rw[g9W]
 exact⟨e,g9V h,List.find?_some h⟩
end Go.Vg
namespace Go.Proofs.YtighfcpaplmaiaaGreatDoor
open Go Go.Vg Go.Proofs
theorem g4a{M:List Dl}{d:Dl}{h:List VObj}{id:Nat}{L:List VObj→Prop}(hn:(M.any (b5f d.kind d.name))=false):b3I h id (c2Y M) (.agg [.int .i64 d.kind,.str d.name]) (.agg [.int .i64 d.unit,.int .i64 d.node]) (b1f [1,0] [.int .i64 d.kind,.str d.name] (c2Y M) 0) L=L (h.set id (.map (c2Y (M++[d])))):=by
 rcases d4M d.kind d.name M 0 with⟨j,v,h1,h2⟩ | ⟨h1,h2⟩
 ·rw[c7c h2]at hn;cases hn
 ·rw[h1];simp -implicitDefEqProofs only[go_sem];simp[c2Y,c2w]
theorem b7w(k ka:Nat):∀ M:List Dl,ltP k ka (c2Y M)=true
 | []=>rfl
 | x::r=>by
  have:=b7w k ka r
  have hx:(V.agg (c2w x)).lt k ka=true:=by simp[V.lt,c2w,ltL]
  simp only[c2Y,g9o,ltP]at this ⊢
  rw[hx,this]
  simp[V.lt,ltL]
theorem b4O:b3f Tryz.prog 228=some [1,0]:=by kernel_rfl
def b0e(u:List Un):List (List Rw):=u.map fun x=>if x.broken=true then []else b0z x.tree (-1) 0
def b0q(l:List Rw):List V:=[sl 48 (l.map Rw.enc)]
theorem c7i:b2Q Tryz.prog 24 = .agg [.int .i64 0,.int .i64 0]:=by kernel_rfl
theorem b1e:∀ l:List (List Rw),b0R (l.map b0q)=true
 | []=>rfl
 | x::r=>by
  show(b1a (b0q x) && b0R (r.map b0q))=true
  rw[b1e r]
  unfold b0q
  simp -implicitDefEqProofs only[go_sem]
  exact b0X x
theorem f2U(u:List Un)(hu:b2T u):b0r env 142 [sl 70 (u.map Un.enc)] [] [] fun v h a =>
  v = .ptr 1 0∧h=[.map (c2Y (b1Y (b0f u 0))),.cells [.slice (.arr 0) 45 ((b0e u).map b0q),.map 0,sl 54 ((b0f u 0).map Dl.enc)]]∧a=[u.length]:=by
 have hD:=c9R u hu
 rw[b5R]at hD
 have hdl:=b0L u 0 fun y hy=>(hu.2 y hy).1
 have hul:=hu.1
 have hfit:=hu.2
 refine b0A (fn:=Tryz.f142) Tryz.func142 rfl (by rw[Tryz.ntmps142];simp) ?_
 simp -implicitDefEqProofs only[go_sem,Tryz.f142]
 refine hD.calls (by simp -implicitDefEqProofs only[go_sem]) ?_
 simp -implicitDefEqProofs only[go_sem]
 intro _ _
 generalize b0f u 0=dl at hdl ⊢
 refine b0n (β:=Unit) u (fun pre _=>⟨[(19,.int .i64 pre.length),(18,.int .i64 u.length),(17,sl 70 (u.map Un.enc)),(3,.ptr 1 0)],
   [.map [],.cells [.slice (.arr 0) 45 ((b0e pre).map b0q),.map 0,sl 54 (dl.map Dl.enc)]],[pre.length]⟩) (fun _ _ _=>True) () ?_ trivial ?_ ?_
 ·simp -implicitDefEqProofs only[go_sem]
  exact⟨rfl,rfl⟩
 ·intro _ _
  simp -implicitDefEqProofs only[go_sem]
  intro _ _
  have htp:=b1e (b0e u)
  generalize(b0e u).map b0q=tt at htp ⊢
  refine b0n (β:=Unit) dl (fun pre _=>⟨[(45,.int .i64 pre.length),(44,.int .i64 dl.length),(43,sl 54 (dl.map Dl.enc)),(3,.ptr 1 0)],
   [.map (c2Y (b1Y pre)),.cells [.slice (.arr 0) 45 tt,.map 0,sl 54 (dl.map Dl.enc)]],[u.length]⟩) (fun _ _ _=>True) () ?_ trivial ?_ ?_
  ·simp -implicitDefEqProofs only[go_sem]
   exact⟨rfl,rfl⟩
  ·intro _ _
   simp -implicitDefEqProofs only[go_sem]
  ·rintro pre d post _ hx _
   have hpl:dl.length=pre.length+1+post.length:=by rw[hx];simp;omega
   have hgx:(dl.map Dl.enc).getD (pre.length:Int).toNat []=d.enc:=by rw[hx];simp[g8Z]
   have hw:IntKind.i64.wrap (↑pre.length+1)=↑(pre.length+1):=b0g (by omega)
   have hlt:((pre.length:Int)<dl.length)=True:=by simp;omega
   have hsn:=@c7Q pre d
   simp -implicitDefEqProofs only[go_sem,hgx,hlt]
   refine b0h (cs:=[]) b0v (by kernel_rfl) ?_
   simp -implicitDefEqProofs only[go_sem,hgx,hlt,b4O]
   rcases d4M d.kind d.name (b1Y pre) 0 with⟨j,e,q1,q2⟩ | ⟨q1,q2⟩
   ·have hpg:b1Y (pre++[d])=b1Y pre:=by rw[hsn,c9n,if_neg (by rw[c7c q2];simp)]
    rw[q1]
    simp -implicitDefEqProofs only[go_sem]
    rw[hpg,b7w,b0m _ _ _ (b0G _),b0m _ _ _ htp]
    exact⟨⟨rfl,rfl,g9m 2⟩,(),hw,rfl,.inr ⟨rfl,rfl⟩⟩
   ·have hpg:b1Y (pre++[d])=b1Y pre++[d]:=by rw[hsn,c9n,if_pos (c7q q2)]
    have hno:=c7q q2
    rw[q1]
    simp -implicitDefEqProofs only[go_sem,c7i]
    refine b0h (cs:=[]) b0v (by kernel_rfl) ?_
    simp -implicitDefEqProofs only[go_sem,b4O,g4a hno]
    rw[hpg,b7w,b0m _ _ _ (b0G _),b0m _ _ _ htp]
    exact⟨(),hw,rfl,.inr ⟨rfl,rfl⟩⟩
 ·rintro pre x post _ hx _
  have hpl:u.length=pre.length+1+post.length:=by rw[hx];simp;omega
  have hgx:(u.map Un.enc).getD (pre.length:Int).toNat []=x.enc:=by rw[hx];simp[g8Z]
  have hw:IntKind.i64.wrap (↑pre.length+1)=↑(pre.length+1):=b0g (by omega)
  have hlt:((pre.length:Int)<u.length)=True:=by simp;omega
  have hxn:=(hfit x (by rw[hx];simp)).1
  have hR:=d6d x.tree (by omega)
  simp -implicitDefEqProofs only[go_sem,hgx,hlt]
  have htl:(b0e pre).length=pre.length:=by simp[b0e]
  have hts:b0e (pre++[x])=b0e pre++[if x.broken=true then []else b0z x.tree (-1) 0]:=by simp[b0e]
  refine⟨fun hb=>?_,fun hb=>?_⟩
  ·refine hR.calls (by simp -implicitDefEqProofs only[go_sem]) ?_
   simp -implicitDefEqProofs only[go_sem]
   have hb':x.broken=false:=by simpa using hb
   rw[hts,if_neg (by rw[hb'];simp),g9I]
   have hp:=b1e (b0e pre++[b0z x.tree (-1) 0])
   rw[g9I]at hp
   refine⟨by omega,by rw[htl],(),hw,rfl,htl,.inr ⟨?_,b0m _ _ _ (b0x _)⟩⟩
   have h1:=b0m 2 1 _ hp
   have h2:=b0m 2 1 _ (b0G dl)
   rw[h2,h0b]
   exact h1
  ·have hb':x.broken=true:=by simpa using hb
   rw[hts,if_pos hb',g9I]
   have hp:=b1e (b0e pre++[[]])
   rw[g9I]at hp
   refine⟨by omega,by rw[htl],(),hw,rfl,htl,.inr ⟨?_,b0m _ _ _ (b0x _)⟩⟩
   have h1:=b0m 2 1 _ hp
   have h2:=b0m 2 1 _ (b0G dl)
   rw[h2,h0b]
   exact h1
end Go.Proofs.YtighfcpaplmaiaaGreatDoor
namespace Go.Vg
def b6I(k:Int)(t:ByteArray):Int×Bool:=if k=19∨k=11 then(3,true)else if k=20 then(1,true)else if k=22 then(2,true)else if k=5 then(2,!decide (t=⟨#[105,110,116]⟩) && !decide (t=⟨#[98,111,111,108]⟩))else if k=8 then(2,!decide (t=⟨#[]⟩))else(0,false)
end Go.Vg
namespace Go.Proofs.YtighfcpaplmaiaaGreatDoor
open Go Go.Vg Go.Proofs
theorem f9F(tb:List (List Rw))(ds:V)(h:List VObj)(a:List Nat)(un i:Nat)(l:List Rw)(hh:h[1]? = some (.cells [.slice (.arr 0) 45 (tb.map b0q),.map 0,ds]))(hl:tb[un]? = some l)(hi:i<l.length)(hds:ds.some? = true) :
  b0r env 182 [.ptr 1 0,.agg [.int .i64 un,.int .i64 i]] h a fun v h' a'=>v = .tuple [.int .i64 (b6I (b0j l i).kind (b0j l i).text).1,.bool (b6I (b0j l i).kind (b0j l i).text).2]∧(∃ z,h'=h++z)∧a'=a:=by
 have hlt1:1<h.length:=(g8Y.1 hh).1
 have htu:(tb.map b0q).getD (un:Int).toNat []=b0q l:=by simp[g8Z,hl]
 have hul:((un:Int)<tb.length)=True:=by
  have:=(g8Y.1 hl).1
  simp;omega
 have hrg:=b0F hi
 have hil:((i:Int)<l.length)=True:=by simp;omega
 generalize b0j l i=r at hrg
 obtain⟨pp,k,t,g,kids⟩:=r
 simp only
 refine b0A (fn:=Tryz.f182) Tryz.func182 rfl (by rw[Tryz.ntmps182];simp) ?_
 by_cases h19:k=19
 ·subst h19
  simp -implicitDefEqProofs only[go_sem,Tryz.f182]
  refine b0h (cs:=[]) b0v (by kernel_rfl) ?_
  simp -implicitDefEqProofs only[go_sem,b0K hh,b1h hlt1,b3C,b1N,b3B,b1P,b1I,htu,hul,b0q,hrg,hil,Rw.enc]
  exact⟨rfl,_,rfl⟩
 by_cases h11:k=11
 ·subst h11
  simp -implicitDefEqProofs only[go_sem,Tryz.f182]
  refine b0h (cs:=[]) b0v (by kernel_rfl) ?_
  simp -implicitDefEqProofs only[go_sem,b0K hh,b1h hlt1,b3C,b1N,b3B,b1P,b1I,htu,hul,b0q,hrg,hil,Rw.enc]
  exact⟨rfl,_,rfl⟩
 by_cases h20:k=20
 ·subst h20
  simp -implicitDefEqProofs only[go_sem,Tryz.f182]
  refine b0h (cs:=[]) b0v (by kernel_rfl) ?_
  simp -implicitDefEqProofs only[go_sem,b0K hh,b1h hlt1,b3C,b1N,b3B,b1P,b1I,htu,hul,b0q,hrg,hil,Rw.enc]
  exact⟨rfl,_,rfl⟩
 by_cases h22:k=22
 ·subst h22
  simp -implicitDefEqProofs only[go_sem,Tryz.f182]
  refine b0h (cs:=[]) b0v (by kernel_rfl) ?_
  simp -implicitDefEqProofs only[go_sem,b0K hh,b1h hlt1,b3C,b1N,b3B,b1P,b1I,htu,hul,b0q,hrg,hil,Rw.enc]
  exact⟨rfl,_,rfl⟩
 by_cases h5:k=5
 ·subst h5
  simp -implicitDefEqProofs only[go_sem,Tryz.f182]
  refine b0h (cs:=[]) b0v (by kernel_rfl) ?_
  simp -implicitDefEqProofs only[go_sem,b0K hh,b1h hlt1,b3C,b1N,b3B,b1P,b1I,htu,hul,b0q,hrg,hil,Rw.enc]
  refine b0h (cs:=[]) b0v (by kernel_rfl) ?_
  simp -implicitDefEqProofs only[go_sem,b3C,b1N,b3B,b1P,b1I]
  have e5:b6I 5 t=(2,!decide (t=⟨#[105,110,116]⟩) && !decide (t=⟨#[98,111,111,108]⟩)):=by simp[b6I]
  rw[e5]
  exact⟨fun h=>⟨by rw[h,g9O],_,rfl⟩,fun h=>⟨by rw[h,g9Q],_,rfl⟩⟩
 by_cases h8:k=8
 ·subst h8
  simp -implicitDefEqProofs only[go_sem,Tryz.f182]
  refine b0h (cs:=[]) b0v (by kernel_rfl) ?_
  simp -implicitDefEqProofs only[go_sem,b0K hh,b1h hlt1,b3C,b1N,b3B,b1P,b1I,htu,hul,b0q,hrg,hil,Rw.enc]
  refine b0h (cs:=[]) b0v (by kernel_rfl) ?_
  simp -implicitDefEqProofs only[go_sem,b3C,b1N,b3B,b1P,b1I]
  have e8:b6I 8 t=(2,!decide (t=⟨#[]⟩)):=by simp[b6I]
  rw[e8]
  exact⟨rfl,_,rfl⟩
 simp -implicitDefEqProofs only[go_sem,Tryz.f182]
 refine b0h (cs:=[]) b0v (by kernel_rfl) ?_
 simp -implicitDefEqProofs only[go_sem,b0K hh,b1h hlt1,b3C,b1N,b3B,b1P,b1I,htu,hul,b0q,hrg,hil,Rw.enc,h19,h11,h20,h22,h5,h8]
 refine⟨?_,_,rfl⟩
 simp[b6I,h19,h11,h20,h22,h5,h8]
theorem f3a(l:List Rw)(t:ByteArray)(f:Int)(n A B C:Nat)(h:List VObj)(a:List Nat)(hA:h[A]? = some (.cells [sl 48 (l.map Rw.enc)]))(hB:h[B]? = some (.cells [.str t]))(hC:h[C]? = some (.cells [.int .i64 f]))(hn:n<l.length) :
  b0r env 211 [.int .i64 n,.ptr A 0,.ptr B 0,.ptr C 0] h a fun v h' a'=>v = .bool (decide ((if(b0j l n).text=t then(n:Int)else f)<0))∧(∃ z,h'=h.set C (.cells [.int .i64 (if(b0j l n).text=t then(n:Int)else f)])++z)∧a'=a:=by
 have hlC:C<h.length:=(g8Y.1 hC).1
 have hrg:=b0F hn
 have hil:((n:Int)<l.length)=True:=by simp;omega
 refine b0A (fn:=Tryz.f211) Tryz.func211 rfl (by rw[Tryz.ntmps211];simp) ?_
 simp -implicitDefEqProofs only[go_sem,Tryz.f211]
 try refine b0h (cs:=[]) b0v (by kernel_rfl) ?_
 simp -implicitDefEqProofs only[go_sem,hA,hB,hC,hrg,hil,Rw.enc]
 refine⟨fun he=>?_,fun he=>?_⟩
 ·have hg:(h.set C (.cells [.int .i64 (n:Int)]))[C]? = some (.cells [.int .i64 (n:Int)]):=g9e hlC
  simp -implicitDefEqProofs only[go_sem,hg]
  rw[if_pos he]
  exact⟨rfl,[],by simp⟩
 ·rw[if_neg he]
  exact⟨rfl,[],by rw[b3j hC];simp⟩
end Go.Proofs.YtighfcpaplmaiaaGreatDoor
namespace Go.Vg
def b2u(k:Nat)(ks:List Nat):List Nat:=ks.takeWhile fun c => !decide (c=k)
def b2g(l:List Rw)(p k c:Nat):List Nat:=(if(b0j l p).kind=6∧(b0j l c).kind=10 then [c]else [])++(if(b0j l p).kind=2∧(b0j l k).kind=6∧(b0j l c).kind=3 then(b0j l c).kids.filter fun q=>decide ((b0j l q).kind=4)else [])
def c3w(l:List Rw)(p k:Nat):List Nat:=(b2u k (b0j l p).kids).flatMap (b2g l p k)
def b7r(l:List Rw):Nat→Nat→List Nat
 | 0,_=>[]
 | f+1,k=>if(b0j l k).parent<0 then []else c3w l (b0j l k).parent.toNat k++(if(b0j l (b0j l k).parent.toNat).kind=2 then []else b7r l f (b0j l k).parent.toNat)
structure rowsOK(l:List Rw):Prop where
 len:l.length≤1000000
 kids:∀ i<l.length,(b0j l i).kids.length≤1000000∧∀ c∈(b0j l i).kids,c<l.length
 par:∀ i<l.length,(b0j l i).parent<i ∧ -1≤(b0j l i).parent
def b1j(l:List Rw)(t:ByteArray)(vs:List Nat):Int:=match vs.find? fun n=>decide ((b0j l n).text=t)with | some n=>n | none => -1
end Go.Vg
namespace Go.Proofs.YtighfcpaplmaiaaGreatDoor
open Go Go.Vg Go.Proofs
theorem c9G{l:List Rw}(hr:rowsOK l):∀ (f g k:Nat),k<l.length→k<f→k<g→b7r l f k=b7r l g k:=by
 intro f
 induction f with
 | zero=>intro g k _ h;omega
 | succ f ih =>
  intro g k hk hf hg
  have hp:=hr.par k hk
  cases g with
  | zero=>omega
  | succ g =>
   rw[b7r,b7r]
   by_cases h0:(b0j l k).parent<0
   ·rw[if_pos h0,if_pos h0]
   ·rw[if_neg h0,if_neg h0,ih g _ (by omega) (by omega) (by omega)]
theorem b8N{l:List Rw}{t:ByteArray}{n:Nat}{r:List Nat}:b1j l t (n::r)=if(b0j l n).text=t then(n:Int)else b1j l t r:=by
 unfold b1j
 rw[g9S]
 by_cases h:(b0j l n).text=t
 ·rw[if_pos h,g9D h]
 ·rw[if_neg h,g9v h]
theorem c6c(tb:List (List Rw))(ds:V)(h:List VObj)(a:List Nat)(un i A B C:Nat)(l:List Rw)(t:ByteArray)(hh:h[1]? = some (.cells [.slice (.arr 0) 45 (tb.map b0q),.map 0,ds]))(hl:tb[un]? = some l)(hi:i<l.length)(hds:ds.some? = true)
  (hA:h[A]? = some (.cells [sl 48 (l.map Rw.enc)])) (hB:h[B]? = some (.cells [.str t])) (hC:h[C]? = some (.cells [.int .i64 (-1)])) (hne:C≠1∧C≠A∧C≠B) (hr:rowsOK l) :
  b0r env 210 [.ptr 1 0,.agg [.int .i64 un,.int .i64 i],.func 211 [.ptr A 0,.ptr B 0,.ptr C 0]] h a fun v h' a' =>
   v = .tuple []∧(∃ z,h'=h.set C (.cells [.int .i64 (b1j l t (b7r l (i+1) i))])++z)∧a'=a:=by
 have hlt1:1<h.length:=(g8Y.1 hh).1
 have hlC:C<h.length:=(g8Y.1 hC).1
 have htu:(tb.map b0q).getD (un:Int).toNat []=b0q l:=by simp[g8Z,hl]
 have hul:((un:Int)<tb.length)=True:=by
  have:=(g8Y.1 hl).1
  simp;omega
 have hrg:=b0F hi
 have hil:((i:Int)<l.length)=True:=by simp;omega
 refine b0A (fn:=Tryz.f210) Tryz.func210 rfl (by rw[Tryz.ntmps210];simp) ?_
 simp -implicitDefEqProofs only[go_sem,Tryz.f210]
 refine b0h (cs:=[]) b0v (by kernel_rfl) ?_
 simp -implicitDefEqProofs only[go_sem,b0K hh,b1h hlt1,b3C,b1N,b3B,b1P,b1I,htu,hul,b0q,hrg,hil,Rw.enc]
 refine b0h (cs:=[]) b0v (by kernel_rfl) ?_
 simp -implicitDefEqProofs only[go_sem,b0K hh,b1h hlt1,b3C,b1N,b3B,b1P,b1I,htu,hul,b0q,hrg,hil,Rw.enc]
 refine b1A (α:=Nat×List VObj) (fun b=>⟨[(8,.int .i64 (b0j l b.1).parent),(7,.int .i64 b.1),(6,sl 48 (l.map Rw.enc)),(4,.ptr h.length 0),(2,.func 211 [.ptr A 0,.ptr B 0,.ptr C 0])],h ++ .cells [.int .i64 un,.int .i64 i]::b.2,a⟩) (fun b=>b.1<l.length∧b1j l t (b7r l (i+1) i)=b1j l t (b7r l (b.1+1) b.1)) (fun b=>b.1) (i,[]) ?_ ⟨hi,rfl⟩ ?_
 ·simp -implicitDefEqProofs only[go_sem]
  try rfl
 ·rintro⟨k,zz⟩ ⟨hk,hf⟩
  simp only at hk hf ⊢
  have hkr:=b0F hk
  have hpar:=hr.par k hk
  simp -implicitDefEqProofs only[go_sem]
  refine⟨fun hp=>?_,fun hp=>?_⟩
  ·obtain⟨p,hpe⟩:=g9T hp
   have hpk:p<k:=by omega
   have hpl:p<l.length:=by omega
   have hgp:=b0F hpl
   have hplt:((p:Int)<l.length)=True:=by simp;omega
   have hp0:(0≤(p:Int))=True:=by simp
   have hvis:b7r l (k+1) k=c3w l p k++(if(b0j l p).kind=2 then []else b7r l (p+1) p):=by
    rw[b7r,if_neg (by omega),hpe]
    simp only[Int.ofNat_eq_natCast,g9j]
    rw[c9G hr k (p+1) p hpl hpk (by omega)]
   rw[hpe]
   simp -implicitDefEqProofs only[go_sem,hgp,hplt,hp0,Rw.enc]
   intro _ _
   obtain⟨hkl,hkc⟩:=hr.kids p hpl
   rw[hvis,c3w]at hf
   generalize hRE:(if(b0j l p).kind=2 then []else b7r l (p+1) p)=RE at hf
   generalize hks:(b0j l p).kids=ks at hf hkl hkc ⊢
   refine b0n (β:=List VObj) ks (fun pre zz=>⟨[(43,.int .i64 pre.length),(42,.int .i64 ks.length),(41,sl 3 (ks.map b0M)),(8,.int .i64 p),(7,.int .i64 k),(6,sl 48 (l.map Rw.enc)),(4,.ptr h.length 0),(2,.func 211 [.ptr A 0,.ptr B 0,.ptr C 0])],h ++ .cells [.int .i64 un,.int .i64 i]::zz,a⟩)
    (fun pre post _=>b1j l t (b7r l (i+1) i)=b1j l t ((b2u k post).flatMap (b2g l p k)++RE)) zz ?_ hf ?_ ?_
   ·simp -implicitDefEqProofs only[go_sem]
    try rfl
   ·intro z1 hi1
    rw[show b2u k []=[]from rfl,List.flatMap_nil,g9M]at hi1
    simp -implicitDefEqProofs only[go_sem,hgp,hplt,hp0,Rw.enc]
    refine⟨fun h2=>?_,fun h2=>?_⟩
    ·rw[if_pos h2]at hRE
     rw[hi1,←hRE,show b1j l t [] = -1 from rfl,b3j hC]
     exact⟨_,rfl⟩
    ·rw[if_neg h2]at hRE
     rw[←hRE]at hi1
     refine b0h (cs:=[]) b0v (by kernel_rfl) ?_
     simp -implicitDefEqProofs only[go_sem,hgp,hplt,hp0,Rw.enc]
     exact⟨(p,z1),by simp;omega,⟨hpl,hi1⟩,⟨rfl,rfl⟩,b0s,.inl (g9m _)⟩
   ·rintro pre c post z1 hx hi1
    have hpl2:ks.length=pre.length+1+post.length:=by rw[hx];simp;omega
    have hgc:(ks.map b0M).getD (pre.length:Int).toNat []=b0M c:=by rw[hx];simp[g8Z]
    have hw:IntKind.i64.wrap (↑pre.length+1)=↑(pre.length+1):=b0g (by omega)
    have hlt:((pre.length:Int)<ks.length)=True:=by simp;omega
    have hcl:=hkc c (by rw[hx];simp)
    have hcr:=b0F hcl
    have hclt:((c:Int)<l.length)=True:=by simp;omega
    have hc0:(0≤(c:Int))=True:=by simp
    by_cases hck:c=k
    ·have hb0:b2u k (c::post)=[]:=by simp[b2u,hck]
     rw[hb0,List.flatMap_nil,g9M]at hi1
     subst hck
     simp -implicitDefEqProofs only[go_sem,hgc,hlt,hcr,hclt,hc0,Rw.enc,b0M,hgp,hplt,hp0]
     refine⟨fun h2=>?_,fun h2=>?_⟩
     ·rw[if_pos h2]at hRE
      rw[hi1,←hRE,show b1j l t [] = -1 from rfl,b3j hC]
      exact⟨_,rfl⟩
     ·rw[if_neg h2]at hRE
      rw[←hRE]at hi1
      refine b0h (cs:=[]) b0v (by kernel_rfl) ?_
      simp -implicitDefEqProofs only[go_sem,hgp,hplt,hp0,Rw.enc]
      exact⟨(p,z1),by simp;omega,⟨hpl,hi1⟩,⟨rfl,rfl⟩,b0s,.inl (g9m _)⟩
    ·have hb1:b2u k (c::post)=c::b2u k post:=by simp[b2u,hck]
     have hckI:((c:Int)=k)=False:=by simp;omega
     rw[hb1,List.flatMap_cons,g9t]at hi1
     have hzlen:h.length≤(h++VObj.cells [.int .i64 un,.int .i64 i]::z1).length:=by simp
     have gA:(h++VObj.cells [.int .i64 un,.int .i64 i]::z1)[A]? = some (.cells [sl 48 (l.map Rw.enc)]):=b0K hA
     have gB:(h++VObj.cells [.int .i64 un,.int .i64 i]::z1)[B]? = some (.cells [.str t]):=b0K hB
     have gC:(h++VObj.cells [.int .i64 un,.int .i64 i]::z1)[C]? = some (.cells [.int .i64 (-1)]):=b0K hC
     have hcall:=f3a l t (-1) c A B C _ a gA gB gC hcl
     have hgk:=b0F hk
     have hklt:((k:Int)<l.length)=True:=by simp;omega
     by_cases hp6:(b0j l p).kind=6
     ·by_cases hc10:(b0j l c).kind=10
      ·have hla:b2g l p k c=[c]:=by simp[b2g,hp6,hc10]
       rw[hla,List.singleton_append,b8N]at hi1
       simp -implicitDefEqProofs only[go_sem,hgc,hlt,hcr,hclt,hc0,Rw.enc,b0M,hgp,hplt,hp0,hckI,hp6,hc10]
       refine b0r.mono hcall ?_
       rintro v h' a' ⟨rfl,⟨z2,rfl⟩,rfl⟩
       by_cases ht:(b0j l c).text=t
       ·rw[if_pos ht]at hi1
        have hneg:decide ((c:Int)<0)=false:=by simp
        rw[if_pos ht,hneg]
        simp -implicitDefEqProofs only[go_sem]
        rw[hi1,b1h hlC,g9t]
        exact⟨_,rfl⟩
       ·rw[if_neg ht]at hi1
        rw[if_neg ht,b3j gC]
        have hneg:decide ((-1:Int)<0)=true:=rfl
        rw[hneg]
        simp -implicitDefEqProofs only[go_sem,hgp,hplt,hp0,hp6,Rw.enc]
        exact⟨z1++z2,hi1,hw,b0s,.inl (by simp)⟩
      ·have hla:b2g l p k c=[]:=by simp[b2g,hp6,hc10]
       rw[hla,g9M]at hi1
       simp -implicitDefEqProofs only[go_sem,hgc,hlt,hcr,hclt,hc0,Rw.enc,b0M,hgp,hplt,hp0,hckI,hp6,hc10]
       exact⟨z1,hi1,hw,b0s,.inl (g9m _)⟩
     ·by_cases hp2:(b0j l p).kind=2∧(b0j l k).kind=6∧(b0j l c).kind=3
      ·obtain⟨h2,hk6,hc3⟩:=hp2
       have hla:b2g l p k c=(b0j l c).kids.filter fun q=>decide ((b0j l q).kind=4):=by simp[b2g,h2,hk6,hc3]
       rw[hla]at hi1
       simp -implicitDefEqProofs only[go_sem,hgc,hlt,hcr,hclt,hc0,Rw.enc,b0M,hgp,hplt,hp0,hckI,h2,hk6,hc3,hgk,hklt]
       intro _ _
       obtain⟨hql,hqc⟩:=hr.kids c hcl
       generalize hRS:(b2u k post).flatMap (b2g l p k)++RE=RS at hi1
       generalize(b0j l c).kids=qs at hi1 hql hqc ⊢
       refine b0n (β:=List VObj) qs (fun qp zz=>⟨[(98,.int .i64 qp.length),(97,.int .i64 qs.length),(96,sl 3 (qs.map b0M)),(43,.int .i64 pre.length),(42,.int .i64 ks.length),(41,sl 3 (ks.map b0M)),(8,.int .i64 p),(7,.int .i64 k),(6,sl 48 (l.map Rw.enc)),(4,.ptr h.length 0),(2,.func 211 [.ptr A 0,.ptr B 0,.ptr C 0])],h ++ .cells [.int .i64 un,.int .i64 i]::zz,a⟩)
        (fun qp qo _=>b1j l t (b7r l (i+1) i)=b1j l t ((qo.filter fun q=>decide ((b0j l q).kind=4))++RS)) z1 ?_ hi1 ?_ ?_
       ·simp -implicitDefEqProofs only[go_sem]
        try rfl
       ·intro z3 hi3
        rw[List.filter_nil,g9M,←hRS]at hi3
        simp -implicitDefEqProofs only[go_sem,hgp,hplt,hp0,Rw.enc]
        exact⟨z3,hi3,hw,b0s,.inl (g9m _)⟩
       ·rintro qp q qo z3 hq hi3
        have hqpl:qs.length=qp.length+1+qo.length:=by rw[hq];simp;omega
        have hgq:(qs.map b0M).getD (qp.length:Int).toNat []=b0M q:=by rw[hq];simp[g8Z]
        have hwq:IntKind.i64.wrap (↑qp.length+1)=↑(qp.length+1):=b0g (by omega)
        have hltq:((qp.length:Int)<qs.length)=True:=by simp;omega
        have hqll:=hqc q (by rw[hq];simp)
        have hqr:=b0F hqll
        have hqlt:((q:Int)<l.length)=True:=by simp;omega
        have hq0:(0≤(q:Int))=True:=by simp
        have gA:(h++VObj.cells [.int .i64 un,.int .i64 i]::z3)[A]? = some (.cells [sl 48 (l.map Rw.enc)]):=b0K hA
        have gB:(h++VObj.cells [.int .i64 un,.int .i64 i]::z3)[B]? = some (.cells [.str t]):=b0K hB
        have gC:(h++VObj.cells [.int .i64 un,.int .i64 i]::z3)[C]? = some (.cells [.int .i64 (-1)]):=b0K hC
        have hcall:=f3a l t (-1) q A B C _ a gA gB gC hqll
        by_cases hq4:(b0j l q).kind=4
        ·have hfl:((q::qo).filter fun q=>decide ((b0j l q).kind=4))=q::(qo.filter fun q=>decide ((b0j l q).kind=4)):=by simp[hq4]
         rw[hfl,g8X,b8N]at hi3
         simp -implicitDefEqProofs only[go_sem,hgq,hltq,hqr,hqlt,hq0,Rw.enc,b0M,hq4]
         refine b0r.mono hcall ?_
         rintro v h' a' ⟨rfl,⟨z4,rfl⟩,rfl⟩
         by_cases ht:(b0j l q).text=t
         ·rw[if_pos ht]at hi3
          have hneg:decide ((q:Int)<0)=false:=by simp
          rw[if_pos ht,hneg]
          simp -implicitDefEqProofs only[go_sem]
          rw[hi3,b1h hlC,g9t]
          exact⟨_,rfl⟩
         ·rw[if_neg ht]at hi3
          rw[if_neg ht,b3j gC]
          have hneg:decide ((-1:Int)<0)=true:=rfl
          rw[hneg]
          simp -implicitDefEqProofs only[go_sem]
          exact⟨z3++z4,hi3,hwq,b0s,.inl (by simp)⟩
        ·have hfl:((q::qo).filter fun q=>decide ((b0j l q).kind=4))=(qo.filter fun q=>decide ((b0j l q).kind=4)):=by simp[hq4]
         rw[hfl]at hi3
         simp -implicitDefEqProofs only[go_sem,hgq,hltq,hqr,hqlt,hq0,Rw.enc,b0M,hq4]
         exact⟨z3,hi3,hwq,b0s,.inl (g9m _)⟩
      ·have hla:b2g l p k c=[]:=by
        unfold b2g
        rw[if_neg (fun h=>hp6 h.1),if_neg hp2];rfl
       rw[hla,g9M]at hi1
       by_cases h2:(b0j l p).kind=2
       ·by_cases hk6:(b0j l k).kind=6
        ·have hc3:¬ (b0j l c).kind=3:=fun h=>hp2 ⟨h2,hk6,h⟩
         simp -implicitDefEqProofs only[go_sem,hgc,hlt,hcr,hclt,hc0,Rw.enc,b0M,hgp,hplt,hp0,hckI,hp6,h2,hk6,hc3,hgk,hklt]
         exact⟨z1,hi1,hw,b0s,.inl (g9m _)⟩
        ·simp -implicitDefEqProofs only[go_sem,hgc,hlt,hcr,hclt,hc0,Rw.enc,b0M,hgp,hplt,hp0,hckI,hp6,h2,hk6,hgk,hklt]
         exact⟨z1,hi1,hw,b0s,.inl (g9m _)⟩
       ·simp -implicitDefEqProofs only[go_sem,hgc,hlt,hcr,hclt,hc0,Rw.enc,b0M,hgp,hplt,hp0,hckI,hp6,h2,hgk,hklt]
        exact⟨z1,hi1,hw,b0s,.inl (g9m _)⟩
  ·have:b7r l (k+1) k=[]:=by rw[b7r,if_pos (by omega)]
   rw[hf,this]
   refine⟨.cells [.int .i64 un,.int .i64 i]::zz,?_⟩
   rw[show b1j l t [] = -1 from rfl,b3j hC]
def c2T(l:List Rw)(M:List Dl)(un i:Nat)(k:Int):Option (Int×Int):=if k=3∧0≤b1j l (b0j l i).text (b7r l (i+1) i)then some (un,b1j l (b0j l i).text (b7r l (i+1) i))else(M.find? (b5f k (b0j l i).text)).map fun d=>(d.unit,d.node)
def c0R(o:Option (Int×Int)):V := .tuple [.agg [.int .i64 ((o.map (·.1)).getD 0),.int .i64 ((o.map (·.2)).getD 0)],.bool o.isSome]
theorem c3X(l:List Rw)(t:ByteArray)(vs:List Nat) : -1≤b1j l t vs:=by
 unfold b1j
 split <;> omega
theorem d2d{M:List Dl}{k:Int}{n:ByteArray}{K:V→Prop}:b1G env 24 (b1f [1,0] [.int .i64 k,.str n] (c2Y M) 0) true K=K (.tuple [.agg [.int .i64 (((M.find? (b5f k n)).map (·.unit)).getD 0),.int .i64 (((M.find? (b5f k n)).map (·.node)).getD 0)],.bool (M.find? (b5f k n)).isSome]):=by
 rcases d4M k n M 0 with⟨j,v,h1,h2⟩ | ⟨h1,h2⟩
 ·rw[h1,h2];simp -implicitDefEqProofs only[go_sem];rfl
 ·rw[h1,h2];simp -implicitDefEqProofs only[go_sem,c7i];rfl
theorem d1U(tb:List (List Rw))(M:List Dl)(ds:V)(h:List VObj)(a:List Nat)(un i:Nat)(l:List Rw)(hm:h[0]? = some (.map (c2Y M)))(hh:h[1]? = some (.cells [.slice (.arr 0) 45 (tb.map b0q),.map 0,ds]))(hl:tb[un]? = some l)(hi:i<l.length)(hds:ds.some? = true)(hr:rowsOK l)(k:Int) :
  b0r env 183 [.ptr 1 0,.agg [.int .i64 un,.int .i64 i],.int .i64 k] h a fun v h' a'=>v=c0R (c2T l M un i k)∧(∃ z,h'=h++z)∧a'=a:=by
 have hlt1:1<h.length:=(g8Y.1 hh).1
 have hlt0:0<h.length:=by omega
 have htu:(tb.map b0q).getD (un:Int).toNat []=b0q l:=by simp[g8Z,hl]
 have hul:((un:Int)<tb.length)=True:=by
  have:=(g8Y.1 hl).1
  simp;omega
 have hrg:=b0F hi
 have hil:((i:Int)<l.length)=True:=by simp;omega
 refine b0A (fn:=Tryz.f183) Tryz.func183 rfl (by rw[Tryz.ntmps183];simp) ?_
 simp -implicitDefEqProofs only[go_sem,Tryz.f183]
 refine b0h (cs:=[]) b0v (by kernel_rfl) ?_
 by_cases hk:k=3
 ·subst hk
  simp -implicitDefEqProofs only[go_sem,b0K hh,b1h hlt1,b3C,b1N,b3B,b1P,b1I,htu,hul,b0q,hrg,hil,Rw.enc]
  refine b0r.mono (c6c tb ds _ a un i (h.length+2) (h.length+3) (h.length+4) l (b0j l i).text (b0K hh) hl hi hds ?_ ?_ ?_ ?_ hr) ?_
  ·rw[g9c (by omega)];simp
  ·rw[g9c (by omega)];simp
  ·rw[g9c (by omega)];simp
  ·omega
  ·rintro v h' a' ⟨rfl,⟨z,rfl⟩,rfl⟩
   have hF:=c3X l (b0j l i).text (b7r l (i+1) i)
   have hset:∀ y,(h++[VObj.cells [.int .i64 (un:Int),.int .i64 (i:Int)],.cells [.int .i64 0,.int .i64 0],.cells [sl 48 (l.map Rw.enc)],.cells [.str (b0j l i).text],.cells [.int .i64 (-1)]]).set (h.length+4) y=h++[VObj.cells [.int .i64 (un:Int),.int .i64 (i:Int)],.cells [.int .i64 0,.int .i64 0],.cells [sl 48 (l.map Rw.enc)],.cells [.str (b0j l i).text],y]:=fun y=>by
    rw[g9J (s:=h) _ _ (by omega)];simp
   rw[hset,g9t]
   have hres:c2T l M un i 3=if 0≤b1j l (b0j l i).text (b7r l (i+1) i)then some ((un:Int),b1j l (b0j l i).text (b7r l (i+1) i))else(M.find? (b5f 3 (b0j l i).text)).map fun d=>(d.unit,d.node):=by simp[c2T]
   rw[hres]
   generalize b1j l (b0j l i).text (b7r l (i+1) i)=F at hF ⊢
   simp -implicitDefEqProofs only[go_sem,b0K hm,b0K hh,b1h hlt1,b3C,b1N,b3B,b1P,b1I,g8X,g9M]
   refine⟨fun h0=>⟨by rw[if_pos h0];rfl,_,rfl⟩,fun h0=>?_⟩
   rw[if_neg h0]
   have hcz:∀ x y:VObj,(z++[x]).set z.length y=z++[y]:=fun x y=>by rw[g9J _ _ (g9m _)];simp
   refine b0h (cs:=[]) b0v (by kernel_rfl) ?_
   simp -implicitDefEqProofs only[go_sem,b0K hm,b0K hh,b1h hlt1,b3C,b1N,b3B,b1P,b1I,b4O,d2d,g8V,List.getElem?_concat_length,g8W,hcz,g8X]
   refine⟨?_,_,rfl⟩
   cases M.find? (b5f 3 (b0j l i).text) <;> rfl
 ·have hres:c2T l M un i k=(M.find? (b5f k (b0j l i).text)).map fun d=>(d.unit,d.node):=by simp[c2T,hk]
  rw[hres]
  simp -implicitDefEqProofs only[go_sem,b0K hh,b1h hlt1,b3C,b1N,b3B,b1P,b1I,htu,hul,b0q,hrg,hil,Rw.enc,hk]
  refine b0h (cs:=[]) b0v (by kernel_rfl) ?_
  simp -implicitDefEqProofs only[go_sem,b0K hm,b0K hh,b1h hlt1,b3C,b1N,b3B,b1P,b1I,b4O,d2d]
  refine⟨?_,_,rfl⟩
  cases M.find? (b5f k (b0j l i).text) <;> rfl
structure Us where
 un:Nat
 nd:Nat
 to:Option (Int×Int)
def Us.enc(x:Us):List V:=[.int .i64 x.un,.int .i64 x.nd,.int .i64 ((x.to.map (·.1)).getD 0),.int .i64 ((x.to.map (·.2)).getD 0),.bool x.to.isSome]
def b5r(l:List Rw)(M:List Dl)(un i:Nat):List Us:=if(b6I (b0j l i).kind (b0j l i).text).2=true then [⟨un,i,c2T l M un i (b6I (b0j l i).kind (b0j l i).text).1⟩]else []
def d1i(l:List Rw)(M:List Dl)(un:Nat):List Us:=(List.range l.length).flatMap (b5r l M un)
def b2J(M:List Dl):List (List Rw)→Nat→List Us
 | [],_=>[]
 | l::r,un=>d1i l M un++b2J M r (un+1)
theorem b7C{M:List Dl}{x:List Rw}:∀ (l:List (List Rw)) (n:Nat),b2J M (l++[x]) n=b2J M l n++d1i x M (n+l.length)
 | [],n=>by simp[b2J]
 | y::r,n=>by
  rw[g8X,b2J,b2J,b7C r,g9t,g9k]
  congr 3;omega
theorem b2B:∀ l:List Us,b0R (l.map Us.enc)=true
 | []=>rfl
 | n::r=>by show(b1a _ && b0R (r.map Us.enc))=true;rw[b2B r];rfl
theorem c2y(l:List Rw)(M:List Dl)(un:Nat):∀ q:List Nat,(q.flatMap (b5r l M un)).length≤q.length
 | []=>by simp
 | x::r=>by
  have h1:=c2y l M un r
  have h2:(b5r l M un x).length≤1:=by unfold b5r;split <;> simp
  rw[List.flatMap_cons,g9d,g9k];omega
theorem c0j{M:List Dl}:∀ (tb:List (List Rw)) (n:Nat),(∀ l∈tb,l.length≤1000000)→(b2J M tb n).length≤tb.length * 1000000
 | [],n,_=>by simp[b2J]
 | x::r,n,h=>by
  have h1:=c0j (M:=M) r (n+1) fun y hy=>h y (by simp[hy])
  have h2:=c2y x M n (List.range x.length)
  rw[List.length_range]at h2
  have h3:=h x (by simp)
  have h4:(d1i x M n).length=_:=rfl
  rw[b2J,g9d,g9k]
  unfold d1i
  omega
theorem g0J(u:List Un)(hu:b2T u)(hr:∀ l∈b0e u,rowsOK l):b0u env 141 [sl 70 (u.map Un.enc)] (sl 163 ((b2J (b1Y (b0f u 0)) (b0e u) 0).map Us.enc)):=by
 refine b0i (fn:=Tryz.f141) Tryz.func141 rfl (by rw[Tryz.ntmps141];simp) (by simp -implicitDefEqProofs only[go_sem];exact b0x _) (by simp -implicitDefEqProofs only[go_sem];exact b2B _) ?_
 simp -implicitDefEqProofs only[go_sem,Tryz.f141]
 refine b0r.mono (f2U u hu) ?_
 rintro v h' a' ⟨rfl,rfl,rfl⟩
 simp -implicitDefEqProofs only[go_sem]
 intro _ _
 generalize b0f u 0=dl
 have htl0:(b0e u).length≤1000:=by unfold b0e;rw[g9r];exact hu.1
 generalize b0e u=tb at hr htl0 ⊢
 generalize b1Y dl=M
 refine b0n (β:=Unit) tb (fun pre _=>⟨[(19,.int .i64 pre.length),(18,.int .i64 tb.length),(17,.slice (.arr 0) 45 (tb.map b0q)),(4,.slice (.arr 1) 163 ((b2J M pre 0).map Us.enc)),(3,.ptr 1 0),(2,.slice .nil 0 [])],
   [.map (c2Y M),.cells [.slice (.arr 0) 45 (tb.map b0q),.map 0,sl 54 (dl.map Dl.enc)]],[u.length,(b2J M pre 0).length]⟩) (fun _ _ _=>True) () ?_ trivial ?_ ?_
 ·simp -implicitDefEqProofs only[go_sem]
  exact⟨rfl,rfl⟩
 ·intro _ _
  simp -implicitDefEqProofs only[go_sem]
 ·rintro pre l post _ hx _
  have hpl:tb.length=pre.length+1+post.length:=by rw[hx];simp;omega
  have hgx:(tb.map b0q).getD (pre.length:Int).toNat []=b0q l:=by rw[hx];simp[g8Z]
  have hlt:((pre.length:Int)<tb.length)=True:=by simp;omega
  have hlm:l∈tb:=by rw[hx];simp
  have hro:=hr l hlm
  have hll:=hro.len
  have htl:tb[pre.length]? = some l:=by rw[hx];simp
  have hsn:=b7C (M:=M) (x:=l) pre 0
  rw[g9s,d1i]at hsn
  have hw:IntKind.i64.wrap (↑pre.length+1)=↑(pre.length+1):=b0g (by omega)
  have hAl:=c0j (M:=M) pre 0 fun y hy=>(hr y (by rw[hx];simp[hy])).len
  generalize b2J M pre 0=A at hsn hAl ⊢
  have hrl:(List.range l.length).length=l.length:=List.length_range
  simp -implicitDefEqProofs only[go_sem,hgx,hlt,b0q]
  intro _ _
  refine b0n (β:=Unit) (List.range l.length) (fun q _=>⟨[(26,.int .i64 q.length),(25,.int .i64 l.length),(5,.int .i64 pre.length),(19,.int .i64 pre.length),(18,.int .i64 tb.length),(17,.slice (.arr 0) 45 (tb.map b0q)),(4,.slice (.arr 1) 163 ((A++q.flatMap (b5r l M pre.length)).map Us.enc)),(3,.ptr 1 0),(2,.slice .nil 0 [])],
   [.map (c2Y M),.cells [.slice (.arr 0) 45 (tb.map b0q),.map 0,sl 54 (dl.map Dl.enc)]],[u.length,(A++q.flatMap (b5r l M pre.length)).length]⟩) (fun _ _ _=>True) () ?_ trivial ?_ ?_
  ·simp only[List.flatMap_nil,g9B]
   simp -implicitDefEqProofs only[go_sem]
   try rfl
  ·intro _ _
   simp -implicitDefEqProofs only[go_sem,hrl]
   rw[hsn]
   exact⟨(),⟨hw,rfl⟩,rfl⟩
  ·rintro q k r _ hq _
   have hpq:l.length=q.length+1+r.length:=by rw[←hrl,hq];simp;omega
   have hk:k=q.length:=by
    have h1:(List.range l.length)[q.length]? = some k:=by rw[hq];simp
    rw[List.getElem?_range (by omega)]at h1
    simpa using h1.symm
   subst hk
   have hwq:IntKind.i64.wrap (↑q.length+1)=↑(q.length+1):=b0g (by omega)
   have hltq:((q.length:Int)<l.length)=True:=by simp;omega
   have hal:(q.flatMap (b5r l M pre.length)).length≤q.length:=c2y l M pre.length q
   have haq:(q++[q.length]).flatMap (b5r l M pre.length)=q.flatMap (b5r l M pre.length)++b5r l M pre.length q.length:=by simp
   generalize hQ:q.flatMap (b5r l M pre.length)=Q at hal haq ⊢
   have hqi:q.length<l.length:=by omega
   simp -implicitDefEqProofs only[go_sem,hltq]
   refine b0r.mono (f9F tb (sl 54 (dl.map Dl.enc)) _ _ pre.length q.length l rfl htl hqi (by simp -implicitDefEqProofs only[go_sem])) ?_
   rintro v h' a' ⟨rfl,⟨z1,rfl⟩,rfl⟩
   have hua:b5r l M pre.length q.length=if(b6I (b0j l q.length).kind (b0j l q.length).text).2=true then [⟨pre.length,q.length,c2T l M pre.length q.length (b6I (b0j l q.length).kind (b0j l q.length).text).1⟩]else []:=rfl
   generalize b6I (b0j l q.length).kind (b0j l q.length).text=kb at hua ⊢
   obtain⟨kk,b⟩:=kb
   have htp:=b0m 2 2 _ (b1e tb)
   have hdp:=b0m 2 2 _ (b0G dl)
   cases b with
   | false =>
    rw[if_neg (by simp)]at hua
    rw[hua,g9B]at haq
    simp -implicitDefEqProofs only[go_sem]
    rw[haq,b7w,htp,hdp,b0m _ _ _ (b2B _)]
    exact⟨(),⟨hwq,rfl⟩,rfl,.inr ⟨rfl,rfl⟩⟩
   | true =>
    rw[if_pos rfl]at hua
    rw[hua]at haq
    have hcz:∀ x y:VObj,(z1++[x]).set z1.length y=z1++[y]:=fun x y=>by rw[g9J _ _ (g9m _)];simp
    simp -implicitDefEqProofs only[go_sem,g8V,List.getElem?_concat_length,g8W,hcz]
    refine b0r.mono (d1U tb M (sl 54 (dl.map Dl.enc)) _ _ pre.length q.length l rfl rfl htl hqi (by simp -implicitDefEqProofs only[go_sem]) hro kk) ?_
    rintro v h' a' ⟨rfl,⟨z2,rfl⟩,rfl⟩
    generalize c2T l M pre.length q.length kk=ro at haq ⊢
    simp -implicitDefEqProofs only[go_sem,c0R,g8V,List.getElem?_concat_length,g8W,hcz]
    rw[haq,←g9t,b7w,htp,hdp,b0m _ _ _ (b2B _)]
    refine⟨by rw[g9d];omega,(),⟨hwq,?_⟩,by simp;omega,.inr ⟨rfl,rfl⟩⟩
    rw[g9I (l₁:=A++Q)]
    rfl
end Go.Proofs.YtighfcpaplmaiaaGreatDoor
namespace Go.Vg
def g1H(rs:List Rw)(p:Int)(b:Nat):Prop:=∀ (j:Nat) r,rs[j]? = some r→r.parent=p∨((b:Int)≤r.parent∧r.parent<b+j)
theorem d5c:∀ (n:Nd) (p:Int) (b:Nat),g1H (b0z n p b) p b:=by
 refine Nd.all fun k t g ks ih p b=>?_
 have hs:∀ l:List Nd,(∀ x∈l,∀ (p:Int) (b:Nat),g1H (b0z x p b) p b)→∀ (p b:Nat),g1H (b1b l p b) p b:=by
  intro l
  induction l with
  | nil=>intro _ p b j r h;simp[b1b]at h
  | cons x r ihr =>
   intro hx p b j rr hj
   rw[b1b]at hj
   rcases h0v j (b0z x p b).length with hl | hl
   ·rw[g9a hl]at hj
    exact hx x (by simp) p b j rr hj
   ·rw[g9c hl]at hj
    rcases ihr (fun y hy=>hx y (by simp[hy])) p _ _ rr hj with h | ⟨h1,h2⟩
    ·exact .inl h
    ·right
     rw[b0N]at hl h2
     constructor <;> omega
 intro j r hj
 rw[b0z]at hj
 cases j with
 | zero=>simp at hj;subst hj;exact .inl rfl
 | succ j =>
  rw[g8V]at hj
  rcases hs ks ih b (b+1) j r hj with h | ⟨h1,h2⟩
  ·right;rw[h];constructor <;> omega
  ·right;constructor <;> omega
theorem b9S{n:Nd}(hl:(b0o n).length≤1000000):rowsOK (b0z n (-1) 0):=by
 have hlen:(b0z n (-1) 0).length=(b0o n).length:=b0N ..
 refine⟨by omega,fun i hi=>?_,fun i hi=>?_⟩
 ·have hn:(b0o n)[i]? = some (b0o n)[i]:=g9b (by omega)
  generalize(b0o n)[i]=y at hn
  obtain⟨k,t,g,ks⟩:=y
  obtain⟨_,_,h3⟩:=b3M hn
  rw[h3]
  refine⟨?_,fun c hc=>?_⟩
  ·rw[b0V]
   have h1:=b3E ks
   have h2:=b6d _ _ (g9f hn)
   rw[b0Y]at h2;omega
  ·obtain⟨j,z,j1,j2⟩:=c0U hc
   obtain⟨c',j3,j4⟩:=b7X hn j2
   have:c'=c:=by rw[j1]at j3;simpa using j3.symm
   subst this
   have:=(g8Y.1 j4).1
   omega
 ·have hg:(b0z n (-1) 0)[i]? = some (b0j (b0z n (-1) 0) i):=by
   rw[b0j,g8Z,g9b hi];rfl
  rcases d5c n (-1) 0 i _ hg with h | ⟨h1,h2⟩
  ·rw[h];constructor <;> omega
  ·constructor <;> omega
end Go.Vg
namespace Go.Proofs.YtighfcpaplmaiaaGreatDoor
open Go Go.Vg Go.Proofs
theorem b8R{u:List Un}(hu:b2T u):∀ l∈b0e u,rowsOK l:=by
 intro l hl
 obtain⟨x,hx,rfl⟩:=h0k.1 hl
 split
 ·exact⟨by simp,fun i hi=>by simp at hi,fun i hi=>by simp at hi⟩
 ·exact b9S (by have:=(hu.2 x hx).1;omega)
end Go.Proofs.YtighfcpaplmaiaaGreatDoor
