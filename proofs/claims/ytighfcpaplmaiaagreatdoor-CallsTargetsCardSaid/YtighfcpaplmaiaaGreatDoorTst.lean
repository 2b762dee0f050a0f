import Derived.Test.YtighfcpaplmaiaaGreatDoorToA
import Derived.Test.YtighfcpaplmaiaaGreatDoorTmL
set_option linter.unusedVariables false
set_option linter.unusedSimpArgs false
set_option maxRecDepth 20000
namespace Go.Vg
def b4n:List Nd→Int→Nd×Int
 | [],_=>(Nd.zero,0)
 | x::r,k=>if x.kind=8 then(x,k)else b4n r (k+(b0o x).length)
theorem d3I{k:Int}{t:ByteArray}{u m:Int}{x:Ar}{d:Dl}(h:b2S k t u m x=some d):d.unit=u∧d.node=m∧d.name=t∧(d.kind=2→k=7)∧(d.kind=1∨d.kind=4→k=2):=by
 unfold b2S at h
 repeat' split at h
 all_goals first | (cases h;done) | (cases h;simp;try omega)
def placed(n:Nd)(m:Nat)(d:Dl):Prop:=∃ j y,d.node=((m+j:Nat):Int)∧(b0o n)[j]? = some y∧d.name=y.text∧(d.kind=2→y.kind=7)∧(d.kind=1∨d.kind=4→y.kind=2)
theorem c2h:∀ (n:Nd) (u:Int) (m:Nat) (x:Ar) (d:Dl),d∈b1J n u m x→d.unit=u∧placed n m d:=by
 refine Nd.all fun k t g ks ih u m x d hd=>?_
 have hs:∀ (l:List Nd),(∀ y∈l,∀ (u:Int) (m:Nat) (x:Ar) (d:Dl),d∈b1J y u m x→d.unit=u∧placed y m d)→∀ (m:Nat) (x:Ar) (d:Dl),d∈b0Z l u m x →
   d.unit=u∧∃ j y,d.node=((m+j:Nat):Int)∧(b0l l)[j]? = some y∧d.name=y.text∧(d.kind=2→y.kind=7)∧(d.kind=1∨d.kind=4→y.kind=2):=by
  intro l
  induction l with
  | nil=>intro _ m x d hd;simp[b0Z]at hd
  | cons z r ihr =>
   intro h m x d hd
   rw[b0Z,g9A]at hd
   rcases hd with hd | hd
   ·obtain⟨h1,j,y,h2,h3,h4⟩:=h z (by simp) u m x d hd
    refine⟨h1,j,y,h2,?_,h4⟩
    rw[b0l,g9a (g8Y.1 h3).1];exact h3
   ·obtain⟨h1,j,y,h2,h3,h4⟩:=ihr (fun y hy=>h y (by simp[hy])) _ x d hd
    refine⟨h1,(b0o z).length+j,y,by rw[h2,h0n],?_,h4⟩
    rw[b0l,g9c (by omega)];simpa using h3
 rw[b1J,g9A]at hd
 rcases hd with hd | hd
 ·cases hdt:b2S k t u m x with
  | none=>rw[hdt]at hd;cases hd
  | some d' =>
   rw[hdt]at hd
   simp at hd
   subst hd
   obtain⟨h1,h2,h3,h4⟩:=d3I hdt
   exact⟨h1,0,.mk k t g ks,by simpa using h2,by simp[b0o],h3,h4⟩
 ·obtain⟨h1,j,y,h2,h3,h4⟩:=hs ks ih _ _ d hd
  exact⟨h1,j+1,y,by rw[h2];congr 1;omega,by simpa[b0o]using h3,h4⟩
theorem b4y:∀ (u:List Un) (i:Nat) (d:Dl),d∈b0f u i→∃ un x,d.unit=((i+un:Nat):Int)∧u[un]? = some x∧x.broken=false∧placed x.tree 0 d
 | [],i,d,h=>by simp[b0f]at h
 | x::r,i,d,h=>by
  rw[b0f,g9A]at h
  rcases h with h | h
  ·split at h
   ·cases h
   ·rename_i hb
    obtain⟨h1,h2⟩:=c2h x.tree i 0 Ar.none d h
    exact⟨0,x,by simpa using h1,rfl,by simpa using hb,h2⟩
  ·obtain⟨un,y,h1,h2,h3⟩:=b4y r (i+1) d h
   exact⟨un+1,y,by rw[h1];congr 1;omega,by simpa using h2,h3⟩
theorem b6d:∀ (n y:Nd),y∈b0o n→(b0o y).length≤(b0o n).length:=by
 refine Nd.all fun k t g ks ih y hy=>?_
 have hs:∀ (l:List Nd),(∀ z∈l,∀ y∈b0o z,(b0o y).length≤(b0o z).length)→∀ y∈b0l l,(b0o y).length≤(b0l l).length:=by
  intro l
  induction l with
  | nil=>intro _ y hy;simp[b0l]at hy
  | cons z r ihr =>
   intro h y hy
   rw[b0l,g9A]at hy
   rw[b0l,g9d]
   rcases hy with hy | hy
   ·have:=h z (by simp) y hy;omega
   ·have:=ihr (fun w hw=>h w (by simp[hw])) y hy;omega
 rw[b0o]at hy
 rcases g9y.1 hy with rfl | hy
 ·exact g9m _
 ·have:=hs ks (fun z hz y hy=>ih z hz y hy) y hy
  rw[b0Y];omega
theorem c3u{k t g}{ks:List Nd}{x:Nd}(hx:x∈ks):(b0o x).length≤(b0o (.mk k t g ks)).length:=by
 refine b6d _ _ (d1v hx ?_)
 obtain⟨a,b,c,d⟩:=x
 rw[b0o];simp
theorem b3E:∀ ks:List Nd,ks.length≤(b0l ks).length
 | []=>g9m _
 | x::r=>by
  have:=b3E r
  have h1:=d1L x
  unfold b9B at h1
  rw[b0l,g9d,g9k];omega
theorem b9K:∀ (l:List Nd) (a b:Int),(b4n l a).1=(b4n l b).1
 | [],_,_=>rfl
 | x::r,a,b=>by
  rw[b4n,b4n]
  split
  ·rfl
  ·exact b9K r _ _
def btU(u:List Un)(d:Dl):ByteArray:=match u[d.unit.toNat]? with
 | some x=>match(b0o x.tree)[d.node.toNat]? with
  | some n=>(b4n n.kids 0).1.text
  | none=>⟨#[]⟩
 | none=>⟨#[]⟩
def b6k(B:List (ByteArray×ByteArray)):List (V×V):=B.map fun p=>(.str p.1,.str p.2)
def b1B(B:List (ByteArray×ByteArray))(n:ByteArray):Option ByteArray:=(B.find? fun p=>decide (p.1=n)).map (·.2)
def b7p(B:List (ByteArray×ByteArray))(cls:ByteArray):Nat→List ByteArray→ByteArray→List ByteArray×ByteArray
 | 0,out,next=>(out,next)
 | f+1,out,next=>if(decide (next=⟨#[]⟩) || !(b1B B next).isSome || (cls::out).any fun x=>decide (x=next))=true then(out,next)else b7p B cls f (out++[next]) ((b1B B next).getD ⟨#[]⟩)
theorem d5Y(n:ByteArray):∀ (B:List (ByteArray×ByteArray)) (i:Nat),(∃ j v,b1t .string (.str n) (b6k B) i=some (some (j,.str v))∧b1B B n=some v)∨(b1t .string (.str n) (b6k B) i=some none∧b1B B n=none)
 | [],i => .inr ⟨rfl,rfl⟩
 | (a,b)::r,i=>by
  by_cases h:a=n
  ·subst h
   refine .inl ⟨i,b,?_,by simp[b1B]⟩
   simp only[b6k,g9o,b1t,b7o]
   have:(a == a)=true:=(MapKept.bytes_beq a a).2 rfl
   rw[this]
  ·have h2:(n == a)=false:=by
    cases hc:(n == a)with
    | false=>rfl
    | true=>exact absurd ((MapKept.bytes_beq n a).1 hc).symm h
   have e:b1t .string (.str n) (b6k ((a,b)::r)) i=b1t .string (.str n) (b6k r) (i+1):=by
    simp only[b6k,g9o,b1t,b7o,h2]
   have e2:b1B ((a,b)::r) n=b1B r n:=by simp[b1B,h]
   rw[e,e2]
   exact d5Y n r (i+1)
theorem b6X{B:List (ByteArray×ByteArray)}{n:ByteArray}(h:(b1B B n).isSome=true):n∈B.map (·.1):=by
 unfold b1B at h
 cases hf:B.find? fun p=>decide (p.1=n)with
 | none=>rw[hf]at h;cases h
 | some p =>
  have h1:=g9V hf
  have h2:=List.find?_some hf
  exact h0k.2 ⟨p,h1,by simpa using h2⟩
theorem c0S{α:Type}[DecidableEq α]:∀ (l m:List α),l.Nodup→(∀ x∈l,x∈m)→l.length≤m.length
 | [],m,_,_=>Nat.zero_le _
 | x::l,m,hn,hm=>by
  have hx:=hm x (by simp)
  have h1:=c0S l (m.erase x) (h0o.1 hn).2 fun y hy=>by
   refine(List.mem_erase_of_ne ?_).2 (hm y (by simp[hy]))
   rintro rfl;exact(h0o.1 hn).1 hy
  have h2:=List.length_erase_of_mem hx
  have h3:=List.length_pos_of_mem hx
  simp only[g9k];omega
def b2N(l:List ByteArray):List (V×V):=l.map fun x=>(.str x,.bool true)
theorem d9A(n:ByteArray):∀ (l:List ByteArray) (i:Nat),(∃ j,b1t .string (.str n) (b2N l) i=some (some (j,.bool true))∧(l.any fun x=>decide (x=n))=true)∨(b1t .string (.str n) (b2N l) i=some none∧(l.any fun x=>decide (x=n))=false)
 | [],i => .inr ⟨rfl,rfl⟩
 | a::r,i=>by
  by_cases h:a=n
  ·subst h
   refine .inl ⟨i,?_,by simp⟩
   simp only[b2N,g9o,b1t,b7o]
   have:(a == a)=true:=(MapKept.bytes_beq a a).2 rfl
   rw[this]
  ·have h2:(n == a)=false:=by
    cases hc:(n == a)with
    | false=>rfl
    | true=>exact absurd ((MapKept.bytes_beq n a).1 hc).symm h
   have e:b1t .string (.str n) (b2N (a::r)) i=b1t .string (.str n) (b2N r) (i+1):=by
    simp only[b2N,g9o,b1t,b7o,h2]
   have e2:((a::r).any fun x=>decide (x=n))=r.any fun x=>decide (x=n):=by simp[h]
   rw[e,e2]
   exact d9A n r (i+1)
end Go.Vg
namespace Go.Proofs.YtighfcpaplmaiaaGreatDoor
open Go Go.Vg Go.Proofs
theorem c1g{B:List (ByteArray×ByteArray)}{n:ByteArray}{K:V→Prop}:b1G env 9 (b1t .string (.str n) (b6k B) 0) false K=K (.str ((b1B B n).getD ⟨#[]⟩)):=by
 rcases d5Y n B 0 with⟨j,v,h1,h2⟩ | ⟨h1,h2⟩
 ·rw[h1,h2];simp -implicitDefEqProofs only[go_sem];rfl
 ·rw[h1,h2];simp -implicitDefEqProofs only[go_sem];rfl
theorem c0p{B:List (ByteArray×ByteArray)}{n:ByteArray}{K:V→Prop}:b1G env 9 (b1t .string (.str n) (b6k B) 0) true K=K (.tuple [.str ((b1B B n).getD ⟨#[]⟩),.bool (b1B B n).isSome]):=by
 rcases d5Y n B 0 with⟨j,v,h1,h2⟩ | ⟨h1,h2⟩
 ·rw[h1,h2];simp -implicitDefEqProofs only[go_sem];rfl
 ·rw[h1,h2];simp -implicitDefEqProofs only[go_sem];rfl
theorem c9t{l:List ByteArray}{n:ByteArray}{K:V→Prop}:b1G env 4 (b1t .string (.str n) (b2N l) 0) false K=K (.bool (l.any fun x=>decide (x=n))):=by
 rcases d9A n l 0 with⟨j,h1,h2⟩ | ⟨h1,h2⟩
 ·rw[h1,h2];simp -implicitDefEqProofs only[go_sem]
 ·rw[h1,h2];simp -implicitDefEqProofs only[go_sem];rfl
theorem d0o{l:List ByteArray}{n:ByteArray}{h:List VObj}{id:Nat}{L:List VObj→Prop}(hn:(l.any fun x=>decide (x=n))=false):b3I h id (b2N l) (.str n) (.bool true) (b1t .string (.str n) (b2N l) 0) L=L (h.set id (.map (b2N (l++[n])))):=by
 rcases d9A n l 0 with⟨j,h1,h2⟩ | ⟨h1,h2⟩
 ·rw[h2]at hn;cases hn
 ·rw[h1];simp -implicitDefEqProofs only[go_sem];simp[b2N]
theorem f3r(u:List Un)(hu:b2T u)(un nd:Nat)(x:Un)(n:Nd)(hx:u[un]? = some x)(hn:(b0o x.tree)[nd]? = some n)(hs:∀ k∈n.kids,(b0o k).length≤1000)(hks:n.kids.length≤1000):b0u env 97 [sl 70 (u.map Un.enc),.agg [.int .i64 un,.int .i64 nd]] (.tuple [.agg (b4n n.kids (nd+1)).1.enc,.int .i64 (b4n n.kids (nd+1)).2]):=by
 obtain⟨k,t,g,ks⟩:=n
 simp only[Nd.kids]at hs hks ⊢
 have hul:un<u.length:=(g8Y.1 hx).1
 have hxm:x∈u:=g9f hx
 have hnl:nd<(b0o x.tree).length:=(g8Y.1 hn).1
 have hnn:(b0o x.tree).length≤1000:=(hu.2 x hxm).1
 have hel:(u.map Un.enc).getD (un:Int).toNat []=x.enc:=f0R (by simpa using hx)
 have hlt:((un:Int)<(u.length:Int))=True:=by simp;omega
 have hAt:=TAt x.tree (by omega) nd (by omega)
 rw[if_pos (by omega),g9j,hn]at hAt
 refine b0i (fn:=Tryz.f97) Tryz.func97 rfl (by rw[Tryz.ntmps97];simp) (by simp -implicitDefEqProofs only[go_sem];exact b0x _) (by simp -implicitDefEqProofs only[go_sem]) ?_
 simp -implicitDefEqProofs only[go_sem,Tryz.f97]
 refine b0h (cs:=[]) b0v (by kernel_rfl) ?_
 simp -implicitDefEqProofs only[go_sem,hel,hlt]
 refine b0B hAt (by simp -implicitDefEqProofs only[go_sem]) ?_
 simp -implicitDefEqProofs only[go_sem,g9w,Option.isSome]
 intro _ _
 refine b0n (β:=Int) ks (fun pre kk=>⟨[(29,.int .i64 pre.length),(28,.int .i64 ks.length),(27,sl 66 (ks.map Nd.enc)),(8,.int .i64 kk),(5,.int .i64 0),(4,.ptr 1 0)],
   [.dead,.cells [.int .i64 0,.str ⟨#[]⟩,.slice .nil 0 [],.slice .nil 0 []],.cells (Nd.mk k t g ks).enc],[]⟩)
  (fun pre post kk=>b4n ks (nd+1)=b4n post kk∧0≤kk∧kk≤1001+pre.length * 1000) (nd+1) ?_ ⟨rfl,by omega,by simp;omega⟩ ?_ ?_
 ·have:IntKind.i64.wrap ((nd:Int)+1)=nd+1:=b1H (by omega) (by omega)
  simp -implicitDefEqProofs only[go_sem,this]
  try rfl
 ·rintro kk ⟨hi,_,_⟩
  simp -implicitDefEqProofs only[go_sem]
  rw[hi];rfl
 ·rintro pre y post kk hy ⟨hi,b0,b1⟩
  have hpl:ks.length=pre.length+1+post.length:=by rw[hy];simp;omega
  have hgx:(ks.map Nd.enc).getD (pre.length:Int).toNat []=y.enc:=by rw[hy];simp[g8Z]
  have hlt2:((pre.length:Int)<ks.length)=True:=by simp;omega
  have hym:y∈ks:=by rw[hy];simp
  have hyn:=hs y hym
  rw[hi,b4n]
  simp -implicitDefEqProofs only[go_sem,hgx,hlt2]
  refine⟨fun h8=>?_,fun h8=>?_⟩
  ·rw[if_pos h8]
  ·refine(g0o y (by omega)).calls (by simp -implicitDefEqProofs only[go_sem]) ?_
   simp -implicitDefEqProofs only[go_sem]
   exact⟨_,⟨by rw[if_neg h8],by omega,by omega⟩,b0g (by omega),b1H (by omega) (by omega)⟩
theorem f0X(B:List (ByteArray×ByteArray))(nm ds:V)(es:List (V×V))(a:Nat)(cls:ByteArray)(hB:B.length≤1000000)(hnm:nm.some? = true)(hds:ds.some? = true) :
  b0r env 63 [.ptr 2 0,.str cls] [.map (b6k B),.map es,.cells [nm,.map 0,.map 1,ds]] [a] fun v h' a'=>∃ n z,v = .tuple [.slice (.arr 1) 9 ((b7p B cls (B.length+1) [] ((b1B B cls).getD ⟨#[]⟩)).1.map b0p),.str (b7p B cls (B.length+1) [] ((b1B B cls).getD ⟨#[]⟩)).2]∧h'=[.map (b6k B),.map es,.cells [nm,.map 0,.map 1,ds],z]∧a'=[a,n]:=by
 refine b0A (fn:=Tryz.f63) Tryz.func63 rfl (by rw[Tryz.ntmps63];simp) ?_
 simp -implicitDefEqProofs only[go_sem,Tryz.f63,c1g]
 generalize hgo:b7p B cls (B.length+1) [] ((b1B B cls).getD ⟨#[]⟩)=goal
 refine b1A (α:=List ByteArray×ByteArray) (fun s=>⟨[(8,.str s.2),(7,.map 3),(6,.slice (.arr 1) 9 (s.1.map b0p)),(5,.str ⟨#[]⟩),(4,.slice .nil 0 []),(0,.ptr 2 0),(1,.str cls)],
   [.map (b6k B),.map es,.cells [nm,.map 0,.map 1,ds],.map (b2N (cls::s.1))],[a,s.1.length]⟩)
  (fun s=>b7p B cls (B.length+1 - s.1.length) s.1 s.2=goal∧s.1.Nodup∧∀ x∈s.1,(b1B B x).isSome=true) (fun s=>B.length+1 - s.1.length) ([],(b1B B cls).getD ⟨#[]⟩) ?_ ⟨by simpa using hgo,by simp,by simp⟩ ?_
 ·simp -implicitDefEqProofs only[go_sem]
  rfl
 ·rintro⟨out,next⟩ ⟨i1,i2,i3⟩
  simp only at i1 i2 i3
  have hle:out.length≤B.length:=by
   have:=c0S out (B.map (·.1)) i2 fun x hx=>b6X (i3 x hx)
   simpa using this
  obtain⟨f,hf⟩:∃ f,B.length+1 - out.length=f+1:=⟨B.length - out.length,by omega⟩
  rw[hf,b7p]at i1
  have hstop:(decide (next=⟨#[]⟩) || !(b1B B next).isSome || (cls::out).any fun x=>decide (x=next))=true→∃ n z,V.tuple [.slice (.arr 1) 9 (out.map b0p),.str next]=V.tuple [.slice (.arr 1) 9 (goal.1.map b0p),.str goal.2]∧[VObj.map (b6k B),VObj.map es,VObj.cells [nm,.map 0,.map 1,ds],VObj.map (b2N (cls::out))]=[.map (b6k B),.map es,.cells [nm,.map 0,.map 1,ds],z]∧[a,out.length]=[a,n]:=fun h=>by
   rw[if_pos h]at i1;rw[←i1];exact⟨_,_,rfl,rfl,rfl⟩
  simp -implicitDefEqProofs only[go_sem,c1g,c0p,c9t]
  refine⟨fun h1=>⟨fun h2=>⟨fun h3=>hstop (by simp[h3]),fun h3=>?_⟩,fun h2=>hstop (by simp[h2])⟩,fun h1=>hstop (by simp[h1])⟩
  have hsm:(b1B B next).isSome=true:=by simpa using h2
  have hc:¬ (decide (next=⟨#[]⟩) || !(b1B B next).isSome || (cls::out).any fun x=>decide (x=next))=true:=by
   rw[h3,h2];simp[h1]
  rw[if_neg hc]at i1
  rw[d0o h3]
  simp -implicitDefEqProofs only[go_sem,c1g]
  have hno:next ∉ out:=fun hm=>by
   have:((cls::out).any fun x=>decide (x=next))=true:=by simp;exact .inr hm
   rw[h3]at this;cases this
  refine⟨by omega,(out++[next],(b1B B next).getD ⟨#[]⟩),by simp;omega,⟨?_,?_,?_⟩,⟨rfl,by simp[b0p]⟩,rfl,by simp⟩
  ·have:B.length+1 - (out++[next]).length=f:=by simp;omega
   simp only[this];exact i1
  ·simp only[]
   rw[h0q]
   exact⟨i2,by simp,fun x hx y hy=>by simp at hy;subst hy;rintro rfl;exact hno hx⟩
  ·intro x hx
   rcases g9A.1 hx with h | h
   ·exact i3 x h
   ·simp at h;subst h;exact hsm
end Go.Proofs.YtighfcpaplmaiaaGreatDoor
namespace Go.Vg
def c1c(bt:Dl→ByteArray)(B:List (ByteArray×ByteArray))(d:Dl):List (ByteArray×ByteArray):=if d.kind=2∧(b1B B d.name).isSome=false then B++[(d.name,bt d)]else B
def b9N(d e:Dl):Bool:=decide (d.owner=e.owner) && decide (d.name=e.name)
def d0b(M:List Dl)(d:Dl):List Dl:=if d.kind=4∧(M.any (b9N d))=false then M++[d]else M
def b0D(bt:Dl→ByteArray)(l:List Dl):List (ByteArray×ByteArray):=l.foldl (c1c bt) []
def b3w(l:List Dl):List Dl:=l.foldl d0b []
def mapM(M:List Dl):List (V×V):=M.map fun d=>(.agg [.str d.owner,.str d.name],.agg d.enc)
theorem b4V{bt:Dl→ByteArray}{l:List Dl}{d:Dl}:b0D bt (l++[d])=c1c bt (b0D bt l) d:=by simp[b0D]
theorem b4p{l:List Dl}{d:Dl}:b3w (l++[d])=d0b (b3w l) d:=by simp[b3w]
theorem b1i(bt:Dl→ByteArray)(l:List Dl):(b0D bt l).length≤l.length:=by
 have key:∀ (l:List Dl) (B:List (ByteArray×ByteArray)),(l.foldl (c1c bt) B).length≤B.length+l.length:=by
  intro l
  induction l with
  | nil=>intro B;simp
  | cons x r ih =>
   intro B
   have:=ih (c1c bt B x)
   have h2:(c1c bt B x).length≤B.length+1:=by unfold c1c;split <;> simp
   simp only[g9G,g9k];omega
 simpa[b0D]using key l []
theorem f0F(d:Dl):∀ (M:List Dl) (i:Nat),(∃ j e,b1f [0,0] [.str d.owner,.str d.name] (mapM M) i=some (some (j,.agg (Dl.enc e)))∧(M.any (b9N d))=true)∨(b1f [0,0] [.str d.owner,.str d.name] (mapM M) i=some none∧(M.any (b9N d))=false)
 | [],i => .inr ⟨rfl,rfl⟩
 | e::r,i=>by
  have heq:eqL [V.str d.owner,V.str d.name] [V.str e.owner,V.str e.name]=some (b9N d e):=by
   simp only[eqL,eq1,h0b];rfl
  have h1:b1f [0,0] [.str d.owner,.str d.name] (mapM (e::r)) i=if b9N d e=true then some (some (i,.agg e.enc))else b1f [0,0] [.str d.owner,.str d.name] (mapM r) (i+1):=by
   simp only[mapM,g9o,b1f,heq]
   have hf:b3A [0,0] [V.str d.owner,V.str d.name] [V.str e.owner,V.str e.name]=true:=rfl
   rw[if_pos hf]
   cases b9N d e <;> rfl
  rw[h1,List.any_cons]
  by_cases h:b9N d e=true
  ·exact .inl ⟨i,_,by rw[if_pos h],by rw[h];rfl⟩
  ·rw[if_neg h]
   have:b9N d e=false:=by simpa using h
   rw[this,g9U]
   exact f0F d r (i+1)
def b8z(u:List Un)(cls:ByteArray):List ByteArray:=(b7p (b0D (btU u) (b0f u 0)) cls ((b0D (btU u) (b0f u 0)).length+1) [] ((b1B (b0D (btU u) (b0f u 0)) cls).getD ⟨#[]⟩)).1
end Go.Vg
namespace Go.Proofs.YtighfcpaplmaiaaGreatDoor
open Go Go.Vg Go.Proofs
theorem d9Z{B:List (ByteArray×ByteArray)}{n b:ByteArray}{h:List VObj}{id:Nat}{L:List VObj→Prop}(hn:(b1B B n).isSome=false):b3I h id (b6k B) (.str n) (.str b) (b1t .string (.str n) (b6k B) 0) L=L (h.set id (.map (b6k (B++[(n,b)])))):=by
 rcases d5Y n B 0 with⟨j,v,h1,h2⟩ | ⟨h1,h2⟩
 ·rw[h2]at hn;cases hn
 ·rw[h1];simp -implicitDefEqProofs only[go_sem];simp[b6k]
theorem g3y{M:List Dl}{d:Dl}{h:List VObj}{id:Nat}{L:List VObj→Prop}(hn:(M.any (b9N d))=false):b3I h id (mapM M) (.agg [.str d.owner,.str d.name]) (.agg d.enc) (b1f [0,0] [.str d.owner,.str d.name] (mapM M) 0) L=L (h.set id (.map (mapM (M++[d])))):=by
 rcases f0F d M 0 with⟨j,v,h1,h2⟩ | ⟨h1,h2⟩
 ·rw[h2]at hn;cases hn
 ·rw[h1];simp -implicitDefEqProofs only[go_sem];simp[mapM]
theorem b7O(k ka:Nat):∀ B:List (ByteArray×ByteArray),ltP k ka (b6k B)=true
 | []=>rfl
 | x::r=>by
  have:=b7O k ka r
  simp -implicitDefEqProofs only[b6k,g9o,ltP,go_sem]at this ⊢
  simp[this,V.lt]
theorem b7P(k ka:Nat):∀ M:List Dl,ltP k ka (mapM M)=true
 | []=>rfl
 | x::r=>by
  have:=b7P k ka r
  have hx:(V.agg x.enc).lt k ka=true:=by simp[V.lt,Dl.enc,ltL]
  simp only[mapM,g9o,ltP]at this ⊢
  rw[hx,this]
  simp[V.lt,ltL]
theorem b2i(k ka:Nat):∀ B:List (ByteArray×ByteArray),b6J k ka (B.map fun p=>[V.str p.1])=true
 | []=>rfl
 | x::r=>by simp only[g9o,b6J,b2i k ka r];rfl
theorem d1W:b2Q Tryz.prog 54 = .agg Dl.zero.enc:=by kernel_rfl
theorem b4J:b3f Tryz.prog 157=some [0,0]:=by kernel_rfl
theorem g4P(u:List Un)(hu:b2T u):b0r env 61 [sl 70 (u.map Un.enc)] [] [] fun v h a =>
  v = .ptr 2 0∧h=[.map (b6k (b0D (btU u) (b0f u 0))),.map (mapM (b3w (b0f u 0))),.cells [.slice (.arr 0) 9 ((b0D (btU u) (b0f u 0)).map fun p=>[.str p.1]),.map 0,.map 1,sl 54 ((b0f u 0).map Dl.enc)]]∧a=[(b0D (btU u) (b0f u 0)).length]:=by
 have hD:=c9R u hu
 rw[b5R]at hD
 have hdl:=b0L u 0 fun y hy=>(hu.2 y hy).1
 have hul:=hu.1
 have hat:∀ d∈b0f u 0,_:=fun d hd=>b4y u 0 d hd
 refine b0A (fn:=Tryz.f61) Tryz.func61 rfl (by rw[Tryz.ntmps61];simp) ?_
 simp -implicitDefEqProofs only[go_sem,Tryz.f61]
 refine hD.calls (by simp -implicitDefEqProofs only[go_sem]) ?_
 simp -implicitDefEqProofs only[go_sem]
 intro _ _
 generalize hdd:b0f u 0=dl at hat hdl ⊢
 have hdl2:dl.length≤1000000:=by omega
 refine b0n (β:=Unit) dl (fun pre _=>⟨[(24,.int .i64 pre.length),(23,.int .i64 dl.length),(22,sl 54 (dl.map Dl.enc)),(3,.ptr 2 0),(0,sl 70 (u.map Un.enc))],
   [.map (b6k (b0D (btU u) pre)),.map (mapM (b3w pre)),.cells [.slice (.arr 0) 9 ((b0D (btU u) pre).map fun p=>[.str p.1]),.map 0,.map 1,sl 54 (dl.map Dl.enc)]],[(b0D (btU u) pre).length]⟩)
  (fun _ _ _=>True) () ?_ trivial ?_ ?_
 ·simp -implicitDefEqProofs only[go_sem]
  exact⟨rfl,rfl,rfl,rfl⟩
 ·intro _ _
  simp -implicitDefEqProofs only[go_sem]
 ·rintro pre d post _ hx _
  have hpl:dl.length=pre.length+1+post.length:=by rw[hx];simp;omega
  have hgx:(dl.map Dl.enc).getD (pre.length:Int).toNat []=d.enc:=by rw[hx];simp[g8Z]
  have hlt:((pre.length:Int)<dl.length)=True:=by simp;omega
  have hbl:=b1i (btU u) pre
  have hw:IntKind.i64.wrap (↑pre.length+1)=↑(pre.length+1):=b0g (by omega)
  obtain⟨un,x,e1,e2,e3,nd,n,e4,e5,e6,e7,e8⟩:=hat d (by rw[hx];simp)
  simp -implicitDefEqProofs only[go_sem,hgx,hlt]
  refine⟨fun h2=>?_,fun h2=>⟨fun h4=>?_,fun h4=>?_⟩⟩
  ·refine b0h (cs:=[]) b0v (by kernel_rfl) ?_
   simp -implicitDefEqProofs only[go_sem,c0p]
   refine⟨fun hn=>?_,fun hn=>?_⟩
   ·have hn':(b1B (b0D (btU u) pre) d.name).isSome=false:=by simpa using hn
    have hxm:x∈u:=g9f e2
    have hnm:n∈b0o x.tree:=g9f e5
    have hnl:=b6d x.tree n hnm
    have hxl:=(hu.2 x hxm).1
    have hbs:=f3r u hu un nd x n e2 e5 (fun kk hk=>by
     obtain⟨k,t,g,ks⟩:=n
     have:=c3u (k:=k) (t:=t) (g:=g) (ks:=ks) (x:=kk) hk;omega) (by
     obtain⟨k,t,g,ks⟩:=n
     have:=b3E ks
     rw[b0Y]at hnl
     simp only[Nd.kids];omega)
    have hb:(b4n n.kids (nd+1)).1.text=btU u d:=by
     unfold btU
     rw[e1,e4]
     simp only[g9s,g9j,e2,e5]
     rw[b9K n.kids (nd+1) 0]
    have hpa:b0D (btU u) (pre++[d])=b0D (btU u) pre++[(d.name,btU u d)]:=by
     rw[b4V,c1c,if_pos ⟨h2,hn'⟩]
    have hpm:b3w (pre++[d])=b3w pre:=by
     rw[b4p,d0b,if_neg (by omega)]
    rw[e1,e4,g9s,g9s]
    refine hbs.calls (by simp -implicitDefEqProofs only[go_sem]) ?_
    generalize b4n n.kids (nd+1)=bb at hb ⊢
    obtain⟨⟨bk,bx,bg,bks⟩,bi⟩:=bb
    replace hb:bx=btU u d:=hb
    simp -implicitDefEqProofs only[go_sem,hb,d9Z hn']
    refine b0h (cs:=[]) b0v (by kernel_rfl) ?_
    simp -implicitDefEqProofs only[go_sem,hb,d9Z hn']
    refine b0h (cs:=[]) b0v (by kernel_rfl) ?_
    simp -implicitDefEqProofs only[go_sem,hb,d9Z hn']
    rw[b7O,b7P,b2i,b0m _ _ _ (b0G _),b0m _ _ _ (b0x _)]
    exact⟨by omega,(),hw,⟨by rw[hpa],by rw[hpm],by rw[hpa];simp⟩,by rw[hpa];simp,.inr ⟨rfl,rfl⟩⟩
   ·have hn':(b1B (b0D (btU u) pre) d.name).isSome=true:=by simpa using hn
    have hpa:b0D (btU u) (pre++[d])=b0D (btU u) pre:=by
     rw[b4V,c1c,if_neg (by rw[hn'];simp)]
    have hpm:b3w (pre++[d])=b3w pre:=by
     rw[b4p,d0b,if_neg (by omega)]
    rw[hpa,hpm,b7O,b7P,b2i,b0m _ _ _ (b0G _),b0m _ _ _ (b0x _)]
    exact⟨(),hw,⟨rfl,rfl,rfl⟩,rfl,.inr ⟨rfl,rfl⟩⟩
  ·refine b0h (cs:=[]) b0v (by kernel_rfl) ?_
   simp -implicitDefEqProofs only[go_sem,b4J]
   have hpa:b0D (btU u) (pre++[d])=b0D (btU u) pre:=by
    rw[b4V,c1c,if_neg (by omega)]
   rcases f0F d (b3w pre) 0 with⟨j,v,q1,q2⟩ | ⟨q1,q2⟩
   ·have hpm:b3w (pre++[d])=b3w pre:=by
     rw[b4p,d0b,if_neg (by rw[q2];simp)]
    rw[q1]
    simp -implicitDefEqProofs only[go_sem]
    rw[hpa,hpm,b7O,b7P,b2i,b0m _ _ _ (b0G _),b0m _ _ _ (b0x _)]
    exact⟨(),hw,⟨rfl,rfl,rfl⟩,rfl,.inr ⟨rfl,rfl⟩⟩
   ·have hpm:b3w (pre++[d])=b3w pre++[d]:=by
     rw[b4p,d0b,if_pos ⟨h4,q2⟩]
    rw[q1]
    simp -implicitDefEqProofs only[go_sem,d1W]
    refine b0h (cs:=[]) b0v (by kernel_rfl) ?_
    simp -implicitDefEqProofs only[go_sem,b4J,g3y q2]
    rw[b7O,b7P,b2i,b0m _ _ _ (b0G _),b0m _ _ _ (b0x _)]
    exact⟨(),hw,⟨by rw[hpa],by rw[hpm],by rw[hpa]⟩,by rw[hpa],.inr ⟨rfl,rfl⟩⟩
  ·have hpa:b0D (btU u) (pre++[d])=b0D (btU u) pre:=by
    rw[b4V,c1c,if_neg (by omega)]
   have hpm:b3w (pre++[d])=b3w pre:=by
    rw[b4p,d0b,if_neg (by omega)]
   rw[hpa,hpm,b7O,b7P,b2i,b0m _ _ _ (b0G _),b0m _ _ _ (b0x _)]
   exact⟨(),hw,⟨rfl,rfl,rfl⟩,rfl,.inr ⟨rfl,rfl⟩⟩
theorem d9q(u:List Un)(hu:b2T u)(cls:ByteArray):b0u env 33 [sl 70 (u.map Un.enc),.str cls] (sl 9 ((b8z u cls).map b0p)):=by
 have hdl:=b0L u 0 fun y hy=>(hu.2 y hy).1
 have hul:=hu.1
 have hbl:=b1i (btU u) (b0f u 0)
 refine b0i (fn:=Tryz.f33) Tryz.func33 rfl (by rw[Tryz.ntmps33];simp) (by simp -implicitDefEqProofs only[go_sem];exact b0x _) (by simp -implicitDefEqProofs only[go_sem]) ?_
 simp -implicitDefEqProofs only[go_sem,Tryz.f33]
 refine b0r.mono (g4P u hu) ?_
 rintro v h a ⟨rfl,rfl,rfl⟩
 simp -implicitDefEqProofs only[go_sem]
 refine b0r.mono (f0X (b0D (btU u) (b0f u 0)) _ _ _ _ cls (by omega) rfl rfl) ?_
 rintro v h a ⟨n,z,rfl,rfl,rfl⟩
 simp -implicitDefEqProofs only[go_sem]
 rfl
end Go.Proofs.YtighfcpaplmaiaaGreatDoor
namespace Go.Vg
theorem b6L{k:Int}{t g}{ks:List Nd}{p:Int}{a:Nat}:b0z (.mk k t g ks) p a=⟨p,k,t,g,b0H ks (a+1)⟩::b1b ks a (a+1):=by rw[b0z]
theorem c2v:∀ (n:Nd) (i:Nat) (y:Nd),(b0o n)[i]? = some y→∃ A B,b0o n=A++b0o y++B∧A.length=i∧∀ p a,∃ q A' B',b0z n p a=A'++b0z y q (a+i)++B'∧A'.length=i:=by
 refine Nd.all fun k t g ks ih i y hy=>?_
 have hs:∀ (l:List Nd),(∀ z∈l,∀ (i:Nat) (y:Nd),(b0o z)[i]? = some y→∃ A B,b0o z=A++b0o y++B∧A.length=i∧∀ p a,∃ q A' B',b0z z p a=A'++b0z y q (a+i)++B'∧A'.length=i)→∀ (i:Nat) (y:Nd),(b0l l)[i]? = some y →
   ∃ A B,b0l l=A++b0o y++B∧A.length=i∧∀ (p:Nat) a,∃ q A' B',b1b l p a=A'++b0z y q (a+i)++B'∧A'.length=i:=by
  intro l
  induction l with
  | nil=>intro _ i y hy;simp[b0l]at hy
  | cons z r ihr =>
   intro h i y hy
   rw[b0l]at hy
   by_cases hi:i<(b0o z).length
   ·rw[g9a hi]at hy
    obtain⟨A,B,h1,h2,h3⟩:=h z (by simp) i y hy
    refine⟨A,B++b0l r,by rw[b0l,h1];simp,h2,fun p a=>?_⟩
    obtain⟨q,A',B',g1,g2⟩:=h3 p a
    exact⟨q,A',B'++b1b r p (a+(b0o z).length),by rw[b1b,g1];simp,g2⟩
   ·rw[g9c (by omega)]at hy
    obtain⟨A,B,h1,h2,h3⟩:=ihr (fun w hw=>h w (by simp[hw])) _ y hy
    refine⟨b0o z++A,B,by rw[b0l,h1];simp,by rw[g9d];omega,fun p a=>?_⟩
    obtain⟨q,A',B',g1,g2⟩:=h3 p (a+(b0o z).length)
    refine⟨q,b0z z p a++A',B',?_,by rw[g9d,b0N];omega⟩
    rw[b1b,g1,show a+(b0o z).length+(i - (b0o z).length)=a+i by omega];simp
 rw[b0o]at hy
 cases i with
 | zero =>
  simp at hy
  subst hy
  exact⟨[],[],by simp,rfl,fun p a=>⟨p,[],[],by simp,rfl⟩⟩
 | succ i =>
  rw[g8V]at hy
  obtain⟨A,B,h1,h2,h3⟩:=hs ks ih i y hy
  refine⟨.mk k t g ks::A,B,by rw[b0o,h1];simp,by simp[h2],fun p a=>?_⟩
  obtain⟨q,A',B',g1,g2⟩:=h3 a (a+1)
  refine⟨q,⟨p,k,t,g,b0H ks (a+1)⟩::A',B',?_,by simp[g2]⟩
  rw[b6L,g1,show a+1+i=a+(i+1)by omega];simp
theorem f4d{n:Nd}{i:Nat}{k:Int}{t g}{ks:List Nd}(h:(b0o n)[i]? = some (.mk k t g ks)):∃ q,(b0z n (-1) 0)[i]? = some ⟨q,k,t,g,b0H ks (i+1)⟩:=by
 obtain⟨A,B,h1,h2,h3⟩:=c2v n i _ h
 obtain⟨q,A',B',g1,g2⟩:=h3 (-1) 0
 refine⟨q,?_⟩
 rw[g1,b6L,g9t,g9c (by omega),g2,g9s]
 simp
theorem b3M{n:Nd}{i:Nat}{k:Int}{t g}{ks:List Nd}(h:(b0o n)[i]? = some (.mk k t g ks)):(b0j (b0z n (-1) 0) i).kind=k∧(b0j (b0z n (-1) 0) i).text=t∧(b0j (b0z n (-1) 0) i).kids=b0H ks (i+1):=by
 obtain⟨q,hq⟩:=f4d h
 simp[b0j,g8Z,hq]
theorem c7F:∀ (ks:List Nd) (b j:Nat) (z:Nd),ks[j]? = some z→∃ o,(b0H ks b)[j]? = some (b+o)∧(b0l ks)[o]? = some z
 | [],b,j,z,h=>by simp at h
 | x::r,b,j,z,h=>by
  cases j with
  | zero =>
   simp at h;subst h
   refine⟨0,by simp[b0H],?_⟩
   obtain⟨a1,a2,a3,a4⟩:=x
   simp[b0l,b0o]
  | succ j =>
   obtain⟨o,h1,h2⟩:=c7F r (b+(b0o x).length) j z (by simpa using h)
   refine⟨(b0o x).length+o,by rw[b0H,g8V,h1,h0n],?_⟩
   rw[b0l,g9c (by omega)];simpa using h2
theorem b7X{n:Nd}{i j:Nat}{k:Int}{t g}{ks:List Nd}{z:Nd}(h:(b0o n)[i]? = some (.mk k t g ks))(hz:ks[j]? = some z):∃ c,(b0H ks (i+1))[j]? = some c∧(b0o n)[c]? = some z:=by
 obtain⟨A,B,h1,h2,h3⟩:=c2v n i _ h
 obtain⟨o,g1,g2⟩:=c7F ks (i+1) j z hz
 refine⟨i+1+o,g1,?_⟩
 have hol:=(g8Y.1 g2).1
 rw[h1,g9t,g9c (by omega),b0o]
 rw[g9a (by simp;omega),h2,show i+1+o - i=o+1 by omega,g8V]
 exact g2
def bR(l:List Rw):List Nat→Int×ByteArray
 | []=>(-1,⟨#[]⟩)
 | k::r=>if(b0j l k).kind=8 then(k,(b0j l k).text)else bR l r
theorem d9T{n:Nd}{i:Nat}{k:Int}{t g}{ks:List Nd}(h:(b0o n)[i]? = some (.mk k t g ks)):(bR (b0z n (-1) 0) (b0H ks (i+1))).2=(b4n ks 0).1.text:=by
 have key:∀ (l:List Nd) (cs:List Nat) (b:Int),cs.length=l.length→(∀ (j:Nat) z,l[j]? = some z→∃ c,cs[j]? = some c∧(b0o n)[c]? = some z)→(bR (b0z n (-1) 0) cs).2=(b4n l b).1.text:=by
  intro l
  induction l with
  | nil=>intro cs b hl _;rw[g9C hl];rfl
  | cons z r ihr =>
   intro cs b hl hc
   cases cs with
   | nil=>simp at hl
   | cons c cs =>
    obtain⟨c',h1,h2⟩:=hc 0 z rfl
    simp at h1;subst h1
    obtain⟨zk,zt,zg,zks⟩:=z
    obtain⟨q1,q2,q3⟩:=b3M h2
    rw[bR,b4n,q1,q2]
    by_cases h8:zk=8
    ·rw[if_pos h8,if_pos (show(Nd.mk zk zt zg zks).kind=8 from h8)];rfl
    ·rw[if_neg h8,if_neg (show ¬ (Nd.mk zk zt zg zks).kind=8 from h8)]
     exact ihr cs _ (by simpa using hl) fun j z hz=>by
      obtain⟨c'',g1,g2⟩:=hc (j+1) z (by simpa using hz)
      exact⟨c'',by simpa using g1,g2⟩
 exact key ks _ 0 (b0V _ _) fun j z hz=>b7X h hz
def b6Q(x:Un):List Rw:=if x.broken=true then []else b0z x.tree (-1) 0
def d9M(x:Un):List V:=[sl 48 ((b6Q x).map Rw.enc)]
def b2x(u:List Un)(d:Dl):Int×ByteArray:=if d.kind=2 then match u[d.unit.toNat]? with
 | some x=>bR (b6Q x) (b0j (b6Q x) d.node.toNat).kids
 | none=>(-1,⟨#[]⟩)else(-1,⟨#[]⟩)
def upD(u:List Un)(dl:List Dl)(d:Dl):Int:=if(b2x u d).2=⟨#[]⟩then -1 else firstD dl (b2x u d).2 0
def c3a(n:Int):List V:=[.int .i64 n]
def b1x(u:List Un)(dl:List Dl):List V:=[sl 54 (dl.map Dl.enc),sl 3 ((dl.map fun d=>(b2x u d).1).map c3a),sl 9 ((dl.map fun d=>(b2x u d).2).map b0p),sl 3 ((dl.map (upD u dl)).map c3a)]
theorem b6N:∀ l:List Int,b0R (l.map c3a)=true
 | []=>rfl
 | x::r=>by simp only[g9o,b0R,b6N r];rfl
theorem b2e(u:List Un)(dl:List Dl):b1a (b1x u dl)=true:=by
 simp -implicitDefEqProofs only[b1x,go_sem,b6N,b0G,c3f]
end Go.Vg
namespace Go.Proofs.YtighfcpaplmaiaaGreatDoor
open Go Go.Vg Go.Proofs
theorem d2W(u:List Un)(hu:b2T u):b0u env 74 [sl 70 (u.map Un.enc)] (.agg (b1x u (b0f u 0))):=by
 have hD:=b6P u hu
 have hdl:=b0L u 0 fun y hy=>(hu.2 y hy).1
 have hul:=hu.1
 have hat:∀ d∈b0f u 0,_:=fun d hd=>b4y u 0 d hd
 refine b0i (fn:=Tryz.f74) Tryz.func74 rfl (by rw[Tryz.ntmps74];simp) (by simp -implicitDefEqProofs only[go_sem];exact b0x _) (by simp -implicitDefEqProofs only[go_sem];exact b2e _ _) ?_
 simp -implicitDefEqProofs only[go_sem,Tryz.f74]
 refine hD.calls (by simp -implicitDefEqProofs only[go_sem]) ?_
 simp -implicitDefEqProofs only[go_sem]
 generalize hdd:b0f u 0=dl at hat hdl ⊢
 have hdl2:dl.length≤1000000:=by omega
 refine b0n (β:=Unit) u (fun pre _=>⟨[(5,.int .i64 pre.length),(4,.slice (.arr 0) 45 (pre.map d9M)),(3,.ptr 1 0),(2,.ptr 0 0),(0,sl 70 (u.map Un.enc))],
   [.cells [.slice .nil 0 [],.slice .nil 0 [],.slice .nil 0 [],.slice .nil 0 []],.cells [sl 54 (dl.map Dl.enc),.slice .nil 0 [],.slice .nil 0 [],.slice .nil 0 []]],[pre.length]⟩) (fun _ _ _=>True) () ?_ trivial ?_ ?_
 ·simp -implicitDefEqProofs only[go_sem]
  try rfl
 ·intro _ _
  simp -implicitDefEqProofs only[go_sem]
  intro _ _
  refine b0n (β:=Unit) dl (fun pre _=>⟨[(7,.int .i64 pre.length),(4,.slice (.arr 0) 45 (u.map d9M)),(3,.ptr 1 0),(2,.ptr 0 0),(0,sl 70 (u.map Un.enc))],
   [.cells [.slice .nil 0 [],.slice .nil 0 [],.slice .nil 0 [],.slice .nil 0 []],.cells [sl 54 (dl.map Dl.enc),.slice (.arr 1) 3 ((pre.map fun d=>(b2x u d).1).map c3a),.slice (.arr 2) 9 ((pre.map fun d=>(b2x u d).2).map b0p),.slice (.arr 3) 3 ((pre.map (upD u dl)).map c3a)]],[u.length,pre.length,pre.length,pre.length]⟩) (fun _ _ _=>True) () ?_ trivial ?_ ?_
  ·simp -implicitDefEqProofs only[go_sem]
   rfl
  ·intro _ _
   simp -implicitDefEqProofs only[go_sem]
   intro _ _
   rfl
  ·rintro pre d post _ hx _
   have hpl:dl.length=pre.length+1+post.length:=by rw[hx];simp;omega
   have hgx:(dl.map Dl.enc).getD (pre.length:Int).toNat []=d.enc:=by rw[hx];simp[g8Z]
   have hw:IntKind.i64.wrap (↑pre.length+1)=↑(pre.length+1):=b0g (by omega)
   have hlt:((pre.length:Int)<dl.length)=True:=by simp;omega
   obtain⟨un,x,e1,e2,e3,nd,n,e4,e5,e6,e7,e8⟩:=hat d (by rw[hx];simp)
   have hul2:un<u.length:=(g8Y.1 e2).1
   have hxm:x∈u:=g9f e2
   have hxl:=(hu.2 x hxm).1
   have hndl:nd<(b0o x.tree).length:=(g8Y.1 e5).1
   have htab:b6Q x=b0z x.tree (-1) 0:=by rw[b6Q,if_neg (by rw[e3];simp)]
   obtain⟨dk,dow,dn,du,dd⟩:=d
   simp only at e1 e4 e6 e7 e8
   rw[g9s]at e1 e4
   subst e1 e4
   have hel:(u.map d9M).getD (un:Int).toNat []=[sl 48 ((b6Q x).map Rw.enc)]:=by simp[g8Z,e2,d9M]
   have hlu:((un:Int)<(u.length:Int))=True:=by simp;omega
   have hrl:(b6Q x).length=(b0o x.tree).length:=by rw[htab,b0N]
   have hnl:((nd:Int)<((b6Q x).length:Int))=True:=by rw[hrl];simp;omega
   have hrd:∀ k,b2x u ⟨k,dow,dn,(un:Nat),(nd:Nat)⟩=if k=2 then bR (b6Q x) (b0j (b6Q x) nd).kids else(-1,⟨#[]⟩):=fun k=>by
    simp only[b2x,g9j,e2]
   have hneg:dk≠2→b2x u ⟨dk,dow,dn,(un:Nat),(nd:Nat)⟩=(-1,⟨#[]⟩):=fun h=>by rw[hrd,if_neg h]
   simp -implicitDefEqProofs only[go_sem,hgx,hlt,Dl.enc]
   intro _ _
   refine⟨fun h2=>⟨by omega,?_⟩,fun h2=>⟨by omega,by omega,by omega,(),hw,by rw[hneg h2];rfl,by rw[hneg h2];rfl,by rw[upD,hneg h2];rfl⟩⟩
   rw[hel]
   simp -implicitDefEqProofs only[go_sem,hgx,hlt,Dl.enc,hnl,b0F (show nd<(b6Q x).length by omega)]
   obtain⟨nk,nt,ng,nks⟩:=n
   have hkd:(b0j (b6Q x) nd).kids=b0H nks (nd+1):=by rw[htab];exact(b3M e5).2.2
   have hkl:∀ k∈(b0j (b6Q x) nd).kids,k<(b6Q x).length:=fun k hk=>by
    rw[hkd]at hk
    obtain⟨j,hj,hje⟩:=h0c hk
    have hjl:j<nks.length:=by rw[b0V]at hj;exact hj
    obtain⟨c,g1,g2⟩:=b7X e5 (g9b hjl)
    have:c=k:=by rw[g9b hj]at g1;simp at g1;omega
    subst this
    rw[hrl];exact(g8Y.1 g2).1
   have hksz:(b0j (b6Q x) nd).kids.length≤1000:=by
    rw[hkd,b0V]
    have h1:=b3E nks
    have h2:=b6d _ _ (g9f e5)
    rw[b0Y]at h2
    omega
   have hR:=hrd dk
   rw[if_pos h2]at hR
   generalize hks:(b0j (b6Q x) nd).kids=ks at hkl hksz hR ⊢
   refine b0n (β:=Int×ByteArray) ks (fun p b=>⟨[(13,.int .i64 p.length),(12,sl 3 (ks.map b0M)),(11,sl 48 ((b6Q x).map Rw.enc)),(10,.int .i64 (-1)),(9,.str b.2),(8,.int .i64 b.1),(7,.int .i64 pre.length),(4,.slice (.arr 0) 45 (u.map d9M)),(3,.ptr 1 0),(2,.ptr 0 0),(0,sl 70 (u.map Un.enc))],
    [.cells [.slice .nil 0 [],.slice .nil 0 [],.slice .nil 0 [],.slice .nil 0 []],.cells [sl 54 (dl.map Dl.enc),.slice (.arr 1) 3 ((pre.map fun d=>(b2x u d).1).map c3a),.slice (.arr 2) 9 ((pre.map fun d=>(b2x u d).2).map b0p),.slice (.arr 3) 3 ((pre.map (upD u dl)).map c3a)]],[u.length,pre.length,pre.length,pre.length]⟩)
    (fun p q b=>(b.1 = -1∧b.2=⟨#[]⟩∧bR (b6Q x) ks=bR (b6Q x) q)∨(0≤b.1∧bR (b6Q x) ks=b)) (-1,⟨#[]⟩) ?_ (.inl ⟨rfl,rfl,rfl⟩) ?_ ?_
   ·simp -implicitDefEqProofs only[go_sem]
    try rfl
   ·rintro⟨bt,bm⟩ hi
    have hb:bR (b6Q x) ks=(bt,bm):=by
     rcases hi with⟨h1,h2,h3⟩ | ⟨h1,h2⟩
     ·rw[h3];simp only at h1 h2;rw[h1,h2];rfl
     ·exact h2
    rw[hb]at hR
    have hup0:bm=⟨#[]⟩→upD u dl ⟨dk,dow,dn,(un:Nat),(nd:Nat)⟩ = -1:=fun h=>by rw[upD,hR,if_pos h]
    have hup1:bm≠⟨#[]⟩→upD u dl ⟨dk,dow,dn,(un:Nat),(nd:Nat)⟩=firstD dl bm 0:=fun h=>by rw[upD,hR,if_neg h]
    simp -implicitDefEqProofs only[go_sem]
    intro _ _
    refine⟨fun hm=>?_,fun hm=>⟨by omega,by omega,by omega,(),hw,by rw[hR];rfl,by rw[hR];rfl,by rw[hup0 (by simpa using hm)];rfl⟩⟩
    refine(b6V dl bm).calls (by simp -implicitDefEqProofs only[go_sem]) ?_
    simp -implicitDefEqProofs only[go_sem]
    exact⟨by omega,by omega,by omega,(),hw,by rw[hR];rfl,by rw[hR];rfl,by rw[hup1 (by simpa using hm)];rfl⟩
   ·rintro p k q ⟨bt,bm⟩ hk hi
    have hpl2:ks.length=p.length+1+q.length:=by rw[hk];simp;omega
    have hgk:(ks.map b0M).getD (p.length:Int).toNat []=[.int .i64 k]:=by rw[hk];simp[g8Z,b0M]
    have hltk:((p.length:Int)<ks.length)=True:=by simp;omega
    have hkr:=hkl k (by rw[hk];simp)
    simp -implicitDefEqProofs only[go_sem,hgk,hltk,b0F hkr]
    intro _ _
    refine⟨fun hneg=>⟨by omega,?_⟩,fun hpos=>?_⟩
    ·have hi':bt = -1∧bm=⟨#[]⟩∧bR (b6Q x) ks=bR (b6Q x) (k::q):=by
      rcases hi with h | ⟨h1,h2⟩
      ·exact h
      ·simp only at h1;omega
     obtain⟨j1,j2,j3⟩:=hi'
     rw[bR]at j3
     refine⟨fun h8=>⟨by omega,(k,(b0j (b6Q x) k).text),.inr ⟨by simp,by rw[j3,if_pos h8]⟩,b0g (by omega),rfl,rfl⟩,fun h8=>⟨(bt,bm),.inl ⟨j1,j2,by rw[j3,if_neg h8]⟩,b0g (by omega),rfl,rfl⟩⟩
    ·have hb:bR (b6Q x) ks=(bt,bm):=by
      rcases hi with⟨h1,h2,h3⟩ | ⟨h1,h2⟩
      ·simp only at h1;omega
      ·exact h2
     rw[hb]at hR
     have hup0:bm=⟨#[]⟩→upD u dl ⟨dk,dow,dn,(un:Nat),(nd:Nat)⟩ = -1:=fun h=>by rw[upD,hR,if_pos h]
     have hup1:bm≠⟨#[]⟩→upD u dl ⟨dk,dow,dn,(un:Nat),(nd:Nat)⟩=firstD dl bm 0:=fun h=>by rw[upD,hR,if_neg h]
     refine⟨fun hm=>?_,fun hm=>⟨by omega,by omega,by omega,(),hw,by rw[hR];rfl,by rw[hR];rfl,by rw[hup0 (by simpa using hm)];rfl⟩⟩
     refine(b6V dl bm).calls (by simp -implicitDefEqProofs only[go_sem]) ?_
     simp -implicitDefEqProofs only[go_sem]
     exact⟨by omega,by omega,by omega,(),hw,by rw[hR];rfl,by rw[hR];rfl,by rw[hup1 (by simpa using hm)];rfl⟩
 ·rintro pre x post _ hx _
  have hpl:u.length=pre.length+1+post.length:=by rw[hx];simp;omega
  have hgx:(u.map Un.enc).getD (pre.length:Int).toNat []=x.enc:=by rw[hx];simp[g8Z]
  have hw:IntKind.i64.wrap (↑pre.length+1)=↑(pre.length+1):=b0g (by omega)
  have hlt:((pre.length:Int)<u.length)=True:=by simp;omega
  have hxn:(b0o x.tree).length≤1000:=(hu.2 x (by rw[hx];simp)).1
  simp -implicitDefEqProofs only[go_sem,hgx,hlt]
  intro _ _
  refine⟨fun hb=>?_,fun hb=>⟨by omega,(),hw,?_⟩⟩
  ·refine(c5V x.tree (by omega)).calls (by simp -implicitDefEqProofs only[go_sem]) ?_
   simp -implicitDefEqProofs only[go_sem]
   refine⟨by omega,(),hw,?_⟩
   rw[d9M,b6Q,if_neg (by simpa using hb)]
  ·rw[d9M,b6Q,if_pos (by simpa using hb)];rfl
end Go.Proofs.YtighfcpaplmaiaaGreatDoor
namespace Go.Vg
def b4u(n:ByteArray)(d:Dl):Bool:=decide (d.kind=2) && decide (d.name=n)
theorem b2c(n:ByteArray):∀ (dl:List Dl) (i:Nat),(∃ j d,firstD dl n i=((i+j:Nat):Int)∧dl[j]? = some d∧d.kind=2∧d.name=n∧dl.find? (b4u n)=some d)∨(firstD dl n i = -1∧dl.find? (b4u n)=none)
 | [],i => .inr ⟨rfl,rfl⟩
 | d::r,i=>by
  by_cases h:d.kind=2∧d.name=n
  ·refine .inl ⟨0,d,by rw[firstD,if_pos h];rfl,rfl,h.1,h.2,?_⟩
   rw[List.find?_cons_of_pos (by simp[b4u,h])]
  ·rw[firstD,if_neg h,List.find?_cons_of_neg (by simpa[b4u]using h)]
   rcases b2c n r (i+1)with⟨j,e,h1,h2,h3⟩ | h1
   ·exact .inl ⟨j+1,e,by rw[h1];congr 1;omega,by simpa using h2,h3⟩
   ·exact .inr h1
theorem d3u{B:List (ByteArray×ByteArray)}{p:ByteArray×ByteArray}{n:ByteArray}:b1B (B++[p]) n=match b1B B n with | some b=>some b | none=>if p.1=n then some p.2 else none:=by
 simp only[b1B,List.find?_append]
 cases B.find? fun p=>decide (p.1=n)with
 | some q=>rfl
 | none =>
  by_cases h:p.1=n
  ·simp[h]
  ·simp[h]
theorem b1R(bt:Dl→ByteArray)(n:ByteArray):∀ (dl:List Dl),b1B (b0D bt dl) n=(dl.find? (b4u n)).map bt:=by
 have key:∀ (dl:List Dl) (B:List (ByteArray×ByteArray)),b1B (dl.foldl (c1c bt) B) n=match b1B B n with | some b=>some b | none=>(dl.find? (b4u n)).map bt:=by
  intro dl
  induction dl with
  | nil=>intro B;simp;cases b1B B n <;> rfl
  | cons d r ih =>
   intro B
   rw[g9G,ih]
   by_cases h2:d.kind=2
   ·by_cases hs:(b1B B d.name).isSome=false
    ·rw[c1c,if_pos ⟨h2,hs⟩,d3u]
     cases hb:b1B B n with
     | some b=>rfl
     | none =>
      by_cases hn:d.name=n
      ·rw[if_pos hn,List.find?_cons_of_pos (by simp[b4u,h2,hn])];rfl
      ·rw[if_neg hn,List.find?_cons_of_neg (by simp[b4u,hn])]
    ·rw[c1c,if_neg (by rintro⟨_,h⟩;exact hs h)]
     cases hb:b1B B n with
     | some b=>rfl
     | none =>
      have hn:d.name≠n:=by rintro rfl;rw[hb]at hs;simp at hs
      rw[List.find?_cons_of_neg (by simp[b4u,hn])]
   ·rw[c1c,if_neg (by omega),List.find?_cons_of_neg (by simp[b4u,h2])]
 intro dl
 have:=key dl []
 simpa[b0D,b1B]using this
theorem b8t{u:List Un}{d:Dl}(hd:d∈b0f u 0)(h2:d.kind=2):(b2x u d).2=btU u d:=by
 obtain⟨un,x,e1,e2,e3,nd,n,e4,e5,e6,e7,e8⟩:=b4y u 0 d hd
 obtain⟨nk,nt,ng,nks⟩:=n
 have htab:b6Q x=b0z x.tree (-1) 0:=by rw[b6Q,if_neg (by rw[e3];simp)]
 rw[g9s]at e1 e4
 rw[b2x,if_pos h2,btU,e1,e4]
 simp only[g9j,e2,e5,htab,(b3M e5).2.2,Nd.kids]
 exact d9T e5
def c3o(dl:List Dl)(n:ByteArray):Int:=if n=⟨#[]⟩then -1 else firstD dl n 0
end Go.Vg
namespace Go.Proofs.YtighfcpaplmaiaaGreatDoor
open Go Go.Vg Go.Proofs
theorem c5c(u:List Un)(hu:b2T u)(cls:ByteArray):b0u env 174 [.agg (b1x u (b0f u 0)),.str cls] (sl 9 ((b8z u cls).map b0p)):=by
 have hdl:=b0L u 0 fun y hy=>(hu.2 y hy).1
 have hul:=hu.1
 have hbl:=b1i (btU u) (b0f u 0)
 have hgb:=fun n=>b1R (btU u) n (b0f u 0)
 have hrd:∀ d∈b0f u 0,d.kind=2→(b2x u d).2=btU u d:=fun d h1 h2=>b8t h1 h2
 refine b0i (fn:=Tryz.f174) Tryz.func174 rfl (by rw[Tryz.ntmps174];simp) (by simp -implicitDefEqProofs only[go_sem];exact b2e _ _) (by simp -implicitDefEqProofs only[go_sem]) ?_
 unfold b8z
 generalize b0D (btU u) (b0f u 0)=B at hbl hgb ⊢
 generalize hdd:b0f u 0=dl at hdl hbl hgb hrd ⊢
 simp -implicitDefEqProofs only[go_sem,Tryz.f174,b1x]
 refine(b6V dl cls).calls (by simp -implicitDefEqProofs only[go_sem]) ?_
 simp -implicitDefEqProofs only[go_sem]
 rcases b2c cls dl 0 with⟨j,d,q1,q2,q3,q4,q5⟩ | ⟨q1,q2⟩
 ·rw[g9s]at q1
  have hup:∀ (j:Nat) d,dl[j]? = some d→((dl.map (upD u dl)).map c3a).getD (j:Int).toNat []=[.int .i64 (c3o dl (b2x u d).2)]:=fun j d h=>by
   simp[g8Z,h,c3a,upD,c3o]
  have hdg:∀ (j:Nat) d,dl[j]? = some d→(dl.map Dl.enc).getD (j:Int).toNat []=d.enc:=fun j d h=>by
   simp[g8Z,h]
  have hjl:j<dl.length:=(g8Y.1 q2).1
  have hlt:((j:Int)<dl.length)=True:=by simp;omega
  have hn0:((j:Int)<0)=False:=by simp
  have hgc:b1B B cls=some (btU u d):=by rw[hgb,q5];rfl
  have hbd:(b2x u d).2=btU u d:=hrd d (g9f q2) q3
  rw[q1,hgc]
  simp -implicitDefEqProofs only[go_sem,hn0,hlt,hup j d q2,hbd,g9w]
  generalize hgo:b7p B cls (B.length+1) [] (btU u d)=goal
  refine b1A (α:=List ByteArray×ByteArray) (fun s=>⟨[(7,.int .i64 (c3o dl s.2)),(5,.slice (.arr 0) 9 (s.1.map b0p)),(4,.slice .nil 0 []),(2,.ptr 0 0),(1,.str cls)],
   [.cells (b1x u dl)],[s.1.length]⟩)
   (fun s=>b7p B cls (B.length+1 - s.1.length) s.1 s.2=goal∧s.1.Nodup∧∀ x∈s.1,(b1B B x).isSome=true) (fun s=>B.length+1 - s.1.length) ([],btU u d) ?_ ⟨by simpa using hgo,by simp,by simp⟩ ?_
  ·simp -implicitDefEqProofs only[go_sem,b1x]
  ·rintro⟨out,next⟩ ⟨i1,i2,i3⟩
   simp only at i1 i2 i3
   have hle:out.length≤B.length:=by
    have:=c0S out (B.map (·.1)) i2 fun x hx=>b6X (i3 x hx)
    simpa using this
   obtain⟨f,hf⟩:∃ f,B.length+1 - out.length=f+1:=⟨B.length - out.length,by omega⟩
   rw[hf,b7p]at i1
   have hstop:(decide (next=⟨#[]⟩) || !(b1B B next).isSome || (cls::out).any fun x=>decide (x=next))=true→sl 9 (out.map b0p)=sl 9 (goal.1.map b0p):=fun h=>by
    rw[if_pos h]at i1;rw[←i1]
   by_cases hnx:next=⟨#[]⟩
   ·have hi:c3o dl next = -1:=by rw[c3o,if_pos hnx]
    rw[hi]
    simp -implicitDefEqProofs only[go_sem,b1x]
    exact hstop (by simp[hnx])
   have hi:c3o dl next=firstD dl next 0:=by rw[c3o,if_neg hnx]
   rcases b2c next dl 0 with⟨j2,d2,r1,r2,r3,r4,r5⟩ | ⟨r1,r2⟩
   rotate_left
   ·rw[hi,r1]
    simp -implicitDefEqProofs only[go_sem,b1x]
    exact hstop (by rw[hgb,r2];simp)
   rw[g9s]at r1
   rw[hi,r1]
   have hjl2:j2<dl.length:=(g8Y.1 r2).1
   have hlt2:((j2:Int)<dl.length)=True:=by simp;omega
   have hn2:(0≤(j2:Int))=True:=by simp
   have hbd2:(b2x u d2).2=btU u d2:=hrd d2 (g9f r2) r3
   have hgn:b1B B next=some (btU u d2):=by rw[hgb,r5];rfl
   rw[hgn]at i1 hstop
   simp only[g9H,Bool.not_true,Bool.or_false,g9w]at i1 hstop
   simp -implicitDefEqProofs only[go_sem,b1x,hn2,hlt2,hdg j2 d2 r2,hup j2 d2 r2,hbd2,r4]
   refine⟨fun hc=>?_,fun hc=>hstop (by
    have hc:next=cls:=by simpa using hc
    subst hc;simp)⟩
   have hnc:¬ next=cls:=by simpa using hc
   refine(f3J out next).calls (by simp -implicitDefEqProofs only[go_sem]) ?_
   cases hh:out.any fun x=>decide (x=next)
   rotate_left
   ·simp -implicitDefEqProofs only[go_sem,b1x,hn2,hlt2,hdg j2 d2 r2,hup j2 d2 r2,hbd2,r4]
    exact hstop (by simp only[List.any_cons,hh,Bool.or_true])
   have hany:((cls::out).any fun x=>decide (x=next))=false:=by
    rw[List.any_cons,hh,Bool.or_false];simp;exact fun h=>hnc h.symm
   have hc2:¬ (decide (next=⟨#[]⟩) || (cls::out).any fun x=>decide (x=next))=true:=by
    rw[hany];simp[hnx]
   rw[if_neg hc2]at i1
   have hno:next ∉ out:=fun hm=>by
    have:(out.any fun x=>decide (x=next))=true:=by simp;exact hm
    rw[hh]at this;cases this
   simp -implicitDefEqProofs only[go_sem,b1x,hn2,hlt2,hdg j2 d2 r2,hup j2 d2 r2,hbd2,r4]
   refine⟨by omega,(out++[next],btU u d2),by simp;omega,⟨?_,?_,?_⟩,⟨rfl,by simp[b0p]⟩,by simp⟩
   ·have:B.length+1 - (out++[next]).length=f:=by simp;omega
    simp only[this];exact i1
   ·simp only[]
    rw[h0q]
    exact⟨i2,by simp,fun x hx y hy=>by simp at hy;subst hy;rintro rfl;exact hno hx⟩
   ·intro x hx
    rcases g9A.1 hx with h | h
    ·exact i3 x h
    ·simp at h;subst h;rw[hgn];rfl
 ·rw[q1]
  simp -implicitDefEqProofs only[go_sem]
  have hgc:b1B B cls=none:=by rw[hgb,q2];rfl
  rw[hgc,b7p,if_pos (by simp)]
  rfl
end Go.Proofs.YtighfcpaplmaiaaGreatDoor
namespace Go.Vg
open Go
def d9K(u:List Un)(a b:ByteArray):Bool:=decide (a=b) || (b8z u a).any fun x=>decide (x=b)
def g3f(n:Nd):Prop:=∀ x∈b0o n,x.kind=24→0<b8Z x.text
theorem d1z{a b:ByteArray}:(a++b).data.toList=a.data.toList++b.data.toList:=by simp
open Lib in
theorem f4v(n:Nat):f8u n=f4x n:=by
 have:∀ n:Nat,(f8u n).data.toList=decDigits n:=by
  intro n
  induction n using Nat.strongRecOn with
  | _ n ih =>
  have hs:∀ k:Nat,k<10→(b9e [48+(k:Int)]).data.toList=[UInt8.ofNat (48+k)]:=by
   intro k hk
   simp only[b9e,g9o,g9P]
   congr 1
  rw[f8u,decDigits]
  split
  ·rename_i h
   rw[Nat.mod_eq_of_lt h]
   exact hs n h
  ·rw[d1z,ih (n / 10) (by omega),hs (n % 10) (by omega)]
 apply c9F
 rw[this]
 simp[f4x,itoa]
end Go.Vg
namespace Go.Proofs.YtighfcpaplmaiaaGreatDoor
open Go Go.Vg Go.Proofs
structure sgOK(u:List Un):Prop where
 fit:b2T u
 gaps:b9R u
 ok:∀ o n d,c4I (b0f (u.map Un.sound) 0) (d7r o) o n=some d→f4L (u.map Un.sound) d
end Go.Proofs.YtighfcpaplmaiaaGreatDoor
namespace Go.Vg
mutual
def g8D:Nd→Nd
 | .mk k t _ ks => .mk k t [] (f3I ks)
def f3I:List Nd→List Nd
 | []=>[]
 | n::r=>g8D n::f3I r
end
end Go.Vg
namespace Go.Proofs.YtighfcpaplmaiaaGreatDoor
open Go Go.Vg Go.Proofs
end Go.Proofs.YtighfcpaplmaiaaGreatDoor
