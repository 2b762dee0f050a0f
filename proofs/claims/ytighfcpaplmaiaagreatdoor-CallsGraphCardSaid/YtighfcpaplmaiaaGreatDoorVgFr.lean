import Derived.Test.YtighfcpaplmaiaaGreatDoorVgZ
import Derived.Test.YtighfcpaplmaiaaGreatDoorTnF
import Derived.Test.YtighfcpaplmaiaaGreatDoorTmG
set_option linter.unusedVariables false
set_option linter.unusedSimpArgs false
set_option maxRecDepth 20000
namespace Go.Vg
end Go.Vg
namespace Go.Proofs.YtighfcpaplmaiaaGreatDoor
open Go Go.Vg Go.Proofs
theorem c6n(s t:Sg):b0s env 200 [.agg s.enc,.agg t.enc] (.bool (decide (s.params=t.params) && decide (s.result=t.result))):=by
 refine b0i (fn:=Tryz.f200) Tryz.func200 rfl (by rw[Tryz.ntmps200];simp) (by simp -implicitDefEqProofs only[go_sem,Sg.enc]) (by simp -implicitDefEqProofs only[go_sem]) ?_;simp -implicitDefEqProofs only[go_sem,Tryz.f200,Sg.enc];intro _ _ _ _;refine⟨fun hl=>⟨fun hr=>?_,fun hr=>?_⟩,fun hl=>?_⟩
 ·have:¬ s.result=t.result:=by simpa using hr
  simp[this]
 ·have hl':s.params.length=t.params.length:=by simp at hl;omega
  have hr':s.result=t.result:=by simpa using hr
  refine b0l (β:=Unit) s.params (fun pre _=>⟨[(5,.int .i64 pre.length),(4,.bool false),(3,.ptr 1 0),(2,.ptr 0 0)],[.cells [sl 9 (s.params.map b0n),.str s.result],.cells [sl 9 (t.params.map b0n),.str t.result]],[]⟩) (fun pre _ _=>t.params.take pre.length=pre) () ?_ rfl ?_ ?_
  ·simp -implicitDefEqProofs only[go_sem];try rfl
  ·intro _ hi;rw[hl',List.take_length]at hi;simp -implicitDefEqProofs only[go_sem];intro _ _;rw[hi,hr'];simp
  ·rintro pre x post _ hx hi;have hpl:s.params.length=pre.length+1+post.length:=by rw[hx];simp;omega
   have hgx:(s.params.map b0n).getD (pre.length:Int).toNat []=b0n x:=by rw[hx];simp[h0c]
   have hyl:pre.length<t.params.length:=by omega
   have hgy:(t.params.map b0n).getD (pre.length:Int).toNat []=b0n t.params[pre.length]:=by simp[h0c,h0f hyl]
   have hsn:t.params.take (pre.length+1)=pre++[t.params[pre.length]]:=by rw[List.take_succ_eq_append_getElem hyl,hi]
   generalize t.params[pre.length]=y at hgy hsn;have hw:IntKind.i64.wrap (↑pre.length+1)=↑(pre.length+1):=b0g (by omega);have hlt:((pre.length:Int)<s.params.length)=True:=by simp;omega
   have hlt2:((pre.length:Int)<t.params.length)=True:=by simp;omega
   simp -implicitDefEqProofs only[go_sem,hgx,hgy,hlt,hlt2,b0n];intro _ _;refine sdq ?_;simp -implicitDefEqProofs only[go_sem,hgx,hgy,hlt,hlt2,b0n];refine⟨fun h=>?_,fun h=>?_⟩
   ·have hne:¬ x=y:=by simpa using h
    have:¬ s.params=t.params:=by
     intro e;have h1:s.params.take (pre.length+1)=pre++[x]:=by
      rw[hx,List.take_append,List.take_of_length_le (by omega)];simp
     rw[e,hsn]at h1;exact hne (by simpa using h1.symm)
    simp[this]
   ·have he:x=y:=by simpa using h
    subst he;exact⟨(),hsn,hw⟩
 ·have:¬ s.params.length=t.params.length:=by simp at hl;omega
  have:¬ s.params=t.params:=fun e=>this (by rw[e])
  simp[this]
def g2v(d:Dl):ByteArray:=if d.kind=1 then d.name else if d.kind=4 then d.owner++⟨#[46]⟩++d.name else⟨#[]⟩
def pst(s:ByteArray)(p:List ByteArray×Bool)(x:ByteArray):List ByteArray×Bool:=if p.2=false∧¬ x=s∧ltB x s=false then(p.1++[s,x],true)else(p.1++[x],p.2 || decide (x=s))
def c5l(s:ByteArray)(l:List ByteArray):List ByteArray×Bool:=l.foldl (pst s) ([],false)
def c0P(l:List ByteArray)(s:ByteArray):List ByteArray:=if(c5l s l).2=true then(c5l s l).1 else(c5l s l).1++[s]
theorem d2R(s:ByteArray)(l:List ByteArray)(x:ByteArray):c5l s (l++[x])=pst s (c5l s l) x:=by simp[c5l]
theorem f0m(s:ByteArray)(p:List ByteArray×Bool)(x:ByteArray):(pst s p x).1.length≤p.1.length+2:=by
 unfold pst;split <;> simp
theorem c7x(s:ByteArray)(l:List ByteArray):(c5l s l).1.length≤2 * l.length:=by
 have key:∀ (l:List ByteArray) (p:List ByteArray×Bool),(l.foldl (pst s) p).1.length≤p.1.length+2 * l.length:=by
  intro l;induction l with
  | nil=>intro p;simp
  | cons x r ih =>
   intro p;have h1:=ih (pst s p x);have h2:=f0m s p x;rw[h0K,h0o];omega
 have:=key l ([],false);simpa[c5l]using this
theorem d7z(l:List ByteArray)(s:ByteArray)(hl:l.length≤1000000):b0s env 50 [sl 9 (l.map b0n),.str s] (sl 9 ((c0P l s).map b0n)):=by
 refine b0i (fn:=Tryz.f50) Tryz.func50 rfl (by rw[Tryz.ntmps50];simp) (by simp -implicitDefEqProofs only[go_sem]) (by simp -implicitDefEqProofs only[go_sem]) ?_;simp -implicitDefEqProofs only[go_sem,Tryz.f50];refine b0l (β:=Unit) l (fun pre _=>⟨[(7,.int .i64 pre.length),(6,.bool (c5l s pre).2),(5,.slice (.arr 0) 9 ((c5l s pre).1.map b0n)),(4,.slice .nil 0 []),(0,sl 9 (l.map b0n)),(1,.str s)],[],[(c5l s pre).1.length]⟩) (fun _ _ _=>True) () ?_ trivial ?_ ?_
 ·simp -implicitDefEqProofs only[go_sem];exact⟨rfl,rfl,rfl⟩
 ·intro _ _;have hpl:=c7x s l;unfold c0P;generalize c5l s l=p at hpl ⊢;simp -implicitDefEqProofs only[go_sem];refine fun _ _=>⟨fun h=>⟨by omega,?_⟩,fun h=>?_⟩
  ·have:¬ p.2=true:=by simpa using h
   rw[if_neg this,h0M];rfl
  ·have:p.2=true:=by simpa using h
   rw[if_pos this]
 ·rintro pre x post _ hx _;have hpl:l.length=pre.length+1+post.length:=by rw[hx];simp;omega
  have hgx:(l.map b0n).getD (pre.length:Int).toNat []=b0n x:=by rw[hx];simp[h0c]
  have hw:IntKind.i64.wrap (↑pre.length+1)=↑(pre.length+1):=b0g (by omega);have hlt:((pre.length:Int)<l.length)=True:=by simp;omega
  have hsn:=d2R s pre x;have hml:=c7x s pre;generalize c5l s pre=p at hsn hml ⊢;simp -implicitDefEqProofs only[go_sem,hgx,hlt,b0n];rw[hsn];refine fun _ _=>⟨fun he=>?_,fun he=>⟨fun hd=>⟨fun hg=>?_,fun hg=>?_⟩,fun hd=>?_⟩⟩
  ·have hp:pst s p x=(p.1++[x],true):=by rw[pst,if_neg (fun h=>h.2.1 he)];simp[he]
   rw[hp];exact⟨by omega,(),⟨hw,rfl,by simp[b0n]⟩,by simp⟩
  ·have hd':p.2=false:=by simpa using hd
   have hg':ltB x s=false:=by
    simp only[Bool.not_eq_true',h1B]at hg;exact hg.1
   have hp:pst s p x=(p.1++[s,x],true):=by rw[pst,if_pos ⟨hd',he,hg'⟩]
   rw[hp];exact⟨by omega,by omega,(),⟨hw,rfl,by simp[b0n]⟩,by simp⟩
  ·have hd':p.2=false:=by simpa using hd
   have hg':ltB x s=true:=by
    have:decide (x=s)=false:=by simpa using he
    rw[this,Bool.or_false,Bool.not_eq_false']at hg;exact hg
   have hp:pst s p x=(p.1++[x],p.2):=by rw[pst,if_neg (fun h=>by rw[hg']at h;exact absurd h.2.2 (by simp))];simp[he]
   rw[hp];exact⟨by omega,(),⟨hw,rfl,by simp[b0n]⟩,by simp⟩
  ·have hd':p.2=true:=by simpa using hd
   have hp:pst s p x=(p.1++[x],p.2):=by rw[pst,if_neg (fun h=>by rw[hd']at h;exact absurd h.1 (by simp))];simp[hd']
   rw[hp];exact⟨by omega,(),⟨hw,rfl,by simp[b0n]⟩,by simp⟩
def cB(b:Bool):Nat:=if b=true then 0 else 1
theorem d4N(s:ByteArray)(p:List ByteArray×Bool)(x:ByteArray):(pst s p x).1.length+cB (pst s p x).2≤p.1.length+cB p.2+1:=by
 unfold pst;split
 ·rename_i h;rw[h.1];simp[cB]
 ·simp only[h0h,h0o,h0J,cB];cases p.2 <;> cases decide (x=s) <;> simp
theorem c6X(l:List ByteArray)(s:ByteArray):(c0P l s).length≤l.length+1:=by
 have key:∀ (l:List ByteArray) (p:List ByteArray×Bool),(l.foldl (pst s) p).1.length+cB (l.foldl (pst s) p).2≤p.1.length+cB p.2+l.length:=by
  intro l;induction l with
  | nil=>intro p;simp
  | cons x r ih =>
   intro p;have h1:=ih (pst s p x);have h2:=d4N s p x;rw[h0K,h0o];omega
 have:=key l ([],false);unfold c0P c5l;generalize l.foldl (pst s) ([],false)=p at this;simp only[cB,h0J]at this;split
 ·rename_i h;simp[h]at this;omega
 ·rename_i h;simp[h]at this;simp;omega
def b9O(l:List ByteArray)(s:ByteArray):List ByteArray:=c0P (l.foldl c0P []) s
theorem c0z(l:List ByteArray):(l.foldl c0P []).length≤l.length:=by
 have key:∀ (l p:List ByteArray),(l.foldl c0P p).length≤p.length+l.length:=by
  intro l;induction l with
  | nil=>intro p;simp
  | cons x r ih =>
   intro p;have h1:=ih (c0P p x);have h2:=c6X p x;rw[h0K,h0o];omega
 simpa using key l []
theorem b5M(l:List ByteArray)(s:ByteArray)(hl:l.length≤1000000):b0s env 21 [sl 9 (l.map b0n),.str s] (sl 9 ((b9O l s).map b0n)):=by
 refine b0i (fn:=Tryz.f21) Tryz.func21 rfl (by rw[Tryz.ntmps21];simp) (by simp -implicitDefEqProofs only[go_sem]) (by simp -implicitDefEqProofs only[go_sem]) ?_;simp -implicitDefEqProofs only[go_sem,Tryz.f21];refine b0l (β:=Unit) l (fun pre _=>⟨[(6,.int .i64 pre.length),(5,sl 9 ((pre.foldl c0P []).map b0n)),(4,.slice .nil 0 []),(0,sl 9 (l.map b0n)),(1,.str s)],[],[]⟩) (fun _ _ _=>True) () ?_ trivial ?_ ?_
 ·simp -implicitDefEqProofs only[go_sem];exact⟨rfl,rfl⟩
 ·intro _ _;have h1:=c0z l;simp -implicitDefEqProofs only[go_sem];intro _ _;refine(d7z (l.foldl c0P []) s (by omega)).calls (by simp -implicitDefEqProofs only[go_sem]) ?_;simp -implicitDefEqProofs only[go_sem];try rfl
 ·rintro pre x post _ hx _;have hpl:l.length=pre.length+1+post.length:=by rw[hx];simp;omega
  have hgx:(l.map b0n).getD (pre.length:Int).toNat []=b0n x:=by rw[hx];simp[h0c]
  have hw:IntKind.i64.wrap (↑pre.length+1)=↑(pre.length+1):=b0g (by omega);have hlt:((pre.length:Int)<l.length)=True:=by simp;omega
  have h1:=c0z pre;have hsn:(pre++[x]).foldl c0P []=c0P (pre.foldl c0P []) x:=by simp
  simp -implicitDefEqProofs only[go_sem,hgx,hlt,b0n];intro _ _;refine(d7z (pre.foldl c0P []) x (by omega)).calls (by simp -implicitDefEqProofs only[go_sem]) ?_;simp -implicitDefEqProofs only[go_sem];rw[hsn];exact⟨(),hw,rfl⟩
def firstD(u:List Un)(name:ByteArray):Option Dl:=(b0e u 0).find? fun d => !decide (name=⟨#[]⟩) && decide (g2v d=name)
theorem f1I(s:ByteArray)(p:List ByteArray×Bool)(x y:ByteArray):y∈(pst s p x).1↔y∈p.1∨y=x∨(y=s∧(pst s p x).2=true∧p.2=false)∨(y=s∧p.2=true∧False):=by
 unfold pst;split
 ·rename_i h;simp[h.1];constructor
  ·rintro(h | h | h)
   ·exact .inl h
   ·exact .inr (.inr h)
   ·exact .inr (.inl h)
  ·rintro(h | h | h)
   ·exact .inl h
   ·exact .inr (.inr h)
   ·exact .inr (.inl h)
 ·simp;constructor
  ·rintro(h | h)
   ·exact .inl h
   ·exact .inr (.inl h)
  ·rintro(h | h | ⟨h1,h2,h3⟩)
   ·exact .inl h
   ·exact .inr h
   ·rcases h2 with h2 | h2
    ·rw[h2]at h3;cases h3
    ·exact .inr (by rw[h1,h2])
theorem c6Y(s y:ByteArray):∀ (l:List ByteArray) (p:List ByteArray×Bool),(y∈(l.foldl (pst s) p).1↔y∈p.1∨y∈l∨(y=s∧(l.foldl (pst s) p).2=true∧p.2=false))∧(p.2=true→(l.foldl (pst s) p).2=true)
 | [],p=>by
  refine⟨?_,fun h=>h⟩;simp
 | x::r,p=>by
  obtain⟨h1,h2⟩:=c6Y s y r (pst s p x);have h3:=f1I s p x y;have h4:p.2=true→(pst s p x).2=true:=fun h=>by
   unfold pst;split
   ·rfl
   ·simp[h]
  rw[h0K];refine⟨?_,fun h=>h2 (h4 h)⟩;rw[h1,h3];simp only[h0C,and_false,or_false];constructor
  ·rintro((h | h | ⟨h,h',h''⟩) | h | ⟨h,h',h''⟩)
   ·exact .inl h
   ·exact .inr (.inl (.inl h))
   ·exact .inr (.inr ⟨h,h2 h',h''⟩)
   ·exact .inr (.inl (.inr h))
   ·refine .inr (.inr ⟨h,h',?_⟩);cases hp:p.2 with
    | false=>rfl
    | true=>rw[h4 hp]at h'';cases h''
  ·rintro(h | (h | h) | ⟨h,h',h''⟩)
   ·exact .inl (.inl h)
   ·exact .inl (.inr (.inl h))
   ·exact .inr (.inl h)
   ·cases hp:(pst s p x).2 with
    | false=>exact .inr (.inr ⟨h,h',rfl⟩)
    | true=>exact .inl (.inr (.inr ⟨h,rfl,h''⟩))
theorem c6U(l:List ByteArray)(s y:ByteArray):y∈c0P l s↔y∈l∨y=s:=by
 obtain⟨h1,h2⟩:=c6Y s y l ([],false);unfold c0P c5l;simp only[List.not_mem_nil,false_or,and_true]at h1;split
 ·rename_i h;rw[h1];constructor
  ·rintro(h | h)
   ·exact .inl h
   ·exact .inr h.1
  ·rintro(h' | h')
   ·exact .inl h'
   ·exact .inr ⟨h',h⟩
 ·rename_i h;rw[h0E,h1];simp only[h0R];constructor
  ·rintro((h' | h') | h')
   ·exact .inl h'
   ·exact .inr h'.1
   ·exact .inr h'
  ·rintro(h' | h')
   ·exact .inl (.inl h')
   ·exact .inr h'
theorem c4V(y:ByteArray):∀ (l p:List ByteArray),y∈l.foldl c0P p↔y∈p∨y∈l
 | [],p=>by simp
 | x::r,p=>by
  rw[h0K,c4V y r,c6U,h0C];constructor
  ·rintro((h | h) | h)
   ·exact .inl h
   ·exact .inr (.inl h)
   ·exact .inr (.inr h)
  ·rintro(h | h | h)
   ·exact .inl (.inl h)
   ·exact .inl (.inr h)
   ·exact .inr h
theorem b5g(l:List ByteArray)(s y:ByteArray):y∈b9O l s↔y∈l∨y=s:=by
 rw[b9O,c6U,c4V];simp
theorem b7I(l:List ByteArray)(s:ByteArray):(b9O l s).length≤l.length+1:=by
 have h1:=c6X (l.foldl c0P []) s;have h2:=c0z l;unfold b9O;omega
def f5M(u:List Un):Prop:=∀ d∈b0e u 0,d.owner.size≤3000000∧d.name.size≤1000000
end Go.Proofs.YtighfcpaplmaiaaGreatDoor
namespace Go.Vg
open Go.Proofs.YtighfcpaplmaiaaGreatDoor
def d0r(s:ByteArray):List ByteArray→List ByteArray
 | []=>[s]
 | x::r=>if x=s then x::r else if ltB x s=true then x::d0r s r else s::x::r
theorem c3t(s:ByteArray):∀ (l o:List ByteArray),l.foldl (pst s) (o,true)=(o++l,true)
 | [],o=>by simp
 | x::r,o=>by
  have:pst s (o,true) x=(o++[x],true):=by unfold pst;simp
  rw[h0K,this,c3t s r];simp
theorem f5H(s:ByteArray):∀ (l o:List ByteArray),(if(l.foldl (pst s) (o,false)).2=true then(l.foldl (pst s) (o,false)).1 else(l.foldl (pst s) (o,false)).1++[s])=o++d0r s l
 | [],o=>by simp[d0r]
 | x::r,o=>by
  rw[h0K,d0r];by_cases h1:x=s
  ·have:pst s (o,false) x=(o++[x],true):=by unfold pst;simp[h1]
   rw[this,c3t,if_pos rfl,if_pos h1];simp
  ·rw[if_neg h1];cases h2:ltB x s with
   | true =>
    have:pst s (o,false) x=(o++[x],false):=by unfold pst;simp[h1,h2]
    rw[this,if_pos rfl,f5H s r];simp
   | false =>
    have:pst s (o,false) x=(o++[s,x],true):=by unfold pst;simp[h1,h2]
    rw[this,c3t,if_pos rfl,if_neg (by simp)];simp
theorem d7p(l:List ByteArray)(s:ByteArray):c0P l s=d0r s l:=by
 have:=f5H s l [];rw[h0Q]at this;unfold c0P c5l;exact this
def Asc(l:List ByteArray):Prop:=l.Pairwise fun a b=>ltB a b=true
theorem c6I(s y:ByteArray):∀ l,y∈d0r s l→y=s∨y∈l
 | [],h => .inl (by simpa[d0r]using h)
 | x::r,h=>by
  rw[d0r]at h;split at h
  ·exact .inr h
  ·split at h
   ·rcases h0C.1 h with h | h
    ·exact .inr (by simp[h])
    ·rcases c6I s y r h with h | h
     ·exact .inl h
     ·exact .inr (by simp[h])
   ·rcases h0C.1 h with h | h
    ·exact .inl h
    ·exact .inr h
theorem c2M(s:ByteArray):∀ l,Asc l→Asc (d0r s l)
 | [],_=>by simp[d0r,Asc]
 | x::r,h=>by
  have hc:=h1x.1 h;rw[d0r];split
  ·exact h
  ·rename_i hne;split
   ·rename_i hlt;refine h1x.2 ⟨fun y hy=>?_,c2M s r hc.2⟩;rcases c6I s y r hy with rfl | hy
    ·exact hlt
    ·exact hc.1 y hy
   ·rename_i hnl;have hsx:ltB s x=true:=by
     cases hs:ltB s x with
     | true=>rfl
     | false=>exact absurd (b7W (by simpa using hnl) hs) hne
    refine h1x.2 ⟨fun y hy=>?_,h⟩;rcases h0C.1 hy with rfl | hy
    ·exact hsx
    ·exact b5E hsx (hc.1 y hy)
theorem b8M(l:List ByteArray)(s:ByteArray):Asc (b9O l s):=by
 have key:∀ (l p:List ByteArray),Asc p→Asc (l.foldl c0P p):=by
  intro l;induction l with
  | nil=>intro p h;exact h
  | cons x r ih =>
   intro p h;rw[h0K];exact ih _ (by rw[d7p];exact c2M _ _ h)
 unfold b9O;rw[d7p];exact c2M _ _ (key l [] List.Pairwise.nil)
theorem b9x:∀ {l1 l2:List ByteArray},Asc l1→Asc l2→(∀ n,n∈l1↔n∈l2)→l1=l2
 | [],[],_,_,_=>rfl
 | [],b::s,_,_,h=>by have:=(h b).2 (by simp);cases this
 | a::r,[],_,_,h=>by have:=(h a).1 (by simp);cases this
 | a::r,b::s,h1,h2,h=>by
  have c1:=h1x.1 h1;have c2:=h1x.1 h2;have hab:a=b:=by
   rcases h0C.1 ((h a).1 (by simp))with e | e
   ·exact e
   ·rcases h0C.1 ((h b).2 (by simp))with e' | e'
    ·exact e'.symm
    ·have:=b5E (c1.1 b e') (c2.1 a e);rw[b3f]at this;cases this
  subst hab;rw[b9x c1.2 c2.2 fun n=>?_];constructor
  ·intro hn;rcases h0C.1 ((h n).1 (by simp[hn]))with e | e
   ·subst e;have:=c1.1 n hn;rw[b3f]at this;cases this
   ·exact e
  ·intro hn;rcases h0C.1 ((h n).2 (by simp[hn]))with e | e
   ·subst e;have:=c2.1 n hn;rw[b3f]at this;cases this
   ·exact e
end Go.Vg
namespace Go.Vg
def f1i(n:Nd):Prop:=∀ y∈b0o n,y.node=0
theorem c4l{y:Nd}(h:y.node=0)(hk:y.kind=2∨y.kind=5∨y.kind=7):b0F y.text=true:=by
 unfold Nd.node at h;have h17:y.kind≠17:=by omega
 have hn:b2s y.kind y.text=true:=by
  unfold b2s;rw[if_neg (by omega)];simp only[h0l];omega
 split at h
 ·cases h
 ·split at h
  ·cases h
  ·rename_i hv;simp only[h17,decide_false,h0U,Bool.not_false,h0S,h0Y,hn,Bool.not_eq_true,Bool.not_eq_false']at hv;exact hv
theorem c6N{s:ByteArray}(h:b0F s=true):s≠⟨#[]⟩:=by
 rintro rfl;have:b0F ⟨#[]⟩=false:=by decide +kernel
 rw[this]at h;cases h
def d5z(d:Dl):Prop:=(d.kind=1→d.owner=⟨#[]⟩∧b0F d.name=true)∧(d.kind=4→b0F d.owner=true∧b0F d.name=true)
theorem d7e{d:Dl}(h1:d.kind≠1)(h4:d.kind≠4):d5z d:=⟨fun h=>absurd h h1,fun h=>absurd h h4⟩
theorem c8P:∀ (n:Nd) (u:Int) (m:Nat) (x:Ar),f1i n→(x.method=true→b0F x.cls=true)→∀ d∈b1z n u m x,d5z d:=by
 refine Nd.all fun k t g ks ih u m x hg hx d hd=>?_
 have hs:∀ l:List Nd,(∀ y∈l,∀ (u:Int) (m:Nat) (x:Ar),f1i y→(x.method=true→b0F x.cls=true)→∀ d∈b1z y u m x,d5z d) →
   ∀ (m:Nat) (x:Ar),(∀ y∈b0k l,y.node=0)→(x.method=true→b0F x.cls=true)→∀ d∈b0V l u m x,d5z d:=by
  intro l;induction l with
  | nil=>intro _ m x _ _ d hd;simp[b0V]at hd
  | cons y r ihr =>
   intro h m x hn hx d hd;rw[b0V,h0E]at hd;rcases hd with hd | hd
   ·have hgy:f1i y:=fun z hz=>hn z (by rw[b0k];exact h1e _ hz)
    exact h y (by simp) u m x hgy hx d hd
   ·have hgr:∀ z∈b0k r,z.node=0:=fun z hz=>hn z (by rw[b0k];exact h1j _ hz)
    exact ihr (fun z hz=>h z (by simp[hz])) _ x hgr hx d hd
 have h0:(Nd.mk k t g ks).node=0:=hg _ (c6K _);rw[b1z,h0E]at hd;rcases hd with hd | hd
 ·unfold b2u at hd;have hv2:k=2→b0F t=true:=fun e=>c4l (y := .mk k t g ks) h0 (.inl e)
  split at hd
  ·rename_i h2;split at hd
   ·rename_i hm;simp only[Option.toList_some,h0R]at hd;subst hd;exact⟨fun h=>absurd (show(4:Int)=1 from h) (by decide),fun _=>⟨hx hm,hv2 h2⟩⟩
   ·simp only[Option.toList_some,h0R]at hd;subst hd;exact⟨fun _=>⟨rfl,hv2 h2⟩,fun h=>absurd (show(1:Int)=4 from h) (by decide)⟩
  ·repeat' split at hd
   all_goals first
    | (simp only[Option.toList_some,h0R]at hd;rw[hd];exact d7e (by simp) (by simp))
    | (simp at hd)
 ·have hgk:∀ y∈b0k ks,y.node=0:=fun y hy=>hg y (by rw[b0o];exact List.mem_cons_of_mem _ hy)
  refine hs ks ih _ _ hgk (fun hm=>?_) d hd;unfold b4b at hm ⊢;simp only[h0l]at hm;exact c4l (y := .mk k t g ks) h0 (.inr (.inr hm))
theorem c9r:∀ (n:Nd) (u:Int) (m:Nat) (x:Ar),b9u n→x.cls.size≤1000000→x.fn.size≤2000001→∀ d∈b1z n u m x,d.owner.size≤3000000∧d.name.size≤1000000:=by
 refine Nd.all fun k t g ks ih u m x hg hx hf d hd=>?_
 have hs:∀ l:List Nd,(∀ y∈l,∀ (u:Int) (m:Nat) (x:Ar),b9u y→x.cls.size≤1000000→x.fn.size≤2000001→∀ d∈b1z y u m x,d.owner.size≤3000000∧d.name.size≤1000000) →
   ∀ (m:Nat) (x:Ar),(∀ y∈b0k l,y.text.size≤1000000)→x.cls.size≤1000000→x.fn.size≤2000001→∀ d∈b0V l u m x,d.owner.size≤3000000∧d.name.size≤1000000:=by
  intro l;induction l with
  | nil=>intro _ m x _ _ _ d hd;simp[b0V]at hd
  | cons y r ihr =>
   intro h m x hn hx hf d hd;rw[b0V,h0E]at hd;rcases hd with hd | hd
   ·exact h y (by simp) u m x (fun z hz=>hn z (by rw[b0k];simp[hz])) hx hf d hd
   ·exact ihr (fun z hz=>h z (by simp[hz])) _ x (fun z hz=>hn z (by rw[b0k];simp[hz])) hx hf d hd
 have ht:t.size≤1000000:=hg _ (c6K _);have h0:(⟨#[]⟩:ByteArray).size=0:=rfl;rw[b1z,h0E]at hd;rcases hd with hd | hd
 ·unfold b2u at hd
  repeat' split at hd
  all_goals first
   | (simp only[Option.toList_some,h0R]at hd;subst hd;exact⟨by first | omega | (simp only;omega) | exact Nat.zero_le _,ht⟩)
   | (simp at hd)
 ·refine hs ks ih _ _ (fun y hy=>hg y (by rw[b0o];simp[hy])) ?_ ?_ d hd
  ·exact ht
  ·unfold b4b;simp only;split
   ·split
    ·rw[ByteArray.size_append,ByteArray.size_append];have:(⟨#[46]⟩:ByteArray).size=1:=rfl;omega
    ·omega
   ·exact hf
end Go.Vg
namespace Go.Proofs.YtighfcpaplmaiaaGreatDoor
open Go Go.Vg Go.Proofs
theorem b6R:∀ (u:List Un) (i:Nat) (d:Dl),d∈b0e u i→∃ x∈u,x.broken=false∧∃ j:Nat,d∈b1z x.tree j 0 Ar.none
 | [],i,d,h=>by simp[b0e]at h
 | x::r,i,d,h=>by
  rw[b0e,h0E]at h;rcases h with h | h
  ·split at h
   ·cases h
   ·rename_i hb;exact⟨x,by simp,by simpa using hb,i,h⟩
  ·obtain⟨y,hy,hb,j,hj⟩:=b6R r (i+1) d h;exact⟨y,by simp[hy],hb,j,hj⟩
theorem c0b{u:List Un}(hu:b2D u):f5M u:=by
 intro d hd;obtain⟨x,hx,hb,j,hj⟩:=b6R u 0 d hd;exact c9r x.tree j 0 Ar.none (hu.2 x hx).2 (Nat.zero_le _) (Nat.zero_le _) d hj
end Go.Proofs.YtighfcpaplmaiaaGreatDoor
namespace Go.Vg
def c2O(d:Dl):List V:=[.int .i64 d.unit,.int .i64 d.node]
def b5m(k:Int)(n:ByteArray)(d:Dl):Bool:=decide (k=d.kind) && decide (n=d.name)
def c8F(M:List Dl)(d:Dl):List Dl:=if(M.any (b5m d.kind d.name))=false then M++[d]else M
def b2c(l:List Dl):List Dl:=l.foldl c8F []
def c3C(M:List Dl):List (V×V):=M.map fun d=>(.agg [.int .i64 d.kind,.str d.name],.agg (c2O d))
theorem c9H{l:List Dl}{d:Dl}:b2c (l++[d])=c8F (b2c l) d:=by simp[b2c]
theorem d5K(k:Int)(n:ByteArray):∀ (M:List Dl) (i:Nat),(∃ j e,b1e [1,0] [.int .i64 k,.str n] (c3C M) i=some (some (j,.agg (c2O e)))∧M.find? (b5m k n)=some e)∨(b1e [1,0] [.int .i64 k,.str n] (c3C M) i=some none∧M.find? (b5m k n)=none)
 | [],i => .inr ⟨rfl,rfl⟩
 | e::r,i=>by
  have heq:eqL [V.int .i64 k,V.str n] [V.int .i64 e.kind,V.str e.name]=some (b5m k n e):=by
   simp only[eqL,eq1,h1g];rfl
  have h1:b1e [1,0] [.int .i64 k,.str n] (c3C (e::r)) i=if b5m k n e=true then some (some (i,.agg (c2O e)))else b1e [1,0] [.int .i64 k,.str n] (c3C r) (i+1):=by
   simp only[c3C,h0s,b1e,heq];have hf:b3F [1,0] [V.int .i64 k,V.str n] [V.int .i64 e.kind,V.str e.name]=true:=rfl;rw[if_pos hf];cases b5m k n e <;> rfl
  rw[h1,h0W];by_cases h:b5m k n e=true
  ·exact .inl ⟨i,e,by rw[if_pos h],by rw[h]⟩
  ·rw[if_neg h];have:b5m k n e=false:=by simpa using h
   rw[this];exact d5K k n r (i+1)
theorem c8l{M:List Dl}{p:Dl→Bool}(h:M.find? p=none):M.any p=false:=by
 rw[List.any_eq_false];intro x hx;have:=List.find?_eq_none.1 h x hx;simpa using this
theorem c8q{M:List Dl}{p:Dl→Bool}{e:Dl}(h:M.find? p=some e):M.any p=true:=by
 rw[h1a];exact⟨e,h0Z h,List.find?_some h⟩
end Go.Vg
namespace Go.Proofs.YtighfcpaplmaiaaGreatDoor
open Go Go.Vg Go.Proofs
theorem f9P{M:List Dl}{d:Dl}{h:List VObj}{id:Nat}{L:List VObj→Prop}(hn:(M.any (b5m d.kind d.name))=false):b3Z h id (c3C M) (.agg [.int .i64 d.kind,.str d.name]) (.agg [.int .i64 d.unit,.int .i64 d.node]) (b1e [1,0] [.int .i64 d.kind,.str d.name] (c3C M) 0) L=L (h.set id (.map (c3C (M++[d])))):=by
 rcases d5K d.kind d.name M 0 with⟨j,v,h1,h2⟩ | ⟨h1,h2⟩
 ·rw[c8q h2]at hn;cases hn
 ·rw[h1];simp -implicitDefEqProofs only[go_sem];simp[c3C,c2O]
theorem b8d(k ka:Nat):∀ M:List Dl,ltP k ka (c3C M)=true
 | []=>rfl
 | x::r=>by
  have:=b8d k ka r;have hx:(V.agg (c2O x)).lt k ka=true:=by simp[V.lt,c2O,ltL]
  simp only[c3C,h0s,ltP]at this ⊢;rw[hx,this];simp[V.lt,ltL]
theorem b4U:flatK Tryz.prog 228=some [1,0]:=by kernel_rfl
def b0f(u:List Un):List (List Rw):=u.map fun x=>if x.broken=true then []else b0u x.tree (-1) 0
def b0p(l:List Rw):List V:=[sl 48 (l.map Rw.enc)]
theorem c7m:b2S Tryz.prog 24 = .agg [.int .i64 0,.int .i64 0]:=by kernel_rfl
theorem b1g:∀ l:List (List Rw),b0P (l.map b0p)=true
 | []=>rfl
 | x::r=>by
  show(b0Y (b0p x) && b0P (r.map b0p))=true;rw[b1g r];unfold b0p;simp -implicitDefEqProofs only[go_sem];exact b0T x
theorem f6t(u:List Un)(hu:b2D u):b0q env 142 [sl 70 (u.map Un.enc)] [] [] fun v h a =>
  v = .ptr 1 0∧h=[.map (c3C (b2c (b0e u 0))),.cells [.slice (.arr 0) 45 ((b0f u).map b0p),.map 0,sl 54 ((b0e u 0).map Dl.enc)]]∧a=[u.length]:=by
 have hD:=d3g u hu;rw[b6r]at hD;have hdl:=b0H u 0 fun y hy=>(hu.2 y hy).1
 have hul:=hu.1;have hfit:=hu.2;refine b0y (fn:=Tryz.f142) Tryz.func142 rfl (by rw[Tryz.ntmps142];simp) ?_;simp -implicitDefEqProofs only[go_sem,Tryz.f142];refine hD.cq ?_;simp -implicitDefEqProofs only[go_sem];intro _ _;generalize b0e u 0=dl at hdl ⊢;refine b0l (β:=Unit) u (fun pre _=>⟨[(19,.int .i64 pre.length),(18,.int .i64 u.length),(17,sl 70 (u.map Un.enc)),(3,.ptr 1 0)],
   [.map [],.cells [.slice (.arr 0) 45 ((b0f pre).map b0p),.map 0,sl 54 (dl.map Dl.enc)]],[pre.length]⟩) (fun _ _ _=>True) () ?_ trivial ?_ ?_
 ·simp -implicitDefEqProofs only[go_sem];exact⟨rfl,rfl⟩
 ·intro _ _;simp -implicitDefEqProofs only[go_sem];intro _ _;have htp:=b1g (b0f u);generalize(b0f u).map b0p=tt at htp ⊢;refine b0l (β:=Unit) dl (fun pre _=>⟨[(45,.int .i64 pre.length),(44,.int .i64 dl.length),(43,sl 54 (dl.map Dl.enc)),(3,.ptr 1 0)],
   [.map (c3C (b2c pre)),.cells [.slice (.arr 0) 45 tt,.map 0,sl 54 (dl.map Dl.enc)]],[u.length]⟩) (fun _ _ _=>True) () ?_ trivial ?_ ?_
  ·simp -implicitDefEqProofs only[go_sem];exact⟨rfl,rfl⟩
  ·intro _ _;simp -implicitDefEqProofs only[go_sem]
  ·rintro pre d post _ hx _;have hpl:dl.length=pre.length+1+post.length:=by rw[hx];simp;omega
   have hgx:(dl.map Dl.enc).getD (pre.length:Int).toNat []=d.enc:=by rw[hx];simp[h0c]
   have hw:IntKind.i64.wrap (↑pre.length+1)=↑(pre.length+1):=b0g (by omega);have hlt:((pre.length:Int)<dl.length)=True:=by simp;omega
   have hsn:=@c9H pre d;simp -implicitDefEqProofs only[go_sem,hgx,hlt];refine sdq ?_;simp -implicitDefEqProofs only[go_sem,hgx,hlt,b4U];rcases d5K d.kind d.name (b2c pre) 0 with⟨j,e,q1,q2⟩ | ⟨q1,q2⟩
   ·have hpg:b2c (pre++[d])=b2c pre:=by rw[hsn,c8F,if_neg (by rw[c8q q2];simp)]
    rw[q1];simp -implicitDefEqProofs only[go_sem];rw[hpg,b8d,b0m _ _ _ (b0D _),b0m _ _ _ htp];exact⟨⟨rfl,rfl,h0q 2⟩,(),hw,rfl,.inr ⟨rfl,rfl⟩⟩
   ·have hpg:b2c (pre++[d])=b2c pre++[d]:=by rw[hsn,c8F,if_pos (c8l q2)]
    have hno:=c8l q2;rw[q1];simp -implicitDefEqProofs only[go_sem,c7m];refine sdq ?_;simp -implicitDefEqProofs only[go_sem,b4U,f9P hno];rw[hpg,b8d,b0m _ _ _ (b0D _),b0m _ _ _ htp];exact⟨(),hw,rfl,.inr ⟨rfl,rfl⟩⟩
 ·rintro pre x post _ hx _;have hpl:u.length=pre.length+1+post.length:=by rw[hx];simp;omega
  have hgx:(u.map Un.enc).getD (pre.length:Int).toNat []=x.enc:=by rw[hx];simp[h0c]
  have hw:IntKind.i64.wrap (↑pre.length+1)=↑(pre.length+1):=b0g (by omega);have hlt:((pre.length:Int)<u.length)=True:=by simp;omega
  have hxn:=(hfit x (by rw[hx];simp)).1;have hR:=d4H x.tree (by omega);simp -implicitDefEqProofs only[go_sem,hgx,hlt];have htl:(b0f pre).length=pre.length:=by simp[b0f]
  have hts:b0f (pre++[x])=b0f pre++[if x.broken=true then []else b0u x.tree (-1) 0]:=by simp[b0f]
  refine⟨fun hb=>?_,fun hb=>?_⟩
  ·refine hR.cq ?_;simp -implicitDefEqProofs only[go_sem];have hb':x.broken=false:=by simpa using hb
   rw[hts,if_neg (by rw[hb'];simp),h0M];have hp:=b1g (b0f pre++[b0u x.tree (-1) 0]);rw[h0M]at hp;refine⟨by omega,by rw[htl],(),hw,rfl,htl,.inr ⟨?_,b0m _ _ _ (b0v _)⟩⟩;have h1:=b0m 2 1 _ hp;have h2:=b0m 2 1 _ (b0D dl);rw[h2,h1g];exact h1
  ·have hb':x.broken=true:=by simpa using hb
   rw[hts,if_pos hb',h0M];have hp:=b1g (b0f pre++[[]]);rw[h0M]at hp;refine⟨by omega,by rw[htl],(),hw,rfl,htl,.inr ⟨?_,b0m _ _ _ (b0v _)⟩⟩;have h1:=b0m 2 1 _ hp;have h2:=b0m 2 1 _ (b0D dl);rw[h2,h1g];exact h1
end Go.Proofs.YtighfcpaplmaiaaGreatDoor
namespace Go.Vg
def b6Y(k:Int)(t:ByteArray):Int×Bool:=if k=19∨k=11 then(3,true)else if k=20 then(1,true)else if k=22 then(2,true)else if k=5 then(2,!decide (t=⟨#[105,110,116]⟩) && !decide (t=⟨#[98,111,111,108]⟩))else if k=8 then(2,!decide (t=⟨#[]⟩))else(0,false)
end Go.Vg
namespace Go.Proofs.YtighfcpaplmaiaaGreatDoor
open Go Go.Vg Go.Proofs
theorem g1W(tb:List (List Rw))(ds:V)(h:List VObj)(a:List Nat)(un i:Nat)(l:List Rw)(hh:h[1]? = some (.cells [.slice (.arr 0) 45 (tb.map b0p),.map 0,ds]))(hl:tb[un]? = some l)(hi:i<l.length)(hds:ds.some? = true) :
  b0q env 182 [.ptr 1 0,.agg [.int .i64 un,.int .i64 i]] h a fun v h' a'=>v = .tuple [.int .i64 (b6Y (b0h l i).kind (b0h l i).text).1,.bool (b6Y (b0h l i).kind (b0h l i).text).2]∧(∃ z,h'=h++z)∧a'=a:=by
 have hlt1:1<h.length:=(h0b.1 hh).1;have htu:(tb.map b0p).getD (un:Int).toNat []=b0p l:=by simp[h0c,hl]
 have hul:((un:Int)<tb.length)=True:=by
  have:=(h0b.1 hl).1;simp;omega
 have hrg:=b0z hi;have hil:((i:Int)<l.length)=True:=by simp;omega
 generalize b0h l i=r at hrg;obtain⟨pp,k,t,g,kids⟩:=r;simp only;refine b0y (fn:=Tryz.f182) Tryz.func182 rfl (by rw[Tryz.ntmps182];simp) ?_;by_cases h19:k=19
 ·subst h19;simp -implicitDefEqProofs only[go_sem,Tryz.f182];refine sdq ?_;simp -implicitDefEqProofs only[go_sem,b0I hh,b1h hlt1,b3I,b1V,b3G,b1U,b1P,htu,hul,b0p,hrg,hil,Rw.enc];exact⟨rfl,_,rfl⟩
 by_cases h11:k=11
 ·subst h11;simp -implicitDefEqProofs only[go_sem,Tryz.f182];refine sdq ?_;simp -implicitDefEqProofs only[go_sem,b0I hh,b1h hlt1,b3I,b1V,b3G,b1U,b1P,htu,hul,b0p,hrg,hil,Rw.enc];exact⟨rfl,_,rfl⟩
 by_cases h20:k=20
 ·subst h20;simp -implicitDefEqProofs only[go_sem,Tryz.f182];refine sdq ?_;simp -implicitDefEqProofs only[go_sem,b0I hh,b1h hlt1,b3I,b1V,b3G,b1U,b1P,htu,hul,b0p,hrg,hil,Rw.enc];exact⟨rfl,_,rfl⟩
 by_cases h22:k=22
 ·subst h22;simp -implicitDefEqProofs only[go_sem,Tryz.f182];refine sdq ?_;simp -implicitDefEqProofs only[go_sem,b0I hh,b1h hlt1,b3I,b1V,b3G,b1U,b1P,htu,hul,b0p,hrg,hil,Rw.enc];exact⟨rfl,_,rfl⟩
 by_cases h5:k=5
 ·subst h5;simp -implicitDefEqProofs only[go_sem,Tryz.f182];refine sdq ?_;simp -implicitDefEqProofs only[go_sem,b0I hh,b1h hlt1,b3I,b1V,b3G,b1U,b1P,htu,hul,b0p,hrg,hil,Rw.enc];refine sdq ?_;simp -implicitDefEqProofs only[go_sem,b3I,b1V,b3G,b1U,b1P];have e5:b6Y 5 t=(2,!decide (t=⟨#[105,110,116]⟩) && !decide (t=⟨#[98,111,111,108]⟩)):=by simp[b6Y]
  rw[e5];exact⟨fun h=>⟨by rw[h,h0S],_,rfl⟩,fun h=>⟨by rw[h,h0U],_,rfl⟩⟩
 by_cases h8:k=8
 ·subst h8;simp -implicitDefEqProofs only[go_sem,Tryz.f182];refine sdq ?_;simp -implicitDefEqProofs only[go_sem,b0I hh,b1h hlt1,b3I,b1V,b3G,b1U,b1P,htu,hul,b0p,hrg,hil,Rw.enc];refine sdq ?_;simp -implicitDefEqProofs only[go_sem,b3I,b1V,b3G,b1U,b1P];have e8:b6Y 8 t=(2,!decide (t=⟨#[]⟩)):=by simp[b6Y]
  rw[e8];exact⟨rfl,_,rfl⟩
 simp -implicitDefEqProofs only[go_sem,Tryz.f182];refine sdq ?_;simp -implicitDefEqProofs only[go_sem,b0I hh,b1h hlt1,b3I,b1V,b3G,b1U,b1P,htu,hul,b0p,hrg,hil,Rw.enc,h19,h11,h20,h22,h5,h8];refine⟨?_,_,rfl⟩;simp[b6Y,h19,h11,h20,h22,h5,h8]
theorem f6b(l:List Rw)(t:ByteArray)(f:Int)(n A B C:Nat)(h:List VObj)(a:List Nat)(hA:h[A]? = some (.cells [sl 48 (l.map Rw.enc)]))(hB:h[B]? = some (.cells [.str t]))(hC:h[C]? = some (.cells [.int .i64 f]))(hn:n<l.length) :
  b0q env 211 [.int .i64 n,.ptr A 0,.ptr B 0,.ptr C 0] h a fun v h' a'=>v = .bool (decide ((if(b0h l n).text=t then(n:Int)else f)<0))∧(∃ z,h'=h.set C (.cells [.int .i64 (if(b0h l n).text=t then(n:Int)else f)])++z)∧a'=a:=by
 have hlC:C<h.length:=(h0b.1 hC).1;have hrg:=b0z hn;have hil:((n:Int)<l.length)=True:=by simp;omega
 refine b0y (fn:=Tryz.f211) Tryz.func211 rfl (by rw[Tryz.ntmps211];simp) ?_;simp -implicitDefEqProofs only[go_sem,Tryz.f211];try refine sdq ?_
 simp -implicitDefEqProofs only[go_sem,hA,hB,hC,hrg,hil,Rw.enc];refine⟨fun he=>?_,fun he=>?_⟩
 ·have hg:(h.set C (.cells [.int .i64 (n:Int)]))[C]? = some (.cells [.int .i64 (n:Int)]):=h0i hlC;simp -implicitDefEqProofs only[go_sem,hg];rw[if_pos he];exact⟨rfl,[],by simp⟩
 ·rw[if_neg he];exact⟨rfl,[],by rw[b3n hC];simp⟩
end Go.Proofs.YtighfcpaplmaiaaGreatDoor
namespace Go.Vg
def b2q(k:Nat)(ks:List Nat):List Nat:=ks.takeWhile fun c => !decide (c=k)
def b2h(l:List Rw)(p k c:Nat):List Nat:=(if(b0h l p).kind=6∧(b0h l c).kind=10 then [c]else [])++(if(b0h l p).kind=2∧(b0h l k).kind=6∧(b0h l c).kind=3 then(b0h l c).kids.filter fun q=>decide ((b0h l q).kind=4)else [])
def c4L(l:List Rw)(p k:Nat):List Nat:=(b2q k (b0h l p).kids).flatMap (b2h l p k)
def b7J(l:List Rw):Nat→Nat→List Nat
 | 0,_=>[]
 | f+1,k=>if(b0h l k).parent<0 then []else c4L l (b0h l k).parent.toNat k++(if(b0h l (b0h l k).parent.toNat).kind=2 then []else b7J l f (b0h l k).parent.toNat)
structure rowsOK(l:List Rw):Prop where
 len:l.length≤1000000
 kids:∀ i<l.length,(b0h l i).kids.length≤1000000∧∀ c∈(b0h l i).kids,c<l.length
 par:∀ i<l.length,(b0h l i).parent<i ∧ -1≤(b0h l i).parent
def b1j(l:List Rw)(t:ByteArray)(vs:List Nat):Int:=match vs.find? fun n=>decide ((b0h l n).text=t)with | some n=>n | none => -1
end Go.Vg
namespace Go.Proofs.YtighfcpaplmaiaaGreatDoor
open Go Go.Vg Go.Proofs
theorem d2l{l:List Rw}(hr:rowsOK l):∀ (f g k:Nat),k<l.length→k<f→k<g→b7J l f k=b7J l g k:=by
 intro f;induction f with
 | zero=>intro g k _ h;omega
 | succ f ih =>
  intro g k hk hf hg;have hp:=hr.par k hk;cases g with
  | zero=>omega
  | succ g =>
   rw[b7J,b7J];by_cases h0:(b0h l k).parent<0
   ·rw[if_pos h0,if_pos h0]
   ·rw[if_neg h0,if_neg h0,ih g _ (by omega) (by omega) (by omega)]
theorem c0c{l:List Rw}{t:ByteArray}{n:Nat}{r:List Nat}:b1j l t (n::r)=if(b0h l n).text=t then(n:Int)else b1j l t r:=by
 unfold b1j;rw[h0W];by_cases h:(b0h l n).text=t
 ·rw[if_pos h,h0H h]
 ·rw[if_neg h,h0z h]
theorem c6s(tb:List (List Rw))(ds:V)(h:List VObj)(a:List Nat)(un i A B C:Nat)(l:List Rw)(t:ByteArray)(hh:h[1]? = some (.cells [.slice (.arr 0) 45 (tb.map b0p),.map 0,ds]))(hl:tb[un]? = some l)(hi:i<l.length)(hds:ds.some? = true)
  (hA:h[A]? = some (.cells [sl 48 (l.map Rw.enc)])) (hB:h[B]? = some (.cells [.str t])) (hC:h[C]? = some (.cells [.int .i64 (-1)])) (hne:C≠1∧C≠A∧C≠B) (hr:rowsOK l) :
  b0q env 210 [.ptr 1 0,.agg [.int .i64 un,.int .i64 i],.func 211 [.ptr A 0,.ptr B 0,.ptr C 0]] h a fun v h' a' =>
   v = .tuple []∧(∃ z,h'=h.set C (.cells [.int .i64 (b1j l t (b7J l (i+1) i))])++z)∧a'=a:=by
 have hlt1:1<h.length:=(h0b.1 hh).1;have hlC:C<h.length:=(h0b.1 hC).1;have htu:(tb.map b0p).getD (un:Int).toNat []=b0p l:=by simp[h0c,hl]
 have hul:((un:Int)<tb.length)=True:=by
  have:=(h0b.1 hl).1;simp;omega
 have hrg:=b0z hi;have hil:((i:Int)<l.length)=True:=by simp;omega
 refine b0y (fn:=Tryz.f210) Tryz.func210 rfl (by rw[Tryz.ntmps210];simp) ?_;simp -implicitDefEqProofs only[go_sem,Tryz.f210];refine sdq ?_;simp -implicitDefEqProofs only[go_sem,b0I hh,b1h hlt1,b3I,b1V,b3G,b1U,b1P,htu,hul,b0p,hrg,hil,Rw.enc];refine sdq ?_;simp -implicitDefEqProofs only[go_sem,b0I hh,b1h hlt1,b3I,b1V,b3G,b1U,b1P,htu,hul,b0p,hrg,hil,Rw.enc];refine b1u (α:=Nat×List VObj) (fun b=>⟨[(8,.int .i64 (b0h l b.1).parent),(7,.int .i64 b.1),(6,sl 48 (l.map Rw.enc)),(4,.ptr h.length 0),(2,.func 211 [.ptr A 0,.ptr B 0,.ptr C 0])],h ++ .cells [.int .i64 un,.int .i64 i]::b.2,a⟩) (fun b=>b.1<l.length∧b1j l t (b7J l (i+1) i)=b1j l t (b7J l (b.1+1) b.1)) (fun b=>b.1) (i,[]) ?_ ⟨hi,rfl⟩ ?_
 ·simp -implicitDefEqProofs only[go_sem];try rfl
 ·rintro⟨k,zz⟩ ⟨hk,hf⟩;simp only at hk hf ⊢;have hkr:=b0z hk;have hpar:=hr.par k hk;simp -implicitDefEqProofs only[go_sem];refine⟨fun hp=>?_,fun hp=>?_⟩
  ·obtain⟨p,hpe⟩:=h0X hp;have hpk:p<k:=by omega
   have hpl:p<l.length:=by omega
   have hgp:=b0z hpl;have hplt:((p:Int)<l.length)=True:=by simp;omega
   have hp0:(0≤(p:Int))=True:=by simp
   have hvis:b7J l (k+1) k=c4L l p k++(if(b0h l p).kind=2 then []else b7J l (p+1) p):=by
    rw[b7J,if_neg (by omega),hpe];simp only[Int.ofNat_eq_natCast,h0n];rw[d2l hr k (p+1) p hpl hpk (by omega)]
   rw[hpe];simp -implicitDefEqProofs only[go_sem,hgp,hplt,hp0,Rw.enc];intro _ _;obtain⟨hkl,hkc⟩:=hr.kids p hpl;rw[hvis,c4L]at hf;generalize hRE:(if(b0h l p).kind=2 then []else b7J l (p+1) p)=RE at hf;generalize hks:(b0h l p).kids=ks at hf hkl hkc ⊢;refine b0l (β:=List VObj) ks (fun pre zz=>⟨[(43,.int .i64 pre.length),(42,.int .i64 ks.length),(41,sl 3 (ks.map b0J)),(8,.int .i64 p),(7,.int .i64 k),(6,sl 48 (l.map Rw.enc)),(4,.ptr h.length 0),(2,.func 211 [.ptr A 0,.ptr B 0,.ptr C 0])],h ++ .cells [.int .i64 un,.int .i64 i]::zz,a⟩)
    (fun pre post _=>b1j l t (b7J l (i+1) i)=b1j l t ((b2q k post).flatMap (b2h l p k)++RE)) zz ?_ hf ?_ ?_
   ·simp -implicitDefEqProofs only[go_sem];try rfl
   ·intro z1 hi1;rw[show b2q k []=[]from rfl,List.flatMap_nil,h0Q]at hi1;simp -implicitDefEqProofs only[go_sem,hgp,hplt,hp0,Rw.enc];refine⟨fun h2=>?_,fun h2=>?_⟩
    ·rw[if_pos h2]at hRE;rw[hi1,←hRE,show b1j l t [] = -1 from rfl,b3n hC];exact⟨_,rfl⟩
    ·rw[if_neg h2]at hRE;rw[←hRE]at hi1;refine sdq ?_;simp -implicitDefEqProofs only[go_sem,hgp,hplt,hp0,Rw.enc];exact⟨(p,z1),by simp;omega,⟨hpl,hi1⟩,⟨rfl,rfl⟩,b0r,.inl (h0q _)⟩
   ·rintro pre c post z1 hx hi1;have hpl2:ks.length=pre.length+1+post.length:=by rw[hx];simp;omega
    have hgc:(ks.map b0J).getD (pre.length:Int).toNat []=b0J c:=by rw[hx];simp[h0c]
    have hw:IntKind.i64.wrap (↑pre.length+1)=↑(pre.length+1):=b0g (by omega);have hlt:((pre.length:Int)<ks.length)=True:=by simp;omega
    have hcl:=hkc c (by rw[hx];simp);have hcr:=b0z hcl;have hclt:((c:Int)<l.length)=True:=by simp;omega
    have hc0:(0≤(c:Int))=True:=by simp
    by_cases hck:c=k
    ·have hb0:b2q k (c::post)=[]:=by simp[b2q,hck]
     rw[hb0,List.flatMap_nil,h0Q]at hi1;subst hck;simp -implicitDefEqProofs only[go_sem,hgc,hlt,hcr,hclt,hc0,Rw.enc,b0J,hgp,hplt,hp0];refine⟨fun h2=>?_,fun h2=>?_⟩
     ·rw[if_pos h2]at hRE;rw[hi1,←hRE,show b1j l t [] = -1 from rfl,b3n hC];exact⟨_,rfl⟩
     ·rw[if_neg h2]at hRE;rw[←hRE]at hi1;refine sdq ?_;simp -implicitDefEqProofs only[go_sem,hgp,hplt,hp0,Rw.enc];exact⟨(p,z1),by simp;omega,⟨hpl,hi1⟩,⟨rfl,rfl⟩,b0r,.inl (h0q _)⟩
    ·have hb1:b2q k (c::post)=c::b2q k post:=by simp[b2q,hck]
     have hckI:((c:Int)=k)=False:=by simp;omega
     rw[hb1,List.flatMap_cons,h0x]at hi1;have hzlen:h.length≤(h++VObj.cells [.int .i64 un,.int .i64 i]::z1).length:=by simp
     have gA:(h++VObj.cells [.int .i64 un,.int .i64 i]::z1)[A]? = some (.cells [sl 48 (l.map Rw.enc)]):=b0I hA;have gB:(h++VObj.cells [.int .i64 un,.int .i64 i]::z1)[B]? = some (.cells [.str t]):=b0I hB;have gC:(h++VObj.cells [.int .i64 un,.int .i64 i]::z1)[C]? = some (.cells [.int .i64 (-1)]):=b0I hC;have hcall:=f6b l t (-1) c A B C _ a gA gB gC hcl;have hgk:=b0z hk;have hklt:((k:Int)<l.length)=True:=by simp;omega
     by_cases hp6:(b0h l p).kind=6
     ·by_cases hc10:(b0h l c).kind=10
      ·have hla:b2h l p k c=[c]:=by simp[b2h,hp6,hc10]
       rw[hla,List.singleton_append,c0c]at hi1;simp -implicitDefEqProofs only[go_sem,hgc,hlt,hcr,hclt,hc0,Rw.enc,b0J,hgp,hplt,hp0,hckI,hp6,hc10];refine b0q.mono hcall ?_;rintro v h' a' ⟨rfl,⟨z2,rfl⟩,rfl⟩;by_cases ht:(b0h l c).text=t
       ·rw[if_pos ht]at hi1;have hneg:decide ((c:Int)<0)=false:=by simp
        rw[if_pos ht,hneg];simp -implicitDefEqProofs only[go_sem];rw[hi1,b1h hlC,h0x];exact⟨_,rfl⟩
       ·rw[if_neg ht]at hi1;rw[if_neg ht,b3n gC];have hneg:decide ((-1:Int)<0)=true:=rfl;rw[hneg];simp -implicitDefEqProofs only[go_sem,hgp,hplt,hp0,hp6,Rw.enc];exact⟨z1++z2,hi1,hw,b0r,.inl (by simp)⟩
      ·have hla:b2h l p k c=[]:=by simp[b2h,hp6,hc10]
       rw[hla,h0Q]at hi1;simp -implicitDefEqProofs only[go_sem,hgc,hlt,hcr,hclt,hc0,Rw.enc,b0J,hgp,hplt,hp0,hckI,hp6,hc10];exact⟨z1,hi1,hw,b0r,.inl (h0q _)⟩
     ·by_cases hp2:(b0h l p).kind=2∧(b0h l k).kind=6∧(b0h l c).kind=3
      ·obtain⟨h2,hk6,hc3⟩:=hp2;have hla:b2h l p k c=(b0h l c).kids.filter fun q=>decide ((b0h l q).kind=4):=by simp[b2h,h2,hk6,hc3]
       rw[hla]at hi1;simp -implicitDefEqProofs only[go_sem,hgc,hlt,hcr,hclt,hc0,Rw.enc,b0J,hgp,hplt,hp0,hckI,h2,hk6,hc3,hgk,hklt];intro _ _;obtain⟨hql,hqc⟩:=hr.kids c hcl;generalize hRS:(b2q k post).flatMap (b2h l p k)++RE=RS at hi1;generalize(b0h l c).kids=qs at hi1 hql hqc ⊢;refine b0l (β:=List VObj) qs (fun qp zz=>⟨[(98,.int .i64 qp.length),(97,.int .i64 qs.length),(96,sl 3 (qs.map b0J)),(43,.int .i64 pre.length),(42,.int .i64 ks.length),(41,sl 3 (ks.map b0J)),(8,.int .i64 p),(7,.int .i64 k),(6,sl 48 (l.map Rw.enc)),(4,.ptr h.length 0),(2,.func 211 [.ptr A 0,.ptr B 0,.ptr C 0])],h ++ .cells [.int .i64 un,.int .i64 i]::zz,a⟩)
        (fun qp qo _=>b1j l t (b7J l (i+1) i)=b1j l t ((qo.filter fun q=>decide ((b0h l q).kind=4))++RS)) z1 ?_ hi1 ?_ ?_
       ·simp -implicitDefEqProofs only[go_sem];try rfl
       ·intro z3 hi3;rw[List.filter_nil,h0Q,←hRS]at hi3;simp -implicitDefEqProofs only[go_sem,hgp,hplt,hp0,Rw.enc];exact⟨z3,hi3,hw,b0r,.inl (h0q _)⟩
       ·rintro qp q qo z3 hq hi3;have hqpl:qs.length=qp.length+1+qo.length:=by rw[hq];simp;omega
        have hgq:(qs.map b0J).getD (qp.length:Int).toNat []=b0J q:=by rw[hq];simp[h0c]
        have hwq:IntKind.i64.wrap (↑qp.length+1)=↑(qp.length+1):=b0g (by omega);have hltq:((qp.length:Int)<qs.length)=True:=by simp;omega
        have hqll:=hqc q (by rw[hq];simp);have hqr:=b0z hqll;have hqlt:((q:Int)<l.length)=True:=by simp;omega
        have hq0:(0≤(q:Int))=True:=by simp
        have gA:(h++VObj.cells [.int .i64 un,.int .i64 i]::z3)[A]? = some (.cells [sl 48 (l.map Rw.enc)]):=b0I hA;have gB:(h++VObj.cells [.int .i64 un,.int .i64 i]::z3)[B]? = some (.cells [.str t]):=b0I hB;have gC:(h++VObj.cells [.int .i64 un,.int .i64 i]::z3)[C]? = some (.cells [.int .i64 (-1)]):=b0I hC;have hcall:=f6b l t (-1) q A B C _ a gA gB gC hqll;by_cases hq4:(b0h l q).kind=4
        ·have hfl:((q::qo).filter fun q=>decide ((b0h l q).kind=4))=q::(qo.filter fun q=>decide ((b0h l q).kind=4)):=by simp[hq4]
         rw[hfl,h0a,c0c]at hi3;simp -implicitDefEqProofs only[go_sem,hgq,hltq,hqr,hqlt,hq0,Rw.enc,b0J,hq4];refine b0q.mono hcall ?_;rintro v h' a' ⟨rfl,⟨z4,rfl⟩,rfl⟩;by_cases ht:(b0h l q).text=t
         ·rw[if_pos ht]at hi3;have hneg:decide ((q:Int)<0)=false:=by simp
          rw[if_pos ht,hneg];simp -implicitDefEqProofs only[go_sem];rw[hi3,b1h hlC,h0x];exact⟨_,rfl⟩
         ·rw[if_neg ht]at hi3;rw[if_neg ht,b3n gC];have hneg:decide ((-1:Int)<0)=true:=rfl;rw[hneg];simp -implicitDefEqProofs only[go_sem];exact⟨z3++z4,hi3,hwq,b0r,.inl (by simp)⟩
        ·have hfl:((q::qo).filter fun q=>decide ((b0h l q).kind=4))=(qo.filter fun q=>decide ((b0h l q).kind=4)):=by simp[hq4]
         rw[hfl]at hi3;simp -implicitDefEqProofs only[go_sem,hgq,hltq,hqr,hqlt,hq0,Rw.enc,b0J,hq4];exact⟨z3,hi3,hwq,b0r,.inl (h0q _)⟩
      ·have hla:b2h l p k c=[]:=by
        unfold b2h;rw[if_neg (fun h=>hp6 h.1),if_neg hp2];rfl
       rw[hla,h0Q]at hi1;by_cases h2:(b0h l p).kind=2
       ·by_cases hk6:(b0h l k).kind=6
        ·have hc3:¬ (b0h l c).kind=3:=fun h=>hp2 ⟨h2,hk6,h⟩
         simp -implicitDefEqProofs only[go_sem,hgc,hlt,hcr,hclt,hc0,Rw.enc,b0J,hgp,hplt,hp0,hckI,hp6,h2,hk6,hc3,hgk,hklt];exact⟨z1,hi1,hw,b0r,.inl (h0q _)⟩
        ·simp -implicitDefEqProofs only[go_sem,hgc,hlt,hcr,hclt,hc0,Rw.enc,b0J,hgp,hplt,hp0,hckI,hp6,h2,hk6,hgk,hklt];exact⟨z1,hi1,hw,b0r,.inl (h0q _)⟩
       ·simp -implicitDefEqProofs only[go_sem,hgc,hlt,hcr,hclt,hc0,Rw.enc,b0J,hgp,hplt,hp0,hckI,hp6,h2,hgk,hklt];exact⟨z1,hi1,hw,b0r,.inl (h0q _)⟩
  ·have:b7J l (k+1) k=[]:=by rw[b7J,if_pos (by omega)]
   rw[hf,this];refine⟨.cells [.int .i64 un,.int .i64 i]::zz,?_⟩;rw[show b1j l t [] = -1 from rfl,b3n hC]
def c3B(l:List Rw)(M:List Dl)(un i:Nat)(k:Int):Option (Int×Int):=if k=3∧0≤b1j l (b0h l i).text (b7J l (i+1) i)then some (un,b1j l (b0h l i).text (b7J l (i+1) i))else(M.find? (b5m k (b0h l i).text)).map fun d=>(d.unit,d.node)
def c1i(o:Option (Int×Int)):V := .tuple [.agg [.int .i64 ((o.map (·.1)).getD 0),.int .i64 ((o.map (·.2)).getD 0)],.bool o.isSome]
theorem c4J(l:List Rw)(t:ByteArray)(vs:List Nat) : -1≤b1j l t vs:=by
 unfold b1j;split <;> omega
theorem d1T{M:List Dl}{k:Int}{n:ByteArray}{K:V→Prop}:b1L env 24 (b1e [1,0] [.int .i64 k,.str n] (c3C M) 0) true K=K (.tuple [.agg [.int .i64 (((M.find? (b5m k n)).map (·.unit)).getD 0),.int .i64 (((M.find? (b5m k n)).map (·.node)).getD 0)],.bool (M.find? (b5m k n)).isSome]):=by
 rcases d5K k n M 0 with⟨j,v,h1,h2⟩ | ⟨h1,h2⟩
 ·rw[h1,h2];simp -implicitDefEqProofs only[go_sem];rfl
 ·rw[h1,h2];simp -implicitDefEqProofs only[go_sem,c7m];rfl
theorem d3r(tb:List (List Rw))(M:List Dl)(ds:V)(h:List VObj)(a:List Nat)(un i:Nat)(l:List Rw)(hm:h[0]? = some (.map (c3C M)))(hh:h[1]? = some (.cells [.slice (.arr 0) 45 (tb.map b0p),.map 0,ds]))(hl:tb[un]? = some l)(hi:i<l.length)(hds:ds.some? = true)(hr:rowsOK l)(k:Int) :
  b0q env 183 [.ptr 1 0,.agg [.int .i64 un,.int .i64 i],.int .i64 k] h a fun v h' a'=>v=c1i (c3B l M un i k)∧(∃ z,h'=h++z)∧a'=a:=by
 have hlt1:1<h.length:=(h0b.1 hh).1;have hlt0:0<h.length:=by omega
 have htu:(tb.map b0p).getD (un:Int).toNat []=b0p l:=by simp[h0c,hl]
 have hul:((un:Int)<tb.length)=True:=by
  have:=(h0b.1 hl).1;simp;omega
 have hrg:=b0z hi;have hil:((i:Int)<l.length)=True:=by simp;omega
 refine b0y (fn:=Tryz.f183) Tryz.func183 rfl (by rw[Tryz.ntmps183];simp) ?_;simp -implicitDefEqProofs only[go_sem,Tryz.f183];refine sdq ?_;by_cases hk:k=3
 ·subst hk;simp -implicitDefEqProofs only[go_sem,b0I hh,b1h hlt1,b3I,b1V,b3G,b1U,b1P,htu,hul,b0p,hrg,hil,Rw.enc];refine b0q.mono (c6s tb ds _ a un i (h.length+2) (h.length+3) (h.length+4) l (b0h l i).text (b0I hh) hl hi hds ?_ ?_ ?_ ?_ hr) ?_
  ·rw[h0g (by omega)];simp
  ·rw[h0g (by omega)];simp
  ·rw[h0g (by omega)];simp
  ·omega
  ·rintro v h' a' ⟨rfl,⟨z,rfl⟩,rfl⟩;have hF:=c4J l (b0h l i).text (b7J l (i+1) i);have hset:∀ y,(h++[VObj.cells [.int .i64 (un:Int),.int .i64 (i:Int)],.cells [.int .i64 0,.int .i64 0],.cells [sl 48 (l.map Rw.enc)],.cells [.str (b0h l i).text],.cells [.int .i64 (-1)]]).set (h.length+4) y=h++[VObj.cells [.int .i64 (un:Int),.int .i64 (i:Int)],.cells [.int .i64 0,.int .i64 0],.cells [sl 48 (l.map Rw.enc)],.cells [.str (b0h l i).text],y]:=fun y=>by
    rw[h0N (s:=h) _ _ (by omega)];simp
   rw[hset,h0x];have hres:c3B l M un i 3=if 0≤b1j l (b0h l i).text (b7J l (i+1) i)then some ((un:Int),b1j l (b0h l i).text (b7J l (i+1) i))else(M.find? (b5m 3 (b0h l i).text)).map fun d=>(d.unit,d.node):=by simp[c3B]
   rw[hres];generalize b1j l (b0h l i).text (b7J l (i+1) i)=F at hF ⊢;simp -implicitDefEqProofs only[go_sem,b0I hm,b0I hh,b1h hlt1,b3I,b1V,b3G,b1U,b1P,h0a,h0Q];refine⟨fun h0=>⟨by rw[if_pos h0];rfl,_,rfl⟩,fun h0=>?_⟩;rw[if_neg h0];have hcz:∀ x y:VObj,(z++[x]).set z.length y=z++[y]:=fun x y=>by rw[h0N _ _ (h0q _)];simp
   refine sdq ?_;simp -implicitDefEqProofs only[go_sem,b0I hm,b0I hh,b1h hlt1,b3I,b1V,b3G,b1U,b1P,b4U,d1T,g9Y,List.getElem?_concat_length,g9Z,hcz,h0a];refine⟨?_,_,rfl⟩;cases M.find? (b5m 3 (b0h l i).text) <;> rfl
 ·have hres:c3B l M un i k=(M.find? (b5m k (b0h l i).text)).map fun d=>(d.unit,d.node):=by simp[c3B,hk]
  rw[hres];simp -implicitDefEqProofs only[go_sem,b0I hh,b1h hlt1,b3I,b1V,b3G,b1U,b1P,htu,hul,b0p,hrg,hil,Rw.enc,hk];refine sdq ?_;simp -implicitDefEqProofs only[go_sem,b0I hm,b0I hh,b1h hlt1,b3I,b1V,b3G,b1U,b1P,b4U,d1T];refine⟨?_,_,rfl⟩;cases M.find? (b5m k (b0h l i).text) <;> rfl
structure Us where
 un:Nat
 nd:Nat
 to:Option (Int×Int)
def Us.enc(x:Us):List V:=[.int .i64 x.un,.int .i64 x.nd,.int .i64 ((x.to.map (·.1)).getD 0),.int .i64 ((x.to.map (·.2)).getD 0),.bool x.to.isSome]
def b5I(l:List Rw)(M:List Dl)(un i:Nat):List Us:=if(b6Y (b0h l i).kind (b0h l i).text).2=true then [⟨un,i,c3B l M un i (b6Y (b0h l i).kind (b0h l i).text).1⟩]else []
def d0j(l:List Rw)(M:List Dl)(un:Nat):List Us:=(List.range l.length).flatMap (b5I l M un)
def b2O(M:List Dl):List (List Rw)→Nat→List Us
 | [],_=>[]
 | l::r,un=>d0j l M un++b2O M r (un+1)
theorem b8o{M:List Dl}{x:List Rw}:∀ (l:List (List Rw)) (n:Nat),b2O M (l++[x]) n=b2O M l n++d0j x M (n+l.length)
 | [],n=>by simp[b2O]
 | y::r,n=>by
  rw[h0a,b2O,b2O,b8o r,h0x,h0o];congr 3;omega
theorem b2I:∀ l:List Us,b0P (l.map Us.enc)=true
 | []=>rfl
 | n::r=>by show(b0Y _ && b0P (r.map Us.enc))=true;rw[b2I r];rfl
theorem c2Y(l:List Rw)(M:List Dl)(un:Nat):∀ q:List Nat,(q.flatMap (b5I l M un)).length≤q.length
 | []=>by simp
 | x::r=>by
  have h1:=c2Y l M un r;have h2:(b5I l M un x).length≤1:=by unfold b5I;split <;> simp
  rw[List.flatMap_cons,h0h,h0o];omega
theorem c0F{M:List Dl}:∀ (tb:List (List Rw)) (n:Nat),(∀ l∈tb,l.length≤1000000)→(b2O M tb n).length≤tb.length * 1000000
 | [],n,_=>by simp[b2O]
 | x::r,n,h=>by
  have h1:=c0F (M:=M) r (n+1) fun y hy=>h y (by simp[hy])
  have h2:=c2Y x M n (List.range x.length);rw[List.length_range]at h2;have h3:=h x (by simp);have h4:(d0j x M n).length=_:=rfl;rw[b2O,h0h,h0o];unfold d0j;omega
theorem g1b(u:List Un)(hu:b2D u)(hr:∀ l∈b0f u,rowsOK l):b0s env 141 [sl 70 (u.map Un.enc)] (sl 163 ((b2O (b2c (b0e u 0)) (b0f u) 0).map Us.enc)):=by
 refine b0i (fn:=Tryz.f141) Tryz.func141 rfl (by rw[Tryz.ntmps141];simp) (by simp -implicitDefEqProofs only[go_sem];exact b0v _) (by simp -implicitDefEqProofs only[go_sem];exact b2I _) ?_;simp -implicitDefEqProofs only[go_sem,Tryz.f141];refine b0q.mono (f6t u hu) ?_;rintro v h' a' ⟨rfl,rfl,rfl⟩;simp -implicitDefEqProofs only[go_sem];intro _ _;generalize b0e u 0=dl;have htl0:(b0f u).length≤1000:=by unfold b0f;rw[h0v];exact hu.1
 generalize b0f u=tb at hr htl0 ⊢;generalize b2c dl=M;refine b0l (β:=Unit) tb (fun pre _=>⟨[(19,.int .i64 pre.length),(18,.int .i64 tb.length),(17,.slice (.arr 0) 45 (tb.map b0p)),(4,.slice (.arr 1) 163 ((b2O M pre 0).map Us.enc)),(3,.ptr 1 0),(2,.slice .nil 0 [])],
   [.map (c3C M),.cells [.slice (.arr 0) 45 (tb.map b0p),.map 0,sl 54 (dl.map Dl.enc)]],[u.length,(b2O M pre 0).length]⟩) (fun _ _ _=>True) () ?_ trivial ?_ ?_
 ·simp -implicitDefEqProofs only[go_sem];exact⟨rfl,rfl⟩
 ·intro _ _;simp -implicitDefEqProofs only[go_sem]
 ·rintro pre l post _ hx _;have hpl:tb.length=pre.length+1+post.length:=by rw[hx];simp;omega
  have hgx:(tb.map b0p).getD (pre.length:Int).toNat []=b0p l:=by rw[hx];simp[h0c]
  have hlt:((pre.length:Int)<tb.length)=True:=by simp;omega
  have hlm:l∈tb:=by rw[hx];simp
  have hro:=hr l hlm;have hll:=hro.len;have htl:tb[pre.length]? = some l:=by rw[hx];simp
  have hsn:=b8o (M:=M) (x:=l) pre 0;rw[h0w,d0j]at hsn;have hw:IntKind.i64.wrap (↑pre.length+1)=↑(pre.length+1):=b0g (by omega);have hAl:=c0F (M:=M) pre 0 fun y hy=>(hr y (by rw[hx];simp[hy])).len
  generalize b2O M pre 0=A at hsn hAl ⊢;have hrl:(List.range l.length).length=l.length:=List.length_range;simp -implicitDefEqProofs only[go_sem,hgx,hlt,b0p];intro _ _;refine b0l (β:=Unit) (List.range l.length) (fun q _=>⟨[(26,.int .i64 q.length),(25,.int .i64 l.length),(5,.int .i64 pre.length),(19,.int .i64 pre.length),(18,.int .i64 tb.length),(17,.slice (.arr 0) 45 (tb.map b0p)),(4,.slice (.arr 1) 163 ((A++q.flatMap (b5I l M pre.length)).map Us.enc)),(3,.ptr 1 0),(2,.slice .nil 0 [])],
   [.map (c3C M),.cells [.slice (.arr 0) 45 (tb.map b0p),.map 0,sl 54 (dl.map Dl.enc)]],[u.length,(A++q.flatMap (b5I l M pre.length)).length]⟩) (fun _ _ _=>True) () ?_ trivial ?_ ?_
  ·simp only[List.flatMap_nil,h0F];simp -implicitDefEqProofs only[go_sem];try rfl
  ·intro _ _;simp -implicitDefEqProofs only[go_sem,hrl];rw[hsn];exact⟨(),⟨hw,rfl⟩,rfl⟩
  ·rintro q k r _ hq _;have hpq:l.length=q.length+1+r.length:=by rw[←hrl,hq];simp;omega
   have hk:k=q.length:=by
    have h1:(List.range l.length)[q.length]? = some k:=by rw[hq];simp
    rw[List.getElem?_range (by omega)]at h1;simpa using h1.symm
   subst hk;have hwq:IntKind.i64.wrap (↑q.length+1)=↑(q.length+1):=b0g (by omega);have hltq:((q.length:Int)<l.length)=True:=by simp;omega
   have hal:(q.flatMap (b5I l M pre.length)).length≤q.length:=c2Y l M pre.length q;have haq:(q++[q.length]).flatMap (b5I l M pre.length)=q.flatMap (b5I l M pre.length)++b5I l M pre.length q.length:=by simp
   generalize hQ:q.flatMap (b5I l M pre.length)=Q at hal haq ⊢;have hqi:q.length<l.length:=by omega
   simp -implicitDefEqProofs only[go_sem,hltq];refine b0q.mono (g1W tb (sl 54 (dl.map Dl.enc)) _ _ pre.length q.length l rfl htl hqi (by simp -implicitDefEqProofs only[go_sem])) ?_;rintro v h' a' ⟨rfl,⟨z1,rfl⟩,rfl⟩;have hua:b5I l M pre.length q.length=if(b6Y (b0h l q.length).kind (b0h l q.length).text).2=true then [⟨pre.length,q.length,c3B l M pre.length q.length (b6Y (b0h l q.length).kind (b0h l q.length).text).1⟩]else []:=rfl
   generalize b6Y (b0h l q.length).kind (b0h l q.length).text=kb at hua ⊢;obtain⟨kk,b⟩:=kb;have htp:=b0m 2 2 _ (b1g tb);have hdp:=b0m 2 2 _ (b0D dl);cases b with
   | false =>
    rw[if_neg (by simp)]at hua;rw[hua,h0F]at haq;simp -implicitDefEqProofs only[go_sem];rw[haq,b8d,htp,hdp,b0m _ _ _ (b2I _)];exact⟨(),⟨hwq,rfl⟩,rfl,.inr ⟨rfl,rfl⟩⟩
   | true =>
    rw[if_pos rfl]at hua;rw[hua]at haq;have hcz:∀ x y:VObj,(z1++[x]).set z1.length y=z1++[y]:=fun x y=>by rw[h0N _ _ (h0q _)];simp
    simp -implicitDefEqProofs only[go_sem,g9Y,List.getElem?_concat_length,g9Z,hcz];refine b0q.mono (d3r tb M (sl 54 (dl.map Dl.enc)) _ _ pre.length q.length l rfl rfl htl hqi (by simp -implicitDefEqProofs only[go_sem]) hro kk) ?_;rintro v h' a' ⟨rfl,⟨z2,rfl⟩,rfl⟩;generalize c3B l M pre.length q.length kk=ro at haq ⊢;simp -implicitDefEqProofs only[go_sem,c1i,g9Y,List.getElem?_concat_length,g9Z,hcz];rw[haq,←h0x,b8d,htp,hdp,b0m _ _ _ (b2I _)];refine⟨by rw[h0h];omega,(),⟨hwq,?_⟩,by simp;omega,.inr ⟨rfl,rfl⟩⟩;rw[h0M (l₁:=A++Q)];rfl
end Go.Proofs.YtighfcpaplmaiaaGreatDoor
namespace Go.Vg
def g3T(rs:List Rw)(p:Int)(b:Nat):Prop:=∀ (j:Nat) r,rs[j]? = some r→r.parent=p∨((b:Int)≤r.parent∧r.parent<b+j)
theorem d6v:∀ (n:Nd) (p:Int) (b:Nat),g3T (b0u n p b) p b:=by
 refine Nd.all fun k t g ks ih p b=>?_
 have hs:∀ l:List Nd,(∀ x∈l,∀ (p:Int) (b:Nat),g3T (b0u x p b) p b)→∀ (p b:Nat),g3T (b0X l p b) p b:=by
  intro l;induction l with
  | nil=>intro _ p b j r h;simp[b0X]at h
  | cons x r ihr =>
   intro hx p b j rr hj;rw[b0X]at hj;rcases h1A j (b0u x p b).length with hl | hl
   ·rw[h0e hl]at hj;exact hx x (by simp) p b j rr hj
   ·rw[h0g hl]at hj;rcases ihr (fun y hy=>hx y (by simp[hy])) p _ _ rr hj with h | ⟨h1,h2⟩
    ·exact .inl h
    ·right;rw[b0K]at hl h2;constructor <;> omega
 intro j r hj;rw[b0u]at hj;cases j with
 | zero=>simp at hj;subst hj;exact .inl rfl
 | succ j =>
  rw[g9Y]at hj;rcases hs ks ih b (b+1) j r hj with h | ⟨h1,h2⟩
  ·right;rw[h];constructor <;> omega
  ·right;constructor <;> omega
theorem b6a{n:Nd}(hl:(b0o n).length≤1000000):rowsOK (b0u n (-1) 0):=by
 have hlen:(b0u n (-1) 0).length=(b0o n).length:=b0K ..;refine⟨by omega,fun i hi=>?_,fun i hi=>?_⟩
 ·have hn:(b0o n)[i]? = some (b0o n)[i]:=h0f (by omega);generalize(b0o n)[i]=y at hn;obtain⟨k,t,g,ks⟩:=y;obtain⟨_,_,h3⟩:=b4d hn;rw[h3];refine⟨?_,fun c hc=>?_⟩
  ·rw[b0U];have h1:=b3L ks;have h2:=b6m _ _ (h0j hn);rw[b0Z]at h2;omega
  ·obtain⟨j,z,j1,j2⟩:=c1T hc;obtain⟨c',j3,j4⟩:=b8C hn j2;have:c'=c:=by rw[j1]at j3;simpa using j3.symm
   subst this;have:=(h0b.1 j4).1;omega
 ·have hg:(b0u n (-1) 0)[i]? = some (b0h (b0u n (-1) 0) i):=by
   rw[b0h,h0c,h0f hi];rfl
  rcases d6v n (-1) 0 i _ hg with h | ⟨h1,h2⟩
  ·rw[h];constructor <;> omega
  ·constructor <;> omega
end Go.Vg
namespace Go.Proofs.YtighfcpaplmaiaaGreatDoor
open Go Go.Vg Go.Proofs
theorem b8e{u:List Un}(hu:b2D u):∀ l∈b0f u,rowsOK l:=by
 intro l hl;obtain⟨x,hx,rfl⟩:=h1p.1 hl;split
 ·exact⟨by simp,fun i hi=>by simp at hi,fun i hi=>by simp at hi⟩
 ·exact b6a (by have:=(hu.2 x hx).1;omega)
end Go.Proofs.YtighfcpaplmaiaaGreatDoor
set_option maxHeartbeats 20000000
namespace Go.Vg
structure Pk where
 kind:Int
 un:Int
 par:Int
 name:ByteArray
 deriving DecidableEq
def Pk.enc(k:Pk):List V:=[.int .i64 k.kind,.int .i64 k.un,.int .i64 k.par,.str k.name]
def c5j(l:List Pk):List (V×V):=l.map fun k=>(.agg k.enc,.bool true)
def eqP(a b:Pk):Bool:=decide (a.kind=b.kind) && (decide (a.un=b.un) && (decide (a.par=b.par) && decide (a.name=b.name)))
theorem d1t{a b:Pk}:eqP a b=true↔a=b:=by
 unfold eqP;cases a;cases b
 simp
theorem f1F(k:Pk):∀ (l:List Pk) (i:Nat),(∃ j,b1e [1,1,1,0] k.enc (c5j l) i=some (some (i+j,.bool true))∧l[j]? = some k∧(l.any fun x=>decide (x=k))=true)∨(b1e [1,1,1,0] k.enc (c5j l) i=some none∧(l.any fun x=>decide (x=k))=false)
 | [],i => .inr ⟨rfl,rfl⟩
 | e::r,i=>by
  have heq:eqL k.enc e.enc=some (eqP k e):=by
   simp only[Pk.enc,eqL,eq1,h1g];rfl
  have h1:b1e [1,1,1,0] k.enc (c5j (e::r)) i=if eqP k e=true then some (some (i,.bool true))else b1e [1,1,1,0] k.enc (c5j r) (i+1):=by
   simp only[c5j,h0s,b1e,heq];have hf:b3F [1,1,1,0] k.enc e.enc=true:=rfl;rw[if_pos hf];cases eqP k e <;> rfl
  rw[h1,List.any_cons];by_cases h:eqP k e=true
  ·have:=d1t.1 h;subst this;exact .inl ⟨0,by rw[if_pos h];rfl,rfl,by simp⟩
  ·rw[if_neg h];have hne:¬ e=k:=fun he=>h (d1t.2 he.symm)
   rw[h0z hne,h0Y];rcases f1F k r (i+1)with⟨j,g1,g2,g3⟩ | ⟨g1,g2⟩
   ·exact .inl ⟨j+1,by rw[g1,show i+1+j=i+(j+1)by omega],by simpa using g2,g3⟩
   ·exact .inr ⟨g1,g2⟩
def c1a(tb:List (List Rw))(d:Dl):Pk:=if d.kind=5∨d.kind=6∨d.kind=4 then⟨d.kind,d.unit,(b0h (tb.getD d.unit.toNat []) d.node.toNat).parent,d.name⟩else⟨d.kind,0,0,d.name⟩
def b7K(tb:List (List Rw))(p:List Pk×List Dl)(d:Dl):List Pk×List Dl:=if(p.1.any fun x=>decide (x=c1a tb d))=true then(p.1,p.2++[d])else(p.1++[c1a tb d],p.2)
def b8A(tb:List (List Rw))(l:List Dl):List Pk×List Dl:=l.foldl (b7K tb) ([],[])
theorem d1V(tb:List (List Rw))(l:List Dl)(d:Dl):b8A tb (l++[d])=b7K tb (b8A tb l) d:=by simp[b8A]
theorem d6U(tb:List (List Rw))(l:List Dl):(b8A tb l).2.length≤l.length:=by
 have key:∀ (l:List Dl) (p:List Pk×List Dl),(l.foldl (b7K tb) p).2.length≤p.2.length+l.length:=by
  intro l;induction l with
  | nil=>intro p;simp
  | cons d r ih =>
   intro p;have h1:=ih (b7K tb p d);have h2:(b7K tb p d).2.length≤p.2.length+1:=by unfold b7K;split <;> simp
   rw[h0K,h0o];omega
 have:=key l ([],[]);simpa[b8A]using this
end Go.Vg
namespace Go.Proofs.YtighfcpaplmaiaaGreatDoor
open Go Go.Vg Go.Proofs
theorem b6p:flatK Tryz.prog 199=some [1,1,1,0]:=by kernel_rfl
theorem b4G:∀ l:List Dl,b0P (l.map c2O)=true
 | []=>rfl
 | n::r=>by show(b0Y _ && b0P (r.map c2O))=true;rw[b4G r];rfl
theorem c8n{l:List Pk}{k:Pk}{K:V→Prop}:b1L env 4 (b1e [1,1,1,0] [.int .i64 k.kind,.int .i64 k.un,.int .i64 k.par,.str k.name] (c5j l) 0) false K=K (.bool (l.any fun x=>decide (x=k))):=by
 have e:[V.int .i64 k.kind,.int .i64 k.un,.int .i64 k.par,.str k.name]=k.enc:=rfl;rw[e];rcases f1F k l 0 with⟨j,h1,_,h2⟩ | ⟨h1,h2⟩
 ·rw[h1,h2];simp -implicitDefEqProofs only[go_sem]
 ·rw[h1,h2];simp -implicitDefEqProofs only[go_sem];rfl
theorem d6n{l:List Pk}{k:Pk}{h:List VObj}{id:Nat}{L:List VObj→Prop}:b3Z h id (c5j l) (.agg [.int .i64 k.kind,.int .i64 k.un,.int .i64 k.par,.str k.name]) (.bool true) (b1e [1,1,1,0] [.int .i64 k.kind,.int .i64 k.un,.int .i64 k.par,.str k.name] (c5j l) 0) L=L (h.set id (.map (c5j (if(l.any fun x=>decide (x=k))=true then l else l++[k])))):=by
 have e:[V.int .i64 k.kind,.int .i64 k.un,.int .i64 k.par,.str k.name]=k.enc:=rfl;rw[e];rcases f1F k l 0 with⟨j,h1,h2,h3⟩ | ⟨h1,h2⟩
 ·rw[h1,if_pos h3,h0w];simp -implicitDefEqProofs only[go_sem];have:(c5j l).set j (.agg k.enc,.bool true)=c5j l:=b3n (by rw[c5j,h0u,h2];rfl);rw[this]
 ·rw[h1,if_neg (by rw[h2];simp)];simp -implicitDefEqProofs only[go_sem];simp[c5j]
theorem c2L(k ka:Nat):∀ l:List Pk,ltP k ka (c5j l)=true
 | []=>rfl
 | x::r=>by
  have:=c2L k ka r;have hx:(V.agg x.enc).lt k ka=true:=by simp[V.lt,Pk.enc,ltL]
  simp only[c5j,h0s,ltP]at this ⊢;rw[hx,this];simp[V.lt]
def wkD:Wk := .one 0 (.one 1 (.one 2 (.one 3 (.one 4 (.one 5 (.one 7 (.one 8 (.one 12 (.one 13 (.one 18 (.br 6 (.br 9 (.one 10 (.br 11 (.br 14 (.one 15 (.one 16 (.br 17 (.one 19 (.one 20 (.one 21 (.stop)))) (.br 19 (.one 17 (.one 20 (.one 21 (.stop)))) (.stop))))) (.br 19 (.one 14 (.one 15 (.one 16 (.one 17 (.one 20 (.one 21 (.stop))))))) (.stop))) (.br 14 (.br 11 (.one 15 (.one 16 (.br 17 (.one 19 (.one 20 (.one 21 (.stop)))) (.br 19 (.one 17 (.one 20 (.one 21 (.stop)))) (.stop))))) (.br 19 (.one 11 (.one 15 (.one 16 (.one 17 (.one 20 (.one 21 (.stop))))))) (.stop))) (.br 19 (.one 11 (.one 14 (.one 15 (.one 16 (.one 17 (.one 20 (.one 21 (.stop)))))))) (.stop))))) (.br 14 (.br 9 (.one 10 (.br 11 (.one 15 (.one 16 (.br 17 (.one 19 (.one 20 (.one 21 (.stop)))) (.br 19 (.one 17 (.one 20 (.one 21 (.stop)))) (.stop))))) (.br 19 (.one 11 (.one 15 (.one 16 (.one 17 (.one 20 (.one 21 (.stop))))))) (.stop)))) (.br 19 (.one 9 (.one 10 (.one 11 (.one 15 (.one 16 (.one 17 (.one 20 (.one 21 (.stop))))))))) (.stop))) (.br 19 (.one 9 (.one 10 (.one 11 (.one 14 (.one 15 (.one 16 (.one 17 (.one 20 (.one 21 (.stop)))))))))) (.stop)))) (.br 9 (.br 6 (.one 10 (.br 11 (.br 14 (.one 15 (.one 16 (.br 17 (.one 19 (.one 20 (.one 21 (.stop)))) (.br 19 (.one 17 (.one 20 (.one 21 (.stop)))) (.stop))))) (.br 19 (.one 14 (.one 15 (.one 16 (.one 17 (.one 20 (.one 21 (.stop))))))) (.stop))) (.br 14 (.br 11 (.one 15 (.one 16 (.br 17 (.one 19 (.one 20 (.one 21 (.stop)))) (.br 19 (.one 17 (.one 20 (.one 21 (.stop)))) (.stop))))) (.br 19 (.one 11 (.one 15 (.one 16 (.one 17 (.one 20 (.one 21 (.stop))))))) (.stop))) (.br 19 (.one 11 (.one 14 (.one 15 (.one 16 (.one 17 (.one 20 (.one 21 (.stop)))))))) (.stop))))) (.br 14 (.br 6 (.one 10 (.br 11 (.one 15 (.one 16 (.br 17 (.one 19 (.one 20 (.one 21 (.stop)))) (.br 19 (.one 17 (.one 20 (.one 21 (.stop)))) (.stop))))) (.br 19 (.one 11 (.one 15 (.one 16 (.one 17 (.one 20 (.one 21 (.stop))))))) (.stop)))) (.br 19 (.one 6 (.one 10 (.one 11 (.one 15 (.one 16 (.one 17 (.one 20 (.one 21 (.stop))))))))) (.stop))) (.br 19 (.one 6 (.one 10 (.one 11 (.one 14 (.one 15 (.one 16 (.one 17 (.one 20 (.one 21 (.stop)))))))))) (.stop)))) (.br 14 (.br 6 (.br 9 (.one 10 (.br 11 (.one 15 (.one 16 (.br 17 (.one 19 (.one 20 (.one 21 (.stop)))) (.br 19 (.one 17 (.one 20 (.one 21 (.stop)))) (.stop))))) (.br 19 (.one 11 (.one 15 (.one 16 (.one 17 (.one 20 (.one 21 (.stop))))))) (.stop)))) (.br 19 (.one 9 (.one 10 (.one 11 (.one 15 (.one 16 (.one 17 (.one 20 (.one 21 (.stop))))))))) (.stop))) (.br 9 (.br 6 (.one 10 (.br 11 (.one 15 (.one 16 (.br 17 (.one 19 (.one 20 (.one 21 (.stop)))) (.br 19 (.one 17 (.one 20 (.one 21 (.stop)))) (.stop))))) (.br 19 (.one 11 (.one 15 (.one 16 (.one 17 (.one 20 (.one 21 (.stop))))))) (.stop)))) (.br 19 (.one 6 (.one 10 (.one 11 (.one 15 (.one 16 (.one 17 (.one 20 (.one 21 (.stop))))))))) (.stop))) (.br 19 (.one 6 (.one 9 (.one 10 (.one 11 (.one 15 (.one 16 (.one 17 (.one 20 (.one 21 (.stop)))))))))) (.stop)))) (.br 19 (.one 6 (.one 9 (.one 10 (.one 11 (.one 14 (.one 15 (.one 16 (.one 17 (.one 20 (.one 21 (.stop))))))))))) (.stop)))))))))))))))
theorem d5n(u:List Un)(hu:b2D u):b0s env 93 [sl 70 (u.map Un.enc)] (sl 24 ((b8A (b0f u) (b0e u 0)).2.map c2O)):=by
 have hdl:=b0H u 0 fun y hy=>(hu.2 y hy).1
 have hul:=hu.1;refine b0i (fn:=Tryz.f93) Tryz.func93 rfl (by rw[Tryz.ntmps93];simp) (by simp -implicitDefEqProofs only[go_sem];exact b0v _) (by simp -implicitDefEqProofs only[go_sem];exact b4G _) ?_;simp -implicitDefEqProofs only[go_sem,Tryz.f93];refine b0q.mono (f6t u hu) ?_;rintro v h' a' ⟨rfl,rfl,rfl⟩;simp -implicitDefEqProofs only[go_sem];intro _ _;generalize hDD:b0e u 0=dl at hdl ⊢;refine b0l (β:=Unit) dl (fun pre _=>⟨[(17,.int .i64 pre.length),(16,.int .i64 dl.length),(15,sl 54 (dl.map Dl.enc)),(5,.slice (.arr 1) 24 ((b8A (b0f u) pre).2.map c2O)),(4,.map 2),(3,.ptr 1 0),(2,.slice .nil 0 [])],
   [.map (c3C (b2c dl)),.cells [.slice (.arr 0) 45 ((b0f u).map b0p),.map 0,sl 54 (dl.map Dl.enc)],.map (c5j (b8A (b0f u) pre).1)],[u.length,(b8A (b0f u) pre).2.length]⟩) (fun _ _ _=>True) () ?_ trivial ?_ ?_
 ·simp -implicitDefEqProofs only[go_sem];exact⟨⟨rfl,rfl⟩,rfl⟩
 ·intro _ _;simp -implicitDefEqProofs only[go_sem]
 ·rintro pre d post _ hx _;have hpl:dl.length=pre.length+1+post.length:=by rw[hx];simp;omega
  have hgx:(dl.map Dl.enc).getD (pre.length:Int).toNat []=d.enc:=by rw[hx];simp[h0c]
  have hw:IntKind.i64.wrap (↑pre.length+1)=↑(pre.length+1):=b0g (by omega);have hlt:((pre.length:Int)<dl.length)=True:=by simp;omega
  have hsn:=d1V (b0f u) pre d;have hml:=d6U (b0f u) pre;obtain⟨un,x,e1,e2,e3,nd,y,e4,e5,e6,e7,e8⟩:=b4w u 0 d (by rw[hDD,hx];simp);rw[h0w]at e1 e4;have htt:(b0f u)[un]? = some (b0u x.tree (-1) 0):=by unfold b0f;rw[h0u,e2];simp[e3]
  have htg:(b0f u).getD d.unit.toNat []=b0u x.tree (-1) 0:=by rw[e1,h0n,h0c,htt];rfl
  have hll:nd<(b0u x.tree (-1) 0).length:=by rw[b0K];exact(h0b.1 e5).1
  generalize b0u x.tree (-1) 0=l at htt htg hll;have htu:((b0f u).map b0p).getD d.unit.toNat []=b0p l:=by rw[e1,h0n,h0c,h0u,htt];rfl
  have hu0:(0≤d.unit)=True:=by simp[e1]
  have hu1:(d.unit<((b0f u).length:Int))=True:=by
   have:=(h0b.1 htt).1;simp[e1];omega
  have hndl:nd<l.length:=hll;have hrg:(l.map Rw.enc).getD d.node.toNat []=(b0h l nd).enc:=by rw[e4,h0n];exact c7P hndl
  have hn0:(0≤d.node)=True:=by simp[e4]
  have hn1:(d.node<(l.length:Int))=True:=by simp[e4];omega
  by_cases h5:d.kind=5
  ·have hkp:c1a (b0f u) d=(⟨5,d.unit,(b0h l nd).parent,d.name⟩:Pk):=by
    unfold c1a;rw[if_pos (by omega),h5,htg,e4,h0n]
   have hlk:=@c8n (b8A (b0f u) pre).1 (⟨5,d.unit,(b0h l nd).parent,d.name⟩:Pk);have hst:=fun h id L=>@d6n (b8A (b0f u) pre).1 (⟨5,d.unit,(b0h l nd).parent,d.name⟩:Pk) h id L
   simp only at hlk hst;simp -implicitDefEqProofs only[go_sem,hgx,hlt,h5];refine b1f (cs:=[]) wkD b4c (by kernel_rfl) ?_;simp -implicitDefEqProofs only[go_sem,wkD,hgx,htu,hu0,hu1,b0p,hrg,hn0,hn1,Rw.enc,b6p,hlk,hst,h5];have hq:∀ m,b6K 3 2 ((m:List Dl).map c2O)=true:=fun m=>b0m _ _ _ (b4G m)
   have ht1:=b0m 3 2 _ (b1g (b0f u));have ht2:=b0m 3 2 _ (b0D dl);generalize b8A (b0f u) pre=p at hsn hml ⊢;refine⟨fun ha=>?_,fun ha=>?_⟩
   ·have hp:b7K (b0f u) p d=(p.1,p.2++[d]):=by rw[b7K,hkp,if_pos ha]
    rw[hsn,hp,if_pos ha,b8d,c2L,ht1,ht2,hq];exact⟨by omega,(),⟨hw,by simp[c2O]⟩,rfl,by simp,.inr ⟨rfl,rfl⟩⟩
   ·have hne:¬ (p.1.any fun x=>decide (x=(⟨5,d.unit,(b0h l nd).parent,d.name⟩:Pk)))=true:=by rw[ha];simp
    have hp:b7K (b0f u) p d=(p.1++[(⟨5,d.unit,(b0h l nd).parent,d.name⟩:Pk)],p.2):=by rw[b7K,hkp,if_neg hne]
    rw[hsn,hp,if_neg hne,b8d,c2L,ht1,ht2,hq];exact⟨(),⟨hw,rfl⟩,rfl,rfl,.inr ⟨rfl,rfl⟩⟩
  by_cases h6:d.kind=6
  ·have hkp:c1a (b0f u) d=(⟨6,d.unit,(b0h l nd).parent,d.name⟩:Pk):=by
    unfold c1a;rw[if_pos (by omega),h6,htg,e4,h0n]
   have hlk:=@c8n (b8A (b0f u) pre).1 (⟨6,d.unit,(b0h l nd).parent,d.name⟩:Pk);have hst:=fun h id L=>@d6n (b8A (b0f u) pre).1 (⟨6,d.unit,(b0h l nd).parent,d.name⟩:Pk) h id L
   simp only at hlk hst;simp -implicitDefEqProofs only[go_sem,hgx,hlt,h5,h6];refine b1f (cs:=[]) wkD b4c (by kernel_rfl) ?_;simp -implicitDefEqProofs only[go_sem,wkD,hgx,htu,hu0,hu1,b0p,hrg,hn0,hn1,Rw.enc,b6p,hlk,hst,h5,h6];have hq:∀ m,b6K 3 2 ((m:List Dl).map c2O)=true:=fun m=>b0m _ _ _ (b4G m)
   have ht1:=b0m 3 2 _ (b1g (b0f u));have ht2:=b0m 3 2 _ (b0D dl);generalize b8A (b0f u) pre=p at hsn hml ⊢;refine⟨fun ha=>?_,fun ha=>?_⟩
   ·have hp:b7K (b0f u) p d=(p.1,p.2++[d]):=by rw[b7K,hkp,if_pos ha]
    rw[hsn,hp,if_pos ha,b8d,c2L,ht1,ht2,hq];exact⟨by omega,(),⟨hw,by simp[c2O]⟩,rfl,by simp,.inr ⟨rfl,rfl⟩⟩
   ·have hne:¬ (p.1.any fun x=>decide (x=(⟨6,d.unit,(b0h l nd).parent,d.name⟩:Pk)))=true:=by rw[ha];simp
    have hp:b7K (b0f u) p d=(p.1++[(⟨6,d.unit,(b0h l nd).parent,d.name⟩:Pk)],p.2):=by rw[b7K,hkp,if_neg hne]
    rw[hsn,hp,if_neg hne,b8d,c2L,ht1,ht2,hq];exact⟨(),⟨hw,rfl⟩,rfl,rfl,.inr ⟨rfl,rfl⟩⟩
  by_cases h4:d.kind=4
  ·have hkp:c1a (b0f u) d=(⟨4,d.unit,(b0h l nd).parent,d.name⟩:Pk):=by
    unfold c1a;rw[if_pos (by omega),h4,htg,e4,h0n]
   have hlk:=@c8n (b8A (b0f u) pre).1 (⟨4,d.unit,(b0h l nd).parent,d.name⟩:Pk);have hst:=fun h id L=>@d6n (b8A (b0f u) pre).1 (⟨4,d.unit,(b0h l nd).parent,d.name⟩:Pk) h id L
   simp only at hlk hst;simp -implicitDefEqProofs only[go_sem,hgx,hlt,h5,h6,h4];refine b1f (cs:=[]) wkD b4c (by kernel_rfl) ?_;simp -implicitDefEqProofs only[go_sem,wkD,hgx,htu,hu0,hu1,b0p,hrg,hn0,hn1,Rw.enc,b6p,hlk,hst,h5,h6,h4];have hq:∀ m,b6K 3 2 ((m:List Dl).map c2O)=true:=fun m=>b0m _ _ _ (b4G m)
   have ht1:=b0m 3 2 _ (b1g (b0f u));have ht2:=b0m 3 2 _ (b0D dl);generalize b8A (b0f u) pre=p at hsn hml ⊢;refine⟨fun ha=>?_,fun ha=>?_⟩
   ·have hp:b7K (b0f u) p d=(p.1,p.2++[d]):=by rw[b7K,hkp,if_pos ha]
    rw[hsn,hp,if_pos ha,b8d,c2L,ht1,ht2,hq];exact⟨by omega,(),⟨hw,by simp[c2O]⟩,rfl,by simp,.inr ⟨rfl,rfl⟩⟩
   ·have hne:¬ (p.1.any fun x=>decide (x=(⟨4,d.unit,(b0h l nd).parent,d.name⟩:Pk)))=true:=by rw[ha];simp
    have hp:b7K (b0f u) p d=(p.1++[(⟨4,d.unit,(b0h l nd).parent,d.name⟩:Pk)],p.2):=by rw[b7K,hkp,if_neg hne]
    rw[hsn,hp,if_neg hne,b8d,c2L,ht1,ht2,hq];exact⟨(),⟨hw,rfl⟩,rfl,rfl,.inr ⟨rfl,rfl⟩⟩
  have hkp:c1a (b0f u) d=⟨d.kind,0,0,d.name⟩:=by simp[c1a,h5,h6,h4]
  have hlk:=@c8n (b8A (b0f u) pre).1 ⟨d.kind,0,0,d.name⟩;have hst:=fun h id L=>@d6n (b8A (b0f u) pre).1 ⟨d.kind,0,0,d.name⟩ h id L
  simp only at hlk hst;simp -implicitDefEqProofs only[go_sem,hgx,hlt,h5,h6,h4,b6p,hlk,hst];have hq:∀ m,b6K 3 2 ((m:List Dl).map c2O)=true:=fun m=>b0m _ _ _ (b4G m)
  have ht1:=b0m 3 2 _ (b1g (b0f u));have ht2:=b0m 3 2 _ (b0D dl);generalize b8A (b0f u) pre=p at hsn hml ⊢;refine⟨fun ha=>?_,fun ha=>?_⟩
  ·have hp:b7K (b0f u) p d=(p.1,p.2++[d]):=by rw[b7K,hkp,if_pos ha]
   rw[hsn,hp,if_pos ha,b8d,c2L,ht1,ht2,hq];exact⟨by omega,(),⟨hw,by simp[c2O]⟩,rfl,by simp,.inr ⟨rfl,rfl⟩⟩
  ·have hne:¬ (p.1.any fun x=>decide (x=(⟨d.kind,0,0,d.name⟩:Pk)))=true:=by rw[ha];simp
   have hp:b7K (b0f u) p d=(p.1++[(⟨d.kind,0,0,d.name⟩:Pk)],p.2):=by rw[b7K,hkp,if_neg hne]
   rw[hsn,hp,if_neg hne,b8d,c2L,ht1,ht2,hq];exact⟨(),⟨hw,rfl⟩,rfl,rfl,.inr ⟨rfl,rfl⟩⟩
theorem d0D(s t:Sg):b0s env 185 [.agg s.enc,.agg t.enc] (.bool (decide (s.params=t.params) && decide (s.result=t.result))):=by
 refine b0i (fn:=Tryz.f185) Tryz.func185 rfl (by rw[Tryz.ntmps185];simp) (by simp -implicitDefEqProofs only[go_sem,Sg.enc]) (by simp -implicitDefEqProofs only[go_sem]) ?_;simp -implicitDefEqProofs only[go_sem,Tryz.f185,Sg.enc];refine⟨fun hr _ _ _ _=>⟨fun hl=>?_,fun hl _ _=>?_⟩,fun hr=>?_⟩
 ·have:¬ s.params.length=t.params.length:=by simp at hl;omega
  have:¬ s.params=t.params:=fun e=>this (by rw[e])
  simp[this]
 ·have hl':s.params.length=t.params.length:=by simp at hl;omega
  have hr':s.result=t.result:=by simpa using hr
  refine b0l (β:=Unit) s.params (fun pre _=>⟨[(23,.int .i64 pre.length),(22,.int .i64 s.params.length),(21,sl 9 (s.params.map b0n)),(4,.bool false),(3,.ptr 1 0),(2,.ptr 0 0)],[.cells [sl 9 (s.params.map b0n),.str s.result],.cells [sl 9 (t.params.map b0n),.str t.result]],[]⟩) (fun pre _ _=>t.params.take pre.length=pre) () ?_ rfl ?_ ?_
  ·simp -implicitDefEqProofs only[go_sem];try rfl
  ·intro _ hi;rw[hl',List.take_length]at hi;simp -implicitDefEqProofs only[go_sem];rw[hi,hr'];simp
  ·rintro pre x post _ hx hi;have hpl:s.params.length=pre.length+1+post.length:=by rw[hx];simp;omega
   have hgx:(s.params.map b0n).getD (pre.length:Int).toNat []=b0n x:=by rw[hx];simp[h0c]
   have hyl:pre.length<t.params.length:=by omega
   have hgy:(t.params.map b0n).getD (pre.length:Int).toNat []=b0n t.params[pre.length]:=by simp[h0c,h0f hyl]
   have hsn:t.params.take (pre.length+1)=pre++[t.params[pre.length]]:=by rw[List.take_succ_eq_append_getElem hyl,hi]
   generalize t.params[pre.length]=y at hgy hsn;have hw:IntKind.i64.wrap (↑pre.length+1)=↑(pre.length+1):=b0g (by omega);have hlt:((pre.length:Int)<s.params.length)=True:=by simp;omega
   have hlt2:((pre.length:Int)<t.params.length)=True:=by simp;omega
   simp -implicitDefEqProofs only[go_sem,hgx,hgy,hlt,hlt2,b0n];refine sdq ?_;simp -implicitDefEqProofs only[go_sem,hgx,hgy,hlt,hlt2,b0n];refine⟨fun h=>?_,fun h=>?_⟩
   ·have hne:¬ x=y:=by simpa using h
    have:¬ s.params=t.params:=by
     intro e;have h1:s.params.take (pre.length+1)=pre++[x]:=by
      rw[hx,List.take_append,List.take_of_length_le (by omega)];simp
     rw[e,hsn]at h1;exact hne (by simpa using h1.symm)
    simp[this]
   ·have he:x=y:=by simpa using h
    subst he;exact⟨(),hsn,hw⟩
 ·have:¬ s.result=t.result:=by simpa using hr
  simp[this]
theorem b7m(r:Rw):b0s env 155 [.agg r.enc] (.str (if r.text=⟨#[43]⟩∨r.text=⟨#[45]⟩∨r.text=⟨#[42]⟩∨r.text=⟨#[47]⟩then⟨#[105,110,116]⟩else⟨#[98,111,111,108]⟩)):=by
 refine b0i (fn:=Tryz.f155) Tryz.func155 rfl (by rw[Tryz.ntmps155];simp) (by simp -implicitDefEqProofs only[go_sem];have h:=b0T [r];simp only[h0s,h0T,b0P,h1g]at h;exact h) (by simp -implicitDefEqProofs only[go_sem]) ?_;simp -implicitDefEqProofs only[go_sem,Tryz.f155];by_cases h1:r.text=⟨#[43]⟩
 ·simp[h1]
 by_cases h2:r.text=⟨#[45]⟩
 ·simp[h2]
 by_cases h3:r.text=⟨#[42]⟩
 ·simp[h3]
 by_cases h4:r.text=⟨#[47]⟩
 ·simp[h4]
 simp[h1,h2,h3,h4]
end Go.Proofs.YtighfcpaplmaiaaGreatDoor
namespace Go.Vg
section
variable {κ β : Type} [DecidableEq κ]
def b1t(M:List (κ×β))(k:κ):Option β:=match M with
 | []=>none
 | p::r=>if k=p.1 then some p.2 else b1t r k
def b4e(M:List (κ×β))(k:κ)(v:β):List (κ×β):=match M with
 | []=>[(k,v)]
 | p::r=>if k=p.1 then(k,v)::r else p::b4e r k v
theorem b7V(M:List (κ×β))(k:κ)(v:β)(k':κ):b1t (b4e M k v) k'=if k'=k then some v else b1t M k':=by
 induction M with
 | nil=>simp[b4e,b1t]
 | cons p r ih =>
  rw[b4e];by_cases h:k=p.1
  ·rw[if_pos h,b1t];by_cases h':k'=k
   ·rw[if_pos h',if_pos h']
   ·rw[if_neg h',if_neg h',b1t,if_neg fun e=>h' (e.trans h.symm)]
  ·rw[if_neg h,b1t,ih];by_cases h':k'=p.1
   ·rw[if_pos h',if_neg (fun e=>h (e.symm.trans h')),b1t,if_pos h']
   ·rw[if_neg h',b1t,if_neg h']
def c5H(f:κ→β)(M:List (κ×β)):Prop:=∀ k v,b1t M k=some v→v=f k
theorem c5H.nil{f:κ→β}:c5H f []:=fun k v h=>by simp[b1t]at h
theorem c5H.set{f:κ→β}{M:List (κ×β)}(h:c5H f M)(k:κ):c5H f (b4e M k (f k)):=fun k' v hv=>by
 rw[b7V]at hv;split at hv
 ·rename_i e;cases hv;rw[e]
 ·exact h k' v hv
variable (ke : κ → V) (ve : β → V)
def b3R(M:List (κ×β)):List (V×V):=M.map fun p=>(ke p.1,ve p.2)
end
theorem b8h{κ β:Type}[DecidableEq κ]{ke:κ→V}{ve:β→V}(h1:∀ k,(ke k).pure=true)(h2:∀ v,(ve v).pure=true)(k ka:Nat):∀ M:List (κ×β),ltP k ka (b3R ke ve M)=true
 | []=>rfl
 | p::r=>by
  have:=b8h h1 h2 k ka r;show((ke p.1).lt k ka && (ve p.2).lt k ka && ltP k ka (b3R ke ve r))=true;rw[this,V.lt_pure k ka _ (h1 _),V.lt_pure k ka _ (h2 _)];rfl
structure KeyA{κ:Type}[DecidableEq κ](ks:List Nat)(kl:κ→List V):Prop where
 fit:∀ a b,b3F ks (kl a) (kl b)=true
 eq:∀ a b,eqL (kl a) (kl b)=some (decide (a=b))
theorem c7X{κ β:Type}[DecidableEq κ]{ks:List Nat}{kl:κ→List V}{ve:β→V}(hk:KeyA ks kl)(k:κ):∀ (M:List (κ×β)) (i:Nat),
  (∃ j v,b1e ks (kl k) (b3R (fun a => .agg (kl a)) ve M) i=some (some (i+j,ve v))∧b1t M k=some v∧∀ v',(b3R (fun a => .agg (kl a)) ve M).set j (.agg (kl k),ve v')=b3R (fun a => .agg (kl a)) ve (b4e M k v')) ∨
  (b1e ks (kl k) (b3R (fun a => .agg (kl a)) ve M) i=some none∧b1t M k=none∧∀ v',b3R (fun a => .agg (kl a)) ve M++[(.agg (kl k),ve v')]=b3R (fun a => .agg (kl a)) ve (b4e M k v'))
 | [],i => .inr ⟨rfl,rfl,fun _=>rfl⟩
 | p::r,i=>by
  have h1:b1e ks (kl k) (b3R (fun a => .agg (kl a)) ve (p::r)) i=if k=p.1 then some (some (i,ve p.2))else b1e ks (kl k) (b3R (fun a => .agg (kl a)) ve r) (i+1):=by
   simp only[b3R,h0s,b1e,hk.eq,hk.fit,if_true];by_cases h:k=p.1
   ·rw[h0H h,if_pos h]
   ·rw[h0z h,if_neg h]
  rw[h1];by_cases h:k=p.1
  ·refine .inl ⟨0,p.2,by rw[if_pos h];rfl,by rw[b1t,if_pos h],fun v'=>?_⟩;rw[b4e,if_pos h];rfl
  ·rw[if_neg h,b1t,if_neg h];rcases c7X hk k r (i+1)with⟨j,v,g1,g2,g3⟩ | ⟨g1,g2,g3⟩
   ·refine .inl ⟨j+1,v,by rw[g1];congr 3;omega,g2,fun v'=>?_⟩;rw[b4e,if_neg h];show _::(b3R (fun a => .agg (kl a)) ve r).set j _=_::b3R (fun a => .agg (kl a)) ve _;rw[g3]
   ·refine .inr ⟨g1,g2,fun v'=>?_⟩;rw[b4e,if_neg h];show _::(b3R (fun a => .agg (kl a)) ve r++_)=_::b3R (fun a => .agg (kl a)) ve _;rw[g3]
theorem c7b{β:Type}{ve:β→V}(k:ByteArray):∀ (M:List (ByteArray×β)) (i:Nat),
  (∃ j v,b1v .string (.str k) (b3R .str ve M) i=some (some (i+j,ve v))∧b1t M k=some v∧∀ v',(b3R .str ve M).set j (.str k,ve v')=b3R .str ve (b4e M k v')) ∨
  (b1v .string (.str k) (b3R .str ve M) i=some none∧b1t M k=none∧∀ v',b3R .str ve M++[(.str k,ve v')]=b3R .str ve (b4e M k v'))
 | [],i => .inr ⟨rfl,rfl,fun _=>rfl⟩
 | p::r,i=>by
  have h1:b1v .string (.str k) (b3R .str ve (p::r)) i=if k=p.1 then some (some (i,ve p.2))else b1v .string (.str k) (b3R .str ve r) (i+1):=by
   have hs:b7C .string (.str k) (.str p.1)=some (decide (k=p.1)):=by
    unfold b7C;simp only[Option.some.injEq];rw[h1k,MapKept.bytes_beq,decide_eq_true_iff]
   simp only[b3R,h0s,b1v,hs];by_cases h:k=p.1
   ·rw[h0H h,if_pos h]
   ·rw[h0z h,if_neg h]
  rw[h1];by_cases h:k=p.1
  ·refine .inl ⟨0,p.2,by rw[if_pos h];rfl,by rw[b1t,if_pos h],fun v'=>?_⟩;rw[b4e,if_pos h];rfl
  ·rw[if_neg h,b1t,if_neg h];rcases c7b k r (i+1)with⟨j,v,g1,g2,g3⟩ | ⟨g1,g2,g3⟩
   ·refine .inl ⟨j+1,v,by rw[g1];congr 3;omega,g2,fun v'=>?_⟩;rw[b4e,if_neg h];show _::(b3R .str ve r).set j _=_::b3R .str ve _;rw[g3]
   ·refine .inr ⟨g1,g2,fun v'=>?_⟩;rw[b4e,if_neg h];show _::(b3R .str ve r++_)=_::b3R .str ve _;rw[g3]
section
variable {E : Env} {et : TypeId} {β : Type} {ve : β → V} {z : V}
theorem c6p{κ:Type}[DecidableEq κ]{ks:List Nat}{kl:κ→List V}(hk:KeyA ks kl){M:List (κ×β)}{k:κ}{K:V→Prop}(hz:b2S E.P et=z)(hz0:b0Q E.P et=true) :
  b1L E et (b1e ks (kl k) (b3R (fun a => .agg (kl a)) ve M) 0) true K=K (.tuple [((b1t M k).map ve).getD z,.bool (b1t M k).isSome]):=by
 rcases c7X (ve:=ve) hk k M 0 with⟨j,v,g1,g2,g3⟩ | ⟨g1,g2,g3⟩
 ·rw[g1,g2];rfl
 ·rw[g1,g2];simp only[b9I,hz,hz0,true_and];rfl
theorem d5C{κ:Type}[DecidableEq κ]{ks:List Nat}{kl:κ→List V}(hk:KeyA ks kl){M:List (κ×β)}{k:κ}{K:V→Prop}(hz:b2S E.P et=z)(hz0:b0Q E.P et=true) :
  b1L E et (b1e ks (kl k) (b3R (fun a => .agg (kl a)) ve M) 0) false K=K (((b1t M k).map ve).getD z):=by
 rcases c7X (ve:=ve) hk k M 0 with⟨j,v,g1,g2,g3⟩ | ⟨g1,g2,g3⟩
 ·rw[g1,g2];rfl
 ·rw[g1,g2];simp only[b8D,hz,hz0,true_and];rfl
theorem c6Q{κ:Type}[DecidableEq κ]{ks:List Nat}{kl:κ→List V}(hk:KeyA ks kl){M:List (κ×β)}{k:κ}{v:β}{h:List VObj}{id:Nat}{L:List VObj→Prop} :
  b3Z h id (b3R (fun a => .agg (kl a)) ve M) (.agg (kl k)) (ve v) (b1e ks (kl k) (b3R (fun a => .agg (kl a)) ve M) 0) L=L (h.set id (.map (b3R (fun a => .agg (kl a)) ve (b4e M k v)))):=by
 rcases c7X (ve:=ve) hk k M 0 with⟨j,v',g1,g2,g3⟩ | ⟨g1,g2,g3⟩
 ·rw[g1,c4c,h0w,g3]
 ·rw[g1,c1S,g3]
theorem d9O{M:List (ByteArray×β)}{k:ByteArray}{K:V→Prop}(hz:b2S E.P et=z)(hz0:b0Q E.P et=true) :
  b1L E et (b1v .string (.str k) (b3R .str ve M) 0) true K=K (.tuple [((b1t M k).map ve).getD z,.bool (b1t M k).isSome]):=by
 rcases c7b (ve:=ve) k M 0 with⟨j,v,g1,g2,g3⟩ | ⟨g1,g2,g3⟩
 ·rw[g1,g2];rfl
 ·rw[g1,g2];simp only[b9I,hz,hz0,true_and];rfl
theorem c6W{M:List (ByteArray×β)}{k:ByteArray}{K:V→Prop}(hz:b2S E.P et=z)(hz0:b0Q E.P et=true) :
  b1L E et (b1v .string (.str k) (b3R .str ve M) 0) false K=K (((b1t M k).map ve).getD z):=by
 rcases c7b (ve:=ve) k M 0 with⟨j,v,g1,g2,g3⟩ | ⟨g1,g2,g3⟩
 ·rw[g1,g2];rfl
 ·rw[g1,g2];simp only[b8D,hz,hz0,true_and];rfl
theorem d8q{M:List (ByteArray×β)}{k:ByteArray}{v:β}{h:List VObj}{id:Nat}{L:List VObj→Prop} :
  b3Z h id (b3R .str ve M) (.str k) (ve v) (b1v .string (.str k) (b3R .str ve M) 0) L=L (h.set id (.map (b3R .str ve (b4e M k v)))):=by
 rcases c7b (ve:=ve) k M 0 with⟨j,v',g1,g2,g3⟩ | ⟨g1,g2,g3⟩
 ·rw[g1,c4c,h0w,g3]
 ·rw[g1,c1S,g3]
end
def f0n(k:Int×Int):List V:=[.int .i64 k.1,.int .i64 k.2]
theorem c2V:KeyA [1,1] f0n:=by
 refine⟨fun a b=>rfl,fun a b=>?_⟩;obtain⟨a1,a2⟩:=a;obtain⟨b1,b2⟩:=b;simp only[f0n,eqL,eq1,if_true,h1g,Option.some.injEq];rw[h1k];simp
abbrev c9l(M:List ((Int×Int)×(Int×Int))):List (V×V):=b3R (fun a => .agg (f0n a)) (fun a => .agg (f0n a)) M
end Go.Vg
namespace Go.Proofs.YtighfcpaplmaiaaGreatDoor
open Go Go.Vg Go.Proofs
def d4D(M:List ((Int×Int)×(Int×Int)))(x:Us):List ((Int×Int)×(Int×Int)):=match x.to with
 | some d=>b4e M (x.un,x.nd) d
 | none=>M
def c6a(l:List Us):List ((Int×Int)×(Int×Int)):=l.foldl d4D []
def b6I(l:List Us):List Us:=l.filter fun x=>x.to.isNone
def atE(x:Us):List V:=[.int .i64 x.un,.int .i64 x.nd]
theorem c1H{pre:List Un}{x:Un}(hb:x.broken=false):b0f (pre++[x])=b0f pre++[b0u x.tree (-1) 0]:=by simp[b0f,hb]
def ckV(u:List Un)(tb:List (List Rw))(ub:List Us):List V:=[sl 70 (u.map Un.enc),.slice (.arr 0) 45 (tb.map b0p),.map 0,.slice (.arr 1) 24 (ub.map atE),.map 1,.map 2,.map 3]
theorem b6g:∀ l:List Us,b0P (l.map atE)=true
 | []=>rfl
 | n::r=>by show(b0Y _ && b0P (r.map atE))=true;rw[b6g r];rfl
theorem d9l(k ka:Nat)(M:List ((Int×Int)×(Int×Int))):ltP k ka (c9l M)=true:=b8h (fun _=>rfl) (fun _=>rfl) k ka M
theorem b1S:flatK Tryz.prog 24=some [1,1]:=by kernel_rfl
theorem f5A{M:List ((Int×Int)×(Int×Int))}{a b c d:Int}{h:List VObj}{id:Nat}{L:List VObj→Prop}:b3Z h id (c9l M) (.agg [.int .i64 a,.int .i64 b]) (.agg [.int .i64 c,.int .i64 d]) (b1e [1,1] [.int .i64 a,.int .i64 b] (c9l M) 0) L=L (h.set id (.map (c9l (b4e M (a,b) (c,d))))) :=
 c6Q (ve:=fun a => .agg (f0n a)) c2V (k:=(a,b)) (v:=(c,d))
theorem g9I(u:List Un)(hu:b2D u)(hb:∀ x∈u,x.broken=false):b0q env 89 [sl 70 (u.map Un.enc)] [] [] fun v h a => 
  v = .ptr 4 0∧h=[.map (c9l (c6a (b2O (b2c (b0e u 0)) (b0f u) 0))),.map [],.map [],.map [],.cells (ckV u (b0f u) (b6I (b2O (b2c (b0e u 0)) (b0f u) 0)))]∧a=[u.length,(b6I (b2O (b2c (b0e u 0)) (b0f u) 0)).length]:=by
 have hU:=g1b u hu (b8e hu);have hUl:=c0F (M:=b2c (b0e u 0)) (b0f u) 0 fun l hl=>(b8e hu l hl).len
 have htl0:(b0f u).length=u.length:=by simp[b0f]
 have hul:=hu.1;have hfit:=hu.2;refine b0y (fn:=Tryz.f89) Tryz.func89 rfl (by rw[Tryz.ntmps89];simp) ?_;simp -implicitDefEqProofs only[go_sem,Tryz.f89];intro _ _;refine b0l (β:=Unit) u (fun pre _=>⟨[(17,.int .i64 pre.length),(16,.int .i64 u.length),(15,sl 70 (u.map Un.enc)),(3,.ptr 4 0),(0,sl 70 (u.map Un.enc))],
   [.map [],.map [],.map [],.map [],.cells [sl 70 (u.map Un.enc),.slice (.arr 0) 45 ((b0f pre).map b0p),.map 0,.slice .nil 0 [],.map 1,.map 2,.map 3]],[pre.length]⟩) (fun _ _ _=>True) () ?_ trivial ?_ ?_
 ·simp -implicitDefEqProofs only[go_sem];exact⟨rfl,rfl⟩
 ·intro _ _;simp -implicitDefEqProofs only[go_sem];refine hU.cq ?_;simp -implicitDefEqProofs only[go_sem];intro _ _;generalize b2O (b2c (b0e u 0)) (b0f u) 0=us at hUl ⊢;refine b0l (β:=Unit) us (fun pre _=>⟨[(37,.int .i64 pre.length),(36,.int .i64 us.length),(35,sl 163 (us.map Us.enc)),(3,.ptr 4 0)],
   [.map (c9l (c6a pre)),.map [],.map [],.map [],.cells (ckV u (b0f u) (b6I pre))],[u.length,(b6I pre).length]⟩) (fun _ _ _=>True) () ?_ trivial ?_ ?_
  ·simp -implicitDefEqProofs only[go_sem,ckV];exact⟨rfl,rfl,rfl⟩
  ·intro _ _;simp -implicitDefEqProofs only[go_sem,ckV]
  ·rintro pre x post _ hx _;have hpl:us.length=pre.length+1+post.length:=by rw[hx];simp;omega
   have hgx:(us.map Us.enc).getD (pre.length:Int).toNat []=x.enc:=by rw[hx];simp[h0c]
   have hw:IntKind.i64.wrap (↑pre.length+1)=↑(pre.length+1):=b0g (by omega);have hlt:((pre.length:Int)<us.length)=True:=by simp;omega
   have hdl:c6a (pre++[x])=d4D (c6a pre) x:=by simp[c6a]
   have hbl:b6I (pre++[x])=b6I pre++if x.to.isNone then [x]else []:=by simp[b6I,List.filter_append,List.filter_cons]
   have hubl:(b6I pre).length≤pre.length:=h1o _ _;obtain⟨un,nd,to⟩:=x;have htp:=b0m 5 2 _ (b1g (b0f u));have hup:=b0m 5 2 _ (b0v u);simp -implicitDefEqProofs only[go_sem,hgx,hlt,ckV,Us.enc];cases to with
   | none =>
    refine⟨fun h=>(by cases h),fun _=>?_⟩;refine sdq ?_;simp -implicitDefEqProofs only[go_sem];have hbl':b6I (pre++[⟨un,nd,none⟩])=b6I pre++[⟨un,nd,none⟩]:=hbl;rw[hdl,hbl',d9l,htp,hup,b0m _ _ _ (b6g _),b0m _ _ _ (b2I _)];exact⟨by omega,(),hw,⟨rfl,by simp[atE]⟩,by simp,.inr ⟨rfl,rfl⟩⟩
   | some d =>
    obtain⟨d1,d2⟩:=d;refine⟨fun _=>?_,fun h=>(by cases h)⟩;refine sdq ?_;simp -implicitDefEqProofs only[go_sem,b1S,f5A];have hbl':b6I (pre++[⟨un,nd,some (d1,d2)⟩])=b6I pre:=by rw[hbl];simp
    rw[hdl,hbl',d9l,htp,hup,b0m _ _ _ (b6g _),b0m _ _ _ (b2I _)];exact⟨(),hw,⟨rfl,rfl⟩,rfl,.inr ⟨rfl,rfl⟩⟩
 ·rintro pre x post _ hx _;have hpl:u.length=pre.length+1+post.length:=by rw[hx];simp;omega
  have hgx:(u.map Un.enc).getD (pre.length:Int).toNat []=x.enc:=by rw[hx];simp[h0c]
  have hw:IntKind.i64.wrap (↑pre.length+1)=↑(pre.length+1):=b0g (by omega);have hlt:((pre.length:Int)<u.length)=True:=by simp;omega
  have hxn:=(hfit x (by rw[hx];simp)).1;have hR:=d4H x.tree (by omega);have htl:(b0f pre).length=pre.length:=by simp[b0f]
  have hts:=c1H (pre:=pre) (hb x (by rw[hx];simp));simp -implicitDefEqProofs only[go_sem,hgx,hlt];refine sdq ?_;simp -implicitDefEqProofs only[go_sem];refine vPd hR ?_;simp -implicitDefEqProofs only[go_sem];rw[hts,h0M];have hp:=b1g (b0f pre++[b0u x.tree (-1) 0]);rw[h0M]at hp;have h1:=b0m 5 1 _ hp;have h2:b6K 5 1 (List.map b0p (b0f pre)++List.map b0p [b0u x.tree (-1) 0])=true:=h1;rw[h2,b0m _ _ _ (b0v _)];exact⟨by omega,by rw[htl],(),hw,rfl,htl,.inr ⟨rfl,rfl⟩⟩
end Go.Proofs.YtighfcpaplmaiaaGreatDoor
namespace Go.Vg
theorem b0q.freezeR{E:Env}{f:FuncId}{args:List V}{heap:List VObj}{arr:List Nat}{K:b1y}
  (hc:b0q E f args heap arr fun v h a=>∃ id cs,v = .ptr id 0∧h[id]? = some (.cells cs)∧cs.all V.cell=true∧K (.fptr (cs.map share1)) (h.set id .dead) a):b0q E f args heap arr K:=by
 intro G w0 w vals hr hargs;refine(hc G w0 w vals hr hargs).mono fun e w' hg=>hg.imp (fun⟨val,he,v,heap',arr',G',⟨id,cs,hv,hh,hcc,hk⟩,hx,hr',hrv⟩=>?_) id
 subst hv;obtain⟨G2,b,hb,hx2,hr2,hφ,hcs⟩:=hr'.freezeO hh hcc;refine⟨val,he,_,_,_,G2,hk,hx.trans hx2,hr2,?_⟩;cases hrv with
 | ptr _ _ b' hb' =>
  rw[hb]at hb';cases hb'
  refine .fptr _ b 0 (fun j hj=>?_) fun j c v hc hv=>?_
  ·rw[h0v]at hj;obtain⟨u,hu,_⟩:=hcs j _ (h0f hj);exact⟨u,by rw[h0w];exact hu⟩
  ·rw[h0u]at hc;obtain⟨c',hc',rfl⟩:=h0p.1 hc;obtain⟨u,hu,hru⟩:=hcs j c' hc';rw[h0w,hu]at hv;cases hv
   exact hru.share1
end Go.Vg
