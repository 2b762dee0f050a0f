import Derived.Test.YtighfcpaplmaiaaGreatDoorUdH
import Derived.Test.YtighfcpaplmaiaaGreatDoorVgFr
import Derived.Test.YtighfcpaplmaiaaGreatDoorVgY
set_option linter.unusedVariables false
set_option linter.unusedSimpArgs false
set_option maxRecDepth 20000
namespace Go.Vg
def d3p(l:List Rw)(i:Nat):Option Nat:=upF l (l.length+1) (i:Int)
def qnR(l:List Rw)(i:Nat):ByteArray:=if 0≤(b0j l i).parent∧(b0j l (b0j l i).parent.toNat).kind=7 then(b0j l (b0j l i).parent.toNat).text++⟨#[46]⟩++(b0j l i).text else(b0j l i).text
def d4N(l:List Rw)(i:Nat):Option ByteArray:=(d3p l i).map (qnR l)
end Go.Vg
namespace Go.Proofs.YtighfcpaplmaiaaGreatDoor
open Go Go.Vg Go.Proofs
def c0Y(u:List Un)(un nd:Int):List ByteArray:=if ¬ (b5g u).1=0∨un<0∨(u.length:Int)≤un then []else
 match(if 0≤nd then(b0o ((u[un.toNat]?.map Un.tree).getD Nd.zero))[nd.toNat]? else none)with
 | some n=>c1n u un nd n.kind n.text
 | none=>[]
theorem c1K(u:List Un)(hu:b2T u)(hgp:b9R u)(un nd:Int)(hnd:nd≤9223372036854775807):b0u env 12 [sl 70 (u.map Un.enc),.agg [.int .i64 un,.int .i64 nd]] (sl 9 ((c0Y u un nd).map b0p)):=by
 refine b0i (fn:=Tryz.f12) Tryz.func12 rfl (by rw[Tryz.ntmps12];simp) (by simp -implicitDefEqProofs only[go_sem];exact b0x _) (by simp -implicitDefEqProofs only[go_sem]) ?_
 simp -implicitDefEqProofs only[go_sem,Tryz.f12]
 refine(d7M u hu hgp).calls (by simp -implicitDefEqProofs only[go_sem]) ?_
 simp -implicitDefEqProofs only[go_sem,c2U]
 refine⟨fun h0=>⟨fun h1 _ _=>⟨fun h2=>?_,fun h2=>?_⟩,fun h1=>?_⟩,fun h0=>?_⟩
 ·rw[c0Y,if_pos (.inr (.inr h2))];rfl
 ·have h0':(b5g u).1=0:=by simpa using h0
  obtain⟨n,rfl⟩:∃ n:Nat,un=n:=⟨un.toNat,by omega⟩
  have hn:n<u.length:=by omega
  have hun:u[n]? = some u[n]:=g9b hn
  generalize u[n]=x at hun
  have hx:=hu.2 x (g9f hun)
  have hgx:(u.map Un.enc).getD ((n:Nat):Int).toNat []=x.enc:=by simp[g8Z,hun]
  have hlt:((n:Int)<u.length)=True:=by simp;omega
  have htg:c0Y u n nd=match(if 0≤nd then(b0o x.tree)[nd.toNat]? else none)with | some m=>c1n u n nd m.kind m.text | none=>[]:=by
   rw[c0Y,if_neg (by rintro(h | h | h) <;> first | exact h h0' | omega),g9j,hun];rfl
  refine b0h (cs:=[]) b0v (by kernel_rfl) ?_
  simp -implicitDefEqProofs only[go_sem,hgx,hlt]
  refine b0B (TAt x.tree (by omega) nd hnd) (by simp -implicitDefEqProofs only[go_sem]) ?_
  cases ho:(if 0≤nd then(b0o x.tree)[nd.toNat]? else none)with
  | none =>
   rw[ho]at htg
   simp -implicitDefEqProofs only[go_sem,g9u]
   rw[htg];rfl
  | some m =>
   rw[ho]at htg
   simp only at htg
   have h0d:0≤nd:=by
    rcases Int.lt_or_le nd 0 with h | h
    ·rw[if_neg (by omega)]at ho;cases ho
    ·exact h
   rw[if_pos h0d]at ho
   have hml:=(g8Y.1 ho).1
   obtain⟨mk,mt,mg,mks⟩:=m
   simp -implicitDefEqProofs only[go_sem,g9H,g9w]
   refine(c7f u hu hgp n nd mk ⟨h0d,by omega⟩ mt).calls (by simp -implicitDefEqProofs only[go_sem]) ?_
   simp -implicitDefEqProofs only[go_sem]
   rw[htg];rfl
 ·rw[c0Y,if_pos (.inr (.inl h1))];rfl
 ·rw[c0Y,if_pos (.inl (by simpa using h0))];rfl
theorem d8n(l:List Rw)(hr:rowsOK l)(i:Nat)(hi:i<l.length)(hs:∀ r∈l,r.text.size≤1000000):b0u env 42 [sl 48 (l.map Rw.enc),.int .i64 i] (.tuple [.str ((d4N l i).getD ⟨#[]⟩),.bool (d4N l i).isSome]):=by
 refine b0i (fn:=Tryz.f42) Tryz.func42 rfl (by rw[Tryz.ntmps42];simp) (by simp -implicitDefEqProofs only[go_sem];exact b0X _) rfl ?_
 simp -implicitDefEqProofs only[go_sem,Tryz.f42]
 refine b1A (α:=Int×Nat) (fun b=>⟨[(6,.int .i64 b.1),(5,.bool false),(4,.str ⟨#[]⟩),(0,sl 48 (l.map Rw.enc))],[],[]⟩)
  (fun b => -1≤b.1∧b.1+1<b.2∧b.1<l.length∧d3p l i=upF l b.2 b.1) (fun b=>(b.1+1).toNat) (i,l.length+1) ?_ ⟨by omega,by simp;omega,by simp;omega,rfl⟩ ?_
 ·simp -implicitDefEqProofs only[go_sem]
  try rfl
 ·rintro⟨k,f⟩ ⟨h1,h2,h3,h4⟩
  simp only at h1 h2 h3 h4 ⊢
  obtain⟨f,rfl⟩:∃ f',f=f'+1:=⟨f - 1,by omega⟩
  simp -implicitDefEqProofs only[go_sem]
  refine⟨fun hk=>?_,fun hk=>?_⟩
  ·obtain⟨k,rfl⟩:=g9T hk
   have hkl:k<l.length:=by omega
   have hgk:=b0F hkl
   have hklt:((k:Int)<l.length)=True:=by simp;omega
   have hk0:(0≤(k:Int))=True:=by simp
   have hpk:=hr.par k hkl
   rw[upF,if_neg (by omega),g9j]at h4
   simp -implicitDefEqProofs only[go_sem,hgk,hklt,hk0,Rw.enc]
   refine⟨fun h2=>?_,fun h2=>?_⟩
   ·have h2':¬ (b0j l k).kind=2:=by simpa using h2
    rw[if_neg h2']at h4
    exact⟨((b0j l k).parent,f),by simp only;omega,⟨hpk.2,by simp only;omega,by simp only;omega,h4⟩,rfl⟩
   ·have h2':(b0j l k).kind=2:=by simpa using h2
    rw[if_pos h2']at h4
    have har:d4N l i=some (qnR l k):=by rw[d4N,h4];rfl
    rw[har]
    have hts:∀ j:Nat,j<l.length→(b0j l j).text.size≤1000000:=fun j hj=>by
     have:=hs l[j] (List.getElem_mem hj)
     rw[show b0j l j=l[j]by simp[b0j,g8Z,hj]]
     exact this
    refine⟨fun hp0=>?_,fun hp0=>?_⟩
    ·obtain⟨p,hpe⟩:=g9T hp0
     have hpl:p<l.length:=by omega
     have hgp:=b0F hpl
     have hplt:((p:Int)<l.length)=True:=by simp;omega
     have hpp0:(0≤(p:Int))=True:=by simp
     have hq:qnR l k=if(b0j l p).kind=7 then(b0j l p).text++⟨#[46]⟩++(b0j l k).text else(b0j l k).text:=by
      unfold qnR;rw[hpe,g9j];simp
     rw[hpe]
     rw[hq]
     simp -implicitDefEqProofs only[go_sem,hgp,hplt,hpp0,Rw.enc]
     refine⟨fun h7=>?_,fun h7=>⟨by omega,?_⟩⟩
     ·rw[if_pos h7]
      refine b0h (cs:=[]) b0v (by kernel_rfl) ?_
      simp -implicitDefEqProofs only[go_sem,hgp,hplt,hpp0,hgk,hklt,hk0,Rw.enc]
      have t1:=hts p hpl
      have t2:=hts k hkl
      exact⟨(show(b0j l p).text.size+1≤1152921504606846976 by omega),(show(b0j l p).text.size+1+(b0j l k).text.size≤1152921504606846976 by omega),rfl⟩
     ·rw[if_neg h7]
      simp -implicitDefEqProofs only[go_sem,hgp,hplt,hpp0,hgk,hklt,hk0,Rw.enc]
      try rfl
    ·have hq:qnR l k=(b0j l k).text:=by unfold qnR;rw[if_neg (fun h=>hp0 h.1)]
     rw[hq];rfl
  ·have hk':k<0:=by omega
   rw[upF,if_pos hk']at h4
   have:d4N l i=none:=by rw[d4N,h4];rfl
   rw[this];rfl
end Go.Proofs.YtighfcpaplmaiaaGreatDoor
set_option linter.unusedSectionVars false
namespace Go.Vg
theorem d0I{α:Type}[DecidableEq α]:∀ (l m:List α),l.Nodup→(∀ x∈l,x∈m)→l.length≤m.length
 | [],m,_,_=>Nat.zero_le _
 | x::l,m,hn,hm=>by
  have hx:=hm x (by simp)
  have h1:=d0I l (m.erase x) (h0o.1 hn).2 fun y hy=>by
   refine(List.mem_erase_of_ne ?_).2 (hm y (by simp[hy]))
   rintro rfl;exact(h0o.1 hn).1 hy
  have h2:=List.length_erase_of_mem hx
  have h3:=List.length_pos_of_mem hx
  simp only[g9k];omega
section
variable {α : Type} [DecidableEq α] (succ : α → List α)
def b1o(p:List α×List α)(t:α):List α×List α:=if t∈p.1 then p else(p.1++[t],p.2++[t])
def d3e:Nat→List α→List α→List α
 | 0,_,out=>out
 | _+1,[],out=>out
 | f+1,s::w,out=>d3e f ((succ s).foldl b1o (out,w)).2 ((succ s).foldl b1o (out,w)).1
inductive Rch(s:α):α→Prop
 | one {t}:t∈succ s→Rch s t
 | more {b t}:Rch s b→t∈succ b→Rch s t
theorem Rch.cons{succ:α→List α}{s b t:α}(hb:b∈succ s)(h:Rch succ b t):Rch succ s t:=by
 induction h with
 | one h=>exact .more (.one hb) h
 | more _ h ih=>exact .more ih h
theorem Rch.head{succ:α→List α}{s t:α}(h:Rch succ s t):∃ b∈succ s,t=b∨Rch succ b t:=by
 induction h with
 | one h=>exact⟨_,h,.inl rfl⟩
 | more _ h ih =>
  obtain⟨b,h1,h2⟩:=ih
  rcases h2 with rfl | h2
  ·exact⟨_,h1,.inr (.one h)⟩
  ·exact⟨b,h1,.inr (.more h2 h)⟩
theorem Rch.trans{succ:α→List α}{s b t:α}(h1:Rch succ s b)(h:Rch succ b t):Rch succ s t:=by
 induction h with
 | one h=>exact .more h1 h
 | more _ h ih=>exact .more ih h
theorem b2W:∀ (l out w:List α),∃ new,(l.foldl b1o (out,w))=(out++new,w++new)∧(∀ t∈new,t∈l∧t ∉ out)∧new.Nodup∧∀ t∈l,t∈out∨t∈new
 | [],out,w=>⟨[],by simp,by simp,by simp,by simp⟩
 | x::r,out,w=>by
  rw[g9G]
  by_cases h:x∈out
  ·have e:b1o (out,w) x=(out,w):=by unfold b1o;rw[if_pos h]
   rw[e]
   obtain⟨new,h1,h2,h3,h4⟩:=b2W r out w
   refine⟨new,h1,fun t ht=>⟨by simp[(h2 t ht).1],(h2 t ht).2⟩,h3,fun t ht=>?_⟩
   rcases g9y.1 ht with rfl | ht
   ·exact .inl h
   ·exact h4 t ht
  ·have e:b1o (out,w) x=(out++[x],w++[x]):=by unfold b1o;rw[if_neg h]
   rw[e]
   obtain⟨new,h1,h2,h3,h4⟩:=b2W r (out++[x]) (w++[x])
   refine⟨x::new,by rw[h1];simp,fun t ht=>?_,?_,fun t ht=>?_⟩
   ·rcases g9y.1 ht with rfl | ht
    ·exact⟨by simp,h⟩
    ·exact⟨by simp[(h2 t ht).1],fun hm=>(h2 t ht).2 (by simp[hm])⟩
   ·exact h0o.2 ⟨fun hm=>(h2 x hm).2 (by simp),h3⟩
   ·rcases g9y.1 ht with rfl | ht
    ·exact .inr (by simp)
    ·rcases h4 t ht with hm | hm
     ·rcases g9A.1 hm with hm | hm
      ·exact .inl hm
      ·exact .inr (by simp at hm;simp[hm])
     ·exact .inr (by simp[hm])
structure FlwI(T:List α)(s:α)(w out:List α):Prop where
 nod:out.Nodup
 sub:∀ t∈out,t∈T
 rch:∀ t∈out,Rch succ s t
 wrk:∀ t∈w,t=s∨t∈out
 cls:∀ x,(x=s∨x∈out)→x∈w∨∀ t∈succ x,t∈out
variable {succ}
theorem FlwI.start{T:List α}{s:α}:FlwI succ T s [s] []:=⟨by simp,by simp,by simp,by simp,fun x h=>by rcases h with rfl | h <;> simp_all⟩
theorem FlwI.step{T:List α}{s x:α}{w out:List α}(hT:∀ a,∀ t∈succ a,t∈T)(h:FlwI succ T s (x::w) out):FlwI succ T s ((succ x).foldl b1o (out,w)).2 ((succ x).foldl b1o (out,w)).1:=by
 obtain⟨new,h1,h2,h3,h4⟩:=b2W (succ x) out w
 rw[h1]
 have hxr:∀ t∈succ x,Rch succ s t:=fun t ht=>by
  rcases h.wrk x (by simp)with rfl | hx
  ·exact .one ht
  ·exact .more (h.rch x hx) ht
 refine⟨?_,fun t ht=>?_,fun t ht=>?_,fun t ht=>?_,fun y hy=>?_⟩
 ·rw[h0q]
  refine⟨h.nod,h3,fun a ha b hb=>?_⟩
  rintro rfl
  exact(h2 a hb).2 ha
 ·rcases g9A.1 ht with ht | ht
  ·exact h.sub t ht
  ·exact hT x t (h2 t ht).1
 ·rcases g9A.1 ht with ht | ht
  ·exact h.rch t ht
  ·exact hxr t (h2 t ht).1
 ·rcases g9A.1 ht with ht | ht
  ·rcases h.wrk t (by simp[ht])with h | h
   ·exact .inl h
   ·exact .inr (g9Z _ h)
  ·exact .inr (h0f _ ht)
 ·have hall:∀ t∈succ x,t∈out++new:=fun t ht=>by
   rcases h4 t ht with h | h
   ·exact g9Z _ h
   ·exact h0f _ h
  have old:(y=s∨y∈out)→y∈w++new∨∀ t∈succ y,t∈out++new:=fun hy=>by
   rcases h.cls y hy with hw | hw
   ·rcases g9y.1 hw with rfl | hw
    ·exact .inr hall
    ·exact .inl (g9Z _ hw)
   ·exact .inr fun t ht=>g9Z _ (hw t ht)
  rcases hy with hy | hy
  ·exact old (.inl hy)
  ·rcases g9A.1 hy with hy | hy
   ·exact old (.inr hy)
   ·exact .inl (h0f _ hy)
theorem c5J{T:List α}(l:List α)(hl:l.Nodup)(hs:∀ x∈l,x∈T):l.length≤T.length:=d0I l T hl hs
theorem c8Z{T:List α}{s:α}(hT:∀ a,∀ t∈succ a,t∈T):∀ (f:Nat) (w out:List α),FlwI succ T s w out→T.length+w.length<f+out.length →
  (d3e succ f w out).Nodup∧(∀ t,t∈d3e succ f w out↔Rch succ s t)∧∀ t∈d3e succ f w out,t∈T:=by
 intro f
 induction f with
 | zero =>
  intro w out h hf
  have:=c5J out h.nod h.sub
  omega
 | succ f ih =>
  intro w out h hf
  cases w with
  | nil =>
   refine⟨h.nod,fun t=>⟨fun ht=>h.rch t ht,fun ht=>?_⟩,h.sub⟩
   show t∈out
   induction ht with
   | one ht=>exact(h.cls s (.inl rfl)).elim (fun h=>by cases h) (fun h=>h _ ht)
   | more _ ht ih=>exact(h.cls _ (.inr ih)).elim (fun h=>by cases h) (fun h=>h _ ht)
  | cons x w =>
   rw[d3e]
   refine ih _ _ (h.step hT) ?_
   obtain⟨new,h1,_⟩:=b2W (succ x) out w
   rw[h1]
   simp only[g9d,g9k]at hf ⊢
   omega
end
theorem f9G:∀ x y:List UInt8,Op.bytesLess x y=true↔x<y:=by
 intro x
 induction x with
 | nil=>intro y;cases y <;> simp[Op.bytesLess]
 | cons a x ih =>
  intro y
  cases y with
  | nil=>simp[Op.bytesLess]
  | cons b y =>
   rw[c1S,List.cons_lt_cons_iff,h0p,g9g,g9h,g9h,ih]
   have h1:a.toNat<b.toNat↔a<b:=UInt8.lt_iff_toNat_lt.symm
   have h2:a.toNat=b.toNat↔a=b:=UInt8.toNat_inj
   rw[h1,h2]
theorem f2T(a b:ByteArray):ltB a b=true↔a.data.toList<b.data.toList:=by
 unfold ltB
 rw[f9G,b6z,b6z]
theorem c0c(l:List ByteArray):(l.mergeSort fun a b=>decide (a.data.toList≤b.data.toList)).Pairwise fun a b=>ltB b a=false:=by
 have h:=List.pairwise_mergeSort (le:=fun a b:ByteArray=>decide (a.data.toList≤b.data.toList)) (fun a b c h1 h2=>by
  simp only[g9h]at h1 h2 ⊢
  exact List.le_trans h1 h2) (fun a b=>by
  simp only[h0p,g9h]
  exact List.le_total _ _) l
 refine h.imp fun {a b} hab=>?_
 simp only[g9h]at hab
 cases hl:ltB b a with
 | false=>rfl
 | true=>exact absurd ((f2T b a).1 hl) (List.not_lt.2 hab)
theorem c7R{l:List ByteArray}(hn:l.Nodup):(l.mergeSort fun a b=>decide (a.data.toList≤b.data.toList)).Pairwise fun a b=>ltB a b=true:=by
 have h1:=c0c l
 have h2:(l.mergeSort fun a b=>decide (a.data.toList≤b.data.toList)).Nodup:=(List.mergeSort_perm l _).nodup_iff.2 hn
 refine(h1.and h2).imp fun {a b} ⟨hab,hne⟩=>?_
 cases hl:ltB a b with
 | true=>rfl
 | false=>exact absurd (b9b hl hab) hne
structure Ed where
 fr:ByteArray
 to:ByteArray
deriving DecidableEq
def Ed.enc(c:Ed):List V:=[.str c.fr,.str c.to]
theorem c1q(c:Ed):c.enc.length=2:=rfl
theorem c1H:∀ l:List Ed,b0R (l.map Ed.enc)=true
 | []=>rfl
 | n::r=>by show(b1a _ && b0R (r.map Ed.enc))=true;rw[c1H r];rfl
abbrev SuM:=List (ByteArray×List ByteArray)
def b9d:Nat→SuM→List (ByteArray×(Nat×List ByteArray))
 | _,[]=>[]
 | b,p::r=>(p.1,(b,p.2))::b9d (b+1) r
theorem c4V(k:ByteArray):∀ (N:SuM) (b:Nat),
  (∃ (j:Nat) (vs:List ByteArray),b1s (b9d b N) k=some (b+j,vs)∧b1s N k=some vs∧N[j]? = some (k,vs)∧∀ vs',b3W (b9d b N) k (b+j,vs')=b9d b (b3W N k vs')∧b3W N k vs'=N.set j (k,vs')) ∨
  (b1s (b9d b N) k=none∧b1s N k=none∧∀ vs',b3W (b9d b N) k (b+N.length,vs')=b9d b (b3W N k vs')∧b3W N k vs'=N++[(k,vs')])
 | [],b => .inr ⟨rfl,rfl,fun vs'=>⟨rfl,rfl⟩⟩
 | p::r,b=>by
  by_cases h:k=p.1
  ·refine .inl ⟨0,p.2,?_,?_,?_,fun vs'=>⟨?_,?_⟩⟩
   ·rw[b9d,b1s];simp[h]
   ·rw[b1s,if_pos h]
   ·simp[h]
   ·rw[b9d,b3W,if_pos h,b3W,if_pos h,b9d];rfl
   ·rw[b3W,if_pos h];rfl
  ·rcases c4V k r (b+1)with⟨j,vs,h1,h2,h3,h4⟩ | ⟨h1,h2,h3⟩
   ·refine .inl ⟨j+1,vs,?_,?_,by simpa using h3,fun vs'=>⟨?_,?_⟩⟩
    ·rw[b9d,b1s,if_neg h,h1];congr 2;omega
    ·rw[b1s,if_neg h,h2]
    ·rw[b9d,b3W,if_neg h,b3W,if_neg h,b9d,←(h4 vs').1,show b+(j+1)=b+1+j by omega]
    ·rw[b3W,if_neg h,(h4 vs').2];rfl
   ·refine .inr ⟨?_,?_,fun vs'=>⟨?_,?_⟩⟩
    ·rw[b9d,b1s,if_neg h,h1]
    ·rw[b1s,if_neg h,h2]
    ·rw[b9d,b3W,if_neg h,b3W,if_neg h,b9d,←(h3 vs').1,g9k,show b+(r.length+1)=b+1+r.length by omega]
    ·rw[b3W,if_neg h,(h3 vs').2];rfl
def scN(N:SuM)(s:ByteArray):List ByteArray:=(b1s N s).getD []
def f2o(N:SuM)(x:Ed):SuM:=b3W N x.fr (scN N x.fr++[x.to])
def b1W(l:List Ed):SuM:=l.foldl f2o []
theorem c3D(l:List Ed)(x:Ed):b1W (l++[x])=f2o (b1W l) x:=by simp[b1W]
theorem c7C(s:ByteArray):∀ (l:List Ed) (N:SuM),scN (l.foldl f2o N) s=scN N s++(l.filter fun x=>decide (x.fr=s)).map Ed.to
 | [],N=>by simp
 | x::r,N=>by
  rw[g9G,c7C s r,List.filter_cons]
  unfold f2o
  by_cases h:x.fr=s
  ·rw[if_pos (by simpa using h)]
   unfold scN
   rw[b7B,if_pos h.symm,h];simp
  ·rw[if_neg (by simpa using h)]
   unfold scN
   rw[b7B,if_neg (fun e=>h e.symm)]
theorem b9D(l:List Ed)(s:ByteArray):scN (b1W l) s=(l.filter fun x=>decide (x.fr=s)).map Ed.to:=by
 rw[b1W,c7C];rfl
end Go.Vg
namespace Go.Proofs.YtighfcpaplmaiaaGreatDoor
open Go Go.Vg Go.Proofs
def veS(p:Nat×List ByteArray):V := .slice (.arr p.1) 9 (p.2.map b0p)
def b5J(b:Nat)(N:SuM):List (V×V):=b3V .str veS (b9d b N)
theorem c5y{b:Nat}{N:SuM}{s:ByteArray}{K:V→Prop}:b1G env 28 (b1t .string (.str s) (b5J b N) 0) false K=K (((b1s (b9d b N) s).map veS).getD (.slice .nil 0 [])) :=
 c7D (E:=env) (ve:=veS) (k:=s) (by kernel_rfl) (by kernel_rfl)
theorem d7D{b:Nat}{N:SuM}{s:ByteArray}{p:Nat×List ByteArray}{h:List VObj}{id:Nat}{L:List VObj→Prop}:b3I h id (b5J b N) (.str s) (veS p) (b1t .string (.str s) (b5J b N) 0) L=L (h.set id (.map (b3V .str veS (b3W (b9d b N) s p)))) :=
 d7b (ve:=veS) (k:=s) (v:=p)
def g3O:Wk := .one 0 (.one 1 (.one 3 (.one 4 (.one 5 (.one 6 (.one 7 (.one 8 (.one 9 (.br 2 (.one 10 (.one 11 (.stop))) (.br 10 (.one 2 (.one 11 (.stop))) (.stop)))))))))))
theorem f5A(l:List Ed)(h:List VObj)(a:List Nat){K:b1z}(hK:∀ z,K (.map h.length) (h ++ .map (b5J a.length (b1W l))::z) (a++(b1W l).map fun p=>p.2.length)) :
  b0r env 47 [sl 38 (l.map Ed.enc)] h a K:=by
 refine b0A (fn:=Tryz.f47) Tryz.func47 rfl (by rw[Tryz.ntmps47];simp) ?_
 simp -implicitDefEqProofs only[go_sem,Tryz.f47]
 intro _ _
 refine b0n (β:=List VObj) l (fun q z=>⟨[(9,.int .i64 q.length),(8,.int .i64 l.length),(7,sl 38 (l.map Ed.enc)),(3,.map h.length),(2,.nilmap)],
   h ++ .map (b5J a.length (b1W q))::z,a++(b1W q).map fun p=>p.2.length⟩) (fun _ _ _=>True) [] ?_ trivial ?_ ?_
 ·simp -implicitDefEqProofs only[go_sem]
  exact⟨rfl,rfl,by simp[b1W,b0J],by simp[b1W],.inl (by simp[b1W])⟩
 ·intro z _
  simp -implicitDefEqProofs only[go_sem,b0d,b0b,b0c,b0a,g8V,g8W,g8X]
  exact hK z
 ·rintro q x r z hx _
  have hpl:l.length=q.length+1+r.length:=by rw[hx];simp;omega
  have hgx:(l.map Ed.enc).getD (q.length:Int).toNat []=x.enc:=by rw[hx];simp[g8Z]
  have hlt:((q.length:Int)<l.length)=True:=by simp;omega
  have hw:IntKind.i64.wrap (↑q.length+1)=↑(q.length+1):=b0g (by omega)
  simp -implicitDefEqProofs only[go_sem,hgx,hlt,b0d,b0b,b0c,b0a,g8V,g8W,g8X,Ed.enc,c5y]
  refine b1g (cs:=[]) g3O b0v (by kernel_rfl) ?_
  rcases c4V x.fr (b1W q) a.length with⟨j,vs,h1,h2,h3,h4⟩ | ⟨h1,h2,h3⟩
  ·have hvq:vs.length≤q.length:=by
    have e1:=b9D q x.fr
    rw[scN,h2,g9w]at e1
    rw[e1,g9r];exact h0j _ _
   have hadd:b1W (q++[x])=b3W (b1W q) x.fr (vs++[x.to]):=by rw[c3D,f2o,scN,h2];rfl
   have hset:∀ (hh:List VObj) (id:Nat) (L:List VObj→Prop),b3I hh id (b5J a.length (b1W q)) (.str x.fr) (.slice (.arr (a.length+j)) 9 (vs.map b0p++[[.str x.to]])) (b1t .string (.str x.fr) (b5J a.length (b1W q)) 0) L=L (hh.set id (.map (b5J a.length (b1W (q++[x]))))):=fun hh id L=>by
    have:=@d7D a.length (b1W q) x.fr (a.length+j,vs++[x.to]) hh id L
    rw[(h4 _).1,←hadd]at this
    refine Eq.trans ?_ this
    simp[veS,b0p]
   have hgj:(List.map (fun p:ByteArray×List ByteArray=>p.2.length) (b1W q))[j]? = some vs.length:=by rw[g9q,h3];rfl
   have harr:(List.map (fun p:ByteArray×List ByteArray=>p.2.length) (b1W q)).set j (vs.length+1)=(b1W (q++[x])).map fun p=>p.2.length:=by
    rw[hadd,(h4 _).2,List.map_set];simp
   simp -implicitDefEqProofs only[go_sem,hgx,hlt,b0d,b0b,b0c,b0a,g8V,g8W,g8X,Ed.enc,c5y,h1,g9z,g9w,veS,g3O,hset,hgj,harr]
   exact⟨by omega,z++[.cells [.str x.fr,.str x.to]],hw,b0s,by simp,.inl (by simp)⟩
  ·have hadd:b1W (q++[x])=b3W (b1W q) x.fr [x.to]:=by rw[c3D,f2o,scN,h2];rfl
   have hlen:(a++List.map (fun p:ByteArray×List ByteArray=>p.2.length) (b1W q)).length=a.length+(b1W q).length:=by simp
   have hset:∀ (hh:List VObj) (id:Nat) (L:List VObj→Prop),b3I hh id (b5J a.length (b1W q)) (.str x.fr) (.slice (.arr (a++List.map (fun p:ByteArray×List ByteArray=>p.2.length) (b1W q)).length) 9 [[.str x.to]]) (b1t .string (.str x.fr) (b5J a.length (b1W q)) 0) L=L (hh.set id (.map (b5J a.length (b1W (q++[x]))))):=fun hh id L=>by
    have:=@d7D a.length (b1W q) x.fr (a.length+(b1W q).length,[x.to]) hh id L
    rw[(h3 _).1,←hadd]at this
    refine Eq.trans ?_ this
    rw[hlen]
    simp[veS,b0p]
   have harr:a++List.map (fun p:ByteArray×List ByteArray=>p.2.length) (b1W q)++[1]=a++(b1W (q++[x])).map fun p=>p.2.length:=by
    rw[hadd,(h3 _).2];simp
   simp -implicitDefEqProofs only[go_sem,hgx,hlt,b0d,b0b,b0c,b0a,g8V,g8W,g8X,Ed.enc,c5y,h1,h0m,h0a,g3O,hset,harr]
   exact⟨z++[.cells [.str x.fr,.str x.to]],hw,b0s,by simp,.inl (by simp)⟩
end Go.Proofs.YtighfcpaplmaiaaGreatDoor
namespace Go.Vg
theorem b3X.cons{e n0 m0:Nat}{x:VObj}{z:List VObj}{y:List Nat}{v:V}{l:List (List V)}(h:b3X e (n0+1) m0 z y v l):b3X e n0 m0 (x::z) y v l:=by
 rcases h with h | ⟨h1,j,k,gen,rfl,h3,h4⟩
 ·exact .inl h
 ·exact .inr ⟨h1,j+1,k,gen,by rw[show n0+1+j=n0+(j+1)by omega],by simpa using h3,h4⟩
def c4Q(e:TypeId)(n0 m0:Nat)(z:List VObj)(y:List Nat)(v:V)(l:List (List V))(kk:Option Nat):Prop :=
 (l=[]∧kk=none∧∃ e0,v = .slice .nil e0 [])∨(l≠[]∧∃ j k gen,kk=some k∧v = .vec (n0+j) (m0+k) gen l.length e∧z[j]? = some (.vec (m0+k) gen e l.flatten)∧y[k]? = some gen)
theorem c4Q.acc{e n0 m0:Nat}{z:List VObj}{y:List Nat}{v:V}{l:List (List V)}{kk:Option Nat}(h:c4Q e n0 m0 z y v l kk):b3X e n0 m0 z y v l:=by
 rcases h with⟨h,_,h'⟩ | ⟨h1,j,k,gen,_,h2,h3,h4⟩
 ·exact .inl ⟨h,h'⟩
 ·exact .inr ⟨h1,j,k,gen,h2,h3,h4⟩
theorem c4Q.nil{e n0 m0 e0:Nat}{z:List VObj}{y:List Nat}:c4Q e n0 m0 z y (.slice .nil e0 []) [] none := .inl ⟨rfl,rfl,e0,rfl⟩
theorem c4Q.keep{e n0 m0:Nat}{z:List VObj}{y:List Nat}{v:V}{l:List (List V)}{kk:Option Nat}(h:c4Q e n0 m0 z y v l kk)(z2:List VObj){y2:List Nat}(hy:∀ k,kk=some k→∀ g,y[k]? = some g→y2[k]? = some g):c4Q e n0 m0 (z++z2) y2 v l kk:=by
 rcases h with h | ⟨h1,j,k,gen,h0,h2,h3,h4⟩
 ·exact .inl h
 ·exact .inr ⟨h1,j,k,gen,h0,h2,by rw[g9a (b0w h3)];exact h3,hy k h0 gen h4⟩
theorem c4Q.lt{e n0 m0:Nat}{z:List VObj}{y:List Nat}{v:V}{l:List (List V)}{k:Nat}(h:c4Q e n0 m0 z y v l (some k)):k<y.length:=by
 rcases h with⟨_,h,_⟩ | ⟨_,j,k',gen,h0,_,_,h4⟩
 ·cases h
 ·cases h0;exact b0w h4
theorem c0m{E:Env}{e e':Nat}{o:Own}{h0 z:List VObj}{a0 y:List Nat}{v:V}{l:List (List V)}{x:List V}{kk:Option Nat}{K:b1z}(hv:c4Q e h0.length a0.length z y v l kk)
  (hlen:∀ el∈l,el.length=E.P.cellsOf e) (hok:b0W E.P e=true) (hb:(l.length+1) * E.P.bytesOf e≤140737488355328)
  (hK:∀ v' z' y' k',c4Q e h0.length a0.length z' y' v' (l++[x]) (some k')→((kk=none∧k'=y.length∧y'=y++[b8w])∨(kk=some k'∧∃ g,y'=y.set k' g))→K v' (h0++z') (a0++y')) :
  c3J E (h0++z) (a0++y) (some (.slice e)) (some (.slice e')) v (.slice o e [x]) K:=by
 rcases hv with⟨rfl,rfl,e0,rfl⟩ | ⟨h1,j,k,gen,rfl,rfl,h3,h4⟩
 ·rw[b8h]
  refine⟨⟨by simp,rfl,hok⟩,⟨rfl,.inl rfl,by simpa using hb⟩,?_⟩
  rw[g9t,g9t,g9d,g9d]
  refine hK _ _ _ y.length (.inr ⟨by simp,z.length,y.length,b8w,rfl,by simp,?_,by simp⟩) (.inl ⟨rfl,rfl,rfl⟩)
  simp
 ·have hj:=b0w h3
  have hk:=b0w h4
  have hg:(h0++z)[h0.length+j]? = some (.vec (a0.length+k) gen e l.flatten):=by rw[b3g];exact h3
  rw[c0G,hg,b9i]
  refine⟨⟨by simp,rfl,hok⟩,⟨rfl,rfl,b7a hlen,by simpa using hb⟩,?_⟩
  have e1:(h0++z).set (h0.length+j) (.vec (a0.length+k) (gen+1) e (l.flatten++[x].flatten))=h0++z.set j (.vec (a0.length+k) (gen+1) e (l.flatten++[x].flatten)):=by
   rw[g9J _ _ (by omega)];congr 2;omega
  have e2:(a0++y).set (a0.length+k) (gen+1)=a0++y.set k (gen+1):=by
   rw[g9J _ _ (by omega)];congr 2;omega
  rw[e1,e2]
  refine hK _ _ _ k (.inr ⟨by simp,j,k,gen+1,rfl,by simp,?_,g9e hk⟩) (.inr ⟨rfl,_,rfl⟩)
  rw[g9e hj];simp
def okW(n:Nat)(y:List Nat)(kk:Option Nat)(o:Own)(len:Nat):Prop:=o = .full∨∃ k,o = .arr (n+k)∧y[k]? = some len∧kk≠some k
end Go.Vg
namespace Go.Proofs.YtighfcpaplmaiaaGreatDoor
open Go Go.Vg Go.Proofs
theorem c7j{tv:TypeId}{b:Nat}{N:SuM}{s:ByteArray}{K:V→Prop}:b1G (envV tv) 28 (b1t .string (.str s) (b5J b N) 0) false K=K (((b1s (b9d b N) s).map veS).getD (.slice .nil 0 [])) :=
 c7D (E:=envV tv) (ve:=veS) (k:=s) (by kernel_rfl) (by kernel_rfl)
def c2V(l:List Ed)(s:ByteArray):List ByteArray:=d3e (scN (b1W l)) ((l.map Ed.to).length+2) [s] []
theorem d2P(l:List Ed)(hl:l.length≤1000000)(id b:Nat)(h:List VObj)(a:List Nat)(s:ByteArray)(hid:h[id]? = some (.map (b5J b (b1W l)))){K:b1z}(hK:K (sl 9 ((b2j (c2V l s)).map b0p)) h a) :
  b0r env 46 [.map id,.str s] h a K:=by
 refine b0r.ofV (tv:=28) (b0r.accR ?_)
 have hidl:=b0w hid
 have hT:∀ (x t:ByteArray),t∈scN (b1W l) x→t∈l.map Ed.to:=fun x t ht=>by
  rw[b9D]at ht
  obtain⟨e,he,rfl⟩:=h0k.1 ht
  exact h0k.2 ⟨e,(List.mem_filter.1 he).1,rfl⟩
 have hTl:(l.map Ed.to).length≤1000000:=by rw[g9r];exact hl
 unfold c2V at hK
 generalize l.map Ed.to=T at hK hT hTl
 generalize hg:d3e (scN (b1W l)) (T.length+2) [s] []=goal at hK
 refine b0A (fn:=Tryz.f46) Tryz.func46 rfl (by rw[Tryz.ntmps46];simp) ?_
 simp -implicitDefEqProofs only[go_sem,Tryz.f46]
 refine b1A (α:=(V×List VObj×List Nat)×(Own×List ByteArray×List ByteArray×Option Nat)×Nat) (fun b=>⟨[(7,.slice b.2.1.1 9 (b.2.1.2.1.map b0p)),(6,b.1.1),(5,.map h.length),(4,.slice .nil 0 []),(0,.map id)],
   h ++ .map (b2N b.2.1.2.2.1)::b.1.2.1,a++b.1.2.2⟩)
  (fun b=>c4Q 9 (h.length+1) a.length b.1.2.1 b.1.2.2 b.1.1 (b.2.1.2.2.1.map b0p) b.2.1.2.2.2∧okW a.length b.1.2.2 b.2.1.2.2.2 b.2.1.1 b.2.1.2.1.length∧FlwI (scN (b1W l)) T s b.2.1.2.1 b.2.1.2.2.1∧b.2.1.2.1.length≤b.2.1.2.2.1.length+1 ∧
   T.length+b.2.1.2.1.length<b.2.2+b.2.1.2.2.1.length∧d3e (scN (b1W l)) b.2.2 b.2.1.2.1 b.2.1.2.2.1=goal) (fun b=>b.2.2)
  ((.slice .nil 0 [],[],[]),(.full,[s],[],none),T.length+2) ?_ ⟨c4Q.nil,.inl rfl,FlwI.start,by simp,by simp,hg⟩ ?_
 ·simp -implicitDefEqProofs only[go_sem]
  exact⟨rfl,rfl⟩
 ·rintro⟨⟨v,z,y⟩,⟨o,w,out,kk⟩,f⟩ ⟨hacc,hw,hF,hwl,hf,hgo⟩
  simp only at hacc hw hF hwl hf hgo ⊢
  have hol:=c5J out hF.nod hF.sub
  cases w with
  | nil =>
   simp -implicitDefEqProofs only[go_sem]
   refine⟨fun h=>absurd h (by simp),fun _=>?_⟩
   have hgoal:goal=out:=by
    cases f with
    | zero=>simp only[g9F]at hf;omega
    | succ f=>rw[←hgo];rfl
   subst hgoal
   have hSS:=@b6u (h++[.map (b2N goal)]) z a y v goal
   rw[g9t,g9d]at hSS
   refine hSS hacc.acc fun z2 hacc2 _ _=>?_
   simp -implicitDefEqProofs only[go_sem]
   have hacc3:b3X 9 (h.length+1) a.length z2 y v ((b2j goal).map b0p):=hacc2
   exact⟨_,_,_,_,rfl,rfl,hacc3.cons,b3k,b3s,b5F _,hK⟩
  | cons x w =>
   obtain⟨f,rfl⟩:∃ f',f=f'+1:=⟨f - 1,by simp only[g9k]at hf;omega⟩
   have hstep:=hF.step hT
   simp only[g9k]at hf hwl hw
   have hscl:(scN (b1W l) x).length≤1000000:=by
    rw[b9D,g9r]
    exact h0i (h0j _ _) hl
   have hnf:T.length+((scN (b1W l) x).foldl b1o (out,w)).2.length<f+((scN (b1W l) x).foldl b1o (out,w)).1.length:=by
    obtain⟨new,e1,_⟩:=b2W (scN (b1W l) x) out w
    rw[e1]
    simp only[g9d]
    omega
   have hlook:∃ o0 e0,((b1s (b9d b (b1W l)) x).map veS).getD (.slice .nil 0 []) = .slice o0 e0 ((scN (b1W l) x).map b0p)∧((scN (b1W l) x)=[]∨e0=9):=by
    rcases c4V x (b1W l) b with⟨j,vs,h1,h2,h3,h4⟩ | ⟨h1,h2,h3⟩
    ·exact⟨_,_,by rw[h1,scN,h2];rfl,.inr rfl⟩
    ·exact⟨_,_,by rw[h1,scN,h2];rfl,.inl (by rw[scN,h2];rfl)⟩
   obtain⟨o0,e0,hlk,he0⟩:=hlook
   rcases hw with rfl | ⟨k,rfl,hyk,hkk⟩
   ·have hp0:True:=trivial
    simp -implicitDefEqProofs only[go_sem,b0d,b0b,b0c,b0a,g8V,g8W,g8X,b0K hid,c7j,hlk]
    intro _ _
    refine⟨fun _=>⟨by omega,by omega,?_⟩,fun h=>absurd (by omega) h⟩
    intro _ _
    refine b0n (β:=(V×List VObj×List Nat)×(Own×List ByteArray×List ByteArray×Option Nat)) (scN (b1W l) x) (fun q b=>⟨[(26,.int .i64 q.length),(25,.int .i64 (scN (b1W l) x).length),(24,sl 9 ((scN (b1W l) x).map b0p)),(7,.slice b.2.1 9 (b.2.2.1.map b0p)),(6,b.1.1),(5,.map h.length),(4,.slice .nil 0 []),(0,.map id)],
      h ++ .map (b2N b.2.2.2.1)::b.1.2.1,a++b.1.2.2⟩)
     (fun q r b=>c4Q 9 (h.length+1) a.length b.1.2.1 b.1.2.2 b.1.1 (b.2.2.2.1.map b0p) b.2.2.2.2∧okW a.length b.1.2.2 b.2.2.2.2 b.2.1 b.2.2.1.length∧r.foldl b1o (b.2.2.2.1,b.2.2.1)=(scN (b1W l) x).foldl b1o (out,w)∧b.2.2.2.1.length≤out.length+q.length∧b.2.2.1.length≤b.2.2.2.1.length)
     ((v,z,y),(.full,w,out,kk)) ?_ ⟨hacc,.inl rfl,rfl,by simp,by simp only;omega⟩ ?_ ?_
    ·simp -implicitDefEqProofs only[go_sem,hp0]
     have he0q:List.map b0p (scN (b1W l) x)=[]∨e0=9:=he0.imp (fun h=>by rw[h];rfl) (fun h=>h)
     exact⟨⟨rfl,he0q⟩,by simp⟩
    ·rintro⟨⟨v2,z2,y2⟩,o2,w2,out2,kk2⟩ ⟨hacc2,hw2,hfo,hol2,hwl2⟩
     simp only at hacc2 hw2 hfo hol2 hwl2 ⊢
     simp -implicitDefEqProofs only[go_sem,b0d,b0b,b0c,b0a,g8V,g8W,g8X]
     have hfo':(out2,w2)=(scN (b1W l) x).foldl b1o (out,w):=hfo
     rw[←hfo']at hstep hnf
     refine⟨((v2,z2,y2),((o2,w2,out2,kk2),f)),by simp,⟨hacc2,hw2,hstep,by simp only;omega,by simp only at hnf ⊢;omega,by simp only;rw[d3e,←hfo']at hgo;exact hgo⟩,?_⟩
     exact⟨⟨b1l,b1l⟩,⟨rfl,b0s⟩,b0J,by simp,.inl ⟨g9m _,g9m _⟩⟩
    ·rintro q t r ⟨⟨v2,z2,y2⟩,o2,w2,out2,kk2⟩ hx ⟨hacc2,hw2,hfo,hol2,hwl2⟩
     simp only at hacc2 hw2 hfo hol2 hwl2 ⊢
     have hpl:(scN (b1W l) x).length=q.length+1+r.length:=by rw[hx];simp;omega
     have hgx:((scN (b1W l) x).map b0p).getD (q.length:Int).toNat []=b0p t:=by rw[hx];simp[g8Z]
     have hlt:((q.length:Int)<(scN (b1W l) x).length)=True:=by simp;omega
     have hwq:IntKind.i64.wrap (↑q.length+1)=↑(q.length+1):=b0g (by omega)
     rw[g9G]at hfo
     simp -implicitDefEqProofs only[go_sem,hgx,hlt,b0p,b0d,b0b,b0c,b0a,g8V,g8W,g8X,c5X]
     refine⟨fun ha=>?_,fun ha=>?_⟩
     ·have ha':(out2.any fun y=>decide (y=t))=false:=by cases hq:(out2.any fun y=>decide (y=t)) <;> simp_all
      have hmem:t ∉ out2:=fun hm=>by
       have:(out2.any fun y=>decide (y=t))=true:=g9W.2 ⟨t,hm,by simp⟩
       rw[ha']at this;cases this
      have hfs:b1o (out2,w2) t=(out2++[t],w2++[t]):=by unfold b1o;rw[if_neg hmem]
      rw[hfs]at hfo
      rw[d0o ha']
      simp -implicitDefEqProofs only[go_sem,b0d,b0b,b0c,b0a,g8V,g8W,g8X,hacc2.acc.asl]
      have happ:=@c0m (envV 28) 9 9 .full (h++[.map (b2N (out2++[t]))]) z2 a y2 v2 (out2.map b0p) [.str t] kk2
      rw[g9t,g9d]at happ
      refine happ hacc2 b3s b3k (by rw[b7i,g9r];omega) fun v3 z3 y3 k3 hacc3 hy3=>?_
      rw[g9t]
      have hwl3:(w2.length+1) * 16≤140737488355328:=by omega
      rcases hw2 with rfl | ⟨kw,rfl,hykw,hkkw⟩
      ·simp -implicitDefEqProofs only[go_sem,b0d,b0b,b0c,b0a,g8V,g8W,g8X]
       refine⟨hwl3,((v3,z3,y3++[w2.length+1]),(.arr (a.length+y3.length),w2++[t],out2++[t],some k3)),⟨?_,.inr ⟨y3.length,rfl,by simp,fun e=>?_⟩,hfo,by simp;omega,by simp;omega⟩,⟨hwq,?_,b1l⟩,⟨rfl,b0s⟩,?_,by simp,.inl ⟨by simp,by simp;omega⟩⟩
       ·have:=hacc3.keep [] (y2:=y3++[w2.length+1]) fun k' hk' g hg=>by rw[g9a (b0w hg)];exact hg
        rw[g9B]at this
        simpa[b0p]using this
       ·have h1:=hacc3.lt
        simp only[Option.some.injEq]at e
        omega
       ·rw[show(a++y3).length=a.length+y3.length by simp]
        simp only[g9I,g9o,g9P,b0p]
        exact b1l
       ·rw[g9t];exact b0J
      ·have hy3w:y3[kw]? = some w2.length:=by
        rcases hy3 with⟨_,rfl,rfl⟩ | ⟨e1,g,rfl⟩
        ·rw[g9a (b0w hykw)];exact hykw
        ·rw[g9i (fun e=>hkkw (by rw[e1,e]))];exact hykw
       simp -implicitDefEqProofs only[go_sem,b0d,b0b,b0c,b0a,g8V,g8W,g8X,hy3w]
       have hkwl:=b0w hy3w
       have hk3:k3≠kw:=by
        rcases hy3 with⟨e1,e2,e3⟩ | ⟨e1,g,_⟩
        ·have:=b0w hykw;omega
        ·exact fun e=>hkkw (by rw[e1,e])
       refine⟨hwl3,((v3,z3,y3.set kw (w2.length+1)),(.arr (a.length+kw),w2++[t],out2++[t],some k3)),⟨?_,.inr ⟨kw,rfl,by simp[hkwl],fun e=>hk3 (by simpa using e)⟩,hfo,by simp;omega,by simp;omega⟩,⟨hwq,?_,b1l⟩,⟨rfl,b0s⟩,b0J,by simp,.inl ⟨by simp,by simp⟩⟩
       ·have:=hacc3.keep [] (y2:=y3.set kw (w2.length+1)) fun k' hk' g hg=>by
         have:k3=k':=by simpa using hk'
         rw[g9i (fun e=>hk3 (by omega))];exact hg
        rw[g9B]at this
        simpa[b0p]using this
       ·simp only[g9I,g9o,g9P,b0p]
        exact b1l
     ·have ha':(out2.any fun y=>decide (y=t))=true:=by cases hq:(out2.any fun y=>decide (y=t)) <;> simp_all
      have hmem:t∈out2:=by
       obtain⟨y,hy,he⟩:=g9W.1 ha'
       have:y=t:=by simpa using he
       exact this ▸ hy
      have hfs:b1o (out2,w2) t=(out2,w2):=by unfold b1o;rw[if_pos hmem]
      rw[hfs]at hfo
      exact⟨((v2,z2,y2),(o2,w2,out2,kk2)),⟨hacc2,hw2,hfo,by simp only;omega,hwl2⟩,⟨hwq,b1l,b1l⟩,⟨rfl,b0s⟩,b0J,by simp,.inl ⟨g9m _,g9m _⟩⟩
   ·have hp0:True:=trivial
    have hal:(a++y).length=a.length+y.length:=by simp
    simp -implicitDefEqProofs only[go_sem,b0d,b0b,b0c,b0a,g8V,g8W,g8X,b0K hid,c7j,hlk,hyk,hal]
    intro _ _
    refine⟨fun _=>⟨by omega,by omega,?_⟩,fun h=>absurd (by omega) h⟩
    intro _ _
    have hkl:=b0w hyk
    refine b0n (β:=(V×List VObj×List Nat)×(Own×List ByteArray×List ByteArray×Option Nat)) (scN (b1W l) x) (fun q b=>⟨[(26,.int .i64 q.length),(25,.int .i64 (scN (b1W l) x).length),(24,sl 9 ((scN (b1W l) x).map b0p)),(7,.slice b.2.1 9 (b.2.2.1.map b0p)),(6,b.1.1),(5,.map h.length),(4,.slice .nil 0 []),(0,.map id)],
      h ++ .map (b2N b.2.2.2.1)::b.1.2.1,a++b.1.2.2⟩)
     (fun q r b=>c4Q 9 (h.length+1) a.length b.1.2.1 b.1.2.2 b.1.1 (b.2.2.2.1.map b0p) b.2.2.2.2∧okW a.length b.1.2.2 b.2.2.2.2 b.2.1 b.2.2.1.length∧r.foldl b1o (b.2.2.2.1,b.2.2.1)=(scN (b1W l) x).foldl b1o (out,w)∧b.2.2.2.1.length≤out.length+q.length∧b.2.2.1.length≤b.2.2.2.1.length)
     ((v,z,y.set k (w.length+1+1)++[w.length+1 - 1]),(.arr (a.length+y.length),w,out,kk)) ?_ ⟨by
      have:=hacc.keep [] (y2:=y.set k (w.length+1+1)++[w.length+1 - 1]) fun k' hk' g hg=>by
       rw[g9a (by rw[List.length_set];exact b0w hg),g9i (fun e=>hkk (by rw[hk',e]))];exact hg
      rw[g9B]at this
      exact this,.inr ⟨y.length,rfl,by simp,fun e=>by
       subst e
       have:=hacc.lt
       omega⟩,rfl,by simp,by simp only;omega⟩ ?_ ?_
    ·simp -implicitDefEqProofs only[go_sem,hp0]
     have he0q:List.map b0p (scN (b1W l) x)=[]∨e0=9:=he0.imp (fun h=>by rw[h];rfl) (fun h=>h)
     exact⟨⟨rfl,he0q⟩,by rw[g9t];exact b0J,by simp,.inl (by simp;omega)⟩
    ·rintro⟨⟨v2,z2,y2⟩,o2,w2,out2,kk2⟩ ⟨hacc2,hw2,hfo,hol2,hwl2⟩
     simp only at hacc2 hw2 hfo hol2 hwl2 ⊢
     simp -implicitDefEqProofs only[go_sem,b0d,b0b,b0c,b0a,g8V,g8W,g8X]
     have hfo':(out2,w2)=(scN (b1W l) x).foldl b1o (out,w):=hfo
     rw[←hfo']at hstep hnf
     refine⟨((v2,z2,y2),((o2,w2,out2,kk2),f)),by simp,⟨hacc2,hw2,hstep,by simp only;omega,by simp only at hnf ⊢;omega,by simp only;rw[d3e,←hfo']at hgo;exact hgo⟩,?_⟩
     exact⟨⟨b1l,b1l⟩,⟨rfl,b0s⟩,b0J,by simp,.inl ⟨g9m _,g9m _⟩⟩
    ·rintro q t r ⟨⟨v2,z2,y2⟩,o2,w2,out2,kk2⟩ hx ⟨hacc2,hw2,hfo,hol2,hwl2⟩
     simp only at hacc2 hw2 hfo hol2 hwl2 ⊢
     have hpl:(scN (b1W l) x).length=q.length+1+r.length:=by rw[hx];simp;omega
     have hgx:((scN (b1W l) x).map b0p).getD (q.length:Int).toNat []=b0p t:=by rw[hx];simp[g8Z]
     have hlt:((q.length:Int)<(scN (b1W l) x).length)=True:=by simp;omega
     have hwq:IntKind.i64.wrap (↑q.length+1)=↑(q.length+1):=b0g (by omega)
     rw[g9G]at hfo
     simp -implicitDefEqProofs only[go_sem,hgx,hlt,b0p,b0d,b0b,b0c,b0a,g8V,g8W,g8X,c5X]
     refine⟨fun ha=>?_,fun ha=>?_⟩
     ·have ha':(out2.any fun y=>decide (y=t))=false:=by cases hq:(out2.any fun y=>decide (y=t)) <;> simp_all
      have hmem:t ∉ out2:=fun hm=>by
       have:(out2.any fun y=>decide (y=t))=true:=g9W.2 ⟨t,hm,by simp⟩
       rw[ha']at this;cases this
      have hfs:b1o (out2,w2) t=(out2++[t],w2++[t]):=by unfold b1o;rw[if_neg hmem]
      rw[hfs]at hfo
      rw[d0o ha']
      simp -implicitDefEqProofs only[go_sem,b0d,b0b,b0c,b0a,g8V,g8W,g8X,hacc2.acc.asl]
      have happ:=@c0m (envV 28) 9 9 .full (h++[.map (b2N (out2++[t]))]) z2 a y2 v2 (out2.map b0p) [.str t] kk2
      rw[g9t,g9d]at happ
      refine happ hacc2 b3s b3k (by rw[b7i,g9r];omega) fun v3 z3 y3 k3 hacc3 hy3=>?_
      rw[g9t]
      have hwl3:(w2.length+1) * 16≤140737488355328:=by omega
      rcases hw2 with rfl | ⟨kw,rfl,hykw,hkkw⟩
      ·simp -implicitDefEqProofs only[go_sem,b0d,b0b,b0c,b0a,g8V,g8W,g8X]
       refine⟨hwl3,((v3,z3,y3++[w2.length+1]),(.arr (a.length+y3.length),w2++[t],out2++[t],some k3)),⟨?_,.inr ⟨y3.length,rfl,by simp,fun e=>?_⟩,hfo,by simp;omega,by simp;omega⟩,⟨hwq,?_,b1l⟩,⟨rfl,b0s⟩,?_,by simp,.inl ⟨by simp,by simp;omega⟩⟩
       ·have:=hacc3.keep [] (y2:=y3++[w2.length+1]) fun k' hk' g hg=>by rw[g9a (b0w hg)];exact hg
        rw[g9B]at this
        simpa[b0p]using this
       ·have h1:=hacc3.lt
        simp only[Option.some.injEq]at e
        omega
       ·rw[show(a++y3).length=a.length+y3.length by simp]
        simp only[g9I,g9o,g9P,b0p]
        exact b1l
       ·rw[g9t];exact b0J
      ·have hy3w:y3[kw]? = some w2.length:=by
        rcases hy3 with⟨_,rfl,rfl⟩ | ⟨e1,g,rfl⟩
        ·rw[g9a (b0w hykw)];exact hykw
        ·rw[g9i (fun e=>hkkw (by rw[e1,e]))];exact hykw
       simp -implicitDefEqProofs only[go_sem,b0d,b0b,b0c,b0a,g8V,g8W,g8X,hy3w]
       have hkwl:=b0w hy3w
       have hk3:k3≠kw:=by
        rcases hy3 with⟨e1,e2,e3⟩ | ⟨e1,g,_⟩
        ·have:=b0w hykw;omega
        ·exact fun e=>hkkw (by rw[e1,e])
       refine⟨hwl3,((v3,z3,y3.set kw (w2.length+1)),(.arr (a.length+kw),w2++[t],out2++[t],some k3)),⟨?_,.inr ⟨kw,rfl,by simp[hkwl],fun e=>hk3 (by simpa using e)⟩,hfo,by simp;omega,by simp;omega⟩,⟨hwq,?_,b1l⟩,⟨rfl,b0s⟩,b0J,by simp,.inl ⟨by simp,by simp⟩⟩
       ·have:=hacc3.keep [] (y2:=y3.set kw (w2.length+1)) fun k' hk' g hg=>by
         have:k3=k':=by simpa using hk'
         rw[g9i (fun e=>hk3 (by omega))];exact hg
        rw[g9B]at this
        simpa[b0p]using this
       ·simp only[g9I,g9o,g9P,b0p]
        exact b1l
     ·have ha':(out2.any fun y=>decide (y=t))=true:=by cases hq:(out2.any fun y=>decide (y=t)) <;> simp_all
      have hmem:t∈out2:=by
       obtain⟨y,hy,he⟩:=g9W.1 ha'
       have:y=t:=by simpa using he
       exact this ▸ hy
      have hfs:b1o (out2,w2) t=(out2,w2):=by unfold b1o;rw[if_pos hmem]
      rw[hfs]at hfo
      exact⟨((v2,z2,y2),(o2,w2,out2,kk2)),⟨hacc2,hw2,hfo,by simp only;omega,hwl2⟩,⟨hwq,b1l,b1l⟩,⟨rfl,b0s⟩,b0J,by simp,.inl ⟨g9m _,g9m _⟩⟩
end Go.Proofs.YtighfcpaplmaiaaGreatDoor
