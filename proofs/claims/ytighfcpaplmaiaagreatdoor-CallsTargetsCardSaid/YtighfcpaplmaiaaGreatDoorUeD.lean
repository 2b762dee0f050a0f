import Derived.Test.YtighfcpaplmaiaaGreatDoorUdK
import Derived.Test.YtighfcpaplmaiaaGreatDoorUdH
import Derived.Test.YtighfcpaplmaiaaGreatDoorUaA
import Derived.ProofKit
import Derived.Deep.QuietTactic
import Derived.Test.YtighfcpaplmaiaaGreatDoorVgY
import Derived.Shelf.SlSortFuncK.WholeK
set_option linter.unusedVariables false
set_option linter.unusedSimpArgs false
set_option maxRecDepth 20000
namespace Go.Proofs.YtighfcpaplmaiaaGreatDoor
open Go Go.Vg Go.Proofs
theorem b4t(l:List Ed)(s:ByteArray):(c2V l s).Nodup∧(∀ t,t∈c2V l s↔Rch (scN (b1W l)) s t)∧∀ t∈c2V l s,t∈l.map Ed.to:=by
 have hT:∀ (x t:ByteArray),t∈scN (b1W l) x→t∈l.map Ed.to:=fun x t ht=>by
  rw[b9D]at ht
  obtain⟨e,he,rfl⟩:=h0k.1 ht
  exact h0k.2 ⟨e,(List.mem_filter.1 he).1,rfl⟩
 exact c8Z hT _ _ _ FlwI.start (by simp)
theorem d3w(l:List Ed)(s:ByteArray):(b2j (c2V l s)).length≤l.length:=by
 rw[b4C]
 have:=c5J _ (b4t l s).1 (b4t l s).2.2
 rwa [g9r]at this
theorem f3d(u:List Un)(l:List Ed)(hl:l.length≤1000000)(hG:b0u env 15 [sl 70 (u.map Un.enc)] (sl 38 (l.map Ed.enc)))(s:ByteArray) :
  b0u env 17 [sl 70 (u.map Un.enc),.str s] (sl 9 ((b2j (c2V l s)).map b0p)):=by
 refine b0i (fn:=Tryz.f17) Tryz.func17 rfl (by rw[Tryz.ntmps17];simp) (by simp -implicitDefEqProofs only[go_sem];exact b0x _) (by simp -implicitDefEqProofs only[go_sem]) ?_
 simp -implicitDefEqProofs only[go_sem,Tryz.f17]
 refine hG.calls (by simp -implicitDefEqProofs only[go_sem]) ?_
 simp -implicitDefEqProofs only[go_sem]
 refine f5A l _ _ fun z=>?_
 simp -implicitDefEqProofs only[go_sem]
 refine d2P l hl 0 0 _ _ s rfl ?_
 simp -implicitDefEqProofs only[go_sem]
def c5v(s:ByteArray)(o:List ByteArray)(t:ByteArray):List ByteArray:=if t=s∧o.getLast?≠some s then o++[s]else o
def d5T(l:List Ed)(o:List ByteArray)(s:ByteArray):List ByteArray:=(b2j (c2V l s)).foldl (c5v s) o
def d3j(u:List Un)(l:List Ed):List ByteArray:=if l=[]then []else(d3f u).foldl (d5T l) []
theorem f0H{l:List Ed}(h:l≠[]):(b1W l).length≠0:=by
 intro h0
 have:b1W l=[]:=g9C h0
 cases l with
 | nil=>exact h rfl
 | cons x r =>
  have h1:=b9D (x::r) x.fr
  rw[this]at h1
  simp[scN,b1s]at h1
theorem d1h:∀ (N:SuM) (b:Nat),(b9d b N).length=N.length
 | [],_=>rfl
 | _::r,b=>by rw[b9d,g9k,d1h r,g9k]
theorem f5R(b:Nat)(N:SuM):(b5J b N).length=N.length:=by rw[b5J,b3V,g9r,d1h]
theorem d5P{u:List Un}(hu:b2T u):(d3f u).length≤1000000:=by
 have h2:=b0L u 0 fun y hy=>(hu.2 y hy).1
 have h3:=hu.1
 have h4:=List.length_filterMap_le b6h (b0f u 0)
 rw[d3f,b4C,f3A]
 omega
theorem c9l(u:List Un)(hu:b2T u)(l:List Ed)(hl:l.length≤1000000)(hG:b0u env 15 [sl 70 (u.map Un.enc)] (sl 38 (l.map Ed.enc))) :
  b0u env 19 [sl 70 (u.map Un.enc)] (sl 9 ((d3j u l).map b0p)):=by
 refine b0i (fn:=Tryz.f19) Tryz.func19 rfl (by rw[Tryz.ntmps19];simp) (by simp -implicitDefEqProofs only[go_sem];exact b0x _) (by simp -implicitDefEqProofs only[go_sem]) ?_
 simp -implicitDefEqProofs only[go_sem,Tryz.f19]
 refine hG.calls (by simp -implicitDefEqProofs only[go_sem]) ?_
 simp -implicitDefEqProofs only[go_sem]
 refine f5A l _ _ fun z=>?_
 simp -implicitDefEqProofs only[go_sem,f5R]
 refine⟨fun h0=>?_,fun h0=>?_⟩
 ·have:l=[]:=by
   rcases Classical.em (l=[])with h | h
   ·exact h
   ·exact absurd (by omega) (f0H h)
  rw[d3j,if_pos this];rfl
 ·have hne:l≠[]:=by rintro rfl;exact h0 rfl
  have hrs:d3j u l=(d3f u).foldl (d5T l) []:=by rw[d3j,if_neg hne]
  refine(c8e u hu).calls (by simp -implicitDefEqProofs only[go_sem]) ?_
  have hcl:=d5P hu
  generalize d3f u=cs at hcl hrs
  simp -implicitDefEqProofs only[go_sem]
  intro _ _
  obtain⟨A,hA⟩:∃ A,A=(b1W l).map fun p:ByteArray×List ByteArray=>p.2.length:=⟨_,rfl⟩
  rw[←hA]
  refine b0n (β:=List ByteArray) cs (fun q o=>⟨[(19,.int .i64 q.length),(18,.int .i64 cs.length),(17,sl 9 (cs.map b0p)),(4,.slice (.arr A.length) 9 (o.map b0p)),(3,.map 0),(2,.slice .nil 0 [])],
    .map (b5J 0 (b1W l))::z,A++[o.length]⟩) (fun q r o=>r.foldl (d5T l) o=d3j u l∧o.length≤q.length * 1000001) [] ?_ ⟨hrs.symm,by simp⟩ ?_ ?_
  ·simp -implicitDefEqProofs only[go_sem]
   exact⟨⟨rfl,by omega⟩,b7q⟩
  ·rintro o ⟨he,_⟩
   have he':o=d3j u l:=he
   simp -implicitDefEqProofs only[go_sem]
   rw[he']
  ·rintro q s r o hx ⟨he,hol⟩
   have hpl:cs.length=q.length+1+r.length:=by rw[hx];simp;omega
   have hgx:(cs.map b0p).getD (q.length:Int).toNat []=b0p s:=by rw[hx];simp[g8Z]
   have hlt:((q.length:Int)<cs.length)=True:=by simp;omega
   have hw:IntKind.i64.wrap (↑q.length+1)=↑(q.length+1):=b0g (by omega)
   rw[g9G]at he
   simp -implicitDefEqProofs only[go_sem,hgx,hlt,b0p]
   refine d2P l hl 0 0 _ _ s rfl ?_
   have hfo:d5T l o s=(b2j (c2V l s)).foldl (c5v s) o:=rfl
   have hfl:(b2j (c2V l s)).length≤1000000:=h0i (d3w l s) hl
   generalize b2j (c2V l s)=ts at hfo hfl
   simp -implicitDefEqProofs only[go_sem]
   intro _ _
   refine b0n (β:=List ByteArray) ts (fun p o=>⟨[(27,.int .i64 p.length),(26,.int .i64 ts.length),(25,sl 9 (ts.map b0p)),(6,.str s),(19,.int .i64 q.length),(18,.int .i64 cs.length),(17,sl 9 (cs.map b0p)),(4,.slice (.arr A.length) 9 (o.map b0p)),(3,.map 0),(2,.slice .nil 0 [])],
    .map (b5J 0 (b1W l))::z,A++[o.length]⟩) (fun p r o'=>r.foldl (c5v s) o'=d5T l o s∧o'.length≤o.length+p.length) o ?_ ⟨hfo.symm,by simp⟩ ?_ ?_
   ·simp -implicitDefEqProofs only[go_sem]
    rfl
   ·rintro o2 ⟨he2,hol2⟩
    have he2':o2=d5T l o s:=he2
    simp -implicitDefEqProofs only[go_sem]
    exact⟨o2,⟨by rw[he2'];exact he,by rw[g9R];omega⟩,⟨hw,rfl⟩,b0J⟩
   ·rintro p t r2 o2 hx2 ⟨he2,hol2⟩
    have hpl2:ts.length=p.length+1+r2.length:=by rw[hx2];simp;omega
    have hgx2:(ts.map b0p).getD (p.length:Int).toNat []=b0p t:=by rw[hx2];simp[g8Z]
    have hlt2:((p.length:Int)<ts.length)=True:=by simp;omega
    have hw2:IntKind.i64.wrap (↑p.length+1)=↑(p.length+1):=b0g (by omega)
    rw[g9G]at he2
    have hAl:(A++[o2.length])[A.length]? = some o2.length:=by simp
    have hAs:(A++[o2.length]).set A.length (o2.length+1)=A++[o2.length+1]:=by simp
    simp -implicitDefEqProofs only[go_sem,hgx2,hlt2,b0p]
    refine⟨fun hts=>fun _ _=>⟨fun hne _ _=>?_,fun h0=>⟨by rw[g9R]at *;omega,hAl,?_⟩⟩,fun hts=>?_⟩
    ·obtain⟨n,hn⟩:∃ n,o2.length=n+1:=⟨o2.length - 1,by omega⟩
     have hwm:IntKind.i64.wrap ((o2.length:Int) - 1)=(n:Int):=by rw[b1H (by omega) (by omega)];omega
     have hgn:o2[n]? = some o2[n]:=g9b (by omega)
     have hlast:o2.getLast? = o2[n]?:=by rw[List.getLast?_eq_getElem?,hn];rfl
     generalize o2[n]=y at hgn
     have hgy:(o2.map b0p).getD (n:Int).toNat []=b0p y:=by simp[g8Z,hgn]
     have hnl:((n:Int)<o2.length)=True:=by simp;omega
     have hn0:(0≤(n:Int))=True:=by simp
     rw[hwm]
     simp -implicitDefEqProofs only[go_sem,hgy,hnl,hn0,b0p]
     refine⟨fun hy=>⟨by rw[g9R]at *;omega,hAl,?_⟩,fun hy=>?_⟩
     ·have hy':¬ y=s:=by simpa using hy
      have hrI:c5v s o2 t=o2++[s]:=by unfold c5v;rw[if_pos ⟨hts,by rw[hlast,hgn];simpa using hy'⟩]
      rw[hrI]at he2
      rw[hAs]
      exact⟨o2++[s],⟨he2,by simp;omega⟩,⟨hw2,by simp[b0p]⟩,by simp[b0J]⟩
     ·have hy':y=s:=by simpa using hy
      have hrI:c5v s o2 t=o2:=by unfold c5v;rw[if_neg (fun h=>h.2 (by rw[hlast,hgn,hy']))]
      rw[hrI]at he2
      exact⟨o2,⟨he2,by omega⟩,⟨hw2,rfl⟩,b0J⟩
    ·have hnil:o2=[]:=g9C (by omega)
     have hrI:c5v s o2 t=o2++[s]:=by unfold c5v;rw[if_pos ⟨hts,by rw[hnil];simp⟩]
     rw[hrI]at he2
     rw[hAs]
     exact⟨o2++[s],⟨he2,by simp;omega⟩,⟨hw2,by simp[b0p]⟩,by simp[b0J]⟩
    ·have hrI:c5v s o2 t=o2:=by unfold c5v;rw[if_neg (fun h=>hts h.1)]
     rw[hrI]at he2
     exact⟨o2,⟨he2,by omega⟩,⟨hw2,rfl⟩,b0J⟩
end Go.Proofs.YtighfcpaplmaiaaGreatDoor
namespace Go.Vg
theorem b8Q{q:Nat→Bool}:∀ (n i:Nat),b2f q n i=none→∀ j,j<n→q (i+j)=false
 | 0,_,_,j,h=>by omega
 | n+1,i,h,j,hj=>by
  rw[b2f]at h
  split at h
  ·cases h
  ·rename_i h0
   cases j with
   | zero=>simpa using h0
   | succ j =>
    have:=b8Q n (i+1) h j (by omega)
    rwa [show i+(j+1)=i+1+j by omega]
theorem b4f{p:Nat→Nat→Bool}:∀ (tb:List (List Rw)) (n:Nat),b0P p tb n=none→∀ (un i:Nat) (l:List Rw),tb[un]? = some l→i<l.length→p (n+un) i=false
 | [],_,_,un,i,l,h,_=>by simp at h
 | t::r,n,h0,un,i,l,h,hi=>by
  rw[b0P]at h0
  split at h0
  ·cases h0
  ·rename_i h1
   cases un with
   | zero =>
    simp at h
    subst h
    have:=b8Q _ 0 h1 i hi
    simpa using this
   | succ un =>
    rw[g8V]at h
    have:=b4f r (n+1) h0 un i l h hi
    rwa [show n+(un+1)=n+1+un by omega]
theorem d9i{y:Nd}(h:y.node=0)(hk:y.kind=2∨y.kind=4∨y.kind=5∨y.kind=7∨y.kind=22):b0I y.text=true:=by
 unfold Nd.node at h
 have h17:y.kind≠17:=by omega
 have hn:b2n y.kind y.text=true:=by
  unfold b2n
  rw[if_neg (by omega)]
  simp only[g9h]
  omega
 split at h
 ·cases h
 ·split at h
  ·cases h
  ·rename_i hv
   simp only[h17,decide_false,g9Q,Bool.not_false,g9O,g9U,hn,Bool.not_eq_true,Bool.not_eq_false']at hv
   exact hv
theorem c6n{l:List Rw}(hg:gramL l):∀ (f i:Nat),i<l.length→b1T l f i=true→b4d l f i≠⟨#[]⟩
 | 0,_,_,h=>by cases h
 | f+1,i,hi,h=>by
  rw[b1T,g9g,g9h,List.all_eq_true]at h
  obtain⟨hk,ha⟩:=h
  rw[b4d]
  by_cases h26:(b0j l i).kind=26
  ·rw[if_pos h26]
   have hle:=hg.least i hi
   rw[h26]at hle
   have hk1:0<(b0j l i).kids.length:=by simp[b0U]at hle;omega
   have hkd:=hg.kid i hi 0 hk1
   exact c6n hg f _ hkd.2.1 (ha _ (g9f (b3Y hk1)))
  ·rw[if_neg h26]
   split
   ·decide
   split
   ·decide
   split
   ·unfold opT;split <;> decide
   ·omega
end Go.Vg
namespace Go.Proofs.YtighfcpaplmaiaaGreatDoor
open Go Go.Vg Go.Proofs
structure ChkF(u:List Un):Prop where
 cls:(b3p u (b0f u 0)).1=0
 nm:b0P (nmP u) (b0e u) 0=none
 dbl:(b8c (b0e u) (b0f u 0)).2=[]
 unb:b6s (b4o u)=[]
 wr:b0P (wrP u) (b0e u) 0=none
 mi:b0P (miP u) (b0e u) 0=none
theorem b9l{u:List Un}(h:(b5g u).1=0):ChkF u:=by
 unfold b5g at h
 split at h
 ·cases h
 unfold d8A at h
 split at h
 ·rename_i h1
  exact absurd h h1
 rename_i h1
 split at h
 ·cases h
 rename_i h2
 unfold f1g at h
 split at h
 ·cases h
 rename_i h3
 split at h
 ·cases h
 rename_i h4
 unfold f8i at h
 split at h
 ·cases h
 rename_i h5
 split at h
 ·cases h
 rename_i h6
 exact⟨by simpa using h1,h2,h3,h4,h5,h6⟩
theorem ChkF.wrong{u:List Un}(h:ChkF u){un i:Nat}{l:List Rw}(hl:(b0e u)[un]? = some l)(hi:i<l.length):wrS u un l i=false:=by
 have:=b4f _ 0 h.wr un i l hl hi
 rw[g9s]at this
 rwa [wrP,b7k hl]at this
theorem ChkF.placed{u:List Un}(h:ChkF u){un i:Nat}{l:List Rw}(hl:(b0e u)[un]? = some l)(hi:i<l.length):c9Q u un l i=false:=by
 have:=b4f _ 0 h.mi un i l hl hi
 rw[g9s]at this
 rwa [miP,b7k hl]at this
theorem ChkF.const{u:List Un}(h:ChkF u){un:Nat}{l:List Rw}(hl:(b0e u)[un]? = some l):∀ i<l.length,(b0j l i).kind=9→∃ f,b1T l f (b1d l i 0)=true:=fun i hi hk=>by
 have:=h.placed hl hi
 rw[c9Q,if_neg (by omega),if_pos hk]at this
 exact⟨l.length,by simpa using this⟩
theorem b5D{M:List Dl}:∀ (tb:List (List Rw)) (n un i:Nat) (l:List Rw),tb[un]? = some l→i<l.length→(b6I (b0j l i).kind (b0j l i).text).2=true→(⟨n+un,i,c2T l M (n+un) i (b6I (b0j l i).kind (b0j l i).text).1⟩:Us)∈b2J M tb n
 | [],n,un,i,l,h,_,_=>by simp at h
 | t::r,n,un,i,l,h,hi,hu=>by
  rw[b2J]
  cases un with
  | zero =>
   simp at h
   subst h
   refine g9Z _ (List.mem_flatMap.2 ⟨i,by simpa using hi,?_⟩)
   unfold b5r
   rw[if_pos hu]
   exact g9N.2 rfl
  | succ un =>
   rw[g8V]at h
   have:=b5D (M:=M) r (n+1) un i l h hi hu
   rw[show n+1+un=n+(un+1)by omega]at this
   exact h0f _ this
theorem ChkF.bound{u:List Un}(h:ChkF u){un i:Nat}{l:List Rw}(hl:(b0e u)[un]? = some l)(hi:i<l.length)(hk:(b6I (b0j l i).kind (b0j l i).text).2=true):(c2T l (b1Y (b0f u 0)) un i (b6I (b0j l i).kind (b0j l i).text).1).isSome=true:=by
 have hm:=b5D (M:=b1Y (b0f u 0)) (b0e u) 0 un i l hl hi hk
 rw[g9s]at hm
 cases hr:(c2T l (b1Y (b0f u 0)) un i (b6I (b0j l i).kind (b0j l i).text).1)with
 | some d=>rfl
 | none =>
  rw[hr]at hm
  have:(⟨un,i,none⟩:Us)∈b6s (b4o u):=List.mem_filter.2 ⟨hm,rfl⟩
  rw[h.unb]at this
  cases this
theorem c8b{B:List (ByteArray×ByteArray)}{M:List Dl}{c n:ByteArray}{d:Dl}(h:c2z B M c n=some d):d∈M∧(d.owner=c∨d.owner∈(b3D B c).1)∧d.name=n:=by
 unfold c2z at h
 obtain⟨s,hs,hf⟩:=List.exists_of_findSome?_eq_some h
 have h1:=List.find?_some hf
 simp only[g9g,g9h]at h1
 refine⟨g9V hf,?_,h1.2.symm⟩
 rw[←h1.1]
 exact g9y.1 hs
theorem b7S{u:List Un}{c n:ByteArray}{d:Dl}(h:b1D u c n=some d):d∈b0f u 0∧d.kind=4∧(d.owner=c∨d.owner∈(b3D (b0D (btU u) (b0f u 0)) c).1)∧d.name=n:=by
 obtain⟨h1,h2,h3⟩:=c8b h
 obtain⟨h4,h5⟩:=b4A h
 exact⟨h4,h5,h2,h3⟩
theorem b6B{u:List Un}(h:SndU u){un i:Nat}{l:List Rw}(hl:(b0e u)[un]? = some l)(hi:i<l.length)(hk:(b0j l i).kind=2∨(b0j l i).kind=4∨(b0j l i).kind=5∨(b0j l i).kind=7∨(b0j l i).kind=22):(b0j l i).text≠⟨#[]⟩:=by
 obtain⟨x,hx,rfl⟩:=b2R h.br hl
 have hs:=h.snd x (g9f hx)
 obtain⟨k,t,g,ks,e1,e2,e3,e4⟩:=b1L hi
 have hck:b3K x.tree=0:=by simp[b1q]at hs;exact hs.2
 unfold b3K at hck
 split at hck
 ·cases hck
 rw[e3]
 rw[e2]at hk
 exact c6p (d9i (y := .mk k t g ks) (b6G _ hck _ (g9f e1)) hk)
theorem b9k{k:Int×Int}:∀ (us:List Us) (M:List ((Int×Int)×(Int×Int))),(∃ x∈us,k=((x.un:Int),(x.nd:Int))∧x.to.isSome=true)∨(b1s M k).isSome=true→(b1s (us.foldl d6l M) k).isSome=true
 | [],M,h=>by
  rcases h with⟨x,hx,_⟩ | h
  ·cases hx
  ·exact h
 | x::r,M,h=>by
  rw[g9G]
  refine b9k r _ ?_
  have keep:(b1s M k).isSome=true→(b1s (d6l M x) k).isSome=true:=fun h=>by
   unfold d6l
   split
   ·rw[b7B]
    split
    ·rfl
    ·exact h
   ·exact h
  rcases h with⟨y,hy,hk,ht⟩ | h
  ·rcases g9y.1 hy with rfl | hy
   ·obtain⟨d,hd⟩:=g9E.1 ht
    right
    unfold d6l
    rw[hd]
    simp only
    rw[b7B,if_pos hk];rfl
   ·exact .inl ⟨y,hy,hk,ht⟩
  ·exact .inr (keep h)
theorem ChkF.dcl{u:List Un}(h:ChkF u){un i:Nat}{l:List Rw}(hl:(b0e u)[un]? = some l)(hi:i<l.length)(hk:(b6I (b0j l i).kind (b0j l i).text).2=true):∃ d,b1s (b2q u) ((un:Int),(i:Int))=some d:=by
 have hm:=b5D (M:=b1Y (b0f u 0)) (b0e u) 0 un i l hl hi hk
 rw[g9s]at hm
 exact g9E.1 (b9k _ _ (.inl ⟨_,hm,rfl,h.bound hl hi hk⟩))
theorem b9M{u:List Un}(h:SndU u){un i:Nat}{l:List Rw}(hl:(b0e u)[un]? = some l)(hi:i<l.length)(hk:(b0j l i).kind=2):(b2O l i).result≠⟨#[]⟩:=by
 have hg:=h.gram l (g9f hl)
 have hle:=hg.least i hi
 rw[hk]at hle
 have hk1:1<(b0j l i).kids.length:=by simp[b0U]at hle;omega
 have hkd:=hg.kid i hi 1 hk1
 have hf:=hg.fit i hi 1 hk1
 rw[hk]at hf
 simp[b3P]at hf
 exact b6B h hl hkd.2.1 (.inr (.inr (.inl hf)))
theorem g3a{u:List Un}(h:SndU u){c n:ByteArray}{s:Sg}(hs:mtS u (c,n)=some s):s.result≠⟨#[]⟩:=by
 unfold mtS at hs
 obtain⟨d,hd,rfl⟩:=g9l.1 hs
 obtain⟨h1,h2⟩:=b4A hd
 obtain⟨un,nd,l,q1,q2,q3,q4,q5,q6⟩:=h.decl h1
 rw[q1,q2,b5v q3,g9j]
 exact b9M h q3 q4 (by omega)
theorem f9n{u:List Un}(hu:b2T u)(h0:(b5g u).1=0){un i:Nat}{l:List Rw}(hl:(b0e u)[un]? = some l)(hi:i<l.length)(hg3:17≤(b0j l i).kind):tyS u ((un:Int),(i:Int))≠⟨#[]⟩:=by
 have hS:=b4X hu h0
 have hT:=hS.ckT
 have hC:=b9l h0
 obtain⟨μ,hμ⟩:=hT.mu
 have key:∀ (n un i:Nat) (l:List Rw),μ ((un:Int),(i:Int))<n→(b0e u)[un]? = some l→i<l.length→17≤(b0j l i).kind→tyS u ((un:Int),(i:Int))≠⟨#[]⟩:=by
  intro n
  induction n with
  | zero=>intro _ _ _ h;omega
  | succ n ih =>
   intro un i l hn hl hi hk
   have hV:Val (b0e u) ((un:Int),(i:Int)):=⟨un,i,l,rfl,hl,hi⟩
   have hg:=hS.gram l (g9f hl)
   obtain⟨r1,r2⟩:=hg.rng i hi
   have ihq:∀ q,tgt (b0e u) (b2q u) ((un:Int),(i:Int)) q→17≤(rwK (b0e u) q).kind→tyS u q≠⟨#[]⟩:=fun q hq h17=>by
    obtain⟨⟨un',i',l',rfl,g1,g2⟩,g3,g4⟩:=(hμ _ hV).2 q hq
    rw[b0T g1]at h17
    exact ih un' i' l' (by omega) g1 g2 h17
   have kid3:∀ {p:Nat},p<l.length→((b0j l p).kind=10∨(b0j l p).kind=21∨(b0j l p).kind=26)→b1d l p 0<l.length∧17≤(b0j l (b1d l p 0)).kind:=fun {p} hp hk=>by
    have hle:=hg.least p hp
    have hk1:0<(b0j l p).kids.length:=by
     rcases hk with hk | hk | hk <;> (rw[hk]at hle;simp[b0U]at hle;omega)
    have hkd:=hg.kid p hp 0 hk1
    have hf:=hg.fit p hp 0 hk1
    refine⟨hkd.2.1,?_⟩
    have g3:∀ k:Int,b1C k=3→17≤k:=fun k h=>by
     unfold b1C at h
     repeat' split at h
     all_goals omega
    rcases hk with hk | hk | hk <;> (rw[hk]at hf;simp[b3P]at hf;exact g3 _ hf)
   rw[d2u hT hV]
   unfold tyB
   rw[b0T hl,b3y hl,b5v hl,g9j]
   by_cases h17:(b0j l i).kind=17
   ·rw[if_pos h17];decide
   rw[if_neg h17]
   by_cases h18:(b0j l i).kind=18
   ·rw[if_pos h18];decide
   rw[if_neg h18]
   by_cases h19:(b0j l i).kind=19
   ·rw[if_pos h19]
    obtain⟨d,hd⟩:=hC.dcl hl hi (by rw[c6K (.inl h19)])
    rw[hd]
    simp only
    obtain⟨⟨un',i',l',rfl,g1,g2⟩,g3⟩:=hT.d19 _ _ hV (by rw[b0T hl];exact .inl h19) hd
    have hg':=hS.gram l' (g9f g1)
    rw[b0T g1]at g3
    unfold c9r
    rw[b0T g1,b3y g1,b0T g1,b5v g1,g9j]
    have hle:=hg'.least i' g2
    have hk1:0<(b0j l' i').kids.length:=by
     rcases g3 with hk | hk | hk <;> (rw[hk]at hle;simp[b0U]at hle;omega)
    have hkd:=hg'.kid i' g2 0 hk1
    have hf:=hg'.fit i' g2 0 hk1
    rcases g3 with g3 | g3 | g3
    ·rw[if_pos g3]
     rw[g3]at hf
     simp[b3P]at hf
     exact b6B hS g1 hkd.2.1 (.inr (.inr (.inl hf)))
    ·rw[if_neg (by omega),if_neg (by omega),if_pos g3]
     have hp:=hC.placed g1 g2
     rw[c9Q,if_neg (by omega),if_pos g3]at hp
     exact c6n hg' _ _ hkd.2.1 (by simpa using hp)
    ·rw[if_neg (by omega),if_pos g3]
     refine ihq _ (.inr ⟨by rw[b0T hl];exact h19,_,hd,by rw[b0T g1];exact g3,(b3y g1).symm⟩) ?_
     rw[b0T g1]
     rw[g3]at hf
     simp[b3P,b1C]at hf
     omega
   rw[if_neg h19]
   by_cases h20:(b0j l i).kind=20
   ·rw[if_pos h20]
    obtain⟨d,hd⟩:=hC.dcl hl hi (by rw[h20,d1E])
    rw[hd]
    simp only
    obtain⟨⟨un',i',l',rfl,g1,g2⟩,g3,_⟩:=hS.fnc hl h20 hd
    rw[b0T g1]at g3
    rw[b5v g1,g9j]
    exact b9M hS g1 g2 g3
   rw[if_neg h20]
   by_cases h21:(b0j l i).kind=21
   ·rw[if_pos h21]
    obtain⟨k1,k2⟩:=kid3 hi (.inr (.inl h21))
    have hne:=ihq _ (.inl ⟨by rw[b0T hl];exact .inl h21,(b3y hl).symm⟩) (by rw[b0T hl];exact k2)
    have hw:=hC.wrong hl hi
    unfold wrS at hw
    simp only at hw
    rw[if_neg (by omega),if_neg (by omega),if_neg (by omega),if_neg (by omega),if_neg (by omega),if_pos h21,if_neg hne]at hw
    cases hm:mtS u (rcT (tyS u ((un:Int),((b1d l i 0:Nat):Int))),(b0j l i).text)with
    | none=>rw[hm]at hw;cases hw
    | some s=>exact g3a hS hm
   rw[if_neg h21]
   by_cases h22:(b0j l i).kind=22
   ·rw[if_pos h22]
    exact b6B hS hl hi (.inr (.inr (.inr (.inr h22))))
   rw[if_neg h22]
   by_cases h23:(b0j l i).kind=23
   ·rw[if_pos h23]
    have hp:=hC.placed hl hi
    rw[c9Q,if_pos h23]at hp
    cases hf:b8I l i with
    | none=>rw[hf]at hp;cases hp
    | some p=>rw[hf]at hp;simpa using hp
   rw[if_neg h23]
   by_cases h24:(b0j l i).kind=24∨(b0j l i).kind=25
   ·rw[if_pos h24];unfold opT;split <;> decide
   rw[if_neg h24]
   have h26:(b0j l i).kind=26:=by omega
   rw[if_pos h26]
   obtain⟨k1,k2⟩:=kid3 hi (.inr (.inr h26))
   exact ihq _ (.inl ⟨by rw[b0T hl];exact .inr h26,(b3y hl).symm⟩) (by rw[b0T hl];exact k2)
 exact key _ un i l (Nat.lt_succ_self _) hl hi hg3
open Go Go.Vg Go.Proofs Go.RowKit
instance:Inhabited Ed:=⟨⟨⟨#[]⟩,⟨#[]⟩⟩⟩
structure Hid(p:Prop):Prop where
 h:p
structure Wq(P:Program)(ops:Array Oper)(C:World→Prop)(Q:Act→Prop)(l:List Oper)(a:Act):Prop where
 h:wpQuiet P ops C Q l a
theorem Wq.nil{P:Program}{ops:Array Oper}{C:World→Prop}{Q:Act→Prop}{a:Act}(h:Q a):Wq P ops C Q [] a:=⟨wpQuiet_nil h⟩
theorem Wq.skip{P:Program}{ops:Array Oper}{C:World→Prop}{Q:Act→Prop}{o:Oper}{rest:List Oper}{a:Act}(hw:Region.wanted o (yielded ops a.tmps)=false)(h:∀ K:Act→Prop,(∀ a,Wq P ops C Q rest a→K a)→K (a.put o.dst undef)):Wq P ops C Q (o::rest) a :=
 ⟨wpQuiet_step fun K hK=>by rw[if_neg (by rw[hw];simp)];exact h K fun a ha=>hK a ha.h⟩
theorem Wq.take{P:Program}{ops:Array Oper}{C:World→Prop}{Q:Act→Prop}{o:Oper}{rest:List Oper}{a:Act}(hw:Region.wanted o (yielded ops a.tmps)=true)(h:∀ K:Act→Prop,(∀ a,Wq P ops C Q rest a→K a)→o.quiet P a C K):Wq P ops C Q (o::rest) a :=
 ⟨wpQuiet_step fun K hK=>by rw[if_pos hw];exact h K fun a ha=>hK a ha.h⟩
set_option maxHeartbeats 2000000 in
theorem f5E(blk off c Bs size:Nat)(W:World)(g:Nat→Ed)(hs:W.cell? ⟨Bs,0,none⟩=some (.slice (some ⟨blk,off,none⟩) size c))
    (i j:Nat) (hi:i<size) (hj:j<size) (_hsz:size<4611686018427387904)
    (ci:W.cell? ⟨blk,off+i * 2,none⟩=some (.string (g i).fr)) (cj:W.cell? ⟨blk,off+j * 2,none⟩=some (.string (g j).fr))
    (ci':W.cell? ⟨blk,off+i * 2+1,none⟩=some (.string (g i).to)) (cj':W.cell? ⟨blk,off+j * 2+1,none⟩=some (.string (g j).to))
    (hb:Hid (Op.bytesLess (g i).fr.toList (g j).fr.toList=true)) :
    Calls Tryz.prog 44 #[.int .i64 i,.int .i64 j,.pointer (some ⟨Bs,0,none⟩)] W fun e w'=>e = .returned (.bool true)∧∃ q,w'=W.drewN q:=by
  go_enter Tryz.func44,Tryz.ntmps44
  go_wp2
  refine wp_region_quiet_lit (by kernel_rfl) (by kernel_rfl) ?_
  refine Wq.h ?_
  iterate 12
    (refine Wq.take rfl (fun K hK=>?_)
     go_simp
     refine hK _ ?_
     clear hK K)
  iterate 12
    (refine Wq.skip ?_ (fun K hK=>?_)
     · go_simp
       exact hb.h
     go_simp
     refine hK _ ?_
     clear hK K)
  iterate 11
    (refine Wq.skip rfl (fun K hK=>?_)
     go_simp
     refine hK _ ?_
     clear hK K)
  iterate 1
    (refine Wq.skip ?_ (fun K hK=>?_)
     · go_simp
       exact hb.h
     go_simp
     refine hK _ ?_
     clear hK K)
  iterate 2
    (refine Wq.take rfl (fun K hK=>?_)
     go_simp
     refine hK _ ?_
     clear hK K)
  refine Wq.nil ?_
  intro _ hw'
  obtain⟨nq,hw''⟩:=hw'
  subst hw''
  simp only[hb.h,if_true]
  go_wp2
  go_ret
  exact⟨rfl,nq,rfl⟩
set_option maxHeartbeats 2000000 in
theorem f3M(blk off c Bs size:Nat)(W:World)(g:Nat→Ed)(hs:W.cell? ⟨Bs,0,none⟩=some (.slice (some ⟨blk,off,none⟩) size c))
    (i j:Nat) (hi:i<size) (hj:j<size) (_hsz:size<4611686018427387904)
    (ci:W.cell? ⟨blk,off+i * 2,none⟩=some (.string (g i).fr)) (cj:W.cell? ⟨blk,off+j * 2,none⟩=some (.string (g j).fr))
    (ci':W.cell? ⟨blk,off+i * 2+1,none⟩=some (.string (g i).to)) (cj':W.cell? ⟨blk,off+j * 2+1,none⟩=some (.string (g j).to))
    (hb:Hid (Op.bytesLess (g i).fr.toList (g j).fr.toList=false)) (hb2:Hid (¬ (g i).fr.toList=(g j).fr.toList)) :
    Calls Tryz.prog 44 #[.int .i64 i,.int .i64 j,.pointer (some ⟨Bs,0,none⟩)] W fun e w'=>e = .returned (.bool false)∧∃ q,w'=W.drewN q:=by
  go_enter Tryz.func44,Tryz.ntmps44
  go_wp2
  refine wp_region_quiet_lit (by kernel_rfl) (by kernel_rfl) ?_
  refine Wq.h ?_
  iterate 12
    (refine Wq.take rfl (fun K hK=>?_)
     go_simp
     refine hK _ ?_
     clear hK K)
  iterate 12
    (refine Wq.take ?_ (fun K hK=>?_)
     · go_simp
       exact hb.h
     go_simp
     refine hK _ ?_
     clear hK K)
  iterate 11
    (refine Wq.skip ?_ (fun K hK=>?_)
     · go_simp
       exact hb2.h
     go_simp
     refine hK _ ?_
     clear hK K)
  iterate 1
    (refine Wq.take ?_ (fun K hK=>?_)
     · go_simp
       exact hb.h
     go_simp
     refine hK _ ?_
     clear hK K)
  iterate 2
    (refine Wq.take rfl (fun K hK=>?_)
     go_simp
     refine hK _ ?_
     clear hK K)
  refine Wq.nil ?_
  intro _ hw'
  obtain⟨nq,hw''⟩:=hw'
  subst hw''
  simp only[hb.h,eq_false hb2.h,g9n,if_false,if_true,decide_false]
  go_wp2
  go_ret
  exact⟨rfl,nq,rfl⟩
set_option maxHeartbeats 2000000 in
theorem f4N(blk off c Bs size:Nat)(W:World)(g:Nat→Ed)(hs:W.cell? ⟨Bs,0,none⟩=some (.slice (some ⟨blk,off,none⟩) size c))
    (i j:Nat) (hi:i<size) (hj:j<size) (_hsz:size<4611686018427387904)
    (ci:W.cell? ⟨blk,off+i * 2,none⟩=some (.string (g i).fr)) (cj:W.cell? ⟨blk,off+j * 2,none⟩=some (.string (g j).fr))
    (ci':W.cell? ⟨blk,off+i * 2+1,none⟩=some (.string (g i).to)) (cj':W.cell? ⟨blk,off+j * 2+1,none⟩=some (.string (g j).to))
    (hb:Hid (Op.bytesLess (g i).fr.toList (g j).fr.toList=false)) (hb2:Hid ((g i).fr.toList=(g j).fr.toList)) :
    Calls Tryz.prog 44 #[.int .i64 i,.int .i64 j,.pointer (some ⟨Bs,0,none⟩)] W fun e w'=>e = .returned (.bool (Op.bytesLess (g i).to.toList (g j).to.toList))∧∃ q,w'=W.drewN q:=by
  go_enter Tryz.func44,Tryz.ntmps44
  go_wp2
  refine wp_region_quiet_lit (by kernel_rfl) (by kernel_rfl) ?_
  refine Wq.h ?_
  iterate 12
    (refine Wq.take rfl (fun K hK=>?_)
     go_simp
     refine hK _ ?_
     clear hK K)
  iterate 12
    (refine Wq.take ?_ (fun K hK=>?_)
     · go_simp
       exact hb.h
     go_simp
     refine hK _ ?_
     clear hK K)
  iterate 11
    (refine Wq.take ?_ (fun K hK=>?_)
     · go_simp
       exact hb2.h
     go_simp
     refine hK _ ?_
     clear hK K)
  iterate 1
    (refine Wq.take ?_ (fun K hK=>?_)
     · go_simp
       exact hb.h
     go_simp
     refine hK _ ?_
     clear hK K)
  iterate 2
    (refine Wq.take rfl (fun K hK=>?_)
     go_simp
     refine hK _ ?_
     clear hK K)
  refine Wq.nil ?_
  intro _ hw'
  obtain⟨nq,hw''⟩:=hw'
  subst hw''
  have hbe:((g i).fr.toList == (g j).fr.toList)=true:=beq_iff_eq.2 hb2.h
  simp only[hb.h,hbe,g9U,g9O]
  go_wp2
  go_ret
  exact⟨rfl,nq,rfl⟩
def b5y(a b:Ed):Bool:=ltB a.fr b.fr || (decide (a.fr=b.fr) && ltB a.to b.to)
theorem g1r(blk off c Bs size:Nat)(W:World)(g:Nat→Ed)(hs:W.cell? ⟨Bs,0,none⟩=some (.slice (some ⟨blk,off,none⟩) size c))
  (hc:∀ t,t<size→W.cell? ⟨blk,off+t * 2,none⟩=some (.string (g t).fr)∧W.cell? ⟨blk,off+t * 2+1,none⟩=some (.string (g t).to)) (i j:Nat) (hi:i<size) (hj:j<size) (hsz:size<4611686018427387904) :
  Calls Tryz.prog 44 #[.int .i64 i,.int .i64 j,.pointer (some ⟨Bs,0,none⟩)] W fun e w'=>e = .returned (.bool (b5y (g i) (g j)))∧∃ q,w'=W.drewN q:=by
 obtain⟨ci,ci'⟩:=hc i hi
 obtain⟨cj,cj'⟩:=hc j hj
 cases h1:Op.bytesLess (g i).fr.toList (g j).fr.toList with
 | true =>
  have e:b5y (g i) (g j)=true:=by unfold b5y ltB;rw[h1];rfl
  rw[e]
  exact f5E blk off c Bs size W g hs i j hi hj hsz ci cj ci' cj' ⟨h1⟩
 | false =>
  by_cases h2:(g i).fr.toList=(g j).fr.toList
  ·have e:b5y (g i) (g j)=Op.bytesLess (g i).to.toList (g j).to.toList:=by unfold b5y ltB;rw[h1,g9D (c0D h2)];rfl
   rw[e]
   exact f4N blk off c Bs size W g hs i j hi hj hsz ci cj ci' cj' ⟨h1⟩ ⟨h2⟩
  ·have e:b5y (g i) (g j)=false:=by unfold b5y ltB;rw[h1,g9v fun h=>h2 (by rw[h])];rfl
   rw[e]
   exact f3M blk off c Bs size W g hs i j hi hj hsz ci cj ci' cj' ⟨h1⟩ ⟨h2⟩
open Go Go.Vg Go.Proofs Go.Shelf Go.RowKit Go.Sort
theorem d4a{a b:Ed}:b5y a b=true↔ltB a.fr b.fr=true∨(a.fr=b.fr∧ltB a.to b.to=true):=by simp[b5y]
theorem c5u(a:Ed):b5y a a=false:=by simp[b5y,b6b]
theorem c0K{a b c:Ed}(h1:b5y a b=true)(h2:b5y b c=true):b5y a c=true:=by
 rw[d4a]at h1 h2 ⊢
 rcases h1 with h1 | ⟨e1,h1⟩ <;> rcases h2 with h2 | ⟨e2,h2⟩
 ·exact .inl (b7c h1 h2)
 ·exact .inl (e2 ▸ h1)
 ·exact .inl (e1 ▸ h2)
 ·exact .inr ⟨e1.trans e2,b7c h1 h2⟩
theorem c6O{a b:Ed}(h1:b5y a b=false)(h2:b5y b a=false):a=b:=by
 simp only[b5y,h0w,Bool.and_eq_false_iff,h0l]at h1 h2
 have e1:=b9b h1.1 h2.1
 have e2:a.to=b.to:=by
  refine b9b ?_ ?_
  ·rcases h1.2 with h | h
   ·exact absurd e1 h
   ·exact h
  ·rcases h2.2 with h | h
   ·exact absurd e1.symm h
   ·exact h
 obtain⟨a1,a2⟩:=a
 obtain⟨b1,b2⟩:=b
 simp only at e1 e2
 rw[e1,e2]
theorem c5L{a b c:Ed}(h1:b5y a b=false)(h2:b5y b c=false):b5y a c=false:=by
 cases h:b5y a c with
 | false=>rfl
 | true =>
  cases hb:b5y b a with
  | true=>have:=c0K hb h;rw[h2]at this;cases this
  | false =>
   have e:=c6O h1 hb
   subst e
   rw[h2]at h;cases h
theorem d3s:SWO b5y:=⟨fun _=>c5u _,fun _ _ _ h1 h2=>c0K h1 h2,fun _ _ _ h1 h2=>c5L h1 h2⟩
def b4i(c:Ed):List Value:=[.string c.fr,.string c.to]
def b2I(l:List Ed):List Ed:=l.mergeSort fun a b => !b5y b a
theorem b3e(l:List Ed):(b2I l).Perm l:=List.mergeSort_perm l _
theorem b9U(l:List Ed):(b2I l).Pairwise fun a b=>b5y b a=false:=by
 have:=List.pairwise_mergeSort (le:=fun a b => !b5y b a) (fun a b c h1 h2=>by
  simp only[Bool.not_eq_true']at h1 h2 ⊢
  exact d3s.ntrans _ _ _ h2 h1) (fun a b=>by
  show(!b5y b a || !b5y a b)=true
  cases h1:b5y b a with
  | false=>rfl
  | true =>
   cases h2:b5y a b with
   | false=>rfl
   | true=>have:=d3s.trans _ _ _ h1 h2;rw[d3s.irrefl]at this;cases this) l
 exact this.imp fun h=>by simpa using h
theorem d6y:∀ {l1 l2:List Ed},l1.Perm l2→(l1.Pairwise fun a b=>b5y b a=false)→(l2.Pairwise fun a b=>b5y b a=false)→l1=l2:=by
 intro l1
 induction l1 with
 | nil=>intro l2 h _ _;exact(h.symm.eq_nil).symm
 | cons a r ih =>
  intro l2 h h1 h2
  cases l2 with
  | nil=>exact absurd h.eq_nil (by simp)
  | cons b s =>
   have hab:a=b:=by
    have ha:a∈b::s:=h.mem_iff.1 (by simp)
    have hb:b∈a::r:=h.mem_iff.2 (by simp)
    rcases g9y.1 ha with e | ha
    ·exact e
    ·rcases g9y.1 hb with e | hb
     ·exact e.symm
     ·have x1:=(h0s.1 h1).1 b hb
      have x2:=(h0s.1 h2).1 a ha
      exact c6O x2 x1
   subst hab
   rw[ih (List.perm_cons a |>.1 h) (h0s.1 h1).2 (h0s.1 h2).2]
theorem c2g{l:List Ed}{j:Nat}(hj:j<l.length * 2):∃ c x v,l[j / 2]? = some c∧c.enc[j % 2]? = some x∧((l.map Ed.enc).flatten)[j]? = some x∧(b4i c)[j % 2]? = some v∧∀ (P:Program) (G:Gh) (a:List Nat) u,RV P G a x u→u=v:=by
 have hi:j / 2<l.length:=by omega
 have hk:j % 2<2:=by omega
 refine⟨l[j / 2],(l[j / 2]).enc[j % 2]'(by rw[c1q];exact hk),(b4i l[j / 2])[j % 2]'(by simpa[b4i]using hk),g9b hi,g9b _,?_,g9b _,fun P G a u hu=>?_⟩
 ·have key:∀ (l:List Ed) (i k:Nat) (hi:i<l.length) (hk:k<2),((l.map Ed.enc).flatten)[i * 2+k]? = some ((l[i]).enc[k]'(by rw[c1q];exact hk)):=by
   intro l
   induction l with
   | nil=>intro i k hi;simp at hi
   | cons c r ih =>
    intro i k hi hk
    rw[g9o,g9X]
    cases i with
    | zero =>
     rw[g9a (by rw[c1q];omega),Nat.zero_mul,g9s]
     exact g9b _
    | succ i =>
     rw[g9c (by rw[c1q];omega),c1q,show(i+1) * 2+k - 2=i * 2+k by omega]
     exact ih i k (by simpa using hi) hk
  have e:j=j / 2 * 2+j % 2:=by omega
  have:=key l (j / 2) (j % 2) hi hk
  rw[←e]at this
  exact this
 ·generalize hc:l[j / 2]=c at hu ⊢
  have key:∀ (m:Nat) (x:V) (v:Value),c.enc[m]? = some x→(b4i c)[m]? = some v→RV P G a x u→u=v:=by
   intro m x v hx hv hr
   match m with
   | 0=>simp[Ed.enc]at hx;simp[b4i]at hv;subst hx hv;cases hr;rfl
   | 1=>simp[Ed.enc]at hx;simp[b4i]at hv;subst hx hv;cases hr;rfl
   | m+2=>simp[Ed.enc]at hx
  exact key (j % 2) _ _ (g9b _) (g9b _) hu
theorem get!_list{l:List Ed}{i:Nat}{c:Ed}(h:l[i]? = some c):l.toArray[i]! = c:=by
 obtain⟨hi,e⟩:=g8Y.1 h
 rw[getElem!_pos l.toArray i (by simpa using hi)]
 simpa using e
theorem getV!{l:List Value}{i:Nat}{c:Value}(h:l[i]? = some c):l[i]! = c:=by
 obtain⟨hi,e⟩:=g8Y.1 h
 rw[getElem!_pos l i hi,e]
theorem d7B{l:List Ed}{j:Nat}{c:Ed}{v:Value}(hj:j<l.length * 2)(h1:l[j / 2]? = some c)(h2:(b4i c)[j % 2]? = some v):(flatK b4i 2 l.toArray)[j]! = v:=by
 rw[get_flatK b4i 2 l.toArray j (by simpa using hj),get!_list h1,getV! h2]
noncomputable def sdT:TypeInfo:=(Tryz.prog.info? 32).get (by kernel_rfl)
noncomputable def sdE:TypeInfo:=(Tryz.prog.info? 38).get (by kernel_rfl)
theorem f5n:∀ n,2≤n→Lib.swapperK n sdE 25=Lib.swapperK 2 sdE 25:=by
 intro n hn
 unfold Lib.swapperK
 have h0:(n == 0)=false:=by simp;omega
 have h1:(n == 1)=false:=by simp;omega
 rw[h0,h1]
 rfl
theorem d0d{h:List VObj}{a:List Nat}{id k gen o:Nat}{l:List Ed}{K:b1z}(hid:h[id]? = some (.vec k gen 38 (l.map Ed.enc).flatten))(ho:h[o]? = some (.cells [.vec id k gen l.length 38]))(hl:1≤l.length)
  (hK:K (.tuple []) (h.set id (.vec k gen 38 ((b2I l).map Ed.enc).flatten)) a) :
  b0r (envV 32) 43 [.iface 32 (.vec id k gen l.length 38),.func 44 [.ptr o 0]] h a K:=by
 intro G w0 w vals hr ha
 obtain⟨v,vs,rfl,hv,ha⟩:=ha.cons
 obtain⟨v2,vs,rfl,hv2,ha⟩:=ha.cons
 rw[ha.nil]
 have hce:Tryz.prog.cellsOf 38=2:=by kernel_rfl
 obtain⟨hak,hgg,b,hi,hρ,hch,hcells⟩:=hr.vs.at_ _ _ _ _ _ hid
 cases hv with
 | iface _ _ x hx =>
 cases hx with
 | vec _ _ _ _ _ b' off cap hvv h1 h2 =>
 cases hv2 with
 | func _ _ cs f1 f2 =>
 obtain⟨n,q1,q2,q3⟩:=hvv
 rw[hak]at q1
 cases q1
 obtain⟨b1,hi1,q4,q5,q6,q7,q8⟩:=q3 rfl
 rw[hρ]at q4
 cases q4
 subst q7 q8
 rw[show(envV 32).P=Tryz.prog from rfl,hce]at q5
 have hcsl:((l.map Ed.enc).flatten).length=l.length * 2:=by
  rw[b4Z (c:=2)]
  ·rw[g9r]
  ·intro i el hi
   rw[g9q]at hi
   cases hl:l[i]? with
   | none=>rw[hl]at hi;cases hi
   | some c=>rw[hl]at hi;cases hi;rfl
 have hhi:0<hi:=by omega
 obtain⟨⟨c,t,hb,hcz⟩,hloose,hFn,hw0⟩:=hr.reg k b 0 hi hρ hhi
 have hblk:b<w.heap.size:=(g9x.1 hb).1
 obtain⟨Bs,hφ,ce,te,hB,hBz,hBv⟩:=hr.obj o _ ho
 obtain⟨sv,hsv,hsr⟩:=hBv 0 _ rfl
 have hcs1:cs.size=1:=by simpa using f1.symm
 obtain⟨cp,rfl⟩:∃ cp,cs = #[cp]:=by
  obtain⟨l'⟩:=cs
  obtain⟨cp,rfl⟩:=List.length_eq_one_iff.1 (show l'.length=1 by simpa using hcs1)
  exact⟨cp,rfl⟩
 have hptr:=f2 0 _ cp rfl rfl
 cases hptr with
 | ptr _ _ B' hB' =>
 rw[hφ]at hB'
 cases hB'
 have hBne:Bs≠b:=by
  rintro rfl
  have:=hloose o hφ _ ho
  simp[VObj.looseAt]at this
 have hBlt:Bs<w.heap.size:=(g9x.1 hB).1
 have hsve:sv = .slice (some ⟨b,0,none⟩) l.length cap:=by
  cases hsr with
  | vec _ _ _ _ _ b2 off2 cap2 hv2 _ _ =>
  obtain⟨n2,r1,r2,r3⟩:=hv2
  rw[hak]at r1
  cases r1
  obtain⟨b3,hi3,r4,r5,r6,r7,r8⟩:=r3 rfl
  rw[hρ]at r4
  cases r4
  subst r7 r8
  rw[show(envV 32).P=Tryz.prog from rfl,hce]at r5
  have:cap2=cap:=by omega
  rw[this]
 subst hsve
 have hBs:w.cell? ⟨Bs,0,none⟩=some (.slice (some ⟨b,0,none⟩) l.length cap):=by
  simp only[World.cell?,hB]
  simpa using hsv
 have hH:HoldsK b4i 2 w b 0 l.toArray:=by
  intro j hj
  rw[size_flatK]at hj
  have hj':j<l.length * 2:=by simpa using hj
  obtain⟨c1,x1,v1,e1,e2,e3,e4,e5⟩:=c2g hj'
  obtain⟨u,u1,u2,u3⟩:=hcells j x1 e3
  rw[d7B hj' e1 e4,g9s]
  refine⟨by rw[u1,e5 _ _ _ _ u2];rfl,?_⟩
  simp[World.frozen?,hb]
 have hlen:(l.toArray:Array Ed).size=l.length:=by simp
 by_cases h1l:l.length=1
 ·have hso:b2I l=l:=by
   obtain⟨c0,hc0⟩:=List.length_eq_one_iff.1 h1l
   have:=b3e l
   rw[hc0]at this ⊢
   exact List.perm_singleton.1 this
  have hset:h.set id (.vec k gen 38 ((b2I l).map Ed.enc).flatten)=h:=by rw[hso];exact b3j hid
  rw[hset]at hK
  have hf:∃ g,Tryz.prog.funcs.findIdx? (·.name == "internal/reflectlite" ++ ".Swapper$" ++ toString (Lib.swapperK l.length sdE 25))=some g:=by
   rw[h1l]
   exact g9E.1 (by kernel_rfl)
  obtain⟨g,hf⟩:=hf
  refine(Any.sort_Slice_tiny Tryz.laysGg6 32 38 sdT sdE (by kernel_rfl) (by kernel_rfl) (by kernel_rfl) (by kernel_rfl) 25 (fun _=>by kernel_rfl) (some ⟨b,0,none⟩) l.length cap (by omega) g hf (.func 44) #[] #[.pointer (some ⟨Bs,0,none⟩)] w).mono ?_
  rintro e w' ⟨rfl,os,rfl⟩
  refine .inl ⟨_,rfl,_,_,_,G,hK,Ext.refl _ _,hr.belowW ⟨rfl,rfl,rfl,?_,fun i hi=>?_⟩,.tuple _ _ rfl (by simp)⟩
  ·show w.heap.size≤(w.heap++os).size
   simp
  ·show(w.heap++os)[i]? = w.heap[i]?
   rw[h0u hi]
 ·have hless:LessReadsK Tryz.prog 44 #[.pointer (some ⟨Bs,0,none⟩)] b4i 2 b5y b 0 l.toArray.size w:=by
   intro m os dk hs i j hi hj
   have e:sortWorldK b4i 2 w b 0 m dk os=putRowK b4i 2 (grow (Sort.ahead w m) os) b 0 dk:=by
    unfold sortWorldK;rw[putRowK_grow _ _ (Sort.ahead w m) _ b 0 _ hblk]
   have hHg:HoldsK b4i 2 (grow (Sort.ahead w m) os) b 0 l.toArray:=holdsK_grow _ _ _ _ b 0 _ hblk (holdsK_ahead _ _ _ _ _ _ _ hH)
   refine g1r b 0 cap Bs l.length _ (fun t=>dk[t]!) ?_ (fun t ht=>?_) i j (by omega) (by omega) (by omega)
   ·rw[e,cell?_putRowK_other _ _ _ b 0 dk _ (by exact hBne),cell?_grow _ _ _ (by exact hBlt)];exact hBs
   ·rw[e]
    have hq:=holdsK_putRowK _ _ _ b 0 l.toArray dk hHg hs
    exact⟨(hq.cell (i:=t) (c:=0) (by omega) (by omega)).1,(hq.cell (i:=t) (c:=1) (by omega) (by omega)).1⟩
  refine(Any.sort_Slice_cells_sorted Tryz.laysGg6 32 38 sdT sdE (by kernel_rfl) (by kernel_rfl) (by kernel_rfl) (by kernel_rfl) 25 (fun _=>by kernel_rfl) b4i 2 (fun _=>rfl) (by kernel_rfl) (fun _=>by kernel_rfl)
   (fun x v hv=>by simp[b4i]at hv;rcases hv with rfl | rfl <;> rfl) b5y d3s 44 _
   (enters_of Tryz.func44 (by kernel_rfl) rfl) b 0 cap l.toArray (by omega) (by omega) 126 (by rw[f5n _ (by omega)];kernel_rfl) false
   (fun args W=>run_callFunc_extern Tryz.func126 (by kernel_rfl) (by kernel_rfl) (by kernel_rfl) (e:=Extern.ReflectliteSwapper.swap false) (by kernel_rfl) args W) w hless hH hblk).mono ?_
  rintro e w' ⟨rfl,d',n,os,hpm,hso,rfl⟩
  obtain⟨p1,p2,p3⟩:=hpm
  have hd':d'.toList=b2I l:=by
   refine(d6y (b3e l |>.trans ?_) (b9U l) ?_).symm
   ·have t1:List.take d'.size l=l:=List.take_of_length_le (by omega)
    have:=p3.symm
    simp only[hlen]at this p1
    rw[←p1]at this
    simpa[t1]using this
   ·rw[List.pairwise_iff_getElem]
    intro i j hi hj hij
    have:=hso i j (Nat.zero_le _) hij (by simp at hj;omega)
    rw[getElem!_pos d' i (by simpa using hi),getElem!_pos d' j (by simpa using hj)]at this
    simpa using this
  have hsl:(b2I l).length=l.length:=(b3e l).length_eq
  have hdd:d'=(b2I l).toArray:=by rw[←hd']
  subst hdd
  have hel:∀ c1∈l,∀ (m:Nat) (x:V) (v:Value),m<2→c1.enc[m]? = some x→(b4i c1)[m]? = some v→RV Tryz.prog G a x v:=by
   intro c1 hc1 m x v hm hx hv
   obtain⟨i,hi,rfl⟩:=h0c hc1
   have hj:i * 2+m<l.length * 2:=by omega
   obtain⟨c2,x1,v1,e1,e2,e3,e4,e5⟩:=c2g hj
   have hd1:(i * 2+m) / 2=i:=by omega
   have hd2:(i * 2+m) % 2=m:=by omega
   rw[hd1,g9b hi]at e1
   cases e1
   rw[hd2]at e2 e4
   rw[hx]at e2;cases e2
   rw[hv]at e4;cases e4
   obtain⟨u,u1,u2,u3⟩:=hcells _ _ e3
   have:=e5 _ _ _ _ u2
   subst this
   exact u2
  have hcl':(((b2I l).map Ed.enc).flatten).length=l.length * 2:=by
   rw[b4Z (c:=2),g9r,hsl]
   intro i el hi
   rw[g9q]at hi
   cases hl:(b2I l)[i]? with
   | none=>rw[hl]at hi;cases hi
   | some c=>rw[hl]at hi;cases hi;rfl
  obtain⟨hx,hr'⟩:=hr.vecStep2 (gen':=gen) (cs':=((b2I l).map Ed.enc).flatten) (w':=putRowK b4i 2 (Sort.ahead w n) b 0 (b2I l).toArray) (c':=putCells _root_.id 0 (flatK b4i 2 (b2I l).toArray) c) hid hρ hhi (g9m _) hb (by rw[hcl'];omega) (fun j x hj=>by
   have hjl:j<(b2I l).length * 2:=by
    have:=(g8Y.1 hj).1
    rw[hcl']at this;rw[hsl];exact this
   obtain⟨c2,x1,v1,e1,e2,e3,e4,e5⟩:=c2g hjl
   rw[hj]at e3;cases e3
   have hm2:c2∈l:=(b3e l).mem_iff.1 (g9f e1)
   refine⟨v1,?_,hel c2 hm2 _ _ _ (by omega) e2 e4,?_⟩
   ·have hjc:j<c.size:=by rw[hsl]at hjl;omega
    simp only[putCells,Array.getElem?_mapIdx,g9p hjc,g9z]
    rw[if_pos ⟨Nat.zero_le _,by simpa using hjl⟩,Nat.sub_zero,d7B hjl e1 e4]
    rfl
   ·have:∀ v∈b4i c2,v.oneCell'=true:=fun v hv=>by simp[b4i]at hv;rcases hv with rfl | rfl <;> rfl
    exact this _ (g9f e4)) rfl rfl rfl (by simp[putRowK]) (fun k' hk'=>by
    simp only[putRowK,putRow,mapBlock,Array.getElem?_modify]
    rw[if_neg (Ne.symm hk')];rfl) (by
    simp only[putRowK,putRow,mapBlock,Array.getElem?_modify]
    rw[if_pos trivial,show(Sort.ahead w n).heap=w.heap from rfl,hb];rfl) (by simp[putCells]) (fun j hj=>by
    simp only[putCells,Array.getElem?_mapIdx]
    cases hcj:c[j]? with
    | none=>rfl
    | some y =>
     simp only[g9z]
     rw[if_neg]
     intro h
     have:=h.2
     simp only[size_flatK,List.size_toArray,hsl]at this
     omega)
  have hset:a.set k gen=a:=b3j hak
  rw[hset]at hx hr'
  refine .inl ⟨_,rfl,_,_,_,G,hK,hx,hr'.belowW ⟨rfl,rfl,rfl,?_,fun i hi=>?_⟩,.tuple _ _ rfl (by simp)⟩
  ·simp
  ·exact heap_grow_old _ _ hi
end Go.Proofs.YtighfcpaplmaiaaGreatDoor
