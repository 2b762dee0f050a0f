/- What Recursive answers, told by the search. -/
import Derived.Test.YtighfcpaplmaiaaGreatDoorUeC
import Derived.Test.YtighfcpaplmaiaaGreatDoorUdJ
import Derived.Test.YtighfcpaplmaiaaGreatDoorUeE
set_option linter.unusedVariables false
set_option linter.unusedSimpArgs false
namespace Go.Proofs.YtighfcpaplmaiaaGreatDoor
open Go Go.Vg Go.Proofs
open Classical in
theorem recI_fold(s:ByteArray):∀ (r o:List ByteArray),r.foldl (recI s) o=if s∈r∧o.getLast?≠some s then o++[s]else o
 | [],o=>by rw[if_neg (by rintro⟨h,_⟩;cases h)];rfl
 | t::r,o=>by
  rw[List.foldl_cons,recI_fold s r]
  by_cases h1:o.getLast? = some s
  ·rw[show recI s o t=o from if_neg (fun h=>h.2 h1),if_neg (fun h=>h.2 h1),if_neg (fun h=>h.2 h1)]
  ·by_cases h2:t=s
   ·rw[show recI s o t=o++[s]from if_pos ⟨h2,h1⟩,if_neg (fun h=>h.2 (by simp)),if_pos ⟨by rw[h2];simp,h1⟩]
   ·rw[show recI s o t=o from if_neg (fun h=>h2 h.1)]
    by_cases h3:s∈r
    ·rw[if_pos ⟨h3,h1⟩,if_pos ⟨by simp[h3],h1⟩]
    ·rw[if_neg (fun h=>h3 h.1),if_neg (fun h=>(List.mem_cons.1 h.1).elim (fun e=>h2 e.symm) h3)]
open Classical in
theorem recJ_eq(l:List Ed)(o:List ByteArray)(s:ByteArray):recJ l o s=if s∈sortS (flwS l s)∧o.getLast?≠some s then o++[s]else o:=recI_fold s _ _
theorem recF_asc(l:List Ed):∀ (c o:List ByteArray),(c.Pairwise fun a b=>ltB b a=false)→Asc o→(∀ a∈o,∀ b∈c,ltB b a=false)→Asc (c.foldl (recJ l) o)∧∀ x,x∈c.foldl (recJ l) o↔x∈o∨(x∈c∧x∈sortS (flwS l x))
 | [],o,_,ho,_=>⟨ho,by simp⟩
 | s::c,o,hc,ho,hoc=>by
  rw[List.foldl_cons,recJ_eq]
  obtain⟨hc1,hc2⟩:=List.pairwise_cons.1 hc
  by_cases h:s∈sortS (flwS l s)∧o.getLast?≠some s
  ·rw[if_pos h]
   have hlt:∀ a∈o,ltB a s=true:=fun a ha=>by
    cases hl:ltB a s with
    | true=>rfl
    | false =>
     have e:a=s:=ltB_tri hl (hoc a ha s (by simp))
     subst e
     exfalso
     have hne:o≠[]:=by intro h0;rw[h0]at ha;cases ha
     have hcl:=List.dropLast_concat_getLast hne
     have hlast:o.getLast? = some (o.getLast hne):=List.getLast?_eq_some_getLast hne
     rw[←hcl]at ha
     rcases List.mem_append.1 ha with h1 | h1
     ·have h2:ltB a (o.getLast hne)=true:=by
       have h3:=ho
       unfold Asc at h3
       rw[←hcl]at h3
       exact(List.pairwise_append.1 h3).2.2 a h1 _ (by simp)
      rw[hoc _ (List.getLast_mem hne) a (by simp)]at h2
      cases h2
     ·simp only[List.mem_singleton]at h1
      rw[←h1]at hlast
      exact h.2 hlast
   have hasc:Asc (o++[s]):=by
    refine List.pairwise_append.2 ⟨ho,by simp,fun a ha b hb=>?_⟩
    simp only[List.mem_singleton]at hb
    subst hb
    exact hlt a ha
   obtain⟨g1,g2⟩:=recF_asc l c (o++[s]) hc2 hasc (fun a ha b hb=>by
    rcases List.mem_append.1 ha with h1 | h1
    ·exact hoc a h1 b (by simp[hb])
    ·simp only[List.mem_singleton]at h1
     subst h1
     exact hc1 b hb)
   refine⟨g1,fun x=>?_⟩
   rw[g2 x]
   simp only[List.mem_append,List.mem_cons,List.not_mem_nil,or_false]
   constructor
   ·rintro((h1 | rfl) | h1)
    ·exact .inl h1
    ·exact .inr ⟨.inl rfl,h.1⟩
    ·exact .inr ⟨.inr h1.1,h1.2⟩
   ·rintro(h1 | ⟨rfl | h1,h2⟩)
    ·exact .inl (.inl h1)
    ·exact .inl (.inr rfl)
    ·exact .inr ⟨h1,h2⟩
  ·rw[if_neg h]
   obtain⟨g1,g2⟩:=recF_asc l c o hc2 ho (fun a ha b hb=>hoc a ha b (by simp[hb]))
   refine⟨g1,fun x=>?_⟩
   rw[g2 x]
   simp only[List.mem_cons]
   constructor
   ·rintro(h1 | h1)
    ·exact .inl h1
    ·exact .inr ⟨.inr h1.1,h1.2⟩
   ·rintro(h1 | ⟨rfl | h1,h2⟩)
    ·exact .inl h1
    ·by_cases hl:o.getLast? = some x
     ·exact .inl (List.mem_of_getLast? hl)
     ·exact absurd ⟨h2,hl⟩ h
    ·exact .inr ⟨h1,h2⟩
theorem recS_facts(u:List Un)(l:List Ed):Asc (recS u l)∧∀ x,x∈recS u l↔l≠[]∧x∈calN u∧Rch (scN (sucN l)) x x:=by
 unfold recS
 split
 ·rename_i h
  exact⟨List.Pairwise.nil,fun x=>by simp[h]⟩
 ·rename_i h
  obtain⟨h1,h2⟩:=recF_asc l (calS u) [] (mergeS_pair _) List.Pairwise.nil (by simp)
  refine⟨h1,fun x=>?_⟩
  rw[h2 x,(sortS_perm _).mem_iff,(flwS_facts l x).2.1,calS,(sortS_perm _).mem_iff]
  simp[h]
end Go.Proofs.YtighfcpaplmaiaaGreatDoor
set_option maxRecDepth 20000
namespace Go.Vg
def fnCov(R:List Rw)(b m:Nat)(W:List Dl)(u p:Int)(x:Ar):Prop:=∀ (i:Nat) r,R[i]? = some r→r.kind=2→∃ a d,d∈W∧declT 2 r.text u ((m+i:Nat):Int) a=some d ∧
 ((r.parent=p∧a=x)∨∃ (q:Nat) (r':Rw),R[q]? = some r'∧r.parent=((b+q:Nat):Int)∧a.method=decide (r'.kind=7)∧a.cls=r'.text)
theorem walkD_fn:∀ (n:Nd) (p:Int) (b m:Nat) (u:Int) (x:Ar),fnCov (rowsN n p b) b m (walkD n u m x) u p x:=by
 refine Nd.all fun k t g ks ih p b m u x=>?_
 have hs:∀ l:List Nd,(∀ y∈l,∀ (p:Int) (b m:Nat) (u:Int) (x:Ar),fnCov (rowsN y p b) b m (walkD y u m x) u p x)→∀ (p b m:Nat) (u:Int) (x:Ar),fnCov (rowsL l p b) b m (walkDs l u m x) u p x:=by
  intro l
  induction l with
  | nil=>intro _ p b m u x i r h;simp[rowsL]at h
  | cons y l ihl =>
   intro hx p b m u x i r hi hk
   have hlen:(rowsN y p b).length=(nodes y).length:=rowsN_len ..
   rw[rowsL]at hi
   rw[walkDs]
   rcases Nat.lt_or_ge i (rowsN y p b).length with hl | hl
   ·rw[List.getElem?_append_left hl]at hi
    obtain⟨a,d,h1,h2,h3⟩:=hx y (by simp) p b m u x i r hi hk
    refine⟨a,d,List.mem_append_left _ h1,h2,?_⟩
    rcases h3 with h3 | ⟨q,r',h4,h5⟩
    ·exact .inl h3
    ·refine .inr ⟨q,r',?_,h5⟩
     rw[rowsL,List.getElem?_append_left (List.getElem?_eq_some_iff.1 h4).1]
     exact h4
   ·rw[List.getElem?_append_right hl]at hi
    obtain⟨a,d,h1,h2,h3⟩:=ihl (fun z hz=>hx z (by simp[hz])) p (b+(nodes y).length) (m+(nodes y).length) u x _ r hi hk
    refine⟨a,d,List.mem_append_right _ h1,?_,?_⟩
    ·rw[←h2];congr 2;omega
    rcases h3 with h3 | ⟨q,r',h4,h5,h6⟩
    ·exact .inl h3
    ·refine .inr ⟨(rowsN y p b).length+q,r',?_,by rw[h5,hlen];omega,h6⟩
     rw[rowsL,List.getElem?_append_right (by omega),Nat.add_sub_cancel_left]
     exact h4
 intro i r hi hk
 rw[rowsN]at hi
 rw[walkD]
 cases i with
 | zero =>
  simp at hi
  subst hi
  simp only at hk
  subst hk
  exact⟨x,(if x.method=true then⟨4,x.cls,t,u,m⟩else⟨1,⟨#[]⟩,t,u,m⟩),List.mem_append_left _ (by rw[declT,if_pos rfl];simp),by rw[declT,if_pos rfl];rfl,.inl ⟨rfl,rfl⟩⟩
 | succ i =>
  rw[List.getElem?_cons_succ]at hi
  obtain⟨a,d,h1,h2,h3⟩:=hs ks ih b (b+1) (m+1) u (belowT k t x) i r hi hk
  refine⟨a,d,List.mem_append_right _ h1,?_,?_⟩
  ·rw[←h2];congr 2;omega
  rcases h3 with⟨h3,rfl⟩ | ⟨q,r',h4,h5,h6⟩
  ·exact .inr ⟨0,_,rfl,h3,rfl,rfl⟩
  ·refine .inr ⟨q+1,r',?_,by rw[h5];omega,h6⟩
   rw[rowsN,List.getElem?_cons_succ];exact h4
theorem mem_declsU:∀ (u:List Un) (i un:Nat) (x:Un) (d:Dl),u[un]? = some x→x.broken=false→d∈walkD x.tree ((i+un:Nat):Int) 0 Ar.none→d∈declsU u i
 | [],i,un,x,d,h,_,_=>by simp at h
 | y::r,i,0,x,d,h,hb,hd=>by
  simp at h
  subst h
  rw[declsU,if_neg (by rw[hb];simp)]
  exact List.mem_append_left _ hd
 | y::r,i,un+1,x,d,h,hb,hd=>by
  rw[List.getElem?_cons_succ]at h
  rw[declsU]
  exact List.mem_append_right _ (mem_declsU r (i+1) un x d h hb (by rw[show i+1+un=i+(un+1)by omega];exact hd))
end Go.Vg
namespace Go.Proofs.YtighfcpaplmaiaaGreatDoor
open Go Go.Vg Go.Proofs
theorem fn_call{u:List Un}{un i:Nat}{x:Un}(hx:u[un]? = some x)(hb:x.broken=false)(hi:i<(rowsN x.tree (-1) 0).length)(hk:(rwAt (rowsN x.tree (-1) 0) i).kind=2):qnR (rowsN x.tree (-1) 0) i∈calN u:=by
 have hg:(rowsN x.tree (-1) 0)[i]? = some (rwAt (rowsN x.tree (-1) 0) i):=by
  simp[rwAt,List.getD_eq_getElem?_getD,hi]
 obtain⟨a,d,h1,h2,h3⟩:=walkD_fn x.tree (-1) 0 0 (un:Int) Ar.none i _ hg hk
 have hd:d∈declsU u 0:=mem_declsU u 0 un x d hx hb (by rw[Nat.zero_add];exact h1)
 refine List.mem_filterMap.2 ⟨d,hd,?_⟩
 rw[declT,if_pos rfl]at h2
 cases h2
 rcases h3 with⟨h3,rfl⟩ | ⟨q,r',h4,h5,h6,h7⟩
 ·rw[if_neg (by simp[Ar.none]),callN,if_pos rfl]
  unfold qnR
  rw[if_neg (by rw[h3];rintro⟨h,_⟩;omega)]
 ·have hr':rwAt (rowsN x.tree (-1) 0) q=r':=rwAt_some h4
  unfold qnR
  rw[Nat.zero_add]at h5
  rw[h5,Int.toNat_natCast,hr']
  by_cases h7k:r'.kind=7
  ·rw[if_pos (by rw[h6];simp[h7k]),callN,if_neg (by simp),if_pos rfl,if_pos ⟨by omega,h7k⟩,h7]
  ·rw[if_neg (by rw[h6];simp[h7k]),callN,if_pos rfl,if_neg (fun h=>h7k h.2)]
end Go.Proofs.YtighfcpaplmaiaaGreatDoor
set_option maxRecDepth 20000
namespace Go.Vg
theorem foldA_mem:∀ (l a:List Ed) (y:Ed),y∈l.foldl dedA a↔y∈a∨y∈l
 | [],a,y=>by simp
 | x::r,a,y=>by
  rw[List.foldl_cons,foldA_mem r]
  unfold dedA
  split
  ·rename_i h
   have:=List.mem_of_getLast? h
   simp only[List.mem_cons]
   constructor
   ·rintro(h1 | h1)
    ·exact .inl h1
    ·exact .inr (.inr h1)
   ·rintro(h1 | rfl | h1)
    ·exact .inl h1
    ·exact .inl this
    ·exact .inr h1
  ·simp only[List.mem_append,List.mem_cons,List.not_mem_nil,or_false]
   exact or_assoc
theorem dedE_mem(l:List Ed)(y:Ed):y∈dedE l↔y∈l:=by rw[dedE,foldA_mem];simp
theorem upF_fn{l:List Rw}:∀ (f:Nat) (i:Int) {j:Nat},i<l.length→(∀ r∈l,r.parent<l.length)→upF l f i=some j→j<l.length∧(rwAt l j).kind=2
 | 0,i,j,_,_,h=>by simp[upF]at h
 | f+1,i,j,hi,hl,h=>by
  rw[upF]at h
  split at h
  ·cases h
  ·rename_i h0
   split at h
   ·rename_i h2
    cases h
    exact⟨by omega,h2⟩
   ·refine upF_fn f _ ?_ hl h
    have hn:i.toNat<l.length:=by omega
    have:rwAt l i.toNat=l[i.toNat]:=by simp[rwAt,List.getD_eq_getElem?_getD,hn]
    rw[this]
    exact hl _ (List.getElem_mem hn)
end Go.Vg
namespace Go.Proofs.YtighfcpaplmaiaaGreatDoor
open Go Go.Vg Go.Proofs
theorem edRows_mem{u:List Un}{un:Nat}{l:List Rw}{e:Ed}:∀ k,e∈edRows u un l k↔∃ i,i<k∧e∈edRow u un l i
 | 0=>by simp[edRows]
 | k+1=>by
  rw[edRows,List.mem_append,edRows_mem k]
  constructor
  ·rintro(⟨i,h1,h2⟩ | h)
   ·exact⟨i,by omega,h2⟩
   ·exact⟨k,by omega,h⟩
  ·rintro⟨i,h1,h2⟩
   by_cases h:i=k
   ·subst h;exact .inr h2
   ·exact .inl ⟨i,by omega,h2⟩
theorem edAll_mem{u:List Un}{e:Ed}:∀ n,e∈edAll u n↔∃ un,un<n∧∃ i,i<(rwsU u un).length∧e∈edRow u un (rwsU u un) i
 | 0=>by simp[edAll]
 | n+1=>by
  rw[edAll,List.mem_append,edAll_mem n,edRows_mem]
  constructor
  ·rintro(⟨i,h1,h2⟩ | h)
   ·exact⟨i,by omega,h2⟩
   ·exact⟨n,by omega,h⟩
  ·rintro⟨i,h1,h2⟩
   by_cases h:i=n
   ·subst h;exact .inr h2
   ·exact .inl ⟨i,by omega,h2⟩
theorem graph_mem{u:List Un}{e:Ed}:e∈graphU u↔(chkU u).1=0∧∃ (un:Nat) (x:Un) (i:Nat),u[un]? = some x∧i<(rowsN x.tree (-1) 0).length∧e∈edRow u un (rowsN x.tree (-1) 0) i:=by
 unfold graphU
 split
 ·rename_i h0
  rw[dedE_mem,(sortEd_perm _).mem_iff,edAll_mem]
  constructor
  ·rintro⟨un,h1,i,h2,h3⟩
   have hx:u[un]? = some u[un]:=List.getElem?_eq_getElem h1
   have hr:rwsU u un=rowsN (u[un]).tree (-1) 0:=by rw[rwsU,hx];rfl
   rw[hr]at h2 h3
   exact⟨h0,un,_,i,hx,h2,h3⟩
  ·rintro⟨_,un,x,i,hx,h2,h3⟩
   have hr:rwsU u un=rowsN x.tree (-1) 0:=by rw[rwsU,hx];rfl
   refine⟨un,(List.getElem?_eq_some_iff.1 hx).1,i,?_,?_⟩ <;> rw[hr] <;> assumption
 ·rename_i h0
  constructor
  ·intro h;cases h
  ·rintro⟨h,_⟩;exact absurd h h0
theorem edRow_mem{u:List Un}{un i:Nat}{l:List Rw}{e:Ed}:e∈edRow u un l i↔((rwAt l i).kind=20∨(rwAt l i).kind=21)∧arnd l i=some e.fr∧e.to∈tgtU u un i (rwAt l i).kind (rwAt l i).text:=by
 unfold edRow
 split
 ·rename_i hk
  cases ha:arnd l i with
  | none=>simp
  | some f =>
   simp only[List.mem_map,Option.some.injEq]
   constructor
   ·rintro⟨t,ht,rfl⟩;exact⟨hk,rfl,ht⟩
   ·rintro⟨_,h1,h2⟩;exact⟨e.to,h2,by rw[h1]⟩
 ·rename_i hk
  constructor
  ·intro h;cases h
  ·rintro⟨h,_⟩;exact absurd h hk
theorem graph_from{u:List Un}(hu:fitU u){e:Ed}(h:e∈graphU u):e.fr∈calN u:=by
 obtain⟨h0,un,x,i,hx,hi,he⟩:=graph_mem.1 h
 obtain⟨_,ha,_⟩:=edRow_mem.1 he
 have hxm:=List.mem_of_getElem? hx
 have hb:=(chkU_snd hu h0).br x hxm
 have hn:=(hu.2 x hxm).1
 have hro:=rowsOK_of (n:=x.tree) (by omega)
 unfold arnd at ha
 obtain⟨j,hj,hq⟩:=Option.map_eq_some_iff.1 ha
 obtain⟨h1,h2⟩:=upF_fn _ _ (by omega) (fun r hr=>by
  obtain⟨k,hk,rfl⟩:=List.getElem_of_mem hr
  have:=hro.par k hk
  have e1:rwAt (rowsN x.tree (-1) 0) k=(rowsN x.tree (-1) 0)[k]:=by simp[rwAt,List.getD_eq_getElem?_getD,hk]
  rw[e1]at this
  omega) hj
 rw[←hq]
 exact fn_call hx hb h1 h2
end Go.Proofs.YtighfcpaplmaiaaGreatDoor
set_option maxRecDepth 20000
namespace Go.Proofs.YtighfcpaplmaiaaGreatDoor
open Go Go.Vg Go.Proofs
theorem fit_small{u:List Un}{m:Nat}(hm:m≤160)(h:fitsU u 3 m 6000=true):u.length≤3∧∀ x∈u,(nodes x.tree).length≤m:=by
 unfold fitsU at h
 simp only[Bool.and_eq_true,decide_eq_true_eq,List.all_eq_true]at h
 obtain⟨h1,h2⟩:=h
 refine⟨by omega,fun x hx=>?_⟩
 have h3:=(h2 x hx).1
 have:=left_count x.tree m 60 h3
 omega
theorem fit_ok{u:List Un}{m:Nat}(hm:m≤160)(h:fitsU u 3 m 6000=true):fitU u∧gapsU u:=by
 have hs:=fit_small hm h
 unfold fitsU at h
 simp only[Bool.and_eq_true,decide_eq_true_eq,List.all_eq_true]at h
 obtain⟨h1,h2⟩:=h
 refine⟨⟨by omega,fun x hx=>?_⟩,fun x hx=>?_⟩
 ·obtain⟨h3,h4⟩:=h2 x hx
  have:=hs.2 x hx
  exact⟨by omega,(fits_short (by omega) h4).1⟩
 ·obtain⟨h3,h4⟩:=h2 x hx
  exact(fits_short (by omega) h4).2
theorem declsU_small:∀ (u:List Un) i,(∀ x∈u,(nodes x.tree).length≤160)→(declsU u i).length≤u.length * 160
 | [],_,_=>by simp[declsU]
 | x::r,i,h=>by
  have h1:=declsU_small r (i+1) fun y hy=>h y (by simp[hy])
  have h2:=walkD_len x.tree i 0 Ar.none
  have h3:=h x (by simp)
  rw[declsU,List.length_append,List.length_cons]
  split
  ·simp;omega
  ·omega
theorem tgtU_len(u:List Un)(un nd kind:Int)(text:ByteArray):(tgtU u un nd kind text).length≤(declsU u 0).length+1:=by
 unfold tgtU
 split
 ·simp
 split
 ·split
  ·rw[sortS_len]
   refine Nat.le_trans (dedU_len _ []) ?_
   have h1:=basesL_len (btU u) (declsU u 0)
   have h4:=List.length_filter_le (subB (basesL (btU u) (declsU u 0)) (tofU u un (nd+1)).1) (basesL (btU u) (declsU u 0))
   have h5:(subU u (tofU u un (nd+1)).1).length≤(declsU u 0).length:=by
    unfold subU subL
    rw[sortS_len,List.length_map]
    omega
   have h6:=List.length_filterMap_le (fun x=>(lookU u x text).map qualM) ((tofU u un (nd+1)).1::subU u (tofU u un (nd+1)).1)
   rw[List.length_cons]at h6
   unfold tgL
   simp only[List.length_nil,Nat.zero_add]
   omega
  ·simp
 ·simp
theorem edRow_len(u:List Un)(un:Nat)(l:List Rw)(k:Nat):(edRow u un l k).length≤(declsU u 0).length+1:=by
 unfold edRow
 split
 ·split
  ·rw[List.length_map];exact tgtU_len ..
  ·simp
 ·simp
theorem edRows_len(u:List Un)(un:Nat)(l:List Rw):∀ k,(edRows u un l k).length≤k * ((declsU u 0).length+1)
 | 0=>by simp[edRows]
 | k+1=>by
  have h1:=edRows_len u un l k
  have h2:=edRow_len u un l k
  rw[edRows,List.length_append,Nat.succ_mul];omega
theorem edAll_len{u:List Un}(h:∀ x∈u,(nodes x.tree).length≤160):∀ n,(edAll u n).length≤n * (160 * ((declsU u 0).length+1))
 | 0=>by simp[edAll]
 | n+1=>by
  have h1:=edAll_len h n
  have h2:=edRows_len u n (rwsU u n) (rwsU u n).length
  have h3:(rwsU u n).length≤160:=by
   unfold rwsU
   cases hx:u[n]? with
   | none=>simp
   | some x =>
    simp only[Option.map_some,Option.getD_some]
    rw[rowsN_len]
    exact h x (List.mem_of_getElem? hx)
  have h4:=Nat.mul_le_mul_right ((declsU u 0).length+1) h3
  rw[edAll,List.length_append,Nat.succ_mul];omega
theorem fit_edges{u:List Un}{m:Nat}(hm:m≤160)(h:fitsU u 3 m 6000=true):(edAll u u.length).length≤1000000:=by
 obtain⟨h1,h2⟩:=fit_small hm h
 have h3:∀ x∈u,(nodes x.tree).length≤160:=fun x hx=>Nat.le_trans (h2 x hx) hm
 have h4:=declsU_small u 0 h3
 have h5:=edAll_len h3 u.length
 have h6:u.length * (160 * ((declsU u 0).length+1))≤3 * (160 * ((declsU u 0).length+1)):=Nat.mul_le_mul_right _ h1
 omega
theorem KGraphF{u:List Un}{m:Nat}(hm:m≤160)(h:fitsU u 3 m 6000=true):VPure env 15 [sl 70 (u.map Un.enc)] (sl 38 ((graphU u).map Ed.enc)) :=
 KGraph u (fit_ok hm h).1 (fit_ok hm h).2 (fit_edges hm h)
theorem graph_len{u:List Un}{m:Nat}(hm:m≤160)(h:fitsU u 3 m 6000=true):(graphU u).length≤1000000:=by
 have h1:=fit_edges hm h
 unfold graphU
 split
 ·have h2:=dedE_le (sortEd (edAll u u.length))
  have h3:=(sortEd_perm (edAll u u.length)).length_eq
  omega
 ·simp
def fitL(u:List Un):Bool:=fitsU u 3 160 6000 && decide ((classesL (declsU u 0):Int)≤20)
theorem Lfit(u:List Un):VPure env 10 [sl 70 (u.map Un.enc)] (.bool (fitL u)):=by
 refine vpure_vc (fn:=Tryz.f10) Tryz.func10 rfl (by rw[Tryz.ntmps10];simp) (by simp -implicitDefEqProofs only[go_sem];exact uns_pure _) rfl ?_
 simp -implicitDefEqProofs only[go_sem,Tryz.f10]
 refine(R12Fits u 3 160 6000 (by omega) (by omega)).calls (by simp -implicitDefEqProofs only[go_sem]) ?_
 simp -implicitDefEqProofs only[go_sem]
 unfold fitL
 cases hf:fitsU u 3 160 6000 with
 | false =>
  simp -implicitDefEqProofs only[go_sem]
 | true =>
  simp -implicitDefEqProofs only[go_sem]
  refine(R13Few u (fit_ok (m:=160) (Nat.le_refl _) hf).1 20 (by omega) (by omega)).calls (by simp -implicitDefEqProofs only[go_sem]) ?_
  simp -implicitDefEqProofs only[go_sem]
end Go.Proofs.YtighfcpaplmaiaaGreatDoor
set_option maxRecDepth 20000
namespace Go.Proofs.YtighfcpaplmaiaaGreatDoor
open Go Go.Vg Go.Proofs
def wantF(l:List Ed)(name:ByteArray)(w:List ByteArray)(e:Ed):List ByteArray:=if e.fr=name then(sortS (flwS l e.to)).foldl insS (insS w e.to)else w
def wantQ(l:List Ed)(name:ByteArray)(q:List Ed):List ByteArray:=q.foldl (wantF l name) []
def loopF(l:List Ed)(a:List ByteArray×List ByteArray)(e:Ed):List ByteArray×List ByteArray :=
 (insS a.1 e.fr,if(a.1.any fun x=>decide (x=e.fr))=false∧((sortS (flwS l e.fr)).any fun x=>decide (x=e.fr))=true then insS a.2 e.fr else a.2)
def loopQ(l:List Ed)(q:List Ed):List ByteArray×List ByteArray:=q.foldl (loopF l) ([],[])
theorem foldI_len:∀ (r w:List ByteArray),(r.foldl insS w).length≤w.length+r.length
 | [],w=>by simp
 | x::r,w=>by
  have h1:=foldI_len r (insS w x)
  have h2:=insS_len w x
  rw[List.foldl_cons,List.length_cons];omega
theorem wantQ_len(l:List Ed)(name:ByteArray):∀ (q:List Ed) (w:List ByteArray),(q.foldl (wantF l name) w).length≤w.length+q.length * (l.length+1)
 | [],w=>by simp
 | e::q,w=>by
  have h1:=wantQ_len l name q (wantF l name w e)
  have h2:(wantF l name w e).length≤w.length+(l.length+1):=by
   unfold wantF
   split
   ·have h3:=foldI_len (sortS (flwS l e.to)) (insS w e.to)
    have h4:=insS_len w e.to
    have h5:=flwS_len l e.to
    omega
   ·omega
  rw[List.foldl_cons,List.length_cons,Nat.succ_mul];omega
theorem loopQ_len(l:List Ed):∀ (q:List Ed) (a:List ByteArray×List ByteArray),(q.foldl (loopF l) a).1.length≤a.1.length+q.length∧(q.foldl (loopF l) a).2.length≤a.2.length+q.length
 | [],a=>by simp
 | e::q,a=>by
  have h1:=loopQ_len l q (loopF l a e)
  have h2:(loopF l a e).1.length≤a.1.length+1∧(loopF l a e).2.length≤a.2.length+1:=by
   unfold loopF
   refine⟨insS_len _ _,?_⟩
   split
   ·exact insS_len _ _
   ·simp
  rw[List.foldl_cons,List.length_cons];omega
theorem sortS_ascN{l:List ByteArray}(h:l.Nodup):Asc (sortS l):=mergeS_asc h
theorem foldI_facts:∀ (r w:List ByteArray),Asc w→Asc (r.foldl insS w)∧∀ x,x∈r.foldl insS w↔x∈w∨x∈r
 | [],w,h=>⟨h,by simp⟩
 | y::r,w,h=>by
  obtain⟨h1,h2⟩:=foldI_facts r (insS w y) (insS_asc w y)
  refine⟨h1,fun x=>?_⟩
  rw[List.foldl_cons,h2 x,insS_mem,List.mem_cons,or_assoc]
theorem want_facts(l:List Ed)(name:ByteArray):∀ (q:List Ed) (w:List ByteArray),Asc w→Asc (q.foldl (wantF l name) w)∧∀ x,x∈q.foldl (wantF l name) w↔x∈w∨∃ e∈q,e.fr=name∧(x=e.to∨x∈flwS l e.to)
 | [],w,h=>⟨h,by simp⟩
 | e::q,w,h=>by
  have hw:Asc (wantF l name w e)∧∀ x,x∈wantF l name w e↔x∈w∨(e.fr=name∧(x=e.to∨x∈flwS l e.to)):=by
   unfold wantF
   split
   ·rename_i he
    obtain⟨h1,h2⟩:=foldI_facts (sortS (flwS l e.to)) (insS w e.to) (insS_asc w e.to)
    refine⟨h1,fun x=>?_⟩
    rw[h2 x,insS_mem,(sortS_perm _).mem_iff,or_assoc]
    simp[he]
   ·rename_i he
    exact⟨h,fun x=>by simp[he]⟩
  obtain⟨h1,h2⟩:=want_facts l name q _ hw.1
  refine⟨h1,fun x=>?_⟩
  rw[List.foldl_cons,h2 x,hw.2 x]
  simp only[List.mem_cons,exists_eq_or_imp,or_assoc]
theorem mem_scN{l:List Ed}{s t:ByteArray}:t∈scN (sucN l) s↔∃ e∈l,e.fr=s∧e.to=t:=by
 rw[scN_suc]
 simp only[List.mem_map,List.mem_filter,decide_eq_true_eq,and_assoc]
theorem want_eq(l:List Ed)(name:ByteArray):sortS (flwS l name)=wantQ l name l:=by
 obtain⟨h1,h2⟩:=want_facts l name l [] List.Pairwise.nil
 refine asc_eq (sortS_ascN (flwS_facts l name).1) h1 fun x=>?_
 rw[(sortS_perm _).mem_iff,(flwS_facts l name).2.1]
 show _↔x∈l.foldl (wantF l name) []
 rw[h2 x]
 constructor
 ·intro h
  obtain⟨b,hb,h3⟩:=h.head
  obtain⟨e,he,h4,rfl⟩:=mem_scN.1 hb
  refine .inr ⟨e,he,h4,?_⟩
  rcases h3 with h3 | h3
  ·exact .inl h3
  ·exact .inr ((flwS_facts l e.to).2.1 x |>.2 h3)
 ·rintro(h | ⟨e,he,h4,h3⟩)
  ·cases h
  ·have hb:e.to∈scN (sucN l) name:=mem_scN.2 ⟨e,he,h4,rfl⟩
   rcases h3 with rfl | h3
   ·exact .one hb
   ·exact .cons hb ((flwS_facts l e.to).2.1 x |>.1 h3)
theorem loop_facts(l:List Ed):∀ (q:List Ed) (a:List ByteArray×List ByteArray),Asc a.2→(∀ s∈a.1,s∈flwS l s→s∈a.2)→Asc (q.foldl (loopF l) a).2∧∀ x,x∈(q.foldl (loopF l) a).2↔x∈a.2∨(x∈q.map Ed.fr∧x∈flwS l x)
 | [],a,h,_=>⟨h,by simp⟩
 | e::q,a,h,hs=>by
  have hany:∀ (r:List ByteArray) (s:ByteArray),(r.any fun x=>decide (x=s))=true↔s∈r:=fun r s=>by simp
  have hst:Asc (loopF l a e).2∧(∀ s∈(loopF l a e).1,s∈flwS l s→s∈(loopF l a e).2)∧∀ x,x∈(loopF l a e).2↔x∈a.2∨(x=e.fr∧x∈flwS l x):=by
   unfold loopF
   by_cases hc:(a.1.any fun x=>decide (x=e.fr))=false∧((sortS (flwS l e.fr)).any fun x=>decide (x=e.fr))=true
   ·rw[if_pos hc]
    have hin:e.fr∈flwS l e.fr:=by
     have:=(hany _ _).1 hc.2
     rwa [(sortS_perm _).mem_iff]at this
    refine⟨insS_asc _ _,fun s h1 h2=>?_,fun x=>?_⟩
    ·rcases (insS_mem _ _ _).1 h1 with h1 | rfl
     ·exact(insS_mem _ _ _).2 (.inl (hs s h1 h2))
     ·exact(insS_mem _ _ _).2 (.inr rfl)
    ·rw[insS_mem]
     constructor
     ·rintro(h1 | rfl)
      ·exact .inl h1
      ·exact .inr ⟨rfl,hin⟩
     ·rintro(h1 | ⟨rfl,_⟩)
      ·exact .inl h1
      ·exact .inr rfl
   ·rw[if_neg hc]
    have hno:e.fr∈flwS l e.fr→e.fr∈a.2:=fun h1=>by
     by_cases h2:e.fr∈a.1
     ·exact hs _ h2 h1
     ·exfalso
      refine hc ⟨?_,?_⟩
      ·rw[←Bool.not_eq_true,hany];exact h2
      ·rw[hany,(sortS_perm _).mem_iff];exact h1
    refine⟨h,fun s h1 h2=>?_,fun x=>⟨.inl,?_⟩⟩
    ·rcases (insS_mem _ _ _).1 h1 with h1 | rfl
     ·exact hs s h1 h2
     ·exact hno h2
    ·rintro(h1 | ⟨rfl,h1⟩)
     ·exact h1
     ·exact hno h1
  obtain⟨h1,h2⟩:=loop_facts l q _ hst.1 hst.2.1
  refine⟨h1,fun x=>?_⟩
  rw[List.foldl_cons,h2 x,hst.2.2 x,List.map_cons,List.mem_cons]
  constructor
  ·rintro((h3 | ⟨h3,h4⟩) | ⟨h3,h4⟩)
   ·exact .inl h3
   ·exact .inr ⟨.inl h3,h4⟩
   ·exact .inr ⟨.inr h3,h4⟩
  ·rintro(h3 | ⟨h3 | h3,h4⟩)
   ·exact .inl (.inl h3)
   ·exact .inl (.inr ⟨h3,h4⟩)
   ·exact .inr ⟨h3,h4⟩
theorem loop_eq{u:List Un}{l:List Ed}(hfrom:∀ e∈l,e.fr∈calN u):recS u l=(loopQ l l).2:=by
 obtain⟨h1,h2⟩:=recS_facts u l
 obtain⟨h3,h4⟩:=loop_facts l l ([],[]) List.Pairwise.nil (by simp)
 refine asc_eq h1 h3 fun x=>?_
 rw[h2 x]
 show _↔x∈(l.foldl (loopF l) ([],[])).2
 rw[h4 x,(flwS_facts l x).2.1]
 constructor
 ·rintro⟨_,_,h⟩
  obtain⟨b,hb,_⟩:=h.head
  obtain⟨e,he,h5,_⟩:=mem_scN.1 hb
  exact .inr ⟨List.mem_map.2 ⟨e,he,h5⟩,h⟩
 ·rintro(h | ⟨h5,h⟩)
  ·cases h
  ·obtain⟨e,he,rfl⟩:=List.mem_map.1 h5
   exact⟨List.ne_nil_of_mem he,hfrom e he,h⟩
theorem Lreach(hAw:VPure env 9 [] (.bool true))(u:List Un)(name:ByteArray):VPure env 6 [sl 70 (u.map Un.enc),.str name] (.bool true):=by
 refine vpure_vc (fn:=Tryz.f6) Tryz.func6 rfl (by rw[Tryz.ntmps6];simp) (by simp -implicitDefEqProofs only[go_sem];exact uns_pure _) rfl ?_
 simp -implicitDefEqProofs only[go_sem,Tryz.f6]
 refine(Lfit u).calls (by simp -implicitDefEqProofs only[go_sem]) ?_
 cases hf:fitL u with
 | false =>
  simp -implicitDefEqProofs only[go_sem]
  refine hAw.calls (by simp -implicitDefEqProofs only[go_sem]) ?_
  simp -implicitDefEqProofs only[go_sem]
  try rfl
 | true =>
  have hfs:fitsU u 3 160 6000=true:=by
   unfold fitL at hf
   rw[Bool.and_eq_true]at hf
   exact hf.1
  have hfo:=(fit_ok (m:=160) (Nat.le_refl _) hfs)
  have hG:=KGraphF (m:=160) (Nat.le_refl _) hfs
  have hGl:=graph_len (m:=160) (Nat.le_refl _) hfs
  simp -implicitDefEqProofs only[go_sem]
  intro _
  refine⟨fun hn=>?_,fun hn=>?_⟩
  ·refine hAw.calls (by simp -implicitDefEqProofs only[go_sem]) ?_
   simp -implicitDefEqProofs only[go_sem]
   try rfl
  refine hG.calls (by simp -implicitDefEqProofs only[go_sem]) ?_
  have hfrom:∀ e∈graphU u,e.fr∈calN u:=fun e he=>graph_from hfo.1 he
  generalize graphU u=l at hG hGl hfrom
  have hR:=fun s=>KReach u l hGl hG s
  have hRec:=KRecursive u hfo.1 l hGl hG
  simp -implicitDefEqProofs only[go_sem]
  intro _ _
  refine⟨fun h30=>?_,fun h30=>?_⟩
  ·refine hAw.calls (by simp -implicitDefEqProofs only[go_sem]) ?_
   simp -implicitDefEqProofs only[go_sem]
   try rfl
  have hl30:l.length≤30:=by omega
  refine snd_list (β:=Unit) l (fun q _=>⟨[(9,.int .i64 q.length),(8,sl 9 ((loopQ l q).1.map encTx)),(7,sl 9 ((loopQ l q).2.map encTx)),(6,sl 9 ((wantQ l name q).map encTx)),(5,sl 38 (l.map Ed.enc)),(0,sl 70 (u.map Un.enc)),(1,.str name)],[],[]⟩)
   (fun q _ _=>True) () ?_ trivial ?_ ?_
  ·simp -implicitDefEqProofs only[go_sem]
   exact⟨rfl,rfl,rfl,rfl⟩
  ·intro _ _
   simp -implicitDefEqProofs only[go_sem]
   intro _ _
   refine hAw.calls (by simp -implicitDefEqProofs only[go_sem]) ?_
   simp -implicitDefEqProofs only[go_sem]
   have e1:=want_eq l name
   have e2:=loop_eq hfrom
   refine(hR name).calls (by simp -implicitDefEqProofs only[go_sem]) ?_
   simp -implicitDefEqProofs only[go_sem]
   refine(R03Strings (sortS (flwS l name)) (wantQ l name l)).calls (by simp -implicitDefEqProofs only[go_sem]) ?_
   simp -implicitDefEqProofs only[go_sem,e1,decide_true,eq_self]
   refine hRec.calls (by simp -implicitDefEqProofs only[go_sem]) ?_
   simp -implicitDefEqProofs only[go_sem]
   refine(R03Strings (recS u l) (loopQ l l).2).calls (by simp -implicitDefEqProofs only[go_sem]) ?_
   simp -implicitDefEqProofs only[go_sem,e2,decide_true,eq_self]
  ·rintro q e post _ hx _
   have hpl:l.length=q.length+1+post.length:=by rw[hx];simp;omega
   have hgx:(l.map Ed.enc).getD (q.length:Int).toNat []=e.enc:=by rw[hx];simp[List.getD_eq_getElem?_getD]
   have hlt:((q.length:Int)<l.length)=True:=by simp;omega
   have hw:IntKind.i64.wrap (↑q.length+1)=↑(q.length+1):=wrap_next (by omega)
   have hwl:=wantQ_len l name q []
   have hlq:=loopQ_len l q ([],[])
   have hsq:wantQ l name (q++[e])=wantF l name (wantQ l name q) e:=by simp[wantQ]
   have hlo:loopQ l (q++[e])=loopF l (loopQ l q) e:=by simp[loopQ]
   simp -implicitDefEqProofs only[go_sem,hgx,hlt,Ed.enc]
   intro _ _
   refine⟨fun he=>?_,fun he=>?_⟩
   ·have hwf:wantF l name (wantQ l name q) e=(sortS (flwS l e.to)).foldl insS (insS (wantQ l name q) e.to):=by rw[wantF,if_pos he]
    refine(hR e.to).calls (by simp -implicitDefEqProofs only[go_sem]) ?_
    simp -implicitDefEqProofs only[go_sem,hgx,hlt,Ed.enc]
    refine(R03Insert (wantQ l name q) e.to (by simp only[wantQ];simp only[List.length_nil]at hwl;have:=Nat.mul_le_mul (show q.length≤30 by omega) (show l.length+1≤31 by omega);omega)).calls (by simp -implicitDefEqProofs only[go_sem]) ?_
    simp -implicitDefEqProofs only[go_sem,hgx,hlt,Ed.enc]
    generalize hN:sortS (flwS l e.to)=N at hwf
    have hNl:N.length≤30:=by
     have:=flwS_len l e.to
     rw[hN]at this;omega
    refine snd_list (β:=Unit) N (fun r _=>⟨[(11,.int .i64 r.length),(10,sl 9 (N.map encTx)),(6,sl 9 ((r.foldl insS (insS (wantQ l name q) e.to)).map encTx)),(9,.int .i64 q.length),(8,sl 9 ((loopQ l q).1.map encTx)),(7,sl 9 ((loopQ l q).2.map encTx)),(5,sl 38 (l.map Ed.enc)),(0,sl 70 (u.map Un.enc)),(1,.str name)],[],[]⟩)
     (fun r _ _=>True) () ?_ trivial ?_ ?_
    ·simp -implicitDefEqProofs only[go_sem]
     exact⟨rfl,rfl⟩
    ·intro _ _
     simp -implicitDefEqProofs only[go_sem]
     intro _ _
     refine snd_draw (cs:=[]) mixed (by kernel_rfl) ?_
     simp -implicitDefEqProofs only[go_sem,hgx,hlt,Ed.enc]
     refine vPC_of (R03Has (loopQ l q).1 e.fr) (by simp -implicitDefEqProofs only[go_sem]) ?_
     cases hs:((loopQ l q).1.any fun x=>decide (x=e.fr))with
     | true =>
      have hlf:loopF l (loopQ l q) e=(insS (loopQ l q).1 e.fr,(loopQ l q).2):=by rw[loopF,if_neg (by rw[hs];simp)]
      simp -implicitDefEqProofs only[go_sem,hgx,hlt,Ed.enc]
      refine(R03Insert (loopQ l q).1 e.fr (by simp only[loopQ];simp only[List.length_nil]at hlq;omega)).calls (by simp -implicitDefEqProofs only[go_sem]) ?_
      simp -implicitDefEqProofs only[go_sem,hgx,hlt,Ed.enc]
      refine⟨(),hw,?_,?_,?_⟩ <;> first | rw[hlo,hlf] | rw[hsq,hwf]
     | false =>
      simp -implicitDefEqProofs only[go_sem,hgx,hlt,Ed.enc]
      refine vPC_of (hR e.fr) (by simp -implicitDefEqProofs only[go_sem]) ?_
      simp -implicitDefEqProofs only[go_sem,hgx,hlt,Ed.enc]
      refine vPC_of (R03Has (sortS (flwS l e.fr)) e.fr) (by simp -implicitDefEqProofs only[go_sem]) ?_
      cases hh:((sortS (flwS l e.fr)).any fun x=>decide (x=e.fr))with
      | true =>
       have hlf:loopF l (loopQ l q) e=(insS (loopQ l q).1 e.fr,insS (loopQ l q).2 e.fr):=by rw[loopF,if_pos ⟨hs,hh⟩]
       simp -implicitDefEqProofs only[go_sem,hgx,hlt,Ed.enc]
       refine(R03Insert (loopQ l q).2 e.fr (by simp only[loopQ];simp only[List.length_nil]at hlq;omega)).calls (by simp -implicitDefEqProofs only[go_sem]) ?_
       simp -implicitDefEqProofs only[go_sem,hgx,hlt,Ed.enc]
       refine(R03Insert (loopQ l q).1 e.fr (by simp only[loopQ];simp only[List.length_nil]at hlq;omega)).calls (by simp -implicitDefEqProofs only[go_sem]) ?_
       simp -implicitDefEqProofs only[go_sem,hgx,hlt,Ed.enc]
       refine⟨(),hw,?_,?_,?_⟩ <;> first | rw[hlo,hlf] | rw[hsq,hwf]
      | false =>
       have hlf:loopF l (loopQ l q) e=(insS (loopQ l q).1 e.fr,(loopQ l q).2):=by rw[loopF,if_neg (by rw[hh];simp)]
       simp -implicitDefEqProofs only[go_sem,hgx,hlt,Ed.enc]
       refine(R03Insert (loopQ l q).1 e.fr (by simp only[loopQ];simp only[List.length_nil]at hlq;omega)).calls (by simp -implicitDefEqProofs only[go_sem]) ?_
       simp -implicitDefEqProofs only[go_sem,hgx,hlt,Ed.enc]
       refine⟨(),hw,?_,?_,?_⟩ <;> first | rw[hlo,hlf] | rw[hsq,hwf]
    ·rintro r s post2 _ hx2 _
     have hpl2:N.length=r.length+1+post2.length:=by rw[hx2];simp;omega
     have hgx2:(N.map encTx).getD (r.length:Int).toNat []=encTx s:=by rw[hx2];simp[List.getD_eq_getElem?_getD]
     have hlt2:((r.length:Int)<N.length)=True:=by simp;omega
     have hw2:IntKind.i64.wrap (↑r.length+1)=↑(r.length+1):=wrap_next (by omega)
     have hfi:=foldI_len r (insS (wantQ l name q) e.to)
     have hil:=insS_len (wantQ l name q) e.to
     have hwl2:(wantQ l name q).length≤q.length * (l.length+1):=by simpa[wantQ]using hwl
     have hmm:=Nat.mul_le_mul (show q.length≤30 by omega) (show l.length+1≤31 by omega)
     simp -implicitDefEqProofs only[go_sem,hgx2,hlt2,encTx]
     intro _ _
     refine(R03Insert (r.foldl insS (insS (wantQ l name q) e.to)) s (by omega)).calls (by simp -implicitDefEqProofs only[go_sem]) ?_
     simp -implicitDefEqProofs only[go_sem,hgx2,hlt2,encTx]
     exact⟨(),hw2,by rw[List.foldl_append];rfl⟩
   ·have hwf:wantF l name (wantQ l name q) e=wantQ l name q:=by rw[wantF,if_neg he]
    refine snd_draw (cs:=[]) mixed (by kernel_rfl) ?_
    simp -implicitDefEqProofs only[go_sem,hgx,hlt,Ed.enc]
    refine vPC_of (R03Has (loopQ l q).1 e.fr) (by simp -implicitDefEqProofs only[go_sem]) ?_
    cases hs:((loopQ l q).1.any fun x=>decide (x=e.fr))with
    | true =>
     have hlf:loopF l (loopQ l q) e=(insS (loopQ l q).1 e.fr,(loopQ l q).2):=by rw[loopF,if_neg (by rw[hs];simp)]
     simp -implicitDefEqProofs only[go_sem,hgx,hlt,Ed.enc]
     refine(R03Insert (loopQ l q).1 e.fr (by simp only[loopQ];simp only[List.length_nil]at hlq;omega)).calls (by simp -implicitDefEqProofs only[go_sem]) ?_
     simp -implicitDefEqProofs only[go_sem,hgx,hlt,Ed.enc]
     refine⟨(),hw,?_,?_,?_⟩ <;> first | rw[hlo,hlf] | rw[hsq,hwf]
    | false =>
     simp -implicitDefEqProofs only[go_sem,hgx,hlt,Ed.enc]
     refine vPC_of (hR e.fr) (by simp -implicitDefEqProofs only[go_sem]) ?_
     simp -implicitDefEqProofs only[go_sem,hgx,hlt,Ed.enc]
     refine vPC_of (R03Has (sortS (flwS l e.fr)) e.fr) (by simp -implicitDefEqProofs only[go_sem]) ?_
     cases hh:((sortS (flwS l e.fr)).any fun x=>decide (x=e.fr))with
     | true =>
      have hlf:loopF l (loopQ l q) e=(insS (loopQ l q).1 e.fr,insS (loopQ l q).2 e.fr):=by rw[loopF,if_pos ⟨hs,hh⟩]
      simp -implicitDefEqProofs only[go_sem,hgx,hlt,Ed.enc]
      refine(R03Insert (loopQ l q).2 e.fr (by simp only[loopQ];simp only[List.length_nil]at hlq;omega)).calls (by simp -implicitDefEqProofs only[go_sem]) ?_
      simp -implicitDefEqProofs only[go_sem,hgx,hlt,Ed.enc]
      refine(R03Insert (loopQ l q).1 e.fr (by simp only[loopQ];simp only[List.length_nil]at hlq;omega)).calls (by simp -implicitDefEqProofs only[go_sem]) ?_
      simp -implicitDefEqProofs only[go_sem,hgx,hlt,Ed.enc]
      refine⟨(),hw,?_,?_,?_⟩ <;> first | rw[hlo,hlf] | rw[hsq,hwf]
     | false =>
      have hlf:loopF l (loopQ l q) e=(insS (loopQ l q).1 e.fr,(loopQ l q).2):=by rw[loopF,if_neg (by rw[hh];simp)]
      simp -implicitDefEqProofs only[go_sem,hgx,hlt,Ed.enc]
      refine(R03Insert (loopQ l q).1 e.fr (by simp only[loopQ];simp only[List.length_nil]at hlq;omega)).calls (by simp -implicitDefEqProofs only[go_sem]) ?_
      simp -implicitDefEqProofs only[go_sem,hgx,hlt,Ed.enc]
      refine⟨(),hw,?_,?_,?_⟩ <;> first | rw[hlo,hlf] | rw[hsq,hwf]
end Go.Proofs.YtighfcpaplmaiaaGreatDoor
