/- The table of a sound tree: what holds of its rows. -/
import Derived.Test.YtamednbojpnalaaGreatDoorUcG
import Derived.Test.YtamednbojpnalaaGreatDoorUcI
import Derived.Test.YtamednbojpnalaaGreatDoorUcK
set_option linter.unusedVariables false
set_option linter.unusedSimpArgs false
set_option maxRecDepth 20000
namespace Go.Vg
def kidR(rs:List Rw)(b i:Nat):Prop:=∃ (q j:Nat) (r s:Rw),rs[i]? = some r∧r.parent=((b+q:Nat):Int)∧q<i∧rs[q]? = some s∧s.kids[j]? = some (b+i)
theorem kidR_left{rs rs':List Rw}{b i:Nat}(h:kidR rs b i):kidR (rs++rs') b i:=by
 obtain⟨q,j,r,s,h1,h2,h3,h4,h5⟩:=h
 refine⟨q,j,r,s,?_,h2,h3,?_,h5⟩
 ·rw[List.getElem?_append_left (List.getElem?_eq_some_iff.1 h1).1];exact h1
 ·rw[List.getElem?_append_left (List.getElem?_eq_some_iff.1 h4).1];exact h4
theorem kidR_right{rs rs':List Rw}{b i:Nat}(h:kidR rs' (b+rs.length) i):kidR (rs++rs') b (rs.length+i):=by
 obtain⟨q,j,r,s,h1,h2,h3,h4,h5⟩:=h
 refine⟨rs.length+q,j,r,s,?_,by rw[h2];congr 1;omega,by omega,?_,by rw[h5,Nat.add_assoc]⟩
 ·rw[List.getElem?_append_right (by omega)];simpa using h1
 ·rw[List.getElem?_append_right (by omega)];simpa using h4
theorem rows_kidR:∀ (n:Nd) (p:Int) (b i:Nat),0<i→i<(nodes n).length→kidR (rowsN n p b) b i:=by
 refine Nd.all fun k t g ks ih p b i h0 hi=>?_
 have hs:∀ l:List Nd,(∀ x∈l,∀ (p:Int) (b i:Nat),0<i→i<(nodes x).length→kidR (rowsN x p b) b i)→∀ (p b i:Nat),i<(nodesL l).length →
   (∃ (j:Nat) (r:Rw),(rowsL l p b)[i]? = some r∧r.parent=p∧(kidsAt l b)[j]? = some (b+i))∨kidR (rowsL l p b) b i:=by
  intro l
  induction l with
  | nil=>intro _ p b i h;simp[nodesL]at h
  | cons x r ihr =>
   intro hx p b i hi
   rw[rowsL]
   have hlen:(rowsN x p b).length=(nodes x).length:=rowsN_len ..
   rcases Nat.lt_or_ge i (nodes x).length with hl | hl
   ·rcases Nat.eq_zero_or_pos i with h0 | h0
    ·subst h0
     left
     refine⟨0,(rowsN x p b)[0],?_,?_,?_⟩
     ·rw[List.getElem?_append_left (by omega)];exact List.getElem?_eq_getElem _
     ·obtain⟨k,t,g,ks⟩:=x
      simp[rowsN]
     ·simp[kidsAt]
    ·exact .inr (kidR_left (hx x (by simp) p b i h0 hl))
   ·rw[nodesL,List.length_append]at hi
    rcases ihr (fun y hy=>hx y (by simp[hy])) p (b+(nodes x).length) (i - (nodes x).length) (by omega)with⟨j,rr,h1,h2,h3⟩ | h
    ·left
     refine⟨j+1,rr,?_,h2,?_⟩
     ·rw[List.getElem?_append_right (by omega),hlen];exact h1
     ·rw[kidsAt,List.getElem?_cons_succ,h3];congr 1;omega
    ·right
     have:=kidR_right (rs:=rowsN x p b) (rs':=rowsL r p (b+(nodes x).length)) (b:=b) (i:=i - (nodes x).length) (by rw[hlen];exact h)
     rw[hlen,show(nodes x).length+(i - (nodes x).length)=i by omega]at this
     exact this
 rw[rows_root]
 obtain⟨i,rfl⟩:∃ m,i=m+1:=⟨i - 1,by omega⟩
 rw[nodes_mk]at hi
 rcases hs ks ih b (b+1) i (by omega)with⟨j,r,h1,h2,h3⟩ | ⟨q,j,r,s,h1,h2,h3,h4,h5⟩
 ·exact⟨0,j,r,_,by simpa using h1,by rw[h2];simp,by omega,rfl,by rw[h3];congr 1;omega⟩
 ·exact⟨q+1,j,r,s,by simpa using h1,by rw[h2];congr 1;omega,by omega,by simpa using h4,by rw[h5];congr 1;omega⟩
theorem kidsAt_get:∀ (ks:List Nd) (b j:Nat),j<ks.length→(kidsAt ks b)[j]? = some (b+(nodesL (ks.take j)).length)
 | [],b,j,h=>by simp at h
 | x::r,b,0,h=>by simp[kidsAt,nodesL]
 | x::r,b,j+1,h=>by
  rw[kidsAt,List.getElem?_cons_succ,kidsAt_get r _ j (by simpa using h),List.take_succ_cons,nodesL,List.length_append,Nat.add_assoc]
def endN(n:Nd)(i:Nat):Nat:=i+(((nodes n)[i]?).map fun y=>(nodes y).length).getD 0
theorem endN_at{n y:Nd}{i:Nat}(h:(nodes n)[i]? = some y):endN n i=i+(nodes y).length:=by simp[endN,h]
theorem nodes_pos(n:Nd):0<(nodes n).length:=by obtain⟨k,t,g,ks⟩:=n;rw[nodes_mk];omega
theorem kid_end{n:Nd}{i j c:Nat}{k:Int}{t g}{ks:List Nd}(h:(nodes n)[i]? = some (.mk k t g ks))(hc:(kidsAt ks (i+1))[j]? = some c) :
  ∃ z,ks[j]? = some z∧(nodes n)[c]? = some z∧i<c∧endN n c≤endN n i∧(∀ c',(kidsAt ks (i+1))[j+1]? = some c'→c'=endN n c):=by
 have hl:=(List.getElem?_eq_some_iff.1 hc).1
 rw[kidsAt_len]at hl
 obtain⟨c',h1,h2⟩:=kid_at h (List.getElem?_eq_getElem hl)
 have:c'=c:=by rw[hc]at h1;simpa using h1.symm
 subst this
 rw[kidsAt_get ks _ j hl]at hc
 simp at hc
 have hsum:(nodesL (ks.take j)).length+(nodes ks[j]).length≤(nodesL ks).length:=by
  have:ks=ks.take j++ks[j]::ks.drop (j+1):=by simp
  have h3:(nodesL ks).length=(nodesL (ks.take j++ks[j]::ks.drop (j+1))).length:=by rw[←this]
  rw[nodesL_app,List.length_append,nodesL,List.length_append]at h3
  omega
 refine⟨_,List.getElem?_eq_getElem hl,h2,by omega,?_,fun c2 h3=>?_⟩
 ·rw[endN_at h2,endN_at h,nodes_mk];omega
 ·have hl2:=(List.getElem?_eq_some_iff.1 h3).1
  rw[kidsAt_len]at hl2
  rw[kidsAt_get ks _ _ hl2,List.take_add_one,List.getElem?_eq_getElem hl,Option.toList_some,nodesL_snoc,List.length_append]at h3
  simp at h3
  rw[endN_at h2];omega
theorem kids_mono{n:Nd}{i j j' c c':Nat}{k:Int}{t g}{ks:List Nd}(h:(nodes n)[i]? = some (.mk k t g ks))(hc:(kidsAt ks (i+1))[j]? = some c)(hc':(kidsAt ks (i+1))[j']? = some c')(hj:j<j'):endN n c≤c':=by
 obtain⟨z,h1,h2,h3,h4,h5⟩:=kid_end h hc
 have hl:=(List.getElem?_eq_some_iff.1 hc).1
 have hl':=(List.getElem?_eq_some_iff.1 hc').1
 rw[kidsAt_len]at hl hl'
 have h6:=h5 _ (kidsAt_get ks (i+1) (j+1) (by omega))
 rw[←h6]
 rw[kidsAt_get ks _ j' hl']at hc'
 simp at hc'
 have:ks.take j'=ks.take (j+1)++(ks.drop (j+1)).take (j' - (j+1)):=by
  rw[←List.take_add];congr 1;omega
 rw[this,nodesL_app,List.length_append]at hc'
 omega
theorem rowsL_prt:∀ (ks:List Nd) (p b j:Nat),j<ks.length→∃ o r,(kidsAt ks b)[j]? = some (b+o)∧(rowsL ks p b)[o]? = some r∧r.parent=p
 | [],p,b,j,h=>by simp at h
 | x::r,p,b,0,h=>by
  obtain⟨k,t,g,ks⟩:=x
  exact⟨0,⟨p,k,t,g,kidsAt ks (b+1)⟩,by simp[kidsAt],by simp[rowsL,rowsN],rfl⟩
 | x::r,p,b,j+1,h=>by
  obtain⟨o,s,h1,h2,h3⟩:=rowsL_prt r p (b+(nodes x).length) j (by simpa using h)
  refine⟨(nodes x).length+o,s,by rw[kidsAt,List.getElem?_cons_succ,h1,Nat.add_assoc],?_,h3⟩
  rw[rowsL,List.getElem?_append_right (by rw[rowsN_len];omega),rowsN_len]
  simpa using h2
theorem kid_par{n:Nd}{i j c:Nat}{k:Int}{t g}{ks:List Nd}(h:(nodes n)[i]? = some (.mk k t g ks))(hc:(kidsAt ks (i+1))[j]? = some c):∃ r,(rowsN n (-1) 0)[c]? = some r∧r.parent=i:=by
 have hl:=(List.getElem?_eq_some_iff.1 hc).1
 rw[kidsAt_len]at hl
 obtain⟨A,B,h1,h2,h3⟩:=split_at n i _ h
 obtain⟨q,A',B',g1,g2⟩:=h3 (-1) 0
 obtain⟨o,r,f1,f2,f3⟩:=rowsL_prt ks i (i+1) j hl
 refine⟨r,?_,f3⟩
 rw[hc]at f1
 have hco:c=i+1+o:=by simpa using f1
 have hol:=(List.getElem?_eq_some_iff.1 f2).1
 rw[g1,rows_root,Nat.zero_add,List.append_assoc,List.getElem?_append_right (by omega),g2,hco,show i+1+o - i=o+1 by omega,List.cons_append,List.getElem?_cons_succ,List.getElem?_append_left hol]
 exact f2
theorem kdAt_get{l:List Rw}{i j:Nat}(h:j<(rwAt l i).kids.length):(rwAt l i).kids[j]? = some (kdAt l i j):=by
 rw[kdAt,List.getD_eq_getElem?_getD,List.getElem?_eq_getElem h];rfl
theorem rwAt_some{l:List Rw}{i:Nat}{r:Rw}(h:l[i]? = some r):rwAt l i=r:=by simp[rwAt,List.getD_eq_getElem?_getD,h]
theorem row_node{n:Nd}{i:Nat}(hi:i<(rowsN n (-1) 0).length):∃ k t g ks,(nodes n)[i]? = some (.mk k t g ks)∧(rwAt (rowsN n (-1) 0) i).kind=k∧(rwAt (rowsN n (-1) 0) i).text=t∧(rwAt (rowsN n (-1) 0) i).kids=kidsAt ks (i+1):=by
 have hlen:(rowsN n (-1) 0).length=(nodes n).length:=rowsN_len ..
 have hn:(nodes n)[i]? = some (nodes n)[i]:=List.getElem?_eq_getElem (by omega)
 generalize(nodes n)[i]=y at hn
 obtain⟨k,t,g,ks⟩:=y
 exact⟨k,t,g,ks,hn,rwAt_at hn⟩
theorem gramL_of{n:Nd}(hc:checkN n=0)(hl:(nodes n).length≤1000)(h1:n.kind=1):gramL (rowsN n (-1) 0):=by
 have hsh:=check_nodes hc
 have hlen:(rowsN n (-1) 0).length=(nodes n).length:=rowsN_len ..
 have hkid:∀ i<(rowsN n (-1) 0).length,∀ j<(rwAt (rowsN n (-1) 0) i).kids.length,i<kdAt (rowsN n (-1) 0) i j∧kdAt (rowsN n (-1) 0) i j<(rowsN n (-1) 0).length∧(rwAt (rowsN n (-1) 0) (kdAt (rowsN n (-1) 0) i j)).parent=i ∧
   fitsK (rwAt (rowsN n (-1) 0) i).kind j (rwAt (rowsN n (-1) 0) (kdAt (rowsN n (-1) 0) i j)).kind=true:=by
  intro i hi j hj
  obtain⟨k,t,g,ks,e1,e2,e3,e4⟩:=row_node hi
  have hg:=kdAt_get hj
  rw[e4]at hg
  obtain⟨z,g1,g2,g3,g4,_⟩:=kid_end e1 hg
  have hcl:=(List.getElem?_eq_some_iff.1 g2).1
  refine⟨g3,by omega,?_,?_⟩
  ·obtain⟨r,f1,f2⟩:=kid_par e1 hg
   rw[rwAt_some f1,f2]
  ·rw[e2]
   have hf:=(shape_least (hsh _ (List.mem_of_getElem? e1))).2.1
   have:=fitsFrom_get hf j z g1
   obtain⟨zk,zt,zg,zks⟩:=z
   rw[(rwAt_at g2).1]
   rw[Int.zero_add]at this
   exact this
 have hshp:∀ i<(rowsN n (-1) 0).length,∃ k t g ks,(nodes n)[i]? = some (.mk k t g ks)∧(Nd.mk k t g ks).shape=true∧(rwAt (rowsN n (-1) 0) i).kind=k∧(rwAt (rowsN n (-1) 0) i).text=t∧(rwAt (rowsN n (-1) 0) i).kids=kidsAt ks (i+1):=by
  intro i hi
  obtain⟨k,t,g,ks,e1,e2⟩:=row_node hi
  exact⟨k,t,g,ks,e1,hsh _ (List.mem_of_getElem? e1),e2⟩
 refine⟨rowsOK_of (by omega),fun i hi=>?_,fun i hi=>?_,fun i hi j hj=>?_,fun i hi=>?_,fun i hi j hj=>?_,fun hi=>?_,fun i hi h0=>?_,fun i hi h2=>?_⟩
 ·obtain⟨k,t,g,ks,e1,e2,e3,e4⟩:=hshp i hi
  rw[e3]
  unfold Nd.shape at e2
  simp only[Bool.and_eq_true,Bool.not_eq_true',decide_eq_false_iff_not]at e2
  obtain⟨⟨⟨⟨⟨h1,h2⟩,h3⟩,h4⟩,h5⟩,h6⟩:=e2
  have:(Nd.mk k t g ks).kind=k:=rfl
  omega
 ·obtain⟨k,t,g,ks,e1,e2,e3,e4,e5⟩:=hshp i hi
  rw[e3,e5,kidsAt_len]
  exact(shape_least e2).1
 ·exact(hkid i hi j hj).2.2.2
 ·obtain⟨k,t,g,ks,e1,e2,e3,e4,e5⟩:=hshp i hi
  rw[e3,e4]
  exact(shape_least e2).2.2
 ·exact⟨(hkid i hi j hj).1,(hkid i hi j hj).2.1,(hkid i hi j hj).2.2.1⟩
 ·obtain⟨k,t,g,ks⟩:=n
  exact h1
 ·obtain⟨q,j,r,s,f1,f2,f3,f4,f5⟩:=rows_kidR n (-1) 0 i h0 (by omega)
  refine⟨q,by rw[rwAt_some f1,f2,Nat.zero_add],f3,j,?_,?_⟩
  ·rw[rwAt_some f4];exact(List.getElem?_eq_some_iff.1 f5).1
  ·rw[kdAt,rwAt_some f4,List.getD_eq_getElem?_getD,f5,Nat.zero_add];rfl
 ·obtain⟨k,t,g,ks,e1,e2,e3,e4⟩:=row_node hi
  exact sign_ok hc hl e1 (by rw[e2]at h2;exact h2)
end Go.Vg
set_option maxRecDepth 20000
namespace Go.Vg
theorem find_globL(k:Int)(n:ByteArray):∀ (l M:List Dl),(l.foldl addGl M).find? (keyG k n)=(M.find? (keyG k n)).or (l.find? (keyG k n))
 | [],M=>by simp
 | d::r,M=>by
  rw[List.foldl_cons,find_globL k n r,List.find?_cons]
  unfold addGl
  by_cases h:M.any (keyG d.kind d.name)=false
  ·rw[if_pos h,List.find?_append,List.find?_cons,List.find?_nil,Option.or_assoc]
   cases keyG k n d <;> simp
  ·rw[if_neg h]
   cases hk:keyG k n d with
   | false=>rfl
   | true =>
    have h':M.any (keyG d.kind d.name)=true:=by simpa using h
    have e:k=d.kind∧n=d.name:=by simpa[keyG]using hk
    obtain⟨rfl,rfl⟩:=e
    have:(M.find? (keyG d.kind d.name)).isSome=true:=by
     rw[List.find?_isSome]
     obtain⟨x,hx,hp⟩:=List.any_eq_true.1 h'
     exact⟨x,hx,hp⟩
    obtain⟨y,hy⟩:=Option.isSome_iff_exists.1 this
    rw[hy];rfl
theorem glob_find(k:Int)(n:ByteArray)(l:List Dl):(globL l).find? (keyG k n)=l.find? (keyG k n):=by
 unfold globL
 rw[find_globL];rfl
theorem filter_lt{α:Type}{p q:α→Bool}:∀ (l:List α),(∀ x∈l,p x=true→q x=true)→(∃ x∈l,q x=true∧p x=false)→(l.filter p).length<(l.filter q).length:=by
 have le:∀ l:List α,(∀ x∈l,p x=true→q x=true)→(l.filter p).length≤(l.filter q).length:=by
  intro l
  induction l with
  | nil=>intro _;simp
  | cons a r ih =>
   intro h
   have:=ih fun x hx=>h x (by simp[hx])
   have ha:=h a (by simp)
   rw[List.filter_cons,List.filter_cons]
   cases hp:p a <;> cases hq:q a <;> simp_all <;> omega
 intro l
 induction l with
 | nil=>rintro _ ⟨x,hx,_⟩;cases hx
 | cons a r ih =>
  intro h h2
  have h1:=le r fun x hx=>h x (by simp[hx])
  have ha:=h a (by simp)
  rw[List.filter_cons,List.filter_cons]
  obtain⟨x,hx,hxq,hxp⟩:=h2
  rcases List.mem_cons.1 hx with rfl | hx
  ·rw[hxp,hxq];simp;omega
  ·have:=ih (fun x hx=>h x (by simp[hx])) ⟨x,hx,hxq,hxp⟩
   cases hp:p a <;> cases hq:q a <;> simp_all <;> omega
def bfN(n:Nd)(q i:Nat):Bool:=decide (endN n q<endN n i∨(endN n q=endN n i∧i<q))
def mesN(n:Nd)(i:Nat):Nat:=((List.range (nodes n).length).filter fun j=>bfN n j i).length
theorem mesN_lt{n:Nd}{i:Nat}(hi:i<(nodes n).length):mesN n i<(nodes n).length:=by
 have:=filter_lt (p:=fun j=>bfN n j i) (q:=fun _=>true) (List.range (nodes n).length) (fun _ _ _=>rfl) ⟨i,by simpa using hi,rfl,by simp[bfN]⟩
 rw[List.filter_eq_self.2 (fun _ _=>rfl:∀ a∈List.range (nodes n).length,(fun _=>true) a=true)]at this
 simpa[mesN]using this
theorem mesN_mono{n:Nd}{q i:Nat}(hq:q<(nodes n).length)(h:bfN n q i=true):mesN n q<mesN n i:=by
 refine filter_lt _ (fun x _ hx=>?_) ⟨q,by simpa using hq,h,by simp[bfN]⟩
 simp only[bfN,decide_eq_true_eq]at h hx ⊢
 omega
theorem before_mem{k c:Nat}:∀ {ks:List Nat},c∈before k ks→∃ j:Nat,ks[j]? = some c∧∀ j':Nat,ks[j']? = some k→j<j'
 | [],h=>by simp[before]at h
 | x::r,h=>by
  unfold before at h
  rw[List.takeWhile_cons]at h
  split at h
  ·rename_i hx
   have hxk:¬ x=k:=by simpa using hx
   rcases List.mem_cons.1 h with rfl | h
   ·refine⟨0,rfl,fun j' hj=>?_⟩
    cases j' with
    | zero=>simp at hj;exact(hxk hj).elim
    | succ j'=>omega
   ·obtain⟨j,h1,h2⟩:=before_mem (ks:=r) h
    refine⟨j+1,by simpa using h1,fun j' hj=>?_⟩
    cases j' with
    | zero=>simp at hj;exact(hxk hj).elim
    | succ j'=>have:=h2 j' (by simpa using hj);omega
  ·cases h
theorem vis_mem{n:Nd}(hg:gramL (rowsN n (-1) 0)):∀ (f k:Nat),k<(rowsN n (-1) 0).length→∀ d∈visL (rowsN n (-1) 0) f k,d<(rowsN n (-1) 0).length∧((rwAt (rowsN n (-1) 0) d).kind=10∧endN n d≤k∨(rwAt (rowsN n (-1) 0) d).kind=4):=by
 intro f
 induction f with
 | zero=>intro k _ d h;simp[visL]at h
 | succ f ih =>
  intro k hk d h
  rw[visL]at h
  split at h
  ·cases h
  rename_i h0
  have hp:=(hg.ok.par k hk).1
  have hk0:0<k:=by omega
  obtain⟨p,hpe,hpk,jk,hjk,hkk⟩:=hg.par k hk hk0
  rw[hpe,Int.toNat_natCast]at h
  have hpl:p<(rowsN n (-1) 0).length:=by omega
  rcases List.mem_append.1 h with h | h
  ·obtain⟨c,hc,hd⟩:=List.mem_flatMap.1 h
   obtain⟨j,hj,hj2⟩:=before_mem hc
   have hjl:=(List.getElem?_eq_some_iff.1 hj).1
   have hkg:=kdAt_get hjk
   rw[hkk]at hkg
   have hlt:=hj2 jk hkg
   obtain⟨pk,pt,pg,pks,e1,e2,e3,e4⟩:=row_node hpl
   rw[e4]at hj hkg
   have hend:=kids_mono e1 hj hkg hlt
   obtain⟨z,_,hz,_⟩:=kid_end e1 hj
   have hlen:(rowsN n (-1) 0).length=(nodes n).length:=rowsN_len ..
   have hcl:=(List.getElem?_eq_some_iff.1 hz).1
   unfold levelAt at hd
   rcases List.mem_append.1 hd with hd | hd
   ·split at hd
    ·rename_i hcond
     have:=List.mem_singleton.1 hd
     subst this
     exact⟨by omega,.inl ⟨hcond.2,hend⟩⟩
    ·cases hd
   ·split at hd
    ·rename_i hcond
     obtain⟨h1,h2⟩:=List.mem_filter.1 hd
     have:=(hg.ok.kids c (by omega)).2 d h1
     exact⟨this,.inr (by simpa using h2)⟩
    ·cases hd
  ·split at h
   ·cases h
   ·obtain⟨h1,h2⟩:=ih p hpl d h
    refine⟨h1,h2.imp (fun⟨h3,h4⟩=>⟨h3,by omega⟩) id⟩
theorem found_mem{l:List Rw}{t:ByteArray}{vs:List Nat}(h:0≤foundL l t vs):∃ v∈vs,foundL l t vs=v∧(rwAt l v).text=t:=by
 unfold foundL at h ⊢
 cases hf:vs.find? fun n=>decide ((rwAt l n).text=t)with
 | none=>rw[hf]at h;simp at h
 | some v=>exact⟨v,List.mem_of_find?_eq_some hf,rfl,by simpa using List.find?_some hf⟩
theorem walkD_dt:∀ (n:Nd) (u:Int) (m:Nat) (x:Ar) (d:Dl),d∈walkD n u m x→∃ (j:Nat) (y:Nd) (a:Ar),(nodes n)[j]? = some y∧declT y.kind y.text u ((m+j:Nat):Int) a=some d:=by
 refine Nd.all fun k t g ks ih u m x d hd=>?_
 have hs:∀ (l:List Nd),(∀ y∈l,∀ (u:Int) (m:Nat) (x:Ar) (d:Dl),d∈walkD y u m x→∃ (j:Nat) (z:Nd) (a:Ar),(nodes y)[j]? = some z∧declT z.kind z.text u ((m+j:Nat):Int) a=some d)→∀ (m:Nat) (x:Ar) (d:Dl),d∈walkDs l u m x →
   ∃ (j:Nat) (z:Nd) (a:Ar),(nodesL l)[j]? = some z∧declT z.kind z.text u ((m+j:Nat):Int) a=some d:=by
  intro l
  induction l with
  | nil=>intro _ m x d hd;simp[walkDs]at hd
  | cons z r ihr =>
   intro h m x d hd
   rw[walkDs,List.mem_append]at hd
   rcases hd with hd | hd
   ·obtain⟨j,y,a,h2,h3⟩:=h z (by simp) u m x d hd
    exact⟨j,y,a,by rw[nodesL,List.getElem?_append_left (List.getElem?_eq_some_iff.1 h2).1];exact h2,h3⟩
   ·obtain⟨j,y,a,h2,h3⟩:=ihr (fun y hy=>h y (by simp[hy])) _ x d hd
    refine⟨(nodes z).length+j,y,a,by rw[nodesL,List.getElem?_append_right (by omega)];simpa using h2,?_⟩
    rw[←h3];congr 2;omega
 rw[walkD,List.mem_append]at hd
 rcases hd with hd | hd
 ·cases hdt:declT k t u m x with
  | none=>rw[hdt]at hd;cases hd
  | some d' =>
   rw[hdt]at hd
   simp at hd
   subst hd
   exact⟨0,.mk k t g ks,x,by simp[nodes],by rw[Nat.add_zero];exact hdt⟩
 ·obtain⟨j,y,a,h2,h3⟩:=hs ks ih _ _ d hd
  refine⟨j+1,y,a,by simpa[nodes]using h2,?_⟩
  rw[←h3];congr 2;omega
theorem declsU_dt:∀ (u:List Un) (i:Nat) (d:Dl),d∈declsU u i→∃ (un:Nat) (x:Un) (j:Nat) (y:Nd) (a:Ar),u[un]? = some x∧x.broken=false∧(nodes x.tree)[j]? = some y∧declT y.kind y.text ((i+un:Nat):Int) (j:Int) a=some d
 | [],i,d,h=>by simp[declsU]at h
 | x::r,i,d,h=>by
  rw[declsU,List.mem_append]at h
  rcases h with h | h
  ·split at h
   ·cases h
   ·rename_i hb
    obtain⟨j,y,a,h1,h2⟩:=walkD_dt x.tree i 0 Ar.none d h
    exact⟨0,x,j,y,a,rfl,by simpa using hb,h1,by simpa using h2⟩
  ·obtain⟨un,y,j,z,a,h1,h2,h3,h4⟩:=declsU_dt r (i+1) d h
   refine⟨un+1,y,j,z,a,by simpa using h1,h2,h3,?_⟩
   rw[←h4];congr 2;omega
theorem declT_kind{k:Int}{t:ByteArray}{u m:Int}{x:Ar}{d:Dl}(h:declT k t u m x=some d):d.unit=u∧d.node=m∧d.name=t∧((k=2∧(d.kind=1∨d.kind=4))∨(k=7∧d.kind=2)∨(k=9∧d.kind=3)∨(k=4∧d.kind=5)∨(k=10∧d.kind=6)):=by
 unfold declT at h
 repeat' split at h
 all_goals first | (cases h;done) | (cases h;simp_all)
end Go.Vg
namespace Go.Proofs.YtamednbojpnalaaGreatDoor
open Go Go.Vg Go.Proofs
theorem tab_unit{u:List Un}(hb:∀ x∈u,x.broken=false){un:Nat}{l:List Rw}(h:(tabsU u)[un]? = some l):∃ x,u[un]? = some x∧l=rowsN x.tree (-1) 0:=by
 unfold tabsU at h
 rw[List.getElem?_map]at h
 obtain⟨x,h1,h2⟩:=Option.map_eq_some_iff.1 h
 refine⟨x,h1,?_⟩
 rw[if_neg (by rw[hb x (List.mem_of_getElem? h1)];simp)]at h2
 exact h2.symm
theorem unit_tab{u:List Un}(hb:∀ x∈u,x.broken=false){un:Nat}{x:Un}(h:u[un]? = some x):(tabsU u)[un]? = some (rowsN x.tree (-1) 0):=by
 unfold tabsU
 rw[List.getElem?_map,h,Option.map_some,if_neg (by rw[hb x (List.mem_of_getElem? h)];simp)]
theorem getM_uses{k d:Int×Int}:∀ (us:List Us) (M:List ((Int×Int)×(Int×Int))),getM (us.foldl addD M) k=some d→(∃ x∈us,k=((x.un:Int),(x.nd:Int))∧x.to=some d)∨getM M k=some d
 | [],M,h => .inr h
 | x::r,M,h=>by
  rw[List.foldl_cons]at h
  rcases getM_uses r _ h with⟨y,h1,h2⟩ | h
  ·exact .inl ⟨y,by simp[h1],h2⟩
  ·unfold addD at h
   split at h
   ·rename_i d' hd
    rw[get_set]at h
    split at h
    ·rename_i hk
     simp only[Option.some.injEq]at h
     subst h
     exact .inl ⟨x,by simp,hk,hd⟩
    ·exact .inr h
   ·exact .inr h
theorem usesL_mem{M:List Dl}{x:Us}:∀ (tb:List (List Rw)) (n:Nat),x∈usesL M tb n→∃ (un i:Nat) (l:List Rw),tb[un]? = some l∧i<l.length∧(useK (rwAt l i).kind (rwAt l i).text).2=true∧x=⟨n+un,i,resK l M (n+un) i (useK (rwAt l i).kind (rwAt l i).text).1⟩
 | [],n,h=>by simp[usesL]at h
 | l::r,n,h=>by
  rw[usesL,List.mem_append]at h
  rcases h with h | h
  ·obtain⟨i,hi,h⟩:=List.mem_flatMap.1 h
   unfold useAt at h
   split at h
   ·rename_i hu
    exact⟨0,i,l,rfl,by simpa using hi,hu,List.mem_singleton.1 h⟩
   ·cases h
  ·obtain⟨un,i,l',h1,h2,h3,h4⟩:=usesL_mem r (n+1) h
   exact⟨un+1,i,l',by simpa using h1,h2,h3,by rw[h4,show n+1+un=n+(un+1)by omega]⟩
theorem dclU_res{u:List Un}{un i:Nat}{l:List Rw}(hl:(tabsU u)[un]? = some l){d:Int×Int}(h:getM (dclU u) ((un:Int),(i:Int))=some d) :
  (useK (rwAt l i).kind (rwAt l i).text).2=true∧resK l (globL (declsU u 0)) un i (useK (rwAt l i).kind (rwAt l i).text).1=some d:=by
 rcases getM_uses _ _ h with⟨x,h1,h2,h3⟩ | h
 ·obtain⟨un',i',l',g1,g2,g3,g4⟩:=usesL_mem _ _ h1
  subst g4
  simp only[Nat.zero_add,Prod.mk.injEq]at h2 h3 ⊢
  obtain⟨e1,e2⟩:=h2
  have e1':un=un':=by omega
  have e2':i=i':=by omega
  subst e1' e2'
  rw[hl]at g1
  cases g1
  exact⟨g3,h3⟩
 ·simp[getM]at h
structure SndU(u:List Un):Prop where
 fit:fitU u
 snd:∀ x∈u,soundB x=true
theorem SndU.br{u:List Un}(h:SndU u):∀ x∈u,x.broken=false:=fun x hx=>by
 have:=h.snd x hx
 simp only[soundB,Bool.and_eq_true,Bool.not_eq_true']at this
 exact this.1.1
theorem SndU.gram{u:List Un}(h:SndU u):∀ l∈tabsU u,gramL l:=by
 intro l hl
 obtain⟨un,hun⟩:=List.mem_iff_getElem?.1 hl
 obtain⟨x,hx,rfl⟩:=tab_unit h.br hun
 have hxm:=List.mem_of_getElem? hx
 have:=h.snd x hxm
 simp only[soundB,Bool.and_eq_true,decide_eq_true_eq]at this
 exact gramL_of this.2 (h.fit.2 x hxm).1 this.1.2
theorem SndU.decl{u:List Un}(h:SndU u){d:Dl}(hd:d∈declsU u 0):∃ (un nd:Nat) (l:List Rw),d.unit=(un:Int)∧d.node=(nd:Int)∧(tabsU u)[un]? = some l∧nd<l.length∧d.name=(rwAt l nd).text ∧
  (((rwAt l nd).kind=2∧(d.kind=1∨d.kind=4))∨((rwAt l nd).kind=7∧d.kind=2)∨((rwAt l nd).kind=9∧d.kind=3)∨((rwAt l nd).kind=4∧d.kind=5)∨((rwAt l nd).kind=10∧d.kind=6)):=by
 obtain⟨un,x,j,y,a,h1,h2,h3,h4⟩:=declsU_dt u 0 d hd
 obtain⟨g1,g2,g3,g4⟩:=declT_kind h4
 obtain⟨k,t,g,ks⟩:=y
 obtain⟨e1,e2,e3⟩:=rwAt_at h3
 have hlen:(rowsN x.tree (-1) 0).length=(nodes x.tree).length:=rowsN_len ..
 have hj:=(List.getElem?_eq_some_iff.1 h3).1
 refine⟨un,j,_,by simpa using g1,g2,unit_tab h.br h1,by omega,by rw[e2,g3];rfl,?_⟩
 rw[e1]
 exact g4
theorem useK_var{k:Int}{t:ByteArray}(h:k=19∨k=11):useK k t=(3,true):=by rw[useK,if_pos h]
theorem useK_fn{t:ByteArray}:useK 20 t=(1,true):=by simp[useK]
theorem SndU.var{u:List Un}(h:SndU u){un i:Nat}{l:List Rw}(hl:(tabsU u)[un]? = some l)(hi:i<l.length)(hk:(rwAt l i).kind=19∨(rwAt l i).kind=11){d:Int×Int}(hd:getM (dclU u) ((un:Int),(i:Int))=some d) :
  (∃ (v:Nat) (x:Un),d=((un:Int),(v:Int))∧v<l.length∧u[un]? = some x∧l=rowsN x.tree (-1) 0∧v∈visL l (i+1) i∧(rwAt l v).text=(rwAt l i).text∧((rwAt l v).kind=10∧endN x.tree v≤i∨(rwAt l v).kind=4)) ∨
  (Val (tabsU u) d∧(rwK (tabsU u) d).kind=9):=by
 obtain⟨h1,h2⟩:=dclU_res hl hd
 rw[useK_var hk]at h2
 obtain⟨x,hx,rfl⟩:=tab_unit h.br hl
 have hg:=h.gram _ (List.mem_of_getElem? hl)
 unfold resK at h2
 split at h2
 ·rename_i hc
  obtain⟨v,hv,he,ht⟩:=found_mem hc.2
  cases h2
  obtain⟨g1,g2⟩:=vis_mem hg (i+1) i hi v hv
  exact .inl ⟨v,x,by rw[he],g1,hx,rfl,hv,ht,g2⟩
 ·right
  rw[glob_find]at h2
  obtain⟨dd,hdd,rfl⟩:=Option.map_eq_some_iff.1 h2
  have hkey:=List.find?_some hdd
  simp only[keyG,Bool.and_eq_true,decide_eq_true_eq]at hkey
  obtain⟨un',nd',l',q1,q2,q3,q4,q5,q6⟩:=h.decl (List.mem_of_find?_eq_some hdd)
  rw[q1,q2,rwK_at q3]
  exact⟨⟨un',nd',l',rfl,q3,q4⟩,by omega⟩
theorem SndU.fnc{u:List Un}(h:SndU u){un i:Nat}{l:List Rw}(hl:(tabsU u)[un]? = some l)(hk:(rwAt l i).kind=20){d:Int×Int}(hd:getM (dclU u) ((un:Int),(i:Int))=some d) :
  Val (tabsU u) d∧(rwK (tabsU u) d).kind=2∧∃ dd,(declsU u 0).find? (keyG 1 (rwAt l i).text)=some dd∧d=(dd.unit,dd.node):=by
 obtain⟨h1,h2⟩:=dclU_res hl hd
 rw[hk,useK_fn]at h2
 unfold resK at h2
 rw[if_neg (by simp),glob_find]at h2
 obtain⟨dd,hdd,rfl⟩:=Option.map_eq_some_iff.1 h2
 have hkey:=List.find?_some hdd
 simp only[keyG,Bool.and_eq_true,decide_eq_true_eq]at hkey
 obtain⟨un',nd',l',q1,q2,q3,q4,q5,q6⟩:=h.decl (List.mem_of_find?_eq_some hdd)
 refine⟨?_,?_,dd,hdd,rfl⟩
 ·rw[q1,q2];exact⟨un',nd',l',rfl,q3,q4⟩
 ·rw[q1,q2,rwK_at q3];omega
def mesU(u:List Un)(k:Int×Int):Nat:=match u[k.1.toNat]? with
 | some x=>mesN x.tree k.2.toNat
 | none=>0
theorem SndU.ckT{u:List Un}(h:SndU u):CkT u:=by
 have hW:CkW u:=⟨h.fit,h.br,h.gram,fun d hd hk=>by
  obtain⟨un,nd,l,h1,h2,h3,h4,h5,h6⟩:=h.decl hd
  exact⟨un,nd,l,h1,h2,h3,h4,by omega⟩⟩
 refine⟨hW,⟨mesU u,?_⟩,?_,?_⟩
 ·rintro k ⟨un,i,l,rfl,hl,hi⟩
  have hg:=h.gram _ (List.mem_of_getElem? hl)
  have hle:=hg.least i hi
  obtain⟨x,hx,hlx⟩:=tab_unit h.br hl
  have hlen:l.length=(nodes x.tree).length:=by rw[hlx];exact rowsN_len ..
  have hmu:∀ j:Nat,mesU u ((un:Int),(j:Int))=mesN x.tree j:=fun j=>by simp[mesU,hx]
  rw[tb_at hl,hmu]
  refine⟨by rw[hlen];exact mesN_lt (by omega),fun q hq=>?_⟩
  unfold tgt at hq
  rw[rwK_at hl,kdK_at hl]at hq
  rcases hq with⟨hk,rfl⟩ | ⟨hk,d,hd,h10,rfl⟩
  ·have hk1:0<(rwAt l i).kids.length:=by rcases hk with hk | hk <;> (rw[hk]at hle;simp[leastK]at hle;omega)
   have hkd:=hg.kid i hi 0 hk1
   refine⟨⟨un,_,l,rfl,hl,hkd.2.1⟩,rfl,?_⟩
   rw[hmu]
   have hgt:=kdAt_get hk1
   subst hlx
   obtain⟨k,t,g,ks,e1,e2,e3,e4⟩:=row_node hi
   rw[e4]at hgt
   obtain⟨z,g1,g2,g3,g4,_⟩:=kid_end e1 hgt
   refine mesN_mono (by omega) ?_
   simp only[bfN,decide_eq_true_eq]
   omega
  ·rcases h.var hl hi (.inl hk) hd with⟨v,x',rfl,hv,hx',hl',hvis,ht,hc⟩ | ⟨_,h9⟩
   ·rw[hx]at hx'
    cases hx'
    rw[rwK_at hl]at h10
    rw[kdK_at hl]
    rcases hc with⟨_,hend⟩ | hc
    ·have hlv:=hg.least v hv
     have hk1:0<(rwAt l v).kids.length:=by rw[h10]at hlv;simp[leastK]at hlv;omega
     have hkd:=hg.kid v hv 0 hk1
     refine⟨⟨un,_,l,rfl,hl,hkd.2.1⟩,rfl,?_⟩
     rw[hmu]
     have hgt:=kdAt_get hk1
     subst hlx
     obtain⟨k,t,g,ks,e1,e2,e3,e4⟩:=row_node hv
     rw[e4]at hgt
     obtain⟨z,g1,g2,g3,g4,_⟩:=kid_end e1 hgt
     obtain⟨ki,ti,gi,ksi,f1,_⟩:=row_node hi
     refine mesN_mono (by omega) ?_
     simp only[bfN,decide_eq_true_eq]
     have h1:=endN_at f1
     have h2:=nodes_pos (.mk ki ti gi ksi)
     omega
    ·omega
   ·omega
 ·intro k d hk hkk hd
  obtain⟨un,i,l,rfl,hl,hi⟩:=hk
  rw[rwK_at hl]at hkk
  rcases h.var hl hi hkk hd with⟨v,x',rfl,hv,hx',hl',hvis,ht,hc⟩ | ⟨h1,h9⟩
  ·rw[rwK_at hl]
   exact⟨⟨un,v,l,rfl,hl,hv⟩,hc.elim (fun h => .inr (.inr h.1)) .inl⟩
  ·exact⟨h1,.inr (.inl h9)⟩
 ·intro k d hk hkk hd
  obtain⟨un,i,l,rfl,hl,hi⟩:=hk
  rw[rwK_at hl]at hkk
  obtain⟨h1,h2,_⟩:=h.fnc hl hkk hd
  exact⟨h1,h2⟩
end Go.Proofs.YtamednbojpnalaaGreatDoor
set_option maxRecDepth 20000
namespace Go.Proofs.YtamednbojpnalaaGreatDoor
open Go Go.Vg Go.Proofs
def misS(u:List Un)(un:Nat)(l:List Rw)(i:Nat):Bool :=
 if(rwAt l i).kind=23 then(match funR l i with | some p=>decide (clsR l p=⟨#[]⟩) | none=>true)
 else if(rwAt l i).kind=9 then !constR l l.length (kdAt l i 0)
 else if(rwAt l i).kind=11 then(match getM (dclU u) ((un:Int),(i:Int))with | some d=>decide ((rwK (tabsU u) d).kind=9) | none=>false)
 else false
theorem Tmisplaced{u:List Un}(hT:CkT u)(ub:List Us)(pre:List VObj){un i:Nat}{l:List Rw}(hl:(tabsU u)[un]? = some l)(hi:i<l.length) :
  CkCall u ub pre 80 [.agg [.int .i64 un,.int .i64 i]] (.bool (misS u un l i)):=by
 intro kn sg ab z a K hm hK
 simp only[misS]at hK
 have hvk:Val (tabsU u) ((un:Int),(i:Int)):=⟨un,i,l,rfl,hl,hi⟩
 have hd19:=hT.d19 ((un:Int),(i:Int))
 rw[rwK_at hl]at hd19
 have hg:=hT.gram l (List.mem_of_getElem? hl)
 have hle:=hg.least i hi
 have hkd:=hg.kid i hi
 refine VCalls.tidyCk ?_
 refine vcalls_vc (fn:=Tryz.f80) Tryz.func80 rfl (by rw[Tryz.ntmps80];simp) ?_
 by_cases h23:(rwAt l i).kind=23
 ·rw[if_pos h23]at hK
  simp -implicitDefEqProofs only[go_sem,Tryz.f80,ck4,ap_get,ap_get0,ap_set,ap_set0,List.getElem?_cons_succ,List.set_cons_succ,List.cons_append]
  refine VPureJ.callsS (Jrow u (tabsU u) ub pre.length hl hi) (by simp -implicitDefEqProofs only[go_sem]) ?_
  simp -implicitDefEqProofs only[go_sem,ap_get,ap_get0,ap_set,ap_set0,List.getElem?_cons_succ,List.set_cons_succ,List.cons_append,h23]
  have hJ:=Jfunction u (tabsU u) ub pre.length hl hi hg.ok
  cases hfr:funR l i with
  | none =>
   rw[hfr]at hJ hK
   refine VPureJ.callsS hJ (by simp -implicitDefEqProofs only[go_sem]) ?_
   simp -implicitDefEqProofs only[go_sem,ap_get,ap_get0,ap_set,ap_set0,List.getElem?_cons_succ,List.set_cons_succ,List.cons_append,Option.isSome_none]
   exact⟨kn,sg,ab,_,[],rfl,by simp,hK _ _ _ hm⟩
  | some p =>
   rw[hfr]at hJ hK
   obtain⟨hp1,hp2,hp3⟩:=funR_some hg hi hfr
   refine VPureJ.callsS hJ (by simp -implicitDefEqProofs only[go_sem]) ?_
   simp -implicitDefEqProofs only[go_sem,ap_get,ap_get0,ap_set,ap_set0,List.getElem?_cons_succ,List.set_cons_succ,List.cons_append,Option.isSome_some,Option.getD_some]
   refine VPureJ.callsS (Jclass u (tabsU u) ub pre.length hl hp1 hg.ok hp3) (by simp -implicitDefEqProofs only[go_sem]) ?_
   simp -implicitDefEqProofs only[go_sem,ap_get,ap_get0,ap_set,ap_set0,List.getElem?_cons_succ,List.set_cons_succ,List.cons_append]
   exact⟨kn,sg,ab,_,[],rfl,by simp,hK _ _ _ hm⟩
 rw[if_neg h23]at hK
 by_cases h9:(rwAt l i).kind=9
 ·rw[if_pos h9]at hK
  have hk1:0<(rwAt l i).kids.length:=by rw[h9]at hle;simp[leastK]at hle;omega
  simp -implicitDefEqProofs only[go_sem,Tryz.f80,ck4,ap_get,ap_get0,ap_set,ap_set0,List.getElem?_cons_succ,List.set_cons_succ,List.cons_append]
  refine VPureJ.callsS (Jrow u (tabsU u) ub pre.length hl hi) (by simp -implicitDefEqProofs only[go_sem]) ?_
  simp -implicitDefEqProofs only[go_sem,ap_get,ap_get0,ap_set,ap_set0,List.getElem?_cons_succ,List.set_cons_succ,List.cons_append,h9]
  refine VPureJ.callsS (Jkid u (tabsU u) ub pre.length (k:=0) hl hi hk1) (by simp -implicitDefEqProofs only[go_sem];rfl) ?_
  simp -implicitDefEqProofs only[go_sem,ap_get,ap_get0,ap_set,ap_set0,List.getElem?_cons_succ,List.set_cons_succ,List.cons_append]
  refine VPureJ.callsS (Jconstant u (tabsU u) ub pre.length hl (hkd 0 hk1).2.1 hg) (by simp -implicitDefEqProofs only[go_sem]) ?_
  simp -implicitDefEqProofs only[go_sem,ap_get,ap_get0,ap_set,ap_set0,List.getElem?_cons_succ,List.set_cons_succ,List.cons_append]
  exact⟨kn,sg,ab,_,[],rfl,by simp,hK _ _ _ hm⟩
 rw[if_neg h9]at hK
 by_cases h11:(rwAt l i).kind=11
 ·rw[if_pos h11]at hK
  simp -implicitDefEqProofs only[go_sem,Tryz.f80,ck4,ap_get,ap_get0,ap_set,ap_set0,List.getElem?_cons_succ,List.set_cons_succ,List.cons_append]
  refine VPureJ.callsS (Jrow u (tabsU u) ub pre.length hl hi) (by simp -implicitDefEqProofs only[go_sem]) ?_
  simp -implicitDefEqProofs only[go_sem,ap_get,ap_get0,ap_set,ap_set0,List.getElem?_cons_succ,List.set_cons_succ,List.cons_append,h11]
  refine snd_draw (cs:=[]) mixed (by kernel_rfl) ?_
  cases hd:getM (dclU u) ((un:Int),(i:Int))with
  | none =>
   rw[hd]at hK
   simp -implicitDefEqProofs only[go_sem,ap_get,ap_get0,ap_set,ap_set0,List.getElem?_cons_succ,List.set_cons_succ,List.cons_append,flat_Ref,look_D,hd,Option.map_none,Option.getD_none,Option.isSome_none]
   exact⟨kn,sg,ab,_,[],rfl,by simp,hK _ _ _ hm⟩
  | some d =>
   obtain⟨hdv,hdk⟩:=hd19 d hvk (.inr h11) hd
   rw[hd]at hK
   simp -implicitDefEqProofs only[go_sem,ap_get,ap_get0,ap_set,ap_set0,List.getElem?_cons_succ,List.set_cons_succ,List.cons_append,flat_Ref,look_D,hd,Option.map_some,Option.getD_some,Option.isSome_some,encK]
   obtain⟨un',i',l',rfl,hl',hi'⟩:=id hdv
   simp only at hK
   rw[rwK_at hl']at hK
   refine VPureJ.callsS (Jrow u (tabsU u) ub pre.length hl' hi') (by simp -implicitDefEqProofs only[go_sem]) ?_
   simp -implicitDefEqProofs only[go_sem,ap_get,ap_get0,ap_set,ap_set0,List.getElem?_cons_succ,List.set_cons_succ,List.cons_append]
   exact⟨kn,sg,ab,_,[],rfl,by simp,hK _ _ _ hm⟩
 rw[if_neg h11]at hK
 simp -implicitDefEqProofs only[go_sem,Tryz.f80,ck4,ap_get,ap_get0,ap_set,ap_set0,List.getElem?_cons_succ,List.set_cons_succ,List.cons_append]
 refine VPureJ.callsS (Jrow u (tabsU u) ub pre.length hl hi) (by simp -implicitDefEqProofs only[go_sem]) ?_
 simp -implicitDefEqProofs only[go_sem,ap_get,ap_get0,ap_set,ap_set0,List.getElem?_cons_succ,List.set_cons_succ,List.cons_append,h23,h9,h11]
 exact⟨kn,sg,ab,_,[],rfl,by simp,hK _ _ _ hm⟩
end Go.Proofs.YtamednbojpnalaaGreatDoor
set_option maxRecDepth 20000
namespace Go.Vg
def firstI(q:Nat→Bool):Nat→Nat→Option Nat
 | 0,_=>none
 | n+1,i=>if q i=true then some i else firstI q n (i+1)
def firstTb(p:Nat→Nat→Bool):List (List Rw)→Nat→Option (Nat×Nat)
 | [],_=>none
 | l::r,un=>match firstI (p un) l.length 0 with
  | some i=>some (un,i)
  | none=>firstTb p r (un+1)
def encFst(o:Option (Nat×Nat)):V := .tuple [.agg [.int .i64 ((o.map (·.1)).getD 0:Nat),.int .i64 ((o.map (·.2)).getD 0:Nat)],.bool o.isSome]
end Go.Vg
namespace Go.Proofs.YtamednbojpnalaaGreatDoor
open Go Go.Vg Go.Proofs
def TestOK(u:List Un)(pre z:List VObj)(T:V)(p:Nat→Nat→Bool):Prop:=∀ (un i:Nat) (l:List Rw),(tabsU u)[un]? = some l→i<l.length→∀ (kn:KnM) (sg:SgM) (ab:AbM) (z':List VObj) (a:List Nat) (K:Cont),Mems u kn sg ab →
 (∀ kn' sg' ab',Mems u kn' sg' ab'→K (.bool (p un i)) (pre++ck4 (dclU u) kn' sg' ab' (z++z')) a)→vFn env T [.agg [.int .i64 un,.int .i64 i]] (pre++ck4 (dclU u) kn sg ab (z++z')) a K
theorem Tfirst{u:List Un}(hu:fitU u)(ub:List Us)(pre z:List VObj)(T:V)(p:Nat→Nat→Bool)(hT:TestOK u pre z T p)(kn:KnM)(sg:SgM)(ab:AbM)(a:List Nat)(K:Cont)(hm:Mems u kn sg ab)
  (hK:∀ kn' sg' ab',Mems u kn' sg' ab'→K (encFst (firstTb p (tabsU u) 0)) (pre++ck4 (dclU u) kn' sg' ab' z) a) :
  VCalls env 77 [.fptr (ckF u (tabsU u) ub pre.length),T] (pre++ck4 (dclU u) kn sg ab z) a K:=by
 have htl0:(tabsU u).length≤1000:=by unfold tabsU;rw[List.length_map];exact hu.1
 have htk:=tabs_ok hu
 unfold TestOK at hT
 refine VCalls.tidyCk ?_
 refine vcalls_vc (fn:=Tryz.f77) Tryz.func77 rfl (by rw[Tryz.ntmps77];simp) ?_
 simp -implicitDefEqProofs only[go_sem,Tryz.f77,ck4,ap_get,ap_get0,ap_set,ap_set0,List.getElem?_cons_succ,List.set_cons_succ,List.cons_append]
 intro _ _
 generalize hgoal:firstTb p (tabsU u) 0=goal at hK
 refine snd_list (β:=KnM×SgM×AbM×List VObj) (tabsU u) (fun q b=>⟨[(15,.int .i64 q.length),(14,.int .i64 (tabsU u).length),(13,sl 80 (List.map encTab (tabsU u))),(4,.ptr (pre.length+(z.length+1+1+1+1)) 0),(5,.bool false),(0,.fptr (ckF u (tabsU u) ub pre.length)),(1,T)],
   pre++ck4 (dclU u) b.1 b.2.1 b.2.2.1 (z ++ .cells [.int .i64 0,.int .i64 0]::b.2.2.2),a⟩)
  (fun q r b=>Mems u b.1 b.2.1 b.2.2.1∧firstTb p r q.length=goal) (kn,sg,ab,[]) ?_ ⟨hm,hgoal⟩ ?_ ?_
 ·simp -implicitDefEqProofs only[go_sem,ck4]
  exact⟨rfl,by omega⟩
 ·rintro⟨kn1,sg1,ab1,zz⟩ ⟨hm1,he⟩
  simp -implicitDefEqProofs only[go_sem,ck4,ap_get,ap_get0,ap_set,ap_set0,List.getElem?_cons_succ,List.set_cons_succ,List.cons_append]
  rw[←he]at hK
  exact⟨kn1,sg1,ab1,_,[],rfl,by simp,hK _ _ _ hm1⟩
 ·rintro q l r ⟨kn1,sg1,ab1,zz⟩ hx ⟨hm1,he⟩
  have hpl:(tabsU u).length=q.length+1+r.length:=by rw[hx];simp;omega
  have hgx:((tabsU u).map encTab).getD (q.length:Int).toNat []=encTab l:=by rw[hx];simp[List.getD_eq_getElem?_getD]
  have hlt:((q.length:Int)<(tabsU u).length)=True:=by simp;omega
  have hw:IntKind.i64.wrap (↑q.length+1)=↑(q.length+1):=wrap_next (by omega)
  have hll:=(htk l (by rw[hx];simp)).len
  have hul:(tabsU u)[q.length]? = some l:=by rw[hx];simp
  simp only at hm1 he ⊢
  simp -implicitDefEqProofs only[go_sem,hgx,hlt,encTab,ck4,ap_get,ap_get0,ap_set,ap_set0,List.getElem?_cons_succ,List.set_cons_succ,List.cons_append]
  intro _ _
  have he0:firstTb p (l::r) q.length=match firstI (p q.length) l.length 0 with | some i=>some (q.length,i) | none=>firstTb p r (q.length+1):=rfl
  rw[he0]at he
  refine snd_list (β:=KnM×SgM×AbM×List VObj) l (fun m b=>⟨[(22,.int .i64 m.length),(21,.int .i64 l.length),(20,sl 100 (l.map Rw.enc)),(6,.int .i64 q.length),(15,.int .i64 q.length),(14,.int .i64 (tabsU u).length),(13,sl 80 (List.map encTab (tabsU u))),(4,.ptr (pre.length+(z.length+1+1+1+1)) 0),(5,.bool false),(0,.fptr (ckF u (tabsU u) ub pre.length)),(1,T)],
   pre++ck4 (dclU u) b.1 b.2.1 b.2.2.1 (z ++ .cells [.int .i64 0,.int .i64 0]::b.2.2.2),a⟩)
   (fun m post b=>Mems u b.1 b.2.1 b.2.2.1∧(match firstI (p q.length) post.length m.length with | some i=>some (q.length,i) | none=>firstTb p r (q.length+1))=goal) (kn1,sg1,ab1,zz) ?_ ⟨hm1,he⟩ ?_ ?_
  ·simp -implicitDefEqProofs only[go_sem,ck4]
   exact⟨rfl,by omega⟩
  ·rintro⟨kn2,sg2,ab2,zz2⟩ ⟨hm2,he2⟩
   simp -implicitDefEqProofs only[go_sem,ck4,ap_get,ap_get0,ap_set,ap_set0,List.getElem?_cons_succ,List.set_cons_succ,List.cons_append]
   exact⟨(kn2,sg2,ab2,zz2),⟨hm2,he2⟩,hw,⟨rfl,rfl,rfl,tellH_refl⟩,by simp only[];omega,.inl (by simp)⟩
  ·rintro m x post ⟨kn2,sg2,ab2,zz2⟩ hx2 ⟨hm2,he2⟩
   have hpl2:l.length=m.length+1+post.length:=by rw[hx2];simp;omega
   have hlt2:((m.length:Int)<l.length)=True:=by simp;omega
   have hw2:IntKind.i64.wrap (↑m.length+1)=↑(m.length+1):=wrap_next (by omega)
   simp only at hm2 he2 ⊢
   simp -implicitDefEqProofs only[go_sem,hlt2,ck4,ap_get,ap_get0,ap_set,ap_set0,List.getElem?_cons_succ,List.set_cons_succ,List.cons_append]
   refine hT q.length m.length l hul (by omega) kn2 sg2 ab2 _ _ _ hm2 ?_
   intro kn3 sg3 ab3 hm3
   have hfi:firstI (p q.length) (x::post).length m.length=if p q.length m.length=true then some m.length else firstI (p q.length) post.length (m.length+1):=rfl
   rw[hfi]at he2
   simp -implicitDefEqProofs only[go_sem,ck4,ap_get,ap_get0,ap_set,ap_set0,List.getElem?_cons_succ,List.set_cons_succ,List.cons_append]
   refine⟨fun hp=>?_,fun hp=>?_⟩
   ·rw[if_pos hp]at he2
    rw[←he2]at hK
    exact⟨kn3,sg3,ab3,_,[],rfl,by simp,hK _ _ _ hm3⟩
   ·rw[hp]at he2
    exact⟨(kn3,sg3,ab3,zz2++[.cells [.int .i64 q.length,.int .i64 m.length]]),⟨hm3,he2⟩,hw2,⟨rfl,rfl,rfl,tellH_refl⟩,by simp only[];omega,.inl (by simp)⟩
end Go.Proofs.YtamednbojpnalaaGreatDoor
