/- The operations on trees, part 2: appends. -/
import Derived.Test.YtamednbojpnalaaGreatDoorVgC
set_option linter.unusedVariables false
set_option linter.unusedSimpArgs false
namespace Go.Vg
open Go.RowKit
/-! ### Sizes -/
theorem growBy_le(need:Nat):∀ (r c:Nat),c≤need+need / 4+192→Builtin.growBy need r c≤need+need / 4+192:=by
 intro r
 induction r with
 | zero=>intro c h;exact h
 | succ r ih =>
  intro c h
  unfold Builtin.growBy
  split
  ·exact h
  ·exact ih _ (by omega)
theorem nextslicecap_le(need cap:Nat)(h:cap<need):Builtin.nextslicecap need cap≤need+need / 4+512:=by
 unfold Builtin.nextslicecap
 split
 ·omega
 ·split
  ·omega
  ·have:=growBy_le need 4 cap (by omega);omega
def elemOK(P:Program)(e:TypeId):Bool :=
 match P.info? e with
 | some i=>(match i.zero with | some z=>z.cells.size == i.size && z.cells.all Value.oneCell' | none=>false) && decide (1≤i.size) && decide (1≤i.bytes) && decide (i.bytes≤1048576)
 | none=>false
theorem elemOK_spec{P:Program}{e:TypeId}(h:elemOK P e=true):∃ i z,P.info? e=some i∧i.zero=some z∧z.cells.all Value.oneCell'=true∧z.cells.size=P.cellsOf e∧i.size=P.cellsOf e∧i.bytes=P.bytesOf e ∧
  1≤P.cellsOf e∧1≤P.bytesOf e∧P.bytesOf e≤1048576:=by
 unfold elemOK at h
 cases hi:P.info? e with
 | none=>simp[hi]at h
 | some i =>
  simp only[hi]at h
  cases hz:i.zero with
  | none=>simp[hz]at h
  | some z =>
   simp only[hz,Bool.and_eq_true,decide_eq_true_eq,beq_iff_eq]at h
   obtain⟨⟨⟨⟨h1,h0⟩,h2⟩,h3⟩,h4⟩:=h
   refine⟨i,z,rfl,hz,h0,?_,?_,?_,?_,?_,?_⟩ <;> simp[Program.cellsOf,Program.bytesOf,hi, *]
def sl(e:TypeId)(es:List (List V)):V := .slice .shared (if es.isEmpty then 0 else e) es
theorem RV.anyElem{P:Program}{G:Gh}{arr:List Nat}{o:Own}{e e':TypeId}{v:Value}(h:RV P G arr (.slice o e []) v):RV P G arr (.slice .shared e' []) v:=by
 cases h with
 | snil o e ho=>exact .snil _ _ trivial
 | sodd e a c=>exact .sodd _ _ _
 | slice o e es b off cap ho h1 h2 h3 h4 h5 h6=>exact .slice _ _ [] b off cap trivial (by simp) (by simp) (by simp) (by simp) (by simp) (by simp)
theorem RV.sl{P:Program}{G:Gh}{arr:List Nat}{o:Own}{e:TypeId}{es:List (List V)}{v:Value}(h:RV P G arr (.slice o e es) v):RV P G arr (sl e es) v:=by
 cases es with
 | nil=>exact h.anyElem
 | cons x r =>
  show RV P G arr (.slice .shared e (x::r)) v
  cases h with
  | slice _ _ _ b off cap ho h1 h2 h3 h4 h5 h6=>exact .slice _ _ _ _ _ _ trivial h1 h2 h3 h4 h5 h6
def share1:V→V
 | .slice _ e es=>sl e es
 | x=>x
theorem RV.share1{P:Program}{G:Gh}{arr:List Nat}{x:V}{v:Value}(h:RV P G arr x v):RV P G arr (share1 x) v:=by
 cases x
 case slice o e es=>exact h.sl
 all_goals exact h
def shareA:V→V
 | .agg cs => .agg (cs.map share1)
 | x=>share1 x
theorem RV.shareA{P:Program}{G:Gh}{arr:List Nat}{x:V}{v:Value}(h:RV P G arr x v):RV P G arr (shareA x) v:=by
 cases x
 case agg cs =>
  cases h with
  | agg _ vs hl hr =>
   refine .agg _ _ (by simpa using hl) fun j c u hc hu=>?_
   rw[List.getElem?_map]at hc
   obtain⟨c',hc',rfl⟩:=Option.map_eq_some_iff.1 hc
   exact(hr j c' u hc' hu).share1
 all_goals exact h.share1
def share:V→V
 | .tuple cs => .tuple (cs.map shareA)
 | x=>shareA x
theorem RV.share{P:Program}{G:Gh}{arr:List Nat}{x:V}{v:Value}(h:RV P G arr x v):RV P G arr (share x) v:=by
 cases x
 case tuple cs =>
  cases h with
  | tuple _ vs hl hr =>
   refine .tuple _ _ (by simpa using hl) fun j c u hc hu=>?_
   rw[List.getElem?_map]at hc
   obtain⟨c',hc',rfl⟩:=Option.map_eq_some_iff.1 hc
   exact(hr j c' u hc' hu).shareA
 all_goals exact h.shareA
def elems(P:Program)(e:TypeId):V→Option (List (List V))
 | .slice _ e' es=>if e'=e∨es=[]then some es else none
 | _=>none
theorem elems_read{E:Env}{G:Gh}{heap:List VObj}{arr:List Nat}{w0:Base}{w:World}(h:RelW E G heap arr w0 w){o:Own}{e:TypeId}{es:List (List V)}{v:Value}
  (hv:RV E.P G arr (.slice o e es) v):∃ vs:Array Value,(∃ a cap,v = .slice a es.length cap)∧(Builtin.firstCells (E.P.cellsOf e) es.length v).run E.P w = .ok vs w∧vs.size=es.length * E.P.cellsOf e ∧
   ∀ (i:Nat) el (j:Nat) c,es[i]? = some el→el[j]? = some c→∃ u,vs[i * E.P.cellsOf e+j]? = some u∧RV E.P G arr c u:=by
 cases hv with
 | snil o e ho=>exact⟨#[],⟨none,0,rfl⟩,by simp[Builtin.firstCells],by simp,by simp⟩
 | sodd e a c =>
  refine⟨#[],⟨a,c,rfl⟩,?_,by simp,by simp⟩
  cases a with
  | none=>exact run_firstCells_none w _ 0 0 c
  | some a=>exact run_firstCells_some w _ 0 a 0 c [] (by simp) (by simp)
 | slice o e es b off cap ho h1 h2 h3 h4 h5 h6 =>
  obtain⟨vs,g1,g2,g3⟩:=run_loadCells (P:=E.P) (w:=w) (b:=b) (o:=off) (n:=es.length * E.P.cellsOf e) (fun j hj=>by
   have hs:0<E.P.cellsOf e:=Nat.pos_of_ne_zero fun h0=>by simp[h0]at hj
   have hi:j / E.P.cellsOf e<es.length:=(Nat.div_lt_iff_lt_mul hs).2 hj
   have hel:=h1 _ _ (List.getElem?_eq_getElem hi)
   obtain⟨u,hu⟩:=h5 _ _ (j % E.P.cellsOf e) (List.getElem?_eq_getElem hi) (by rw[hel];exact Nat.mod_lt _ hs)
   refine⟨u,?_⟩
   have:j / E.P.cellsOf e * E.P.cellsOf e+j % E.P.cellsOf e=j:=Nat.div_add_mod' j _
   rw[this]at hu
   exact h.frz _ _ _ hu)
  refine⟨vs,⟨_,_,rfl⟩,by simpa[Builtin.firstCells]using g1,g2,fun i el j c hi hj=>?_⟩
  have hel:=h1 i el hi
  have hjl:=(List.getElem?_eq_some_iff.1 hj).1
  have hil:=(List.getElem?_eq_some_iff.1 hi).1
  obtain⟨u,hu⟩:=h5 i el j hi hjl
  have hlt:i * E.P.cellsOf e+j<es.length * E.P.cellsOf e:=by
   have:(i+1) * E.P.cellsOf e≤es.length * E.P.cellsOf e:=Nat.mul_le_mul_right _ hil
   rw[Nat.add_mul]at this
   omega
  exact⟨u,by rw[g3 _ hlt];exact h.frz _ _ _ hu,h6 i el j c u hi hj hu⟩
def Gh.freezeAt(G:Gh)(b lo:Nat)(c:Array Value):Gh:={ G with F:=fun b' o=>if b'=b∧lo≤o∧o<lo+c.size then c[o - lo]? else G.F b' o }
theorem RelW.allocA{E:Env}{G:Gh}{heap:List VObj}{arr:List Nat}{w0:Base}{w:World}(h:RelW E G heap arr w0 w)(c rest:Array Value)(e:TypeId)(k m hi:Nat)(arr':List Nat)(ρ':List (Nat×Nat×Nat))
  (hhi:hi≤c.size+rest.size) (hl:ρ'.length=arr'.length) (hk:ρ'[k]? = some (w.heap.size,c.size,hi)) (hak:arr'[k]? = some m)
  (hold:∀ j:Nat,j≠k→ρ'[j]? = G.ρ[j]?∧arr'[j]? = arr[j]?) (hkm:∀ n:Nat,arr[k]? = some n→n<m) (h1:∀ (j:Nat) v,c[j]? = some v→v.oneCell'=true) (hm:m<18446744073709551616) :
  Ext G arr ⟨(G.freezeAt w.heap.size 0 c).F,G.φ,ρ'⟩ arr'∧RelW E ⟨(G.freezeAt w.heap.size 0 c).F,G.φ,ρ'⟩ heap arr' w0 (w.alloc (.cells (c++rest) e)):=by
 have hF:∀ b o v,G.F b o=some v→(G.freezeAt w.heap.size 0 c).F b o=some v:=by
  intro b o v hv
  simp only[Gh.freezeAt]
  rw[if_neg]
  ·exact hv
  ·rintro⟨rfl,_⟩
   rw[h.F_new]at hv;cases hv
 have hx:Ext G arr ⟨(G.freezeAt w.heap.size 0 c).F,G.φ,ρ'⟩ arr':=by
  refine⟨hF,fun _ _ h=>h,fun j n hj=>?_⟩
  by_cases e:j=k
  ·subst e
   have:=hkm n hj
   exact⟨m,hak,by omega,fun e=>by omega⟩
  ·exact⟨n,by rw[(hold j e).2];exact hj,Nat.le_refl _,fun _=>(hold j e).1⟩
 have hs:=h.below.size
 refine⟨hx,⟨fun b o v hv hlt=>h.newF b o v (by
   simp only[Gh.freezeAt]at hv
   rwa [if_neg (by omega)]at hv) hlt,fun g cs hg=>⟨(h.glob g cs hg).1,(h.glob g cs hg).2.mono hx⟩,h.below.alloc hs _,?_,fun b o v hv=>by
   simp only[Gh.freezeAt]at hv
   split at hv
   ·exact h1 _ _ hv
   ·exact h.one _ _ _ hv,?_,h.lenφ,h.nod,?_,?_,hl,?_,?_,?_,?_,h.ini,h.vsK hx (fun _ _ _ _ _ h=>h) (fun j g hj hg=>by
    by_cases e:j=k
    ·subst e
     have:=hkm g hj
     omega
    ·rw[(hold j e).2];exact hj) fun j hj=>by rw[heap_alloc,if_neg (by omega)]⟩⟩
 ·intro b o v hv
  simp only[Gh.freezeAt]at hv
  split at hv
  ·rename_i hc
   obtain⟨rfl,_,hc2⟩:=hc
   rw[World.cell?_alloc_new,Array.getElem?_append_left (by omega)]
   simpa using hv
  ·rw[World.cell?_alloc_old _ _ _ (by have:=cell_lt (h.frz _ _ _ hv);simp;omega)]
   exact h.frz _ _ _ hv
 ·intro id ob hid
  obtain⟨b,hb,hr⟩:=h.obj id ob hid
  exact⟨b,hb,hr.keep hx (by rw[heap_alloc,if_neg (by have:=(h.geφ id b hb).2;omega)])⟩
 ·intro id b o hb hd
  simp only[Gh.freezeAt]
  have:=(h.geφ id b hb).2
  rw[if_neg (by omega)]
  exact h.sep id b o hb hd
 ·intro id b hb
  have:=h.geφ id b hb
  simp;omega
 ·intro j b lo hi' hj hlt
  by_cases ej:j=k
  ·subst ej
   simp only at hj
   rw[hk]at hj
   cases hj
   refine⟨⟨c++rest,e,by rw[heap_alloc,if_pos rfl],by simpa using hhi⟩,fun id hid=>?_,fun o h1 h2=>?_,hs⟩
   ·have:=(h.geφ id _ hid).2;omega
   ·simp only[Gh.freezeAt]
    rw[if_neg (by omega)]
    exact h.F_new o
  ·simp only at hj
   rw[(hold j ej).1]at hj
   obtain⟨⟨c',e',h1,h2⟩,h3,h4,h5⟩:=h.reg j b lo hi' hj hlt
   have hblt:b<w.heap.size:=(Array.getElem?_eq_some_iff.1 h1).1
   refine⟨⟨c',e',by rw[heap_alloc,if_neg (by omega)];exact h1,h2⟩,h3,fun o ho1 ho2=>?_,h5⟩
   simp only[Gh.freezeAt]
   rw[if_neg (by omega)]
   exact h4 o ho1 ho2
 ·intro i j b lo hi1 lo' hi2 hij hi' hj' hlt hlt'
  simp only at hi' hj'
  by_cases ei:i=k
  ·subst ei
   rw[hk]at hi'
   cases hi'
   rw[(hold j (Ne.symm hij)).1]at hj'
   obtain⟨⟨c',e',h1,_⟩,_⟩:=h.reg j _ lo' hi2 hj' hlt'
   have hblt:w.heap.size<w.heap.size:=(Array.getElem?_eq_some_iff.1 h1).1
   omega
  ·by_cases ej:j=k
   ·subst ej
    rw[hk]at hj'
    cases hj'
    rw[(hold i ei).1]at hi'
    obtain⟨⟨c',e',h1,_⟩,_⟩:=h.reg i _ lo hi1 hi' hlt
    have hblt:w.heap.size<w.heap.size:=(Array.getElem?_eq_some_iff.1 h1).1
    omega
   ·rw[(hold i ei).1]at hi'
    rw[(hold j ej).1]at hj'
    exact h.regd i j b lo hi1 lo' hi2 hij hi' hj' hlt hlt'
 ·intro j b lo hi' hj
  by_cases ej:j=k
  ·subst ej
   rw[show(⟨(G.freezeAt w.heap.size 0 c).F,G.φ,ρ'⟩:Gh).ρ=ρ' from rfl,hk]at hj
   cases hj
   exact .inl h.below.size
  ·rw[show(⟨(G.freezeAt w.heap.size 0 c).F,G.φ,ρ'⟩:Gh).ρ=ρ' from rfl,(hold j ej).1]at hj
   exact h.fre j b lo hi' hj
 ·refine h.bldA (fun k hk=>by rw[heap_alloc,if_neg (by omega)]) fun g hg ⟨s1,s2,s3⟩=>⟨fun o=>?_,s2,fun j lo hi' hj=>?_⟩
  ·simp only[Gh.freezeAt];rw[if_neg (by omega)];exact s1 o
  ·by_cases ej:j=k
   ·subst ej
    rw[show(⟨(G.freezeAt w.heap.size 0 c).F,G.φ,ρ'⟩:Gh).ρ=ρ' from rfl,hk]at hj
    cases hj;omega
   ·rw[show(⟨(G.freezeAt w.heap.size 0 c).F,G.φ,ρ'⟩:Gh).ρ=ρ' from rfl,(hold j ej).1]at hj
    exact s3 j lo hi' hj
theorem RelW.fillA{E:Env}{G:Gh}{heap:List VObj}{arr:List Nat}{w0:Base}{w:World}(h:RelW E G heap arr w0 w){k b lo hi n m:Nat}{c:Array Value}{w':World}{cb cb':Array Value}{e:TypeId}
  (hk:G.ρ[k]? = some (b,lo,hi)) (hlt:lo<hi) (hn:arr[k]? = some n) (hnm:n<m) (hc:lo+c.size≤hi)
  (hos:w'.os=w.os) (ht:w'.tape=w.tape) (ho:w'.output=w.output) (hsz:w'.heap.size=w.heap.size) (hkk:∀ j,j≠b→w'.heap[j]? = w.heap[j]?)
  (hb:w.heap[b]? = some (.cells cb e (0,0))) (hb':w'.heap[b]? = some (.cells cb' e (0,0))) (hcs:cb'.size=cb.size)
  (hget:∀ j,cb'[j]? = if lo≤j∧j<lo+c.size then c[j - lo]? else cb[j]?) (hone:∀ (j:Nat) v,c[j]? = some v→v.oneCell'=true) (hm:m<18446744073709551616) :
  Ext G arr ⟨(G.freezeAt b lo c).F,G.φ,G.ρ.set k (b,lo+c.size,hi)⟩ (arr.set k m) ∧
  RelW E ⟨(G.freezeAt b lo c).F,G.φ,G.ρ.set k (b,lo+c.size,hi)⟩ heap (arr.set k m) w0 w':=by
 obtain⟨_,r3,r4,r5⟩:=h.reg k b lo hi hk hlt
 have hkl:k<arr.length:=(List.getElem?_eq_some_iff.1 hn).1
 have hkl':k<G.ρ.length:=(List.getElem?_eq_some_iff.1 hk).1
 have hF:∀ b' o v,G.F b' o=some v→(G.freezeAt b lo c).F b' o=some v:=by
  intro b' o v hv
  simp only[Gh.freezeAt]
  rw[if_neg]
  ·exact hv
  ·rintro⟨rfl,h1,h2⟩
   rw[r4 o h1 (by omega)]at hv;cases hv
 have hx:Ext G arr ⟨(G.freezeAt b lo c).F,G.φ,G.ρ.set k (b,lo+c.size,hi)⟩ (arr.set k m):=by
  refine⟨hF,fun _ _ h=>h,fun j p hj=>?_⟩
  by_cases ej:j=k
  ·subst ej
   rw[hn]at hj
   cases hj
   exact⟨m,List.getElem?_set_self hkl,by omega,fun e=>by omega⟩
  ·exact⟨p,by rw[List.getElem?_set_ne (Ne.symm ej)];exact hj,Nat.le_refl _,fun _=>List.getElem?_set_ne (Ne.symm ej)⟩
 have hs:=h.below.size
 have hvs:Vecs E.P ⟨(G.freezeAt b lo c).F,G.φ,G.ρ.set k (b,lo+c.size,hi)⟩ heap (arr.set k m) w':=by
  refine h.vs.keep hx (fun _ _ _ _ _ h=>h) (fun j g b1 hi1 h1 h2 h3=>?_) fun j g b1 hi1 o h1 h2 h3 ho1=>?_
  ·by_cases e:j=k
   ·subst e
    rw[hn]at h1;cases h1
    omega
   ·rw[List.getElem?_set_ne (Ne.symm e)];exact h1
  ·have e:j≠k:=fun e=>by subst e;rw[hn]at h1;cases h1;omega
   by_cases eb:b1=b
   ·subst eb
    have:=h.regd j k b1 0 hi1 lo hi e h3 hk (by omega) hlt
    unfold World.cell?
    rw[hb',hb]
    simp only[Option.isSome_none,Bool.false_eq_true,if_false]
    rw[hget,if_neg (by omega)]
   ·exact cell_same (hkk b1 eb)
 refine⟨hx,⟨fun b' o v hv hlt'=>h.newF b' o v (by
   simp only[Gh.freezeAt]at hv
   rwa [if_neg (by omega)]at hv) hlt',fun g cs hg=>⟨(h.glob g cs hg).1,(h.glob g cs hg).2.mono hx⟩,?_,?_,fun b' o v hv=>by
   simp only[Gh.freezeAt]at hv
   split at hv
   ·exact hone _ _ hv
   ·exact h.one _ _ _ hv,?_,h.lenφ,h.nod,?_,?_,by simp[h.lenρ],?_,?_,?_,?_,h.ini,hvs⟩⟩
 ·exact h.below.trans ⟨hos,ht,ho,by omega,fun j hj=>hkk j (by omega)⟩
 ·intro b' o v hv
  simp only[Gh.freezeAt]at hv
  split at hv
  ·rename_i hc'
   obtain⟨rfl,h1,h2⟩:=hc'
   simp only[World.cell?,hb',Option.isSome_none,Bool.false_eq_true,if_false]
   rw[hget,if_pos ⟨h1,h2⟩];exact hv
  ·rename_i hc'
   have hold:=h.frz _ _ _ hv
   by_cases eb:b'=b
   ·subst eb
    simp only[World.cell?,hb,Option.isSome_none,Bool.false_eq_true,if_false]at hold
    simp only[World.cell?,hb',Option.isSome_none,Bool.false_eq_true,if_false]
    rw[hget,if_neg (by intro hh;exact hc' ⟨rfl,hh⟩)];exact hold
   ·unfold World.cell? at hold ⊢
    rw[hkk b' eb];exact hold
 ·intro id ob hid
  obtain⟨b',hb1,hr⟩:=h.obj id ob hid
  refine⟨b',hb1,?_⟩
  cases hlo:ob.loose with
  | false=>exact hr.keep hx (hkk b' fun e=>by have:=VObj.loose_of (r3 id (e ▸ hb1) ob hid);rw[hlo]at this;cases this)
  | true =>
   cases ob <;> simp only[VObj.loose,Bool.false_eq_true,reduceCtorEq]at hlo
   ·trivial
   ·trivial
 ·intro id b' o hb1 hd
  simp only[Gh.freezeAt]
  rw[if_neg (by
   rintro⟨rfl,_⟩
   cases hq:heap[id]? with
   | none =>
    have:=h.lenφ
    have h1:id<G.φ.length:=(List.getElem?_eq_some_iff.1 hb1).1
    rw[List.getElem?_eq_none_iff]at hq
    omega
   | some ob =>
    have hl:=r3 id hb1 ob hq
    cases ob <;> simp only[VObj.looseAt,Bool.false_eq_true,beq_iff_eq]at hl
    ·exact hd hq
    ·subst hl
     obtain⟨q1,q2,_⟩:=h.vs.at_ _ _ _ _ _ hq
     rw[hn]at q1
     cases q1
     omega)]
  exact h.sep id b' o hb1 hd
 ·intro id b' hb1;rw[hsz];exact h.geφ id b' hb1
 ·intro j b' lo' hi' hj hlt'
  simp only at hj
  by_cases ej:j=k
  ·subst ej
   rw[List.getElem?_set_self hkl']at hj
   cases hj
   obtain⟨⟨c1,e1,h1,h2⟩,_⟩:=h.reg j b lo hi hk hlt
   rw[hb]at h1
   cases h1
   refine⟨⟨cb',e,hb',by omega⟩,r3,fun o h1 h2=>?_,r5⟩
   simp only[Gh.freezeAt]
   rw[if_neg (by omega)]
   exact r4 o (by omega) h2
  ·rw[List.getElem?_set_ne (Ne.symm ej)]at hj
   obtain⟨⟨c1,e1,h1,h2⟩,h3,h4,h5⟩:=h.reg j b' lo' hi' hj hlt'
   refine⟨?_,h3,fun o ho1 ho2=>?_,h5⟩
   ·by_cases eb:b'=b
    ·subst eb
     rw[hb]at h1
     cases h1
     exact⟨cb',e,hb',by omega⟩
    ·exact⟨c1,e1,by rw[hkk b' eb];exact h1,h2⟩
   ·simp only[Gh.freezeAt]
    rw[if_neg]
    ·exact h4 o ho1 ho2
    ·rintro⟨rfl,h6,h7⟩
     have:=h.regd j k b' lo' hi' lo hi ej hj hk hlt' hlt
     omega
 ·intro i j b' lo1 hi1 lo2 hi2 hij hi' hj' hlt1 hlt2
  simp only at hi' hj'
  by_cases ei:i=k
  ·subst ei
   rw[List.getElem?_set_self hkl']at hi'
   cases hi'
   rw[List.getElem?_set_ne hij]at hj'
   have:=h.regd i j b lo hi lo2 hi2 hij hk hj' hlt hlt2
   omega
  ·rw[List.getElem?_set_ne (Ne.symm ei)]at hi'
   by_cases ej:j=k
   ·subst ej
    rw[List.getElem?_set_self hkl']at hj'
    cases hj'
    have:=h.regd i j b lo1 hi1 lo hi hij hi' hk hlt1 hlt
    omega
   ·rw[List.getElem?_set_ne (Ne.symm ej)]at hj'
    exact h.regd i j b' lo1 hi1 lo2 hi2 hij hi' hj' hlt1 hlt2
 ·intro j b' lo' hi' hj
  have hj:(G.ρ.set k (b,lo+c.size,hi))[j]? = some (b',lo',hi'):=hj
  by_cases ej:j=k
  ·subst ej
   rw[List.getElem?_set_self hkl']at hj
   cases hj
   exact .inl r5
  ·rw[List.getElem?_set_ne (Ne.symm ej)]at hj
   exact h.fre j b' lo' hi' hj
 ·intro id t s b' hi' hb''
  refine(h.bld id t s b' hi' hb'').keep (hkk b' fun e=>by have:=r3 id (by rw[←e];exact hb'') _ hi';cases this) fun g hg ⟨s1,s2,s3⟩=>?_
  have hne:g≠b:=fun e=>by subst e;have:=s3 k lo hi hk;omega
  refine⟨hkk g hne,fun o=>?_,s2,fun j lo' hi' hj=>?_⟩
  ·simp only[Gh.freezeAt];rw[if_neg (fun hh=>hne hh.1)];exact s1 o
  ·have hj:(G.ρ.set k (b,lo+c.size,hi))[j]? = some (g,lo',hi'):=hj
   by_cases ej:j=k
   ·subst ej
    rw[List.getElem?_set_self hkl']at hj
    cases hj;exact absurd rfl hne
   ·rw[List.getElem?_set_ne (Ne.symm ej)]at hj
    exact s3 j lo' hi' hj
theorem RelW.slot{E:Env}{G:Gh}{heap:List VObj}{arr:List Nat}{w0:Base}{w:World}(h:RelW E G heap arr w0 w)(n:Nat) :
  Ext G arr { G with ρ:=G.ρ++[(0,0,0)] } (arr++[n])∧RelW E { G with ρ:=G.ρ++[(0,0,0)] } heap (arr++[n]) w0 w:=by
 have hx:Ext G arr { G with ρ:=G.ρ++[(0,0,0)] } (arr++[n]):=by
  refine⟨fun _ _ _ h=>h,fun _ _ h=>h,fun j p hj=>⟨p,?_,Nat.le_refl _,fun _=>?_⟩⟩
  ·rw[List.getElem?_append_left (List.getElem?_eq_some_iff.1 hj).1];exact hj
  ·have:=(List.getElem?_eq_some_iff.1 hj).1
   exact List.getElem?_append_left (by rw[h.lenρ];exact this)
 have hget:∀ (j b' lo' hi':Nat),(G.ρ++[(0,0,0)])[j]? = some (b',lo',hi')→lo'<hi'→G.ρ[j]? = some (b',lo',hi'):=by
  intro j b' lo' hi' hj hlt
  rcases Nat.lt_trichotomy j G.ρ.length with hjl | hjl | hjl
  ·rwa [List.getElem?_append_left hjl]at hj
  ·subst hjl;rw[List.getElem?_append_right (Nat.le_refl _)]at hj;simp at hj;omega
  ·rw[List.getElem?_eq_none (by simp;omega)]at hj;cases hj
 refine⟨hx,⟨h.newF,fun g cs hg=>⟨(h.glob g cs hg).1,(h.glob g cs hg).2.mono hx⟩,h.below,h.frz,h.one,fun id ob hid=>(h.obj id ob hid).imp fun b' hb=>⟨hb.1,hb.2.keep hx rfl⟩,
  h.lenφ,h.nod,h.sep,h.geφ,by simp[h.lenρ],fun j b' lo' hi' hj hlt=>h.reg j b' lo' hi' (hget j b' lo' hi' hj hlt) hlt,fun i j b' lo1 hi1 lo2 hi2 hij hi' hj' hlt1 hlt2=>?_,fun j b' lo' hi' hj=>?_,h.bldA (fun _ _=>rfl) (fun g hg ⟨s1,s2,s3⟩=>⟨s1,s2,fun j lo' hi' hj=>?_⟩),h.ini,h.vsK hx (fun _ _ _ _ _ h=>h) (fun j g hj _=>by rw[List.getElem?_append_left (List.getElem?_eq_some_iff.1 hj).1];exact hj) fun _ _=>rfl⟩⟩
 ·exact h.regd i j b' lo1 hi1 lo2 hi2 hij (hget _ _ _ _ hi' hlt1) (hget _ _ _ _ hj' hlt2) hlt1 hlt2
 ·have hj:(G.ρ++[(0,0,0)])[j]? = some (b',lo',hi'):=hj
  rcases Nat.lt_trichotomy j G.ρ.length with hjl | hjl | hjl
  ·rw[List.getElem?_append_left hjl]at hj;exact h.fre j b' lo' hi' hj
  ·subst hjl;rw[List.getElem?_append_right (Nat.le_refl _)]at hj;simp at hj;exact .inr ⟨hj.1.symm,hj.2.1.symm,hj.2.2.symm⟩
  ·rw[List.getElem?_eq_none (by simp;omega)]at hj;cases hj
 ·rcases Nat.lt_or_ge lo' hi' with hlt | hge
  ·exact s3 j lo' hi' (hget j g lo' hi' hj hlt)
  ·exact hge
theorem RelW.slotMove{E:Env}{G:Gh}{heap:List VObj}{arr:List Nat}{w0:Base}{w:World}(h:RelW E G heap arr w0 w){k len m b lo hi lo0 hi0:Nat}(hk:arr[k]? = some len)(hsm:len<18446744073709551616)
  (hρ:G.ρ[k]? = some (b,lo0,hi0)) (hreg:(lo=lo0∧hi=hi0)∨(hi≤lo∧lo≤lo0∧hi≤lo)) :
  Ext G arr { G with ρ:=G.ρ.set k (0,0,0)++[(b,lo,hi)] } (arr.set k (len+1)++[m])∧RelW E { G with ρ:=G.ρ.set k (0,0,0)++[(b,lo,hi)] } heap (arr.set k (len+1)++[m]) w0 w:=by
 have hkl:=(List.getElem?_eq_some_iff.1 hk).1
 have hlr:=h.lenρ
 have hne:∀ j,j≠k→j<arr.length→(G.ρ.set k (0,0,0)++[(b,lo,hi)])[j]? = G.ρ[j]?:=fun j hj hl=>by
  rw[List.getElem?_append_left (by simp;omega),List.getElem?_set_ne (Ne.symm hj)]
 have hx:Ext G arr { G with ρ:=G.ρ.set k (0,0,0)++[(b,lo,hi)] } (arr.set k (len+1)++[m]):=by
  refine⟨fun _ _ _ h=>h,fun _ _ h=>h,fun j p hj=>?_⟩
  have hjl:=(List.getElem?_eq_some_iff.1 hj).1
  by_cases e:j=k
  ·subst e
   rw[hk]at hj
   cases hj
   exact⟨len+1,by rw[List.getElem?_append_left (by simpa using hjl),List.getElem?_set_self hjl],by omega,fun h=>by omega⟩
  ·exact⟨p,by rw[List.getElem?_append_left (by simpa using hjl),List.getElem?_set_ne (Ne.symm e)];exact hj,Nat.le_refl _,fun _=>hne j e hjl⟩
 have hget:∀ (j b' lo' hi':Nat),(G.ρ.set k (0,0,0)++[(b,lo,hi)])[j]? = some (b',lo',hi')→lo'<hi'→(j≠k∧j<arr.length∧G.ρ[j]? = some (b',lo',hi'))∨(j=arr.length∧b'=b∧lo'=lo0∧hi'=hi0):=by
  intro j b' lo' hi' hj hlt
  rcases Nat.lt_trichotomy j arr.length with hjl | hjl | hjl
  ·by_cases e:j=k
   ·subst e
    rw[List.getElem?_append_left (by simp;omega),List.getElem?_set_self (by omega)]at hj
    simp at hj;omega
   ·rw[hne j e hjl]at hj;exact .inl ⟨e,hjl,hj⟩
  ·subst hjl
   rw[List.getElem?_append_right (by simp;omega)]at hj
   simp[hlr]at hj
   rcases hreg with⟨r1,r2⟩ | ⟨r1,_,_⟩
   ·exact .inr ⟨rfl,hj.1.symm,by omega,by omega⟩
   ·omega
  ·rw[List.getElem?_eq_none (by simp;omega)]at hj;cases hj
 refine⟨hx,⟨h.newF,fun g cs hg=>⟨(h.glob g cs hg).1,(h.glob g cs hg).2.mono hx⟩,h.below,h.frz,h.one,fun id ob hid=>(h.obj id ob hid).imp fun b' hb=>⟨hb.1,hb.2.keep hx rfl⟩,
  h.lenφ,h.nod,h.sep,h.geφ,by simp[h.lenρ],fun j b' lo' hi' hj hlt=>?_,fun i j b' lo1 hi1 lo2 hi2 hij hi' hj' hlt1 hlt2=>?_,fun j b' lo' hi' hj=>?_,h.bldA (fun _ _=>rfl) (fun g hg ⟨s1,s2,s3⟩=>⟨s1,s2,fun j lo' hi' hj=>?_⟩),h.ini,h.vsK hx (fun _ _ _ _ _ h=>h) (fun j g hj hge=>?_) fun _ _=>rfl⟩⟩
 ·rcases hget j b' lo' hi' hj hlt with⟨e1,e2,e3⟩ | ⟨rfl,rfl,rfl,rfl⟩
  ·exact h.reg j b' lo' hi' e3 hlt
  ·obtain⟨q1,q2,q3,q4⟩:=h.reg k _ _ _ hρ hlt
   refine⟨q1,fun id hid ob hob=>?_,q3,q4⟩
   have:=q2 id hid ob hob
   cases ob with
   | dead=>rfl
   | vec k' gen e cs =>
    simp only[VObj.looseAt,beq_iff_eq]at this
    subst this
    obtain⟨z1,z2,_⟩:=h.vs.at_ id _ gen e cs hob
    rw[hk]at z1
    cases z1
    omega
   | _=>simp[VObj.looseAt]at this
 ·rcases hget i b' lo1 hi1 hi' hlt1 with⟨e1,e2,e3⟩ | ⟨rfl,e2,e3,e4⟩ <;> rcases hget j b' lo2 hi2 hj' hlt2 with⟨f1,f2,f3⟩ | ⟨rfl,f2,f3,f4⟩
  ·exact h.regd i j b' lo1 hi1 lo2 hi2 hij e3 f3 hlt1 hlt2
  ·subst f2 f3 f4
   exact h.regd i k _ lo1 hi1 _ _ e1 e3 hρ hlt1 hlt2
  ·subst e2 e3 e4
   exact h.regd k j _ _ _ lo2 hi2 (Ne.symm f1) hρ f3 hlt1 hlt2
  ·exact absurd rfl hij
 ·have hj:(G.ρ.set k (0,0,0)++[(b,lo,hi)])[j]? = some (b',lo',hi'):=hj
  rcases Nat.lt_trichotomy j arr.length with hjl | hjl | hjl
  ·by_cases e:j=k
   ·subst e
    rw[List.getElem?_append_left (by simp;omega),List.getElem?_set_self (by omega)]at hj
    simp at hj
    exact .inr ⟨hj.1.symm,hj.2.1.symm,hj.2.2.symm⟩
   ·rw[hne j e hjl]at hj;exact h.fre j b' lo' hi' hj
  ·subst hjl
   rw[List.getElem?_append_right (by simp;omega)]at hj
   simp[hlr]at hj
   obtain⟨rfl,rfl,rfl⟩:=hj
   rcases h.fre k _ _ _ hρ with hf | ⟨f1,f2,f3⟩
   ·exact .inl hf
   ·right
    rcases hreg with⟨r1,r2⟩ | ⟨r1,r2,_⟩ <;> exact⟨f1,by omega,by omega⟩
  ·rw[List.getElem?_eq_none (by simp;omega)]at hj;cases hj
 ·rcases Nat.lt_or_ge lo' hi' with hlt | hge
  ·rcases hget j g lo' hi' hj hlt with⟨e1,e2,e3⟩ | ⟨rfl,rfl,rfl,rfl⟩
   ·exact s3 j lo' hi' e3
   ·exact s3 k _ _ hρ
  ·exact hge
 ·have e:j≠k:=fun e=>by subst e;rw[hk]at hj;cases hj;omega
  have hjl:=(List.getElem?_eq_some_iff.1 hj).1
  rw[List.getElem?_append_left (by simpa using hjl),List.getElem?_set_ne (Ne.symm e)];exact hj
end Go.Vg
