/- The operations on trees, part 3: append. -/
import Derived.Test.YtamednbojpnalaaGreatDoorVgD
set_option linter.unusedVariables false
set_option linter.unusedSimpArgs false
namespace Go.Vg
open Go.RowKit
def vApp1(arr:List Nat)(o:Own)(e e1:TypeId)(es xs:List (List V))(K:V→List Nat→Prop):Prop :=
 match o with
 | .shared=>False
 | .full=>if xs=[]then K (.slice .full e1 es) arr else K (.slice (.arr arr.length) e (es++xs)) (arr++[es.length+xs.length])
 | .nil=>es=[]∧K (.slice (.arr arr.length) e xs) (arr++[xs.length])
 | .arr k=>(e1=e∧arr[k]? = some es.length)∧K (.slice (.arr k) e (es++xs)) (arr.set k (es.length+xs.length))
def bytesV(s:ByteArray):List (List V):=s.data.toList.map fun b=>[.int .u8 b.toNat]
def vAppend(E:Env)(arr:List Nat)(sType xType:TypeId)(s x:V)(K:V→List Nat→Prop):Prop :=
 match E.P.underlying sType,E.P.underlying xType,s,x with
 | some (.slice e),some (.slice _),.slice o e1 es,.slice _ e2 xs =>
  ((es=[]∨e1=e)∧(xs=[]∨e2=e)∧elemOK E.P e=true∧(es.length+xs.length) * E.P.bytesOf e≤140737488355328)∧vApp1 arr o e e1 es xs K
 | some (.slice e),some .string,.slice o e1 es,.str b =>
  ((es=[]∨e1=e)∧E.P.cellsOf e=1∧elemOK E.P e=true∧(es.length+(bytesV b).length) * E.P.bytesOf e≤140737488355328)∧vApp1 arr o e e1 es (bytesV b) K
 | _,_,_,_=>False
theorem size_zeroCells(z:Array Value)(n:Nat):(Builtin.zeroCells z n).size=n * z.size:=by simp[Builtin.zeroCells]
theorem elen{P:Program}{G:Gh}{arr:List Nat}{o:Own}{e e1:TypeId}{es:List (List V)}{v:Value}(h:RV P G arr (.slice o e1 es) v)(he:es=[]∨e1=e) :
  (∀ (i:Nat) el,es[i]? = some el→el.length=P.cellsOf e)∧RV P G arr (.slice .shared e es) v:=by
 rcases he with rfl | rfl
 ·refine⟨by simp,?_⟩
  cases h with
  | snil=>exact .snil _ _ trivial
  | sodd=>exact .sodd _ _ _
  | slice _ _ _ b off cap ho h1 h2 h3 h4 h5 h6 =>
   exact .slice .shared e [] b off cap trivial (by simp) (by simp) (by simp) (by simp) (by simp) (by simp)
 ·cases h with
  | snil=>exact⟨by simp,.snil _ _ trivial⟩
  | sodd=>exact⟨by simp,.sodd _ _ _⟩
  | slice _ _ _ b off cap ho h1 h2 h3 h4 h5 h6=>exact⟨h1,.slice _ _ _ _ _ _ trivial h1 h2 h3 h4 h5 h6⟩
theorem RV.ofCells{P:Program}{G:Gh}{arr:List Nat}{o:Own}{e:TypeId}{es:List (List V)}{b off cap:Nat}(ho:OwnOK G arr o b off es.length cap (P.cellsOf e))
  (h1:∀ (i:Nat) el,es[i]? = some el→el.length=P.cellsOf e) (h2:es.length * P.bytesOf e≤140737488355328) (h2':1≤P.bytesOf e) (h4:es.length≤cap)
  (h:∀ (i:Nat) el (j:Nat) c,es[i]? = some el→el[j]? = some c→∃ u,G.F b (off+(i * P.cellsOf e+j))=some u∧RV P G arr c u) :
  RV P G arr (.slice o e es) (.slice (some ⟨b,off,none⟩) es.length cap):=by
 refine .slice o e es b off cap ho h1 h2 (Nat.le_trans (Nat.le_mul_of_pos_right _ h2') h2) h4 (fun i el j hi hj=>?_) fun i el j c v hi hj hv=>?_
 ·obtain⟨u,hu,_⟩:=h i el j _ hi (List.getElem?_eq_getElem hj)
  exact⟨u,hu⟩
 ·obtain⟨u,hu,hr⟩:=h i el j c hi hj
  rw[hv]at hu
  cases hu
  exact hr
theorem elems_src{E:Env}{G:Gh}{heap:List VObj}{arr:List Nat}{w0:Base}{w:World}(h:RelW E G heap arr w0 w){o:Own}{e e' tx:TypeId}{es:List (List V)}{v:Value}
  (hk:E.P.underlying tx=some (.slice e')) (hv:RV E.P G arr (.slice o e es) v):∃ news:List Value,Src E.P (E.P.cellsOf e) tx v es.length news w ∧
   ∀ (i:Nat) el (j:Nat) c,es[i]? = some el→el[j]? = some c→∃ u,news[i * E.P.cellsOf e+j]? = some u∧RV E.P G arr c u:=by
 cases hv with
 | snil o e ho=>exact⟨[],Src.ofNil w hk 0,by simp⟩
 | sodd e a c =>
  refine⟨[],?_,by simp⟩
  cases a with
  | none=>exact Src.ofNil w hk c
  | some a=>exact Src.ofSlice w hk a 0 c [] (by simp) (by simp) (by simp)
 | slice o e es b off cap ho h1 h2 h3 h4 h5 h6 =>
  have hF:∀ j,j<es.length * E.P.cellsOf e→∃ u,G.F b (off+j)=some u:=fun j hj=>by
   have hs:0<E.P.cellsOf e:=Nat.pos_of_ne_zero fun h0=>by simp[h0]at hj
   have hi:j / E.P.cellsOf e<es.length:=(Nat.div_lt_iff_lt_mul hs).2 hj
   have hel:=h1 _ _ (List.getElem?_eq_getElem hi)
   obtain⟨u,hu⟩:=h5 _ _ (j % E.P.cellsOf e) (List.getElem?_eq_getElem hi) (by rw[hel];exact Nat.mod_lt _ hs)
   have:j / E.P.cellsOf e * E.P.cellsOf e+j % E.P.cellsOf e=j:=Nat.div_add_mod' j _
   rw[this]at hu
   exact⟨u,hu⟩
  have hnews:∀ (j:Nat) u,((List.range (es.length * E.P.cellsOf e)).map fun j=>(G.F b (off+j)).getD undef)[j]? = some u→G.F b (off+j)=some u:=by
   intro j u hu
   rw[List.getElem?_map]at hu
   obtain⟨j',hj',rfl⟩:=Option.map_eq_some_iff.1 hu
   have hjl:=(List.getElem?_eq_some_iff.1 hj').1
   rw[List.length_range]at hjl
   rw[List.getElem?_range hjl]at hj'
   cases hj'
   obtain⟨u,hu⟩:=hF j hjl
   rw[hu];rfl
  refine⟨(List.range (es.length * E.P.cellsOf e)).map fun j=>(G.F b (off+j)).getD undef,Src.ofSlice w hk ⟨b,off,none⟩ es.length cap _ (by simp) (fun j u hu=>?_) (fun u hu=>?_),fun i el j c hi hj=>?_⟩
  ·rw[Addr.add_mk];exact h.frz _ _ _ (hnews j u hu)
  ·obtain⟨j,hj,rfl⟩:=List.getElem_of_mem hu
   exact h.one _ _ _ (hnews j _ (List.getElem?_eq_getElem hj))
  ·have hjl:=(List.getElem?_eq_some_iff.1 hj).1
   have hil:=(List.getElem?_eq_some_iff.1 hi).1
   have hel:=h1 i el hi
   obtain⟨u,hu⟩:=h5 i el j hi hjl
   have hlt:i * E.P.cellsOf e+j<es.length * E.P.cellsOf e:=by
    have:(i+1) * E.P.cellsOf e≤es.length * E.P.cellsOf e:=Nat.mul_le_mul_right _ hil
    rw[Nat.add_mul]at this
    omega
   refine⟨u,?_,h6 i el j c u hi hj hu⟩
   rw[List.getElem?_map,List.getElem?_range hlt]
   simp[hu]
theorem join_getL{sz:Nat}{es xs:List (List V)}{old new:List Value}(ho:old.length=es.length * sz)
  {R:V→Value→Prop} (hr1:∀ (i:Nat) el (j:Nat) c,es[i]? = some el→el[j]? = some c→∃ u,old[i * sz+j]? = some u∧R c u)
  (hr2:∀ (i:Nat) el (j:Nat) c,xs[i]? = some el→el[j]? = some c→∃ u,new[i * sz+j]? = some u∧R c u) :
  ∀ (i:Nat) el (j:Nat) c,(es++xs)[i]? = some el→el[j]? = some c→∃ u,(old++new)[i * sz+j]? = some u∧R c u:=by
 intro i el j c hi hj
 by_cases hil:i<es.length
 ·rw[List.getElem?_append_left hil]at hi
  obtain⟨u,hu,hr⟩:=hr1 i el j c hi hj
  refine⟨u,?_,hr⟩
  rw[List.getElem?_append_left (List.getElem?_eq_some_iff.1 hu).1];exact hu
 ·rw[List.getElem?_append_right (by omega)]at hi
  obtain⟨u,hu,hr⟩:=hr2 _ el j c hi hj
  refine⟨u,?_,hr⟩
  have hmul:i * sz=es.length * sz+(i - es.length) * sz:=by rw[←Nat.add_mul];congr 1;omega
  rw[List.getElem?_append_right (by omega),ho]
  rw[show i * sz+j - es.length * sz=(i - es.length) * sz+j by omega]
  exact hu
theorem app_len{sz:Nat}{es xs:List (List V)}(h1:∀ (i:Nat) el,es[i]? = some el→el.length=sz)(h2:∀ (i:Nat) el,xs[i]? = some el→el.length=sz) :
  ∀ (i:Nat) el,(es++xs)[i]? = some el→el.length=sz:=by
 intro i el hi
 by_cases hil:i<es.length
 ·rw[List.getElem?_append_left hil]at hi;exact h1 i el hi
 ·rw[List.getElem?_append_right (by omega)]at hi;exact h2 _ el hi
theorem append_core{E:Env}{G:Gh}{heap:List VObj}{arr:List Nat}{w0:Base}{w:World}(h:RelW E G heap arr w0 w){vs vx:Value}{t:TypeId}{sT xT:TypeId}{e e1:TypeId}{o:Own}{es xs:List (List V)}
  {K:V→List Nat→Prop} (hs:RV E.P G arr (.slice o e1 es) vs) (hsT:E.P.underlying sT=some (.slice e)) (he1:es=[]∨e1=e) (hok:elemOK E.P e=true)
  (hbytes:(es.length+xs.length) * E.P.bytesOf e≤140737488355328) (hlen2:∀ (i:Nat) el,xs[i]? = some el→el.length=E.P.cellsOf e)
  (hsrc:∃ news:List Value,Src E.P (E.P.cellsOf e) xT vx xs.length news w∧∀ (i:Nat) el (j:Nat) c,xs[i]? = some el→el[j]? = some c→∃ u,news[i * E.P.cellsOf e+j]? = some u∧RV E.P G arr c u)
  (hK:vApp1 arr o e e1 es xs K) :
  ∃ u y arr' G' w',(Builtin.append_ #[sT,xT] t #[vs,vx]).run E.P w = .ok u w'∧K y arr'∧Ext G arr G' arr'∧RelW E G' heap arr' w0 w'∧RV E.P G' arr' y u:=by
 unfold vApp1 at hK
 obtain⟨i,z,hi,hz,hz1,hzs,his,hib,hs1,hb1,hb2⟩:=elemOK_spec hok
 obtain⟨hlen1,hsh1⟩:=elen hs he1
 have hlen:=app_len hlen1 hlen2
 obtain⟨olds,hso,hget1⟩:=elems_src h hsT hsh1
 obtain⟨news,hsn,hget2⟩:=hsrc
 have hget:=join_getL hso.newsLen hget1 hget2
 have hneed:es.length+xs.length≤140737488355328:=Nat.le_trans (Nat.le_mul_of_pos_right _ hb1) hbytes
 have hmulle:(es++xs).length * E.P.bytesOf e≤140737488355328:=by rw[List.length_append];exact hbytes
 have hone:∀ (j:Nat) v,(olds++news).toArray[j]? = some v→v.oneCell'=true:=fun j v hv=>by
  have hm:v∈olds++news:=by simpa using Array.mem_of_getElem? hv
  rcases List.mem_append.1 hm with hm | hm
  ·exact hso.one v hm
  ·exact hsn.one v hm
 -- a new row
 have grow:∀ (a:Option Addr) (cap k:Nat) (arr':List Nat),vs = .slice a es.length cap→cap<es.length+xs.length→arr'[k]? = some (es.length+xs.length) →
   (∀ j:Nat,j≠k→arr'[j]? = arr[j]?)→(∀ n:Nat,arr[k]? = some n→n<es.length+xs.length)→k≤arr.length→(arr'.length=if k<arr.length then arr.length else arr.length+1) →
   ∃ u G' w',(Builtin.append_ #[sT,xT] t #[vs,vx]).run E.P w = .ok u w'∧Ext G arr G' arr'∧RelW E G' heap arr' w0 w'∧RV E.P G' arr' (.slice (.arr k) e (es++xs)) u:=by
  intro a cap k arr' hvs hcap hak hoth hkm hkl harl
  subst hvs
  have hnc:=nextslicecap_le (es.length+xs.length) cap hcap
  have hfit:Builtin.nextslicecap (es.length+xs.length) cap * i.bytes≤281474976710656:=by
   rw[hib]
   have h1:Builtin.nextslicecap (es.length+xs.length) cap * E.P.bytesOf e≤(es.length+xs.length+(es.length+xs.length) / 4+512) * E.P.bytesOf e:=Nat.mul_le_mul_right _ hnc
   have h2:(es.length+xs.length) / 4 * E.P.bytesOf e≤140737488355328 / 4:=by
    have:(es.length+xs.length) / 4 * E.P.bytesOf e≤(es.length+xs.length) * E.P.bytesOf e / 4:=by
     rw[Nat.le_div_iff_mul_le (by omega)]
     have:=Nat.div_mul_le_self (es.length+xs.length) 4
     calc (es.length+xs.length) / 4 * E.P.bytesOf e * 4=(es.length+xs.length) / 4 * 4 * E.P.bytesOf e:=by rw[Nat.mul_right_comm]
      _≤(es.length+xs.length) * E.P.bytesOf e:=Nat.mul_le_mul_right _ this
    omega
   have h3:512 * E.P.bytesOf e≤536870912:=by omega
   rw[Nat.add_mul,Nat.add_mul]at h1
   omega
  have hrun:=run_append_grow_src (P:=E.P) w sT xT t e i z hsT hi hz a es.length cap olds (by rw[his];exact hso.cellsD) vx xs.length news (by rw[his];exact hsn) hcap (by omega) hfit
  generalize hcapN:grownCap w (es.length+xs.length) cap e=newCap at hrun
  have hge:es.length+xs.length≤newCap:=by
   rw[←hcapN];simp only[grownCap,Question.cut];omega
  have hwd:=h.drew (w.drawn+1)
  have hsize:(olds++news).toArray.size=(es.length+xs.length) * E.P.cellsOf e:=by
   simp[hso.newsLen,hsn.newsLen,Nat.add_mul]
  obtain⟨hx',hr'⟩:=hwd.allocA (olds++news).toArray (Builtin.zeroCells z.cells (newCap - (es.length+xs.length))) e k (es.length+xs.length) (newCap * E.P.cellsOf e) arr'
   (if k<arr.length then G.ρ.set k (w.heap.size,(es.length+xs.length) * E.P.cellsOf e,newCap * E.P.cellsOf e)else G.ρ++[(w.heap.size,(es.length+xs.length) * E.P.cellsOf e,newCap * E.P.cellsOf e)])
   (by rw[hsize,size_zeroCells,hzs,←Nat.add_mul];exact Nat.le_of_eq (by congr 1;omega))
   (by
    have:=h.lenρ
    split
    ·rename_i hk;rw[harl,if_pos hk];simp[this]
    ·rename_i hk;rw[harl,if_neg hk];simp[this])
   (by
    have:=h.lenρ
    rw[hsize]
    show _=some (w.heap.size,_,_)
    split
    ·rename_i hk;exact List.getElem?_set_self (by omega)
    ·rename_i hk;rw[List.getElem?_append_right (by omega)];simp[show k - G.ρ.length=0 by omega])
   hak (fun j hj=>⟨by
    have:=h.lenρ
    split
    ·exact List.getElem?_set_ne (Ne.symm hj)
    ·rename_i hk
     by_cases hjl:j<G.ρ.length
     ·exact List.getElem?_append_left hjl
     ·rw[List.getElem?_append_right (by omega),List.getElem?_eq_none (by simp;omega),List.getElem?_eq_none (by omega)],hoth j hj⟩) hkm hone (by omega)
  refine⟨_,_,_,hrun,hx',hr',?_⟩
  have hl':(es++xs).length=es.length+xs.length:=List.length_append
  have key:∀ G',G'.ρ[k]? = some (w.heap.size,(es.length+xs.length) * E.P.cellsOf e,newCap * E.P.cellsOf e) →
    (∀ (i':Nat) el (j:Nat) c,(es++xs)[i']? = some el→el[j]? = some c→∃ u,G'.F w.heap.size (0+(i' * E.P.cellsOf e+j))=some u∧RV E.P G' arr' c u) →
    RV E.P G' arr' (.slice (.arr k) e (es++xs)) (.slice (some ⟨w.heap.size,0,none⟩) (es.length+xs.length) newCap):=by
   intro G' hρ hc
   have:=RV.ofCells (P:=E.P) (G:=G') (arr:=arr') (o := .arr k) (e:=e) (es:=es++xs) (b:=w.heap.size) (off:=0) (cap:=newCap)
    ⟨es.length+xs.length,hak,by omega,fun _=>by rw[hρ,hl'];simp⟩ hlen hmulle hb1 (by omega) hc
   rwa [hl']at this
  refine key _ ?_ fun i' el j c hi' hj'=>?_
  ·have:=h.lenρ
   show(if k<arr.length then _ else _)[k]? = _
   split
   ·rename_i hk;exact List.getElem?_set_self (by omega)
   ·rename_i hk;rw[List.getElem?_append_right (by omega)];simp[show k - G.ρ.length=0 by omega]
  ·obtain⟨u,hu,hr⟩:=hget i' el j c hi' hj'
   refine⟨u,?_,hr.mono hx'⟩
   have hlt:=(List.getElem?_eq_some_iff.1 hu).1
   simp only[Gh.freezeAt,Nat.zero_add,Nat.zero_le,true_and,Nat.sub_zero]
   rw[if_pos (by simpa using hlt)]
   simpa using hu
 have hvs:(vs = .slice none 0 0∧es=[])∨∃ b off cap,vs = .slice (some ⟨b,off,none⟩) es.length cap∧OwnOK G arr o b off es.length cap (E.P.cellsOf e1)∧es.length≤cap:=by
  cases hs with
  | snil=>exact .inl ⟨rfl,rfl⟩
  | sodd=>exact hK.elim
  | slice _ _ _ b off cap ho _ _ _ h4=>exact .inr ⟨b,off,cap,rfl,ho,h4⟩
 have hnone:xs=[]→vs = .slice none 0 0→es=[]→(Builtin.append_ #[sT,xT] t #[vs,vx]).run E.P w = .ok (.slice none 0 0) w:=by
  rintro rfl rfl rfl
  have h0:news=[]:=List.eq_nil_of_length_eq_zero (by have:=hsn.newsLen;simpa using this)
  subst h0
  have hl:=hsn.len w
  have hc:=hsn.cells
  simp only[List.length_nil]at hl hc
  rw[←his]at hc
  rcases hsn.kind with⟨e',hk⟩ | hk <;> simp[Builtin.append_,run_underlying hsT,run_underlying hk,sizeOf,typeInfo,hi,hl,hc]
 have hstay:∀ b off cap,xs=[]→vs = .slice (some ⟨b,off,none⟩) es.length cap→es.length≤cap→(Builtin.append_ #[sT,xT] t #[vs,vx]).run E.P w = .ok vs w:=by
  rintro b off cap rfl rfl hle
  have h0:news=[]:=List.eq_nil_of_length_eq_zero (by have:=hsn.newsLen;simpa using this)
  subst h0
  have:=run_append_room_src (P:=E.P) w sT xT t e i hsT hi b off es.length cap vx 0 [] (by rw[his];exact hsn) (by omega) (by simp) (by simp)
  simpa[World.setCells]using this
 -- the first append to what has no slot yet
 have first:(∀ b off cap,vs = .slice (some ⟨b,off,none⟩) es.length cap→cap=es.length∧xs≠[])→K (.slice (.arr arr.length) e (es++xs)) (arr++[es.length+xs.length]) →
   ∃ u y arr' G' w',(Builtin.append_ #[sT,xT] t #[vs,vx]).run E.P w = .ok u w'∧K y arr'∧Ext G arr G' arr'∧RelW E G' heap arr' w0 w'∧RV E.P G' arr' y u:=by
  intro hfull hk
  by_cases hx0:xs=[]
  ·rcases hvs with⟨hv,he⟩ | ⟨b,off,cap,hv,ho,hle⟩
   ·obtain⟨hx',hr'⟩:=h.slot (es.length+xs.length)
    refine⟨_,_,_,_,w,hnone hx0 hv he,hk,hx',hr',?_⟩
    subst hx0 he
    exact .snil _ _ ⟨0,by simp⟩
   ·exact absurd hx0 (hfull b off cap hv).2
  ·have hpos:0<xs.length:=List.length_pos_iff.2 hx0
   obtain⟨a,cap,hv,hcap⟩:∃ a cap,vs = .slice a es.length cap∧cap<es.length+xs.length:=by
    rcases hvs with⟨hv,he⟩ | ⟨b,off,cap,hv,ho,hle⟩
    ·subst he;exact⟨none,0,hv,by omega⟩
    ·have:=(hfull b off cap hv).1;exact⟨_,cap,hv,by omega⟩
   obtain⟨u,G',w',g1,g2,g3,g4⟩:=grow a cap arr.length (arr++[es.length+xs.length]) hv hcap (by simp) (fun j hj=>by
    by_cases hjl:j<arr.length
    ·exact List.getElem?_append_left hjl
    ·rw[List.getElem?_eq_none (by simp;omega),List.getElem?_eq_none (by omega)]) (fun n hn=>by simp at hn) (Nat.le_refl _) (by simp)
   exact⟨u,_,_,G',w',g1,hk,g2,g3,g4⟩
 cases o with
 | shared=>exact hK.elim
 | full =>
  by_cases hx0:xs=[]
  ·rw[if_pos hx0]at hK
   refine⟨vs,_,_,G,w,?_,hK,Ext.refl _ _,h,hs⟩
   rcases hvs with⟨hv,he⟩ | ⟨b,off,cap,hv,ho,hle⟩
   ·rw[hnone hx0 hv he,hv]
   ·exact hstay b off cap hx0 hv hle
  rw[if_neg hx0]at hK
  refine first (fun b off cap hv=>?_) hK
  rcases hvs with⟨hv',_⟩ | ⟨b',off',cap',hv',ho,_⟩
  ·rw[hv]at hv';cases hv'
  ·rw[hv]at hv';cases hv';exact⟨ho,hx0⟩
 | nil =>
  obtain⟨he,hk⟩:=hK
  refine first (fun b off cap hv=>?_) (by subst he;simpa using hk)
  rcases hvs with⟨hv',_⟩ | ⟨b',off',cap',hv',ho,_⟩
  ·rw[hv]at hv';cases hv'
  ·exact ho.elim
 | arr k =>
  obtain⟨⟨hee,hak⟩,hk⟩:=hK
  subst hee
  have hkl:=(List.getElem?_eq_some_iff.1 hak).1
  by_cases hx0:xs=[]
  ·refine⟨vs,_,_,G,w,?_,hk,?_⟩
   ·rcases hvs with⟨hv,he⟩ | ⟨b,off,cap,hv,ho,hle⟩
    ·rw[hnone hx0 hv he,hv]
    ·exact hstay b off cap hx0 hv hle
   ·subst hx0
    have hset:arr.set k (es.length+([]:List (List V)).length)=arr:=by
     refine List.ext_getElem? fun j=>?_
     by_cases hj:j=k
     ·subst hj;rw[List.getElem?_set_self hkl];simpa using hak.symm
     ·rw[List.getElem?_set_ne (Ne.symm hj)]
    rw[hset]
    exact⟨Ext.refl _ _,h,by simpa using hs⟩
  ·have hpos:0<xs.length:=List.length_pos_iff.2 hx0
   have hgrow:∀ a cap,vs = .slice a es.length cap→cap<es.length+xs.length →
     ∃ u y arr' G' w',(Builtin.append_ #[sT,xT] t #[vs,vx]).run E.P w = .ok u w'∧K y arr'∧Ext G arr G' arr'∧RelW E G' heap arr' w0 w'∧RV E.P G' arr' y u:=by
    intro a cap hv hcap
    obtain⟨u,G',w',g1,g2,g3,g4⟩:=grow a cap k (arr.set k (es.length+xs.length)) hv hcap (List.getElem?_set_self hkl) (fun j hj=>List.getElem?_set_ne (Ne.symm hj))
     (fun n hn=>by rw[hak]at hn;cases hn;omega) (by omega) (by simp[hkl])
    exact⟨u,_,_,G',w',g1,hk,g2,g3,g4⟩
   rcases hvs with⟨hv,he⟩ | ⟨b,off,cap,hv,ho,hle⟩
   ·subst he;exact hgrow none 0 hv (by simpa using hpos)
   ·by_cases hcap:cap<es.length+xs.length
    ·exact hgrow _ cap hv hcap
    ·subst hv
     obtain⟨n,hn1,hn2,hn3⟩:=ho
     rw[hak]at hn1
     cases hn1
     have hρ:=hn3 rfl
     have hmul:(es.length+xs.length) * E.P.cellsOf e1≤cap * E.P.cellsOf e1:=Nat.mul_le_mul_right _ (by omega)
     rw[Nat.add_mul]at hmul
     have hxp:1≤xs.length * E.P.cellsOf e1:=Nat.mul_pos hpos hs1
     obtain⟨⟨cb,eb,hb1',hb2'⟩,r3,r4,r5⟩:=h.reg k b _ _ hρ (by omega)
     have hnl:=hsn.newsLen
     have hrun:=run_append_room_src (P:=E.P) w sT xT t e1 i hsT hi b off es.length cap vx xs.length news (by rw[his];exact hsn) (by omega)
      (fun j hj=>by rw[his];simp only[World.cell?,hb1'];simp;omega) (fun j hj=>by rw[his];simp[World.frozen?,hb1'])
     obtain⟨w',cb',q1,q2,q3,q4,q5,q6,q7,q8,q9⟩:=run_storeCells (P:=E.P) news w b (off+es.length * E.P.cellsOf e1) 0 cb eb hb1' (by omega) (fun v hv=>by
      have:=hsn.one v hv
      exact⟨fun cs e=>by subst e;simp[Value.oneCell']at this,fun cs e=>by subst e;simp[Value.oneCell']at this⟩)
     have hw':w.setCells b (off+es.length * E.P.cellsOf e1) news=w':=by
      have:=run_storeCells_cells (P:=E.P) b (off+es.length * E.P.cellsOf e1) news 0 w (fun j hj=>by simp only[World.cell?,hb1'];simp;omega) (fun j hj=>by simp[World.frozen?,hb1']) hsn.one
      rw[q1]at this
      simp only[Nat.add_zero]at this
      injection this with _ this
      exact this.symm
     rw[his,hw']at hrun
     obtain⟨hx',hr'⟩:=h.fillA (k:=k) (b:=b) (n:=es.length) (m:=es.length+xs.length) (c:=news.toArray) (w':=w') (cb:=cb) (cb':=cb') (e:=eb) hρ (by omega) hak (by omega) (by simp[hnl];omega)
      q2 q3 q4 q5 q6 hb1' q7 q8 (fun j=>by have:=q9 j;simpa using this) (fun j v hv=>hsn.one v (by simpa using Array.mem_of_getElem? hv)) (by omega)
     refine⟨_,_,_,_,w',hrun,hk,hx',hr',?_⟩
     have hl':(es++xs).length=es.length+xs.length:=List.length_append
     have key:=RV.ofCells (P:=E.P) (G:=⟨(G.freezeAt b (off+es.length * E.P.cellsOf e1) news.toArray).F,G.φ,G.ρ.set k (b,off+es.length * E.P.cellsOf e1+news.toArray.size,off+cap * E.P.cellsOf e1)⟩)
      (arr:=arr.set k (es.length+xs.length)) (o := .arr k) (e:=e1) (es:=es++xs) (b:=b) (off:=off) (cap:=cap)
      ⟨es.length+xs.length,List.getElem?_set_self hkl,by omega,fun _=>by
       have:=h.lenρ
       show(G.ρ.set _ _)[_]? = _
       rw[List.getElem?_set_self (by omega)]
       simp[hnl,hl',Nat.add_mul,Nat.add_assoc]⟩ hlen hmulle hb1 (by omega) (fun i' el j c hi' hj'=>by
      by_cases hil:i'<es.length
      ·rw[List.getElem?_append_left hil]at hi'
       cases hsh1 with
       | sodd=>simp at hi'
       | slice _ _ _ _ _ _ _ h1 h2 h3 h4 h5 h6 =>
        obtain⟨u,hu⟩:=h5 i' el j hi' (List.getElem?_eq_some_iff.1 hj').1
        exact⟨u,hx'.F _ _ _ hu,(h6 i' el j c u hi' hj' hu).mono hx'⟩
      ·rw[List.getElem?_append_right (by omega)]at hi'
       obtain⟨u,hu,hr⟩:=hget2 _ el j c hi' hj'
       refine⟨u,?_,hr.mono hx'⟩
       have hul:=(List.getElem?_eq_some_iff.1 hu).1
       have hmm:i' * E.P.cellsOf e1=es.length * E.P.cellsOf e1+(i' - es.length) * E.P.cellsOf e1:=by rw[←Nat.add_mul];congr 1;omega
       have hidx:off+(i' * E.P.cellsOf e1+j) - (off+es.length * E.P.cellsOf e1)=(i' - es.length) * E.P.cellsOf e1+j:=by omega
       simp only[Gh.freezeAt]
       rw[if_pos ⟨by trivial,by omega,by simp;omega⟩,hidx]
       simpa using hu)
     rw[hl']at key
     exact key
theorem append_out{E:Env}{G:Gh}{heap:List VObj}{arr:List Nat}{w0:Base}{w:World}(h:RelW E G heap arr w0 w){s x:V}{vs vx:Value}{t:TypeId}{sT xT:TypeId}
  {K:V→List Nat→Prop} (hs:RV E.P G arr s vs) (hx:RV E.P G arr x vx) (hK:vAppend E arr sT xT s x K) :
  ∃ u y arr' G' w',(Builtin.append_ #[sT,xT] t #[vs,vx]).run E.P w = .ok u w'∧K y arr'∧Ext G arr G' arr'∧RelW E G' heap arr' w0 w'∧RV E.P G' arr' y u:=by
 unfold vAppend at hK
 split at hK
 case h_3=>exact hK.elim
 ·rename_i e ex o e1 es o2 e2 xs hsT hxT
  obtain⟨⟨he1,he2,hok,hbytes⟩,hK⟩:=hK
  obtain⟨hlen2,hsh2⟩:=elen hx he2
  exact append_core h hs hsT he1 hok hbytes hlen2 (elems_src h hxT hsh2) hK
 ·rename_i e o e1 es b hsT hxT
  obtain⟨⟨he1,hc1,hok,hbytes⟩,hK⟩:=hK
  have hl:(bytesV b).length=b.size:=by simp[bytesV]
  have hget:∀ (i:Nat) el,(bytesV b)[i]? = some el→∃ y:UInt8,b.data.toList[i]? = some y∧el=[.int .u8 y.toNat]:=fun i el hi=>by
   obtain⟨y,hy,rfl⟩:=List.getElem?_map ▸ hi |> Option.map_eq_some_iff.1
   exact⟨y,hy,rfl⟩
  cases hx
  refine append_core h hs hsT he1 hok hbytes (fun i el hi=>?_) ⟨Go.byteCells b,by rw[hc1,hl];exact Src.ofString w hxT b,fun i el j c hi hj=>?_⟩ hK
  ·obtain⟨y,_,rfl⟩:=hget i el hi
   rw[hc1];rfl
  ·obtain⟨y,hy,rfl⟩:=hget i el hi
   cases j with
   | succ j=>simp at hj
   | zero =>
    simp at hj
    subst hj
    exact⟨.int .u8 y.toNat,by rw[hc1];simp only[Go.byteCells,Nat.mul_one,Nat.add_zero,List.getElem?_map,hy,Option.map_some],.int _ _⟩
end Go.Vg
