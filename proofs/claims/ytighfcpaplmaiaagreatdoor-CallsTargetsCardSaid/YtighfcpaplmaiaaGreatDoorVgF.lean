import Derived.Test.YtighfcpaplmaiaaGreatDoorVgD
set_option linter.unusedVariables false
set_option linter.unusedSimpArgs false
namespace Go.Vg
open Go.RowKit
def c2K(arr:List Nat)(o:Own)(e e1:TypeId)(es xs:List (List V))(K:V→List Nat→Prop):Prop :=
 match o with
 | .shared=>False
 | .full=>if xs=[]then K (.slice .full e1 es) arr else K (.slice (.arr arr.length) e (es++xs)) (arr++[es.length+xs.length])
 | .nil=>es=[]∧K (.slice (.arr arr.length) e xs) (arr++[xs.length])
 | .arr k=>(e1=e∧arr[k]? = some es.length)∧K (.slice (.arr k) e (es++xs)) (arr.set k (es.length+xs.length))
def b2o(s:ByteArray):List (List V):=s.data.toList.map fun b=>[.int .u8 b.toNat]
def b5q(E:Env)(arr:List Nat)(sType xType:TypeId)(s x:V)(K:V→List Nat→Prop):Prop :=
 match E.P.underlying sType,E.P.underlying xType,s,x with
 | some (.slice e),some (.slice _),.slice o e1 es,.slice _ e2 xs =>
  ((es=[]∨e1=e)∧(xs=[]∨e2=e)∧b0W E.P e=true∧(es.length+xs.length) * E.P.bytesOf e≤140737488355328)∧c2K arr o e e1 es xs K
 | some (.slice e),some .string,.slice o e1 es,.str b =>
  ((es=[]∨e1=e)∧E.P.cellsOf e=1∧b0W E.P e=true∧(es.length+(b2o b).length) * E.P.bytesOf e≤140737488355328)∧c2K arr o e e1 es (b2o b) K
 | _,_,_,_=>False
theorem b4j(z:Array Value)(n:Nat):(Builtin.zeroCells z n).size=n * z.size:=by simp[Builtin.zeroCells]
theorem d8q{P:Program}{G:Gh}{arr:List Nat}{o:Own}{e e1:TypeId}{es:List (List V)}{v:Value}(h:RV P G arr (.slice o e1 es) v)(he:es=[]∨e1=e) :
  (∀ (i:Nat) el,es[i]? = some el→el.length=P.cellsOf e)∧RV P G arr (.slice .shared e es) v:=by
 rcases he with rfl | rfl
 ·refine⟨by simp,?_⟩
  cases h with
  | snil=>exact .snil _ _ trivial
  | sodd=>exact .sodd _ _ _
  | slice _ _ _ b off cap ho h1 h2 h3 h4 h5 h6 =>
   exact .slice .shared e [] b off cap trivial (by simp) (by simp) (by simp) (by simp) (by simp) (by simp)
 ·cases h with
  | snil=>exact⟨by simp,.snil _ _ trivial⟩
  | sodd=>exact⟨by simp,.sodd _ _ _⟩
  | slice _ _ _ b off cap ho h1 h2 h3 h4 h5 h6=>exact⟨h1,.slice _ _ _ _ _ _ trivial h1 h2 h3 h4 h5 h6⟩
theorem RV.ofCells{P:Program}{G:Gh}{arr:List Nat}{o:Own}{e:TypeId}{es:List (List V)}{b off cap:Nat}(ho:c2j G arr o b off es.length cap (P.cellsOf e))
  (h1:∀ (i:Nat) el,es[i]? = some el→el.length=P.cellsOf e) (h2:es.length * P.bytesOf e≤140737488355328) (h2':1≤P.bytesOf e) (h4:es.length≤cap)
  (h:∀ (i:Nat) el (j:Nat) c,es[i]? = some el→el[j]? = some c→∃ u,G.F b (off+(i * P.cellsOf e+j))=some u∧RV P G arr c u) :
  RV P G arr (.slice o e es) (.slice (some ⟨b,off,none⟩) es.length cap):=by
 refine .slice o e es b off cap ho h1 h2 (h0i (Nat.le_mul_of_pos_right _ h2') h2) h4 (fun i el j hi hj=>?_) fun i el j c v hi hj hv=>?_
 ·obtain⟨u,hu,_⟩:=h i el j _ hi (g9b hj)
  exact⟨u,hu⟩
 ·obtain⟨u,hu,hr⟩:=h i el j c hi hj
  rw[hv]at hu
  cases hu
  exact hr
theorem b5B{E:Env}{G:Gh}{heap:List VObj}{arr:List Nat}{w0:Base}{w:World}(h:RelW E G heap arr w0 w){o:Own}{e e' tx:TypeId}{es:List (List V)}{v:Value}
  (hk:E.P.underlying tx=some (.slice e')) (hv:RV E.P G arr (.slice o e es) v):∃ news:List Value,Src E.P (E.P.cellsOf e) tx v es.length news w ∧
   ∀ (i:Nat) el (j:Nat) c,es[i]? = some el→el[j]? = some c→∃ u,news[i * E.P.cellsOf e+j]? = some u∧RV E.P G arr c u:=by
 cases hv with
 | snil o e ho=>exact⟨[],Src.ofNil w hk 0,by simp⟩
 | sodd e a c =>
  refine⟨[],?_,by simp⟩
  cases a with
  | none=>exact Src.ofNil w hk c
  | some a=>exact Src.ofSlice w hk a 0 c [] (by simp) (by simp) (by simp)
 | slice o e es b off cap ho h1 h2 h3 h4 h5 h6 =>
  have hF:∀ j,j<es.length * E.P.cellsOf e→∃ u,G.F b (off+j)=some u:=fun j hj=>by
   have hs:0<E.P.cellsOf e:=Nat.pos_of_ne_zero fun h0=>by simp[h0]at hj
   have hi:j / E.P.cellsOf e<es.length:=(Nat.div_lt_iff_lt_mul hs).2 hj
   have hel:=h1 _ _ (g9b hi)
   obtain⟨u,hu⟩:=h5 _ _ (j % E.P.cellsOf e) (g9b hi) (by rw[hel];exact Nat.mod_lt _ hs)
   have:j / E.P.cellsOf e * E.P.cellsOf e+j % E.P.cellsOf e=j:=Nat.div_add_mod' j _
   rw[this]at hu
   exact⟨u,hu⟩
  have hnews:∀ (j:Nat) u,((List.range (es.length * E.P.cellsOf e)).map fun j=>(G.F b (off+j)).getD undef)[j]? = some u→G.F b (off+j)=some u:=by
   intro j u hu
   rw[g9q]at hu
   obtain⟨j',hj',rfl⟩:=g9l.1 hu
   have hjl:=(g8Y.1 hj').1
   rw[List.length_range]at hjl
   rw[List.getElem?_range hjl]at hj'
   cases hj'
   obtain⟨u,hu⟩:=hF j hjl
   rw[hu];rfl
  refine⟨(List.range (es.length * E.P.cellsOf e)).map fun j=>(G.F b (off+j)).getD undef,Src.ofSlice w hk ⟨b,off,none⟩ es.length cap _ (by simp) (fun j u hu=>?_) (fun u hu=>?_),fun i el j c hi hj=>?_⟩
  ·rw[Addr.add_mk];exact h.frz _ _ _ (hnews j u hu)
  ·obtain⟨j,hj,rfl⟩:=h0c hu
   exact h.one _ _ _ (hnews j _ (g9b hj))
  ·have hjl:=(g8Y.1 hj).1
   have hil:=(g8Y.1 hi).1
   have hel:=h1 i el hi
   obtain⟨u,hu⟩:=h5 i el j hi hjl
   have hlt:i * E.P.cellsOf e+j<es.length * E.P.cellsOf e:=by
    have:(i+1) * E.P.cellsOf e≤es.length * E.P.cellsOf e:=g9L _ hil
    rw[g9R]at this
    omega
   refine⟨u,?_,h6 i el j c u hi hj hu⟩
   rw[g9q,List.getElem?_range hlt]
   simp[hu]
theorem c3E{sz:Nat}{es xs:List (List V)}{old new:List Value}(ho:old.length=es.length * sz)
  {R:V→Value→Prop} (hr1:∀ (i:Nat) el (j:Nat) c,es[i]? = some el→el[j]? = some c→∃ u,old[i * sz+j]? = some u∧R c u)
  (hr2:∀ (i:Nat) el (j:Nat) c,xs[i]? = some el→el[j]? = some c→∃ u,new[i * sz+j]? = some u∧R c u) :
  ∀ (i:Nat) el (j:Nat) c,(es++xs)[i]? = some el→el[j]? = some c→∃ u,(old++new)[i * sz+j]? = some u∧R c u:=by
 intro i el j c hi hj
 by_cases hil:i<es.length
 ·rw[g9a hil]at hi
  obtain⟨u,hu,hr⟩:=hr1 i el j c hi hj
  refine⟨u,?_,hr⟩
  rw[g9a (g8Y.1 hu).1];exact hu
 ·rw[g9c (by omega)]at hi
  obtain⟨u,hu,hr⟩:=hr2 _ el j c hi hj
  refine⟨u,?_,hr⟩
  have hmul:i * sz=es.length * sz+(i - es.length) * sz:=by rw[←g9R];congr 1;omega
  rw[g9c (by omega),ho]
  rw[show i * sz+j - es.length * sz=(i - es.length) * sz+j by omega]
  exact hu
theorem d1t{sz:Nat}{es xs:List (List V)}(h1:∀ (i:Nat) el,es[i]? = some el→el.length=sz)(h2:∀ (i:Nat) el,xs[i]? = some el→el.length=sz) :
  ∀ (i:Nat) el,(es++xs)[i]? = some el→el.length=sz:=by
 intro i el hi
 by_cases hil:i<es.length
 ·rw[g9a hil]at hi;exact h1 i el hi
 ·rw[g9c (by omega)]at hi;exact h2 _ el hi
theorem b8X{E:Env}{G:Gh}{heap:List VObj}{arr:List Nat}{w0:Base}{w:World}(h:RelW E G heap arr w0 w){vs vx:Value}{t:TypeId}{sT xT:TypeId}{e e1:TypeId}{o:Own}{es xs:List (List V)}
  {K:V→List Nat→Prop} (hs:RV E.P G arr (.slice o e1 es) vs) (hsT:E.P.underlying sT=some (.slice e)) (he1:es=[]∨e1=e) (hok:b0W E.P e=true)
  (hbytes:(es.length+xs.length) * E.P.bytesOf e≤140737488355328) (hlen2:∀ (i:Nat) el,xs[i]? = some el→el.length=E.P.cellsOf e)
  (hsrc:∃ news:List Value,Src E.P (E.P.cellsOf e) xT vx xs.length news w∧∀ (i:Nat) el (j:Nat) c,xs[i]? = some el→el[j]? = some c→∃ u,news[i * E.P.cellsOf e+j]? = some u∧RV E.P G arr c u)
  (hK:c2K arr o e e1 es xs K) :
  ∃ u y arr' G' w',(Builtin.append_ #[sT,xT] t #[vs,vx]).run E.P w = .ok u w'∧K y arr'∧Ext G arr G' arr'∧RelW E G' heap arr' w0 w'∧RV E.P G' arr' y u:=by
 unfold c2K at hK
 obtain⟨i,z,hi,hz,hz1,hzs,his,hib,hs1,hb1,hb2⟩:=b2F hok
 obtain⟨hlen1,hsh1⟩:=d8q hs he1
 have hlen:=d1t hlen1 hlen2
 obtain⟨olds,hso,hget1⟩:=b5B h hsT hsh1
 obtain⟨news,hsn,hget2⟩:=hsrc
 have hget:=c3E hso.newsLen hget1 hget2
 have hneed:es.length+xs.length≤140737488355328:=h0i (Nat.le_mul_of_pos_right _ hb1) hbytes
 have hmulle:(es++xs).length * E.P.bytesOf e≤140737488355328:=by rw[g9d];exact hbytes
 have hone:∀ (j:Nat) v,(olds++news).toArray[j]? = some v→v.oneCell'=true:=fun j v hv=>by
  have hm:v∈olds++news:=by simpa using Array.mem_of_getElem? hv
  rcases g9A.1 hm with hm | hm
  ·exact hso.one v hm
  ·exact hsn.one v hm
 -- a new row
 have grow:∀ (a:Option Addr) (cap k:Nat) (arr':List Nat),vs = .slice a es.length cap→cap<es.length+xs.length→arr'[k]? = some (es.length+xs.length) →
   (∀ j:Nat,j≠k→arr'[j]? = arr[j]?)→(∀ n:Nat,arr[k]? = some n→n<es.length+xs.length)→k≤arr.length→(arr'.length=if k<arr.length then arr.length else arr.length+1) →
   ∃ u G' w',(Builtin.append_ #[sT,xT] t #[vs,vx]).run E.P w = .ok u w'∧Ext G arr G' arr'∧RelW E G' heap arr' w0 w'∧RV E.P G' arr' (.slice (.arr k) e (es++xs)) u:=by
  intro a cap k arr' hvs hcap hak hoth hkm hkl harl
  subst hvs
  have hnc:=b5E (es.length+xs.length) cap hcap
  have hfit:Builtin.nextslicecap (es.length+xs.length) cap * i.bytes≤281474976710656:=by
   rw[hib]
   have h1:Builtin.nextslicecap (es.length+xs.length) cap * E.P.bytesOf e≤(es.length+xs.length+(es.length+xs.length) / 4+512) * E.P.bytesOf e:=g9L _ hnc
   have h2:(es.length+xs.length) / 4 * E.P.bytesOf e≤140737488355328 / 4:=by
    have:(es.length+xs.length) / 4 * E.P.bytesOf e≤(es.length+xs.length) * E.P.bytesOf e / 4:=by
     rw[Nat.le_div_iff_mul_le (by omega)]
     have:=Nat.div_mul_le_self (es.length+xs.length) 4
     calc (es.length+xs.length) / 4 * E.P.bytesOf e * 4=(es.length+xs.length) / 4 * 4 * E.P.bytesOf e:=by rw[Nat.mul_right_comm]
      _≤(es.length+xs.length) * E.P.bytesOf e:=g9L _ this
    omega
   have h3:512 * E.P.bytesOf e≤536870912:=by omega
   rw[g9R,g9R]at h1
   omega
  have hrun:=run_append_grow_src (P:=E.P) w sT xT t e i z hsT hi hz a es.length cap olds (by rw[his];exact hso.cellsD) vx xs.length news (by rw[his];exact hsn) hcap (by omega) hfit
  generalize hcapN:grownCap w (es.length+xs.length) cap e=newCap at hrun
  have hge:es.length+xs.length≤newCap:=by
   rw[←hcapN];simp only[grownCap,Question.cut];omega
  have hwd:=h.drew (w.drawn+1)
  have hsize:(olds++news).toArray.size=(es.length+xs.length) * E.P.cellsOf e:=by
   simp[hso.newsLen,hsn.newsLen,g9R]
  obtain⟨hx',hr'⟩:=hwd.allocA (olds++news).toArray (Builtin.zeroCells z.cells (newCap - (es.length+xs.length))) e k (es.length+xs.length) (newCap * E.P.cellsOf e) arr'
   (if k<arr.length then G.ρ.set k (w.heap.size,(es.length+xs.length) * E.P.cellsOf e,newCap * E.P.cellsOf e)else G.ρ++[(w.heap.size,(es.length+xs.length) * E.P.cellsOf e,newCap * E.P.cellsOf e)])
   (by rw[hsize,b4j,hzs,←g9R];exact Nat.le_of_eq (by congr 1;omega))
   (by
    have:=h.lenρ
    split
    ·rename_i hk;rw[harl,if_pos hk];simp[this]
    ·rename_i hk;rw[harl,if_neg hk];simp[this])
   (by
    have:=h.lenρ
    rw[hsize]
    show _=some (w.heap.size,_,_)
    split
    ·rename_i hk;exact g9e (by omega)
    ·rename_i hk;rw[g9c (by omega)];simp[show k - G.ρ.length=0 by omega])
   hak (fun j hj=>⟨by
    have:=h.lenρ
    split
    ·exact g9i (Ne.symm hj)
    ·rename_i hk
     by_cases hjl:j<G.ρ.length
     ·exact g9a hjl
     ·rw[g9c (by omega),g9K (by simp;omega),g9K (by omega)],hoth j hj⟩) hkm hone (by omega)
  refine⟨_,_,_,hrun,hx',hr',?_⟩
  have hl':(es++xs).length=es.length+xs.length:=g9d
  have key:∀ G',G'.ρ[k]? = some (w.heap.size,(es.length+xs.length) * E.P.cellsOf e,newCap * E.P.cellsOf e) →
    (∀ (i':Nat) el (j:Nat) c,(es++xs)[i']? = some el→el[j]? = some c→∃ u,G'.F w.heap.size (0+(i' * E.P.cellsOf e+j))=some u∧RV E.P G' arr' c u) →
    RV E.P G' arr' (.slice (.arr k) e (es++xs)) (.slice (some ⟨w.heap.size,0,none⟩) (es.length+xs.length) newCap):=by
   intro G' hρ hc
   have:=RV.ofCells (P:=E.P) (G:=G') (arr:=arr') (o := .arr k) (e:=e) (es:=es++xs) (b:=w.heap.size) (off:=0) (cap:=newCap)
    ⟨es.length+xs.length,hak,by omega,fun _=>by rw[hρ,hl'];simp⟩ hlen hmulle hb1 (by omega) hc
   rwa [hl']at this
  refine key _ ?_ fun i' el j c hi' hj'=>?_
  ·have:=h.lenρ
   show(if k<arr.length then _ else _)[k]? = _
   split
   ·rename_i hk;exact g9e (by omega)
   ·rename_i hk;rw[g9c (by omega)];simp[show k - G.ρ.length=0 by omega]
  ·obtain⟨u,hu,hr⟩:=hget i' el j c hi' hj'
   refine⟨u,?_,hr.mono hx'⟩
   have hlt:=(g8Y.1 hu).1
   simp only[Gh.freezeAt,g9s,Nat.zero_le,true_and,Nat.sub_zero]
   rw[if_pos (by simpa using hlt)]
   simpa using hu
 have hvs:(vs = .slice none 0 0∧es=[])∨∃ b off cap,vs = .slice (some ⟨b,off,none⟩) es.length cap∧c2j G arr o b off es.length cap (E.P.cellsOf e1)∧es.length≤cap:=by
  cases hs with
  | snil=>exact .inl ⟨rfl,rfl⟩
  | sodd=>exact hK.elim
  | slice _ _ _ b off cap ho _ _ _ h4=>exact .inr ⟨b,off,cap,rfl,ho,h4⟩
 have hnone:xs=[]→vs = .slice none 0 0→es=[]→(Builtin.append_ #[sT,xT] t #[vs,vx]).run E.P w = .ok (.slice none 0 0) w:=by
  rintro rfl rfl rfl
  have h0:news=[]:=g9C (by have:=hsn.newsLen;simpa using this)
  subst h0
  have hl:=hsn.len w
  have hc:=hsn.cells
  simp only[g9F]at hl hc
  rw[←his]at hc
  rcases hsn.kind with⟨e',hk⟩ | hk <;> simp[Builtin.append_,run_underlying hsT,run_underlying hk,sizeOf,typeInfo,hi,hl,hc]
 have hstay:∀ b off cap,xs=[]→vs = .slice (some ⟨b,off,none⟩) es.length cap→es.length≤cap→(Builtin.append_ #[sT,xT] t #[vs,vx]).run E.P w = .ok vs w:=by
  rintro b off cap rfl rfl hle
  have h0:news=[]:=g9C (by have:=hsn.newsLen;simpa using this)
  subst h0
  have:=run_append_room_src (P:=E.P) w sT xT t e i hsT hi b off es.length cap vx 0 [] (by rw[his];exact hsn) (by omega) (by simp) (by simp)
  simpa[World.setCells]using this
 -- the first append to what has no slot yet
 have first:(∀ b off cap,vs = .slice (some ⟨b,off,none⟩) es.length cap→cap=es.length∧xs≠[])→K (.slice (.arr arr.length) e (es++xs)) (arr++[es.length+xs.length]) →
   ∃ u y arr' G' w',(Builtin.append_ #[sT,xT] t #[vs,vx]).run E.P w = .ok u w'∧K y arr'∧Ext G arr G' arr'∧RelW E G' heap arr' w0 w'∧RV E.P G' arr' y u:=by
  intro hfull hk
  by_cases hx0:xs=[]
  ·rcases hvs with⟨hv,he⟩ | ⟨b,off,cap,hv,ho,hle⟩
   ·obtain⟨hx',hr'⟩:=h.slot (es.length+xs.length)
    refine⟨_,_,_,_,w,hnone hx0 hv he,hk,hx',hr',?_⟩
    subst hx0 he
    exact .snil _ _ ⟨0,by simp⟩
   ·exact absurd hx0 (hfull b off cap hv).2
  ·have hpos:0<xs.length:=List.length_pos_iff.2 hx0
   obtain⟨a,cap,hv,hcap⟩:∃ a cap,vs = .slice a es.length cap∧cap<es.length+xs.length:=by
    rcases hvs with⟨hv,he⟩ | ⟨b,off,cap,hv,ho,hle⟩
    ·subst he;exact⟨none,0,hv,by omega⟩
    ·have:=(hfull b off cap hv).1;exact⟨_,cap,hv,by omega⟩
   obtain⟨u,G',w',g1,g2,g3,g4⟩:=grow a cap arr.length (arr++[es.length+xs.length]) hv hcap (by simp) (fun j hj=>by
    by_cases hjl:j<arr.length
    ·exact g9a hjl
    ·rw[g9K (by simp;omega),g9K (by omega)]) (fun n hn=>by simp at hn) (g9m _) (by simp)
   exact⟨u,_,_,G',w',g1,hk,g2,g3,g4⟩
 cases o with
 | shared=>exact hK.elim
 | full =>
  by_cases hx0:xs=[]
  ·rw[if_pos hx0]at hK
   refine⟨vs,_,_,G,w,?_,hK,Ext.refl _ _,h,hs⟩
   rcases hvs with⟨hv,he⟩ | ⟨b,off,cap,hv,ho,hle⟩
   ·rw[hnone hx0 hv he,hv]
   ·exact hstay b off cap hx0 hv hle
  rw[if_neg hx0]at hK
  refine first (fun b off cap hv=>?_) hK
  rcases hvs with⟨hv',_⟩ | ⟨b',off',cap',hv',ho,_⟩
  ·rw[hv]at hv';cases hv'
  ·rw[hv]at hv';cases hv';exact⟨ho,hx0⟩
 | nil =>
  obtain⟨he,hk⟩:=hK
  refine first (fun b off cap hv=>?_) (by subst he;simpa using hk)
  rcases hvs with⟨hv',_⟩ | ⟨b',off',cap',hv',ho,_⟩
  ·rw[hv]at hv';cases hv'
  ·exact ho.elim
 | arr k =>
  obtain⟨⟨hee,hak⟩,hk⟩:=hK
  subst hee
  have hkl:=(g8Y.1 hak).1
  by_cases hx0:xs=[]
  ·refine⟨vs,_,_,G,w,?_,hk,?_⟩
   ·rcases hvs with⟨hv,he⟩ | ⟨b,off,cap,hv,ho,hle⟩
    ·rw[hnone hx0 hv he,hv]
    ·exact hstay b off cap hx0 hv hle
   ·subst hx0
    have hset:arr.set k (es.length+([]:List (List V)).length)=arr:=by
     refine List.ext_getElem? fun j=>?_
     by_cases hj:j=k
     ·subst hj;rw[g9e hkl];simpa using hak.symm
     ·rw[g9i (Ne.symm hj)]
    rw[hset]
    exact⟨Ext.refl _ _,h,by simpa using hs⟩
  ·have hpos:0<xs.length:=List.length_pos_iff.2 hx0
   have hgrow:∀ a cap,vs = .slice a es.length cap→cap<es.length+xs.length →
     ∃ u y arr' G' w',(Builtin.append_ #[sT,xT] t #[vs,vx]).run E.P w = .ok u w'∧K y arr'∧Ext G arr G' arr'∧RelW E G' heap arr' w0 w'∧RV E.P G' arr' y u:=by
    intro a cap hv hcap
    obtain⟨u,G',w',g1,g2,g3,g4⟩:=grow a cap k (arr.set k (es.length+xs.length)) hv hcap (g9e hkl) (fun j hj=>g9i (Ne.symm hj))
     (fun n hn=>by rw[hak]at hn;cases hn;omega) (by omega) (by simp[hkl])
    exact⟨u,_,_,G',w',g1,hk,g2,g3,g4⟩
   rcases hvs with⟨hv,he⟩ | ⟨b,off,cap,hv,ho,hle⟩
   ·subst he;exact hgrow none 0 hv (by simpa using hpos)
   ·by_cases hcap:cap<es.length+xs.length
    ·exact hgrow _ cap hv hcap
    ·subst hv
     obtain⟨n,hn1,hn2,hn3⟩:=ho
     rw[hak]at hn1
     cases hn1
     have hρ:=hn3 rfl
     have hmul:(es.length+xs.length) * E.P.cellsOf e1≤cap * E.P.cellsOf e1:=g9L _ (by omega)
     rw[g9R]at hmul
     have hxp:1≤xs.length * E.P.cellsOf e1:=Nat.mul_pos hpos hs1
     obtain⟨⟨cb,eb,hb1',hb2'⟩,r3,r4,r5⟩:=h.reg k b _ _ hρ (by omega)
     have hnl:=hsn.newsLen
     have hrun:=run_append_room_src (P:=E.P) w sT xT t e1 i hsT hi b off es.length cap vx xs.length news (by rw[his];exact hsn) (by omega)
      (fun j hj=>by rw[his];simp only[World.cell?,hb1'];simp;omega) (fun j hj=>by rw[his];simp[World.frozen?,hb1'])
     obtain⟨w',cb',q1,q2,q3,q4,q5,q6,q7,q8,q9⟩:=b2z (P:=E.P) news w b (off+es.length * E.P.cellsOf e1) 0 cb eb hb1' (by omega) (fun v hv=>by
      have:=hsn.one v hv
      exact⟨fun cs e=>by subst e;simp[Value.oneCell']at this,fun cs e=>by subst e;simp[Value.oneCell']at this⟩)
     have hw':w.setCells b (off+es.length * E.P.cellsOf e1) news=w':=by
      have:=run_storeCells_cells (P:=E.P) b (off+es.length * E.P.cellsOf e1) news 0 w (fun j hj=>by simp only[World.cell?,hb1'];simp;omega) (fun j hj=>by simp[World.frozen?,hb1']) hsn.one
      rw[q1]at this
      simp only[h0h]at this
      injection this with _ this
      exact this.symm
     rw[his,hw']at hrun
     obtain⟨hx',hr'⟩:=h.fillA (k:=k) (b:=b) (n:=es.length) (m:=es.length+xs.length) (c:=news.toArray) (w':=w') (cb:=cb) (cb':=cb') (e:=eb) hρ (by omega) hak (by omega) (by simp[hnl];omega)
      q2 q3 q4 q5 q6 hb1' q7 q8 (fun j=>by have:=q9 j;simpa using this) (fun j v hv=>hsn.one v (by simpa using Array.mem_of_getElem? hv)) (by omega)
     refine⟨_,_,_,_,w',hrun,hk,hx',hr',?_⟩
     have hl':(es++xs).length=es.length+xs.length:=g9d
     have key:=RV.ofCells (P:=E.P) (G:=⟨(G.freezeAt b (off+es.length * E.P.cellsOf e1) news.toArray).F,G.φ,G.ρ.set k (b,off+es.length * E.P.cellsOf e1+news.toArray.size,off+cap * E.P.cellsOf e1)⟩)
      (arr:=arr.set k (es.length+xs.length)) (o := .arr k) (e:=e1) (es:=es++xs) (b:=b) (off:=off) (cap:=cap)
      ⟨es.length+xs.length,g9e hkl,by omega,fun _=>by
       have:=h.lenρ
       show(G.ρ.set _ _)[_]? = _
       rw[g9e (by omega)]
       simp[hnl,hl',g9R,h0n]⟩ hlen hmulle hb1 (by omega) (fun i' el j c hi' hj'=>by
      by_cases hil:i'<es.length
      ·rw[g9a hil]at hi'
       cases hsh1 with
       | sodd=>simp at hi'
       | slice _ _ _ _ _ _ _ h1 h2 h3 h4 h5 h6 =>
        obtain⟨u,hu⟩:=h5 i' el j hi' (g8Y.1 hj').1
        exact⟨u,hx'.F _ _ _ hu,(h6 i' el j c u hi' hj' hu).mono hx'⟩
      ·rw[g9c (by omega)]at hi'
       obtain⟨u,hu,hr⟩:=hget2 _ el j c hi' hj'
       refine⟨u,?_,hr.mono hx'⟩
       have hul:=(g8Y.1 hu).1
       have hmm:i' * E.P.cellsOf e1=es.length * E.P.cellsOf e1+(i' - es.length) * E.P.cellsOf e1:=by rw[←g9R];congr 1;omega
       have hidx:off+(i' * E.P.cellsOf e1+j) - (off+es.length * E.P.cellsOf e1)=(i' - es.length) * E.P.cellsOf e1+j:=by omega
       simp only[Gh.freezeAt]
       rw[if_pos ⟨by trivial,by omega,by simp;omega⟩,hidx]
       simpa using hu)
     rw[hl']at key
     exact key
theorem c8C{E:Env}{G:Gh}{heap:List VObj}{arr:List Nat}{w0:Base}{w:World}(h:RelW E G heap arr w0 w){s x:V}{vs vx:Value}{t:TypeId}{sT xT:TypeId}
  {K:V→List Nat→Prop} (hs:RV E.P G arr s vs) (hx:RV E.P G arr x vx) (hK:b5q E arr sT xT s x K) :
  ∃ u y arr' G' w',(Builtin.append_ #[sT,xT] t #[vs,vx]).run E.P w = .ok u w'∧K y arr'∧Ext G arr G' arr'∧RelW E G' heap arr' w0 w'∧RV E.P G' arr' y u:=by
 unfold b5q at hK
 split at hK
 case h_3=>exact hK.elim
 ·rename_i e ex o e1 es o2 e2 xs hsT hxT
  obtain⟨⟨he1,he2,hok,hbytes⟩,hK⟩:=hK
  obtain⟨hlen2,hsh2⟩:=d8q hx he2
  exact b8X h hs hsT he1 hok hbytes hlen2 (b5B h hxT hsh2) hK
 ·rename_i e o e1 es b hsT hxT
  obtain⟨⟨he1,hc1,hok,hbytes⟩,hK⟩:=hK
  have hl:(b2o b).length=b.size:=by simp[b2o]
  have hget:∀ (i:Nat) el,(b2o b)[i]? = some el→∃ y:UInt8,b.data.toList[i]? = some y∧el=[.int .u8 y.toNat]:=fun i el hi=>by
   obtain⟨y,hy,rfl⟩:=g9q ▸ hi |> g9l.1
   exact⟨y,hy,rfl⟩
  cases hx
  refine b8X h hs hsT he1 hok hbytes (fun i el hi=>?_) ⟨Go.byteCells b,by rw[hc1,hl];exact Src.ofString w hxT b,fun i el j c hi hj=>?_⟩ hK
  ·obtain⟨y,_,rfl⟩:=hget i el hi
   rw[hc1];rfl
  ·obtain⟨y,hy,rfl⟩:=hget i el hi
   cases j with
   | succ j=>simp at hj
   | zero =>
    simp at hj
    subst hj
    exact⟨.int .u8 y.toNat,by rw[hc1];simp only[Go.byteCells,Nat.mul_one,h0h,g9q,hy,g9z],.int _ _⟩
def V.some? : V→Bool
 | .junk=>false
 | _=>true
theorem V.some?_ne{x:V}(h:x.some? = true):x ≠ .junk:=fun e=>by subst e;simp[V.some?]at h
theorem c7V{v:Value}(h:(∀ cs,v ≠ .agg cs)∧∀ cs,v ≠ .tuple cs):v.oneCell'=true:=by
 cases v
 case agg cs=>exact absurd rfl (h.1 cs)
 case tuple cs=>exact absurd rfl (h.2 cs)
 all_goals rfl
def RL(P:Program)(G:Gh)(arr:List Nat)(cs:List V)(vs:Array Value):Prop :=
 vs.size=cs.length∧∀ (j:Nat) c v,cs[j]? = some c→vs[j]? = some v→RV P G arr c v
theorem b8k(off:Nat):∀ (vs:List Value) (i:Nat) (cells:Array Value),off+i+vs.length≤cells.size →
  ((vs.zipIdx i).foldl (fun(cs:Array Value) (p:Value×Nat)=>cs.setIfInBounds (off+p.2) p.1) cells).size=cells.size ∧
  ∀ j,((vs.zipIdx i).foldl (fun(cs:Array Value) (p:Value×Nat)=>cs.setIfInBounds (off+p.2) p.1) cells)[j]? = if off+i≤j∧j<off+i+vs.length then vs[j - (off+i)]? else cells[j]?:=by
 intro vs
 induction vs with
 | nil=>intro i cells h;refine⟨rfl,fun j=>?_⟩;simp only[g9F,List.zipIdx_nil,List.foldl_nil];rw[if_neg (by omega)]
 | cons v vs ih =>
  intro i cells h
  simp only[g9k]at h
  simp only[List.zipIdx_cons,g9G,g9k]
  obtain⟨h1,h2⟩:=ih (i+1) (cells.setIfInBounds (off+i) v) (by simp;omega)
  refine⟨by rw[h1];simp,fun j=>?_⟩
  rw[h2 j]
  by_cases e1:j=off+i
  ·subst e1
   rw[if_neg (by omega),if_pos (by omega)]
   have:off+i<cells.size:=by omega
   simp[this]
  ·by_cases e2:off+(i+1)≤j∧j<off+(i+1)+vs.length
   ·rw[if_pos e2,if_pos (by omega)]
    have:j - (off+i)=(j - (off+(i+1)))+1:=by omega
    rw[this];simp
   ·rw[if_neg e2,if_neg (by omega)]
    simp[Ne.symm e1]
def b6g(place:Nat→Option (Nat×Nat)):List V→List (Nat×V)→Option (List V)
 | cs,[]=>some cs
 | cs,(i,x)::r =>
  match place i with
  | none=>none
  | some (off,size)=>if x.some? = true∧(cellsV x).length=size∧off+size≤cs.length then b6g place (c0q cs off (cellsV x)) r else none
theorem d5E{P:Program}{G:Gh}{arr:List Nat}{place:Nat→Option (Nat×Nat)}:∀ (parts:List (Nat×V)) (vparts:List (Nat×Value)) (cs:List V) (vs:Array Value) (cs':List V),
  RL P G arr cs vs→parts.length=vparts.length→(∀ (j:Nat) p q,parts[j]? = some p→vparts[j]? = some q→p.1=q.1∧RV P G arr p.2 q.2)→b6g place cs parts=some cs' →
  ∃ vs',Instr.fill place vs vparts=some vs'∧RL P G arr cs' vs':=by
 intro parts
 induction parts with
 | nil =>
  intro vparts cs vs cs' hr hl _ hf
  cases vparts with
  | nil=>simp only[b6g]at hf;cases hf;exact⟨vs,rfl,hr⟩
  | cons _ _=>simp at hl
 | cons p parts ih =>
  intro vparts cs vs cs' hr hl hp hf
  cases vparts with
  | nil=>simp at hl
  | cons q vparts =>
   obtain⟨i,x⟩:=p
   obtain⟨i',v⟩:=q
   obtain⟨hii,hxv⟩:=hp 0 _ _ rfl rfl
   simp only at hii hxv
   subst hii
   simp only[b6g]at hf
   split at hf
   ·cases hf
   ·rename_i off size hpl
    split at hf
    ·rename_i hc
     obtain⟨hs,hsz,hle⟩:=hc
     obtain⟨hl1,hr1⟩:=hxv.cellsV (V.some?_ne hs)
     obtain⟨g1,g2⟩:=b8k off v.cells.toList 0 vs (by rw[hr.1];simp;omega)
     have hfold:v.cells.zipIdx.foldl (fun(cs:Array Value) (p:Value×Nat)=>cs.setIfInBounds (off+p.2) p.1) vs =
       (v.cells.toList.zipIdx 0).foldl (fun(cs:Array Value) (p:Value×Nat)=>cs.setIfInBounds (off+p.2) p.1) vs:=by
      rw[←Array.foldl_toList,Array.toList_zipIdx]
     obtain⟨vs',h1,h2⟩:=ih vparts (c0q cs off (cellsV x)) (v.cells.zipIdx.foldl (fun(cs:Array Value) (p:Value×Nat)=>cs.setIfInBounds (off+p.2) p.1) vs) cs'
      ⟨by rw[hfold,g1,b4Q _ _ _ (by omega)];exact hr.1,fun j c u hc hu=>by
       rw[b8A _ _ _ (by omega)]at hc
       rw[hfold,g2 j]at hu
       simp only[h0h,Array.length_toList]at hu
       by_cases hin:off≤j∧j<off+(cellsV x).length
       ·rw[if_pos hin]at hc
        rw[if_pos (by omega)]at hu
        exact hr1 _ _ _ hc (by simpa using hu)
       ·rw[if_neg hin]at hc
        rw[if_neg (by omega)]at hu
        exact hr.2 j c u hc hu⟩ (by simpa using hl) (fun j p q hp' hq'=>hp (j+1) p q (by simpa using hp') (by simpa using hq')) hf
     refine⟨vs',?_,h2⟩
     simp only[Instr.fill,hpl]
     rw[if_neg (by rw[hr.1,h0p,g9h,g9h];omega)]
     exact h1
    ·cases hf
def b3t(E:Env)(t:TypeId):List V :=
 match E.P.info? t with
 | some i=>match i.zero with
  | some z=>z.cells.toList.map ofV1
  | none=>[]
 | none=>[]
theorem b6U{E:Env}{G:Gh}{arr:List Nat}{t:TypeId}{i:TypeInfo}{z:Value}(hi:E.P.info? t=some i)(hz:i.zero=some z):RL E.P G arr (b3t E t) z.cells:=by
 simp only[b3t,hi,hz]
 refine⟨by simp,fun j c v hc hv=>?_⟩
 simp only[g9q,Array.getElem?_toList,hv,g9z,Option.some.injEq]at hc
 exact hc ▸ RV.ofV1 v
def b5L(E:Env)(t:TypeId):Bool :=
 match E.P.info? t with
 | some i=>i.zero.isSome
 | none=>false
theorem b3R{E:Env}{t:TypeId}(h:b5L E t=true):∃ i z,E.P.info? t=some i∧i.zero=some z:=by
 unfold b5L at h
 cases hi:E.P.info? t with
 | none=>simp[hi]at h
 | some i =>
  simp only[hi]at h
  obtain⟨z,hz⟩:=g9E.1 h
  exact⟨i,z,rfl,hz⟩
theorem b1K{P:Program}{w:World}{t:TypeId}{i:TypeInfo}{z:Value}(hi:P.info? t=some i)(hz:i.zero=some z):(zeroValue t).run P w = .ok z w:=by
 simp[zeroValue,c2k hi,hz]
def b9m(P:Program)(fs:Array Field)(i:Nat):Option (Nat×Nat):=(fs[i]?).map fun f=>(f.offset,P.cellsOf f.type)
def b0C(P:Program)(t:TypeId):Bool:=(P.info? t).isSome
def vBuild(E:Env)(t:TypeId)(parts:List (Nat×V))(K:V→Prop):Prop :=
 match E.P.underlying t with
 | some (.struct fs)=>(b5L E t=true∧fs.all (fun f=>b0C E.P f.type)=true) ∧
  match b6g (b9m E.P fs) (b3t E t) parts with
  | some cs=>K (.agg cs)
  | none=>False
 | some (.array _ e)=>(b5L E t=true∧b0C E.P e=true) ∧
  match b6g (fun i=>some (i * E.P.cellsOf e,E.P.cellsOf e)) (b3t E t) parts with
  | some cs=>K (.agg cs)
  | none=>False
 | _=>False
theorem c0y{P:Program}{w:World}:∀ (fs:List Field),(fs.all fun f=>b0C P f.type)=true →
  (fs.mapM fun f=>(do pure (f.offset,←sizeOf f.type):Sem (Nat×Nat))).run P w = .ok (fs.map fun f=>(f.offset,P.cellsOf f.type)) w:=by
 intro fs
 induction fs with
 | nil=>intro _;rfl
 | cons f fs ih =>
  intro h
  simp only[List.all_cons,g9g]at h
  obtain⟨i,hi⟩:=g9E.1 h.1
  simp only[List.mapM_cons,h0z,b0O hi,h0y,h0A,ih h.2,g9o]
theorem d2e{E:Env}{G:Gh}{arr:List Nat}{w:World}{t:TypeId}{parts:List (Nat×V)}{vparts:Array (Nat×Value)}{K:V→Prop}(hl:parts.length=vparts.size)
  (hp:∀ (j:Nat) p q,parts[j]? = some p→vparts[j]? = some q→p.1=q.1∧RV E.P G arr p.2 q.2) (hK:vBuild E t parts K) :
  ∃ u y,(Instr.build t vparts).run E.P w = .ok u w∧K y∧RV E.P G arr y u:=by
 have fin:∀ (place:Nat→Option (Nat×Nat)) i z,E.P.info? t=some i→i.zero=some z→(match b6g place (b3t E t) parts with | some cs=>K (.agg cs) | none=>False) →
   ∃ cells y,Instr.fill place z.cells vparts.toList=some cells∧K y∧RV E.P G arr y (.agg cells):=by
  intro place i z hi hz hk
  cases hf:b6g place (b3t E t) parts with
  | none=>rw[hf]at hk;exact hk.elim
  | some cs =>
   rw[hf]at hk
   obtain⟨vs',h1,h2,h3⟩:=d5E parts vparts.toList (b3t E t) z.cells cs (b6U hi hz) (by simpa using hl) (fun j p q hj hq=>hp j p q hj (by simpa using hq)) hf
   exact⟨vs',_,h1,hk,.agg _ _ h2.symm h3⟩
 unfold vBuild at hK
 split at hK
 ·rename_i fs hd
  obtain⟨⟨h1,h2⟩,hk⟩:=hK
  obtain⟨i,z,hi,hz⟩:=b3R h1
  obtain⟨cells,y,g1,g2,g3⟩:=fin _ i z hi hz hk
  refine⟨.agg cells,y,?_,g2,g3⟩
  have hm:(fs.mapM fun f=>(do pure (f.offset,←sizeOf f.type):Sem (Nat×Nat))).run E.P w = .ok (fs.map fun f=>(f.offset,E.P.cellsOf f.type)) w:=by
   have:=c0y (P:=E.P) (w:=w) fs.toList (by simpa using h2)
   rw[Array.mapM_eq_mapM_toList]
   simp only[Sem.run_map,this,h0y]
   congr 1
   apply Array.ext'
   simp
  have hplace:(fun i=>(fs.map fun f=>(f.offset,E.P.cellsOf f.type))[i]?)=b9m E.P fs:=by
   funext i;simp[b9m]
  simp only[Instr.build,h0z,b1K hi hz,h0y,b0y hd,hm,hplace,g1,h0A]
 ·rename_i n e hd
  obtain⟨⟨h1,h2⟩,hk⟩:=hK
  obtain⟨i,z,hi,hz⟩:=b3R h1
  obtain⟨cells,y,g1,g2,g3⟩:=fin _ i z hi hz hk
  obtain⟨ie,hie⟩:=g9E.1 h2
  refine⟨.agg cells,y,?_,g2,g3⟩
  simp only[Instr.build,h0z,b1K hi hz,h0y,b0y hd,b0O hie,g1,h0A]
 ·exact hK.elim
def b5e(n sz:Nat):List (List V)→List (Nat×V)→Option (List (List V))
 | es,[]=>some es
 | es,(i,x)::r=>if x.some? = true∧(cellsV x).all V.cell=true∧(cellsV x).length=sz∧i<n then b5e n sz (es.set i ((cellsV x).map share1)) r else none
def RR(P:Program)(G:Gh)(arr:List Nat)(sz:Nat)(es:List (List V))(vs:Array Value):Prop :=
 vs.size=es.length * sz∧(∀ (i:Nat) el,es[i]? = some el→el.length=sz)∧(∀ (j:Nat) v,vs[j]? = some v→v.oneCell'=true) ∧
 ∀ (i:Nat) el (j:Nat) c,es[i]? = some el→el[j]? = some c→∃ u,vs[i * sz+j]? = some u∧RV P G arr c u
theorem c8j{P:Program}{G:Gh}{arr:List Nat}{n sz:Nat}:∀ (parts:List (Nat×V)) (vparts:List (Nat×Value)) (es:List (List V)) (vs:Array Value) (es':List (List V)),
  es.length=n→RR P G arr sz es vs→parts.length=vparts.length→(∀ (j:Nat) p q,parts[j]? = some p→vparts[j]? = some q→p.1=q.1∧RV P G arr p.2 q.2)→b5e n sz es parts=some es' →
  ∃ vs',Instr.fill (fun i=>some (i * sz,sz)) vs vparts=some vs'∧RR P G arr sz es' vs'∧es'.length=n:=by
 intro parts
 induction parts with
 | nil =>
  intro vparts es vs es' hn hr hl _ hf
  cases vparts with
  | nil=>simp only[b5e]at hf;cases hf;exact⟨vs,rfl,hr,hn⟩
  | cons _ _=>simp at hl
 | cons p parts ih =>
  intro vparts es vs es' hn hr hl hp hf
  cases vparts with
  | nil=>simp at hl
  | cons q vparts =>
   obtain⟨i,x⟩:=p
   obtain⟨i',v⟩:=q
   obtain⟨hii,hxv⟩:=hp 0 _ _ rfl rfl
   simp only at hii hxv
   subst hii
   simp only[b5e]at hf
   split at hf
   ·rename_i hc
    obtain⟨hs,hcell,hsz,hin⟩:=hc
    obtain⟨hl1,hr1⟩:=hxv.cellsV (V.some?_ne hs)
    obtain⟨r1,r2,r3,r4⟩:=hr
    have hmul:(i+1) * sz≤es.length * sz:=g9L _ (by omega)
    rw[g9R,Nat.one_mul]at hmul
    obtain⟨g1,g2⟩:=b8k (i * sz) v.cells.toList 0 vs (by rw[r1];simp;omega)
    have hfold:v.cells.zipIdx.foldl (fun(cs:Array Value) (p:Value×Nat)=>cs.setIfInBounds (i * sz+p.2) p.1) vs =
      (v.cells.toList.zipIdx 0).foldl (fun(cs:Array Value) (p:Value×Nat)=>cs.setIfInBounds (i * sz+p.2) p.1) vs:=by
     rw[←Array.foldl_toList,Array.toList_zipIdx]
    obtain⟨vs',h1,h2,h3⟩:=ih vparts (es.set i ((cellsV x).map share1)) (v.cells.zipIdx.foldl (fun(cs:Array Value) (p:Value×Nat)=>cs.setIfInBounds (i * sz+p.2) p.1) vs) es' (by simpa using hn)
     ⟨by rw[hfold,g1,r1];simp,fun j el hj=>by
      by_cases e:j=i
      ·subst e
       rw[g9e (by omega)]at hj
       cases hj;simpa using hsz
      ·rw[g9i (Ne.symm e)]at hj
       exact r2 j el hj,fun j u hu=>by
      rw[hfold,g2 j]at hu
      simp only[h0h,Array.length_toList]at hu
      by_cases hjin:i * sz≤j∧j<i * sz+v.cells.size
      ·rw[if_pos hjin]at hu
       have hjc:j - i * sz<(cellsV x).length:=by omega
       have hu':v.cells[j - i * sz]? = some u:=by simpa using hu
       have h1:=hr1 _ _ _ (g9b hjc) hu'
       have:=h1.cell_one (List.all_eq_true.1 hcell _ (List.getElem_mem hjc))
       exact c7V this
      ·rw[if_neg hjin]at hu
       exact r3 j u hu,fun k el j c hk hj=>by
      by_cases e:k=i
      ·subst e
       rw[g9e (by omega)]at hk
       cases hk
       rw[g9q]at hj
       obtain⟨c',hc',rfl⟩:=g9l.1 hj
       have hjl:=(g8Y.1 hc').1
       have hjv:j<v.cells.size:=by omega
       refine⟨v.cells[j],?_,(hr1 j c' _ hc' (g9p hjv)).share1⟩
       rw[hfold,g2]
       simp only[h0h,Array.length_toList]
       rw[if_pos (by omega),show k * sz+j - k * sz=j by omega]
       simp[hjv]
      ·rw[g9i (Ne.symm e)]at hk
       obtain⟨u,hu,hru⟩:=r4 k el j c hk hj
       refine⟨u,?_,hru⟩
       rw[hfold,g2]
       simp only[h0h,Array.length_toList]
       have hjl:=(g8Y.1 hj).1
       have hel:=r2 k el hk
       rw[if_neg]
       ·exact hu
       ·intro hh
        rcases Nat.lt_or_gt_of_ne e with hlt | hgt
        ·have:(k+1) * sz≤i * sz:=g9L _ (by omega)
         rw[g9R,Nat.one_mul]at this
         omega
        ·have:(i+1) * sz≤k * sz:=g9L _ (by omega)
         rw[g9R,Nat.one_mul]at this
         omega⟩ (by simpa using hl) (fun j p q hp' hq'=>hp (j+1) p q (by simpa using hp') (by simpa using hq')) hf
    refine⟨vs',?_,h2,h3⟩
    simp only[Instr.fill]
    rw[if_neg (by rw[h0p,g9h,g9h];omega)]
    exact h1
   ·cases hf
def vBuildSlice(E:Env)(t:TypeId)(len:Nat)(parts:List (Nat×V))(K:V→Prop):Prop :=
 match E.P.underlying t with
 | some (.slice e)=>(b0W E.P e=true∧len * E.P.cellsOf e≤16777216) ∧
  match b5e len (E.P.cellsOf e) (List.replicate len ((b3t E e).map share1)) parts with
  | some es=>K (.slice .full e es)
  | none=>False
 | _=>False
theorem c0x{E:Env}{G:Gh}{heap:List VObj}{arr:List Nat}{w0:Base}{w:World}(h:RelW E G heap arr w0 w){t:TypeId}{len:Nat}{parts:List (Nat×V)}{vparts:Array (Nat×Value)}
  {K:V→Prop} (hl:parts.length=vparts.size) (hp:∀ (j:Nat) p q,parts[j]? = some p→vparts[j]? = some q→p.1=q.1∧RV E.P G arr p.2 q.2) (hK:vBuildSlice E t len parts K) :
  ∃ u y G' w',(Instr.buildSlice t len vparts).run E.P w = .ok u w'∧K y∧Ext G arr G' arr∧RelW E G' heap arr w0 w'∧RV E.P G' arr y u:=by
 unfold vBuildSlice at hK
 split at hK
 case h_2=>exact hK.elim
 rename_i e hd
 obtain⟨⟨hok,hle⟩,hk⟩:=hK
 obtain⟨i,z,hi,hz,hz1,hzs,his,hib,hs1,hb1,hb2⟩:=b2F hok
 cases hf:b5e len (E.P.cellsOf e) (List.replicate len ((b3t E e).map share1)) parts with
 | none=>rw[hf]at hk;exact hk.elim
 | some es =>
  rw[hf]at hk
  have hzl:=b6U (G:=G) (arr:=arr) hi hz
  have hr0:RR E.P G arr (E.P.cellsOf e) (List.replicate len ((b3t E e).map share1)) ((Array.range (len * E.P.cellsOf e)).map (z.cells[· % z.cells.size]!)):=by
   refine⟨by simp,fun j el hj=>?_,fun j v hv=>?_,fun k el j c hk' hj=>?_⟩
   ·rw[List.getElem?_replicate]at hj
    split at hj <;> cases hj
    rw[g9r,←hzl.1];exact hzs
   ·rw[Array.getElem?_map]at hv
    obtain⟨j',hj',rfl⟩:=g9l.1 hv
    have hlt:j' % z.cells.size<z.cells.size:=Nat.mod_lt _ (by omega)
    rw[getElem!_pos z.cells _ hlt]
    exact Array.all_eq_true.1 hz1 _ hlt
   ·rw[List.getElem?_replicate]at hk'
    have hkl:k<len:=by
     split at hk'
     ·assumption
     ·cases hk'
    rw[if_pos hkl]at hk'
    cases hk'
    rw[g9q]at hj
    obtain⟨c',hc',rfl⟩:=g9l.1 hj
    have hjl:=(g8Y.1 hc').1
    have hjz:j<z.cells.size:=by rw[hzl.1];exact hjl
    have hlt:k * E.P.cellsOf e+j<len * E.P.cellsOf e:=by
     have:(k+1) * E.P.cellsOf e≤len * E.P.cellsOf e:=g9L _ hkl
     rw[g9R,Nat.one_mul]at this
     omega
    refine⟨z.cells[j],?_,(hzl.2 j c' _ hc' (g9p hjz)).share1⟩
    have hmod:(k * E.P.cellsOf e+j) % z.cells.size=j:=by
     rw[hzs,Nat.mul_comm,Nat.mul_add_mod,Nat.mod_eq_of_lt (by omega)]
    have hlt':(k * E.P.cellsOf e+j) % z.cells.size<z.cells.size:=by omega
    simp only[Array.getElem?_map,Array.getElem?_range,hlt,if_true,g9z,Option.some.injEq]
    rw[getElem!_pos z.cells _ hlt']
    congr 1
  obtain⟨vs',g1,⟨g2,g3,g4,g5⟩,g6⟩:=c8j parts vparts.toList _ _ es (by simp) hr0 (by simpa using hl) (fun j p q hj hq=>hp j p q hj (by simpa using hq)) hf
  have hx:=h.extF vs'
  have hr:=h.allocF vs' e (fun j v hv=>g4 j v hv)
  refine⟨.slice (some ⟨w.heap.size,0,none⟩) len len,_,_,_,?_,hk,hx,hr,?_⟩
  ·have hn:¬ (16777216<len * E.P.cellsOf e):=by omega
   simp only[Instr.buildSlice,h0z,b0y hd,h0y,b0O hi]
   rw[if_neg (by omega)]
   by_cases h0:len * E.P.cellsOf e=0
   ·rw[if_pos h0]
    have hempty:(Array.range (len * E.P.cellsOf e)).map (fun x=>z.cells[x % z.cells.size]!)=(Array.range (len * E.P.cellsOf e)).map (fun x=>(#[]:Array Value)[x % (#[]:Array Value).size]!):=by
     rw[h0];simp
    simp only[h0A,h0y,←hempty,g1,h0z,newRow,newObj,Sem.run]
    rfl
   ·rw[if_neg h0]
    simp only[h0z,b1K hi hz,h0A,h0y,g1,newRow,newObj,Sem.run]
    rfl
  ·rw[←g6]
   refine RV.ofCells rfl g3 ?_ hb1 (g9m _) fun i' el j c hi' hj'=>?_
   ·have:es.length≤es.length * E.P.cellsOf e:=Nat.le_mul_of_pos_right _ hs1
    rw[g6]at this ⊢
    calc len * E.P.bytesOf e≤16777216 * 1048576:=Nat.mul_le_mul (by omega) hb2
     _≤_:=by decide
   ·obtain⟨u,hu,hru⟩:=g5 i' el j c hi' hj'
    refine⟨u,?_,hru.mono hx⟩
    simp only[Gh.freezeNew,g9s,if_true]
    exact hu
def b2G(P:Program)(t:TypeId):List V :=
 match P.info? t with
 | some i=>match i.zero with
  | some z=>z.cells.toList.map ofV1
  | none=>[]
 | none=>[]
def b0S(P:Program)(t:TypeId):Bool :=
 match P.info? t with
 | some i=>i.zero.isSome
 | none=>false
end Go.Vg
