import Derived.Test.YtighfcpaplmaiaaGreatDoorVgE
import Derived.MapKept
import Derived.Laws.BytesString
import Derived.Lib.ConvBytes
set_option linter.unusedVariables false
set_option linter.unusedSimpArgs false
namespace Go.Vg
open Go.RowKit
def V.some? : V→Bool
 | .junk=>false
 | _=>true
theorem V.some?_ne{x:V}(h:x.some? = true):x ≠ .junk:=fun e=>by subst e;simp[V.some?]at h
theorem c9u{v:Value}(h:(∀ cs,v ≠ .agg cs)∧∀ cs,v ≠ .tuple cs):v.oneCell'=true:=by
 cases v
 case agg cs=>exact absurd rfl (h.1 cs)
 case tuple cs=>exact absurd rfl (h.2 cs)
 all_goals rfl
def RL(P:Program)(G:Gh)(arr:List Nat)(cs:List V)(vs:Array Value):Prop :=
 vs.size=cs.length∧∀ (j:Nat) c v,cs[j]? = some c→vs[j]? = some v→RV P G arr c v
theorem b8u(off:Nat):∀ (vs:List Value) (i:Nat) (cells:Array Value),off+i+vs.length≤cells.size →
  ((vs.zipIdx i).foldl (fun(cs:Array Value) (p:Value×Nat)=>cs.setIfInBounds (off+p.2) p.1) cells).size=cells.size ∧
  ∀ j,((vs.zipIdx i).foldl (fun(cs:Array Value) (p:Value×Nat)=>cs.setIfInBounds (off+p.2) p.1) cells)[j]? = if off+i≤j∧j<off+i+vs.length then vs[j - (off+i)]? else cells[j]?:=by
 intro vs;induction vs with
 | nil=>intro i cells h;refine⟨rfl,fun j=>?_⟩;simp only[h0J,List.zipIdx_nil,List.foldl_nil];rw[if_neg (by omega)]
 | cons v vs ih =>
  intro i cells h;simp only[h0o]at h;simp only[List.zipIdx_cons,h0K,h0o];obtain⟨h1,h2⟩:=ih (i+1) (cells.setIfInBounds (off+i) v) (by simp;omega);refine⟨by rw[h1];simp,fun j=>?_⟩;rw[h2 j];by_cases e1:j=off+i
  ·subst e1;rw[if_neg (by omega),if_pos (by omega)];have:off+i<cells.size:=by omega
   simp[this]
  ·by_cases e2:off+(i+1)≤j∧j<off+(i+1)+vs.length
   ·rw[if_pos e2,if_pos (by omega)];have:j - (off+i)=(j - (off+(i+1)))+1:=by omega
    rw[this];simp
   ·rw[if_neg e2,if_neg (by omega)];simp[Ne.symm e1]
def b6B(place:Nat→Option (Nat×Nat)):List V→List (Nat×V)→Option (List V)
 | cs,[]=>some cs
 | cs,(i,x)::r =>
  match place i with
  | none=>none
  | some (off,size)=>if x.some? = true∧(cellsV x).length=size∧off+size≤cs.length then b6B place (c0S cs off (cellsV x)) r else none
theorem d6J{P:Program}{G:Gh}{arr:List Nat}{place:Nat→Option (Nat×Nat)}:∀ (parts:List (Nat×V)) (vparts:List (Nat×Value)) (cs:List V) (vs:Array Value) (cs':List V),
  RL P G arr cs vs→parts.length=vparts.length→(∀ (j:Nat) p q,parts[j]? = some p→vparts[j]? = some q→p.1=q.1∧RV P G arr p.2 q.2)→b6B place cs parts=some cs' →
  ∃ vs',Instr.fill place vs vparts=some vs'∧RL P G arr cs' vs':=by
 intro parts;induction parts with
 | nil =>
  intro vparts cs vs cs' hr hl _ hf;cases vparts with
  | nil=>simp only[b6B]at hf;cases hf;exact⟨vs,rfl,hr⟩
  | cons _ _=>simp at hl
 | cons p parts ih =>
  intro vparts cs vs cs' hr hl hp hf;cases vparts with
  | nil=>simp at hl
  | cons q vparts =>
   obtain⟨i,x⟩:=p;obtain⟨i',v⟩:=q;obtain⟨hii,hxv⟩:=hp 0 _ _ rfl rfl;simp only at hii hxv;subst hii;simp only[b6B]at hf;split at hf
   ·cases hf
   ·rename_i off size hpl;split at hf
    ·rename_i hc;obtain⟨hs,hsz,hle⟩:=hc;obtain⟨hl1,hr1⟩:=hxv.cellsV (V.some?_ne hs);obtain⟨g1,g2⟩:=b8u off v.cells.toList 0 vs (by rw[hr.1];simp;omega);have hfold:v.cells.zipIdx.foldl (fun(cs:Array Value) (p:Value×Nat)=>cs.setIfInBounds (off+p.2) p.1) vs =
       (v.cells.toList.zipIdx 0).foldl (fun(cs:Array Value) (p:Value×Nat)=>cs.setIfInBounds (off+p.2) p.1) vs:=by
      rw[←Array.foldl_toList,Array.toList_zipIdx]
     obtain⟨vs',h1,h2⟩:=ih vparts (c0S cs off (cellsV x)) (v.cells.zipIdx.foldl (fun(cs:Array Value) (p:Value×Nat)=>cs.setIfInBounds (off+p.2) p.1) vs) cs'
      ⟨by rw[hfold,g1,b4Y _ _ _ (by omega)];exact hr.1,fun j c u hc hu=>by
       rw[b9c _ _ _ (by omega)]at hc;rw[hfold,g2 j]at hu;simp only[h1m,Array.length_toList]at hu;by_cases hin:off≤j∧j<off+(cellsV x).length
       ·rw[if_pos hin]at hc;rw[if_pos (by omega)]at hu;exact hr1 _ _ _ hc (by simpa using hu)
       ·rw[if_neg hin]at hc;rw[if_neg (by omega)]at hu;exact hr.2 j c u hc hu⟩ (by simpa using hl) (fun j p q hp' hq'=>hp (j+1) p q (by simpa using hp') (by simpa using hq')) hf
     refine⟨vs',?_,h2⟩;simp only[Instr.fill,hpl];rw[if_neg (by rw[hr.1,h1u,h0l,h0l];omega)];exact h1
    ·cases hf
def b3v(E:Env)(t:TypeId):List V :=
 match E.P.info? t with
 | some i=>match i.zero with
  | some z=>z.cells.toList.map ofV1
  | none=>[]
 | none=>[]
theorem b7a{E:Env}{G:Gh}{arr:List Nat}{t:TypeId}{i:TypeInfo}{z:Value}(hi:E.P.info? t=some i)(hz:i.zero=some z):RL E.P G arr (b3v E t) z.cells:=by
 simp only[b3v,hi,hz];refine⟨by simp,fun j c v hc hv=>?_⟩;simp only[h0u,Array.getElem?_toList,hv,h0D,Option.some.injEq]at hc;exact hc ▸ RV.ofV1 v
def b6b(E:Env)(t:TypeId):Bool :=
 match E.P.info? t with
 | some i=>i.zero.isSome
 | none=>false
theorem b3U{E:Env}{t:TypeId}(h:b6b E t=true):∃ i z,E.P.info? t=some i∧i.zero=some z:=by
 unfold b6b at h;cases hi:E.P.info? t with
 | none=>simp[hi]at h
 | some i =>
  simp only[hi]at h;obtain⟨z,hz⟩:=h0I.1 h;exact⟨i,z,rfl,hz⟩
theorem b1R{P:Program}{w:World}{t:TypeId}{i:TypeInfo}{z:Value}(hi:P.info? t=some i)(hz:i.zero=some z):(zeroValue t).run P w = .ok z w:=by
 simp[zeroValue,c2U hi,hz]
def b9Y(P:Program)(fs:Array Field)(i:Nat):Option (Nat×Nat):=(fs[i]?).map fun f=>(f.offset,P.cellsOf f.type)
def b0A(P:Program)(t:TypeId):Bool:=(P.info? t).isSome
def vBuild(E:Env)(t:TypeId)(parts:List (Nat×V))(K:V→Prop):Prop :=
 match E.P.underlying t with
 | some (.struct fs)=>(b6b E t=true∧fs.all (fun f=>b0A E.P f.type)=true) ∧
  match b6B (b9Y E.P fs) (b3v E t) parts with
  | some cs=>K (.agg cs)
  | none=>False
 | some (.array _ e)=>(b6b E t=true∧b0A E.P e=true) ∧
  match b6B (fun i=>some (i * E.P.cellsOf e,E.P.cellsOf e)) (b3v E t) parts with
  | some cs=>K (.agg cs)
  | none=>False
 | _=>False
theorem c0U{P:Program}{w:World}:∀ (fs:List Field),(fs.all fun f=>b0A P f.type)=true →
  (fs.mapM fun f=>(do pure (f.offset,←sizeOf f.type):Sem (Nat×Nat))).run P w = .ok (fs.map fun f=>(f.offset,P.cellsOf f.type)) w:=by
 intro fs;induction fs with
 | nil=>intro _;rfl
 | cons f fs ih =>
  intro h;simp only[List.all_cons,h0k]at h;obtain⟨i,hi⟩:=h0I.1 h.1;simp only[List.mapM_cons,h1E,b0M hi,h1D,h1F,ih h.2,h0s]
theorem d3f{E:Env}{G:Gh}{arr:List Nat}{w:World}{t:TypeId}{parts:List (Nat×V)}{vparts:Array (Nat×Value)}{K:V→Prop}(hl:parts.length=vparts.size)
  (hp:∀ (j:Nat) p q,parts[j]? = some p→vparts[j]? = some q→p.1=q.1∧RV E.P G arr p.2 q.2) (hK:vBuild E t parts K) :
  ∃ u y,(Instr.build t vparts).run E.P w = .ok u w∧K y∧RV E.P G arr y u:=by
 have fin:∀ (place:Nat→Option (Nat×Nat)) i z,E.P.info? t=some i→i.zero=some z→(match b6B place (b3v E t) parts with | some cs=>K (.agg cs) | none=>False) →
   ∃ cells y,Instr.fill place z.cells vparts.toList=some cells∧K y∧RV E.P G arr y (.agg cells):=by
  intro place i z hi hz hk;cases hf:b6B place (b3v E t) parts with
  | none=>rw[hf]at hk;exact hk.elim
  | some cs =>
   rw[hf]at hk;obtain⟨vs',h1,h2,h3⟩:=d6J parts vparts.toList (b3v E t) z.cells cs (b7a hi hz) (by simpa using hl) (fun j p q hj hq=>hp j p q hj (by simpa using hq)) hf;exact⟨vs',_,h1,hk,.agg _ _ h2.symm h3⟩
 unfold vBuild at hK;split at hK
 ·rename_i fs hd;obtain⟨⟨h1,h2⟩,hk⟩:=hK;obtain⟨i,z,hi,hz⟩:=b3U h1;obtain⟨cells,y,g1,g2,g3⟩:=fin _ i z hi hz hk;refine⟨.agg cells,y,?_,g2,g3⟩;have hm:(fs.mapM fun f=>(do pure (f.offset,←sizeOf f.type):Sem (Nat×Nat))).run E.P w = .ok (fs.map fun f=>(f.offset,E.P.cellsOf f.type)) w:=by
   have:=c0U (P:=E.P) (w:=w) fs.toList (by simpa using h2);rw[Array.mapM_eq_mapM_toList];simp only[Sem.run_map,this,h1D];congr 1;apply Array.ext';simp
  have hplace:(fun i=>(fs.map fun f=>(f.offset,E.P.cellsOf f.type))[i]?)=b9Y E.P fs:=by
   funext i;simp[b9Y]
  simp only[Instr.build,h1E,b1R hi hz,h1D,b0x hd,hm,hplace,g1,h1F]
 ·rename_i n e hd;obtain⟨⟨h1,h2⟩,hk⟩:=hK;obtain⟨i,z,hi,hz⟩:=b3U h1;obtain⟨cells,y,g1,g2,g3⟩:=fin _ i z hi hz hk;obtain⟨ie,hie⟩:=h0I.1 h2;refine⟨.agg cells,y,?_,g2,g3⟩;simp only[Instr.build,h1E,b1R hi hz,h1D,b0x hd,b0M hie,g1,h1F]
 ·exact hK.elim
def b5u(n sz:Nat):List (List V)→List (Nat×V)→Option (List (List V))
 | es,[]=>some es
 | es,(i,x)::r=>if x.some? = true∧(cellsV x).all V.cell=true∧(cellsV x).length=sz∧i<n then b5u n sz (es.set i ((cellsV x).map share1)) r else none
def RR(P:Program)(G:Gh)(arr:List Nat)(sz:Nat)(es:List (List V))(vs:Array Value):Prop :=
 vs.size=es.length * sz∧(∀ (i:Nat) el,es[i]? = some el→el.length=sz)∧(∀ (j:Nat) v,vs[j]? = some v→v.oneCell'=true) ∧
 ∀ (i:Nat) el (j:Nat) c,es[i]? = some el→el[j]? = some c→∃ u,vs[i * sz+j]? = some u∧RV P G arr c u
theorem c9J{P:Program}{G:Gh}{arr:List Nat}{n sz:Nat}:∀ (parts:List (Nat×V)) (vparts:List (Nat×Value)) (es:List (List V)) (vs:Array Value) (es':List (List V)),
  es.length=n→RR P G arr sz es vs→parts.length=vparts.length→(∀ (j:Nat) p q,parts[j]? = some p→vparts[j]? = some q→p.1=q.1∧RV P G arr p.2 q.2)→b5u n sz es parts=some es' →
  ∃ vs',Instr.fill (fun i=>some (i * sz,sz)) vs vparts=some vs'∧RR P G arr sz es' vs'∧es'.length=n:=by
 intro parts;induction parts with
 | nil =>
  intro vparts es vs es' hn hr hl _ hf;cases vparts with
  | nil=>simp only[b5u]at hf;cases hf;exact⟨vs,rfl,hr,hn⟩
  | cons _ _=>simp at hl
 | cons p parts ih =>
  intro vparts es vs es' hn hr hl hp hf;cases vparts with
  | nil=>simp at hl
  | cons q vparts =>
   obtain⟨i,x⟩:=p;obtain⟨i',v⟩:=q;obtain⟨hii,hxv⟩:=hp 0 _ _ rfl rfl;simp only at hii hxv;subst hii;simp only[b5u]at hf;split at hf
   ·rename_i hc;obtain⟨hs,hcell,hsz,hin⟩:=hc;obtain⟨hl1,hr1⟩:=hxv.cellsV (V.some?_ne hs);obtain⟨r1,r2,r3,r4⟩:=hr;have hmul:(i+1) * sz≤es.length * sz:=h0P _ (by omega);rw[h0V,Nat.one_mul]at hmul;obtain⟨g1,g2⟩:=b8u (i * sz) v.cells.toList 0 vs (by rw[r1];simp;omega);have hfold:v.cells.zipIdx.foldl (fun(cs:Array Value) (p:Value×Nat)=>cs.setIfInBounds (i * sz+p.2) p.1) vs =
      (v.cells.toList.zipIdx 0).foldl (fun(cs:Array Value) (p:Value×Nat)=>cs.setIfInBounds (i * sz+p.2) p.1) vs:=by
     rw[←Array.foldl_toList,Array.toList_zipIdx]
    obtain⟨vs',h1,h2,h3⟩:=ih vparts (es.set i ((cellsV x).map share1)) (v.cells.zipIdx.foldl (fun(cs:Array Value) (p:Value×Nat)=>cs.setIfInBounds (i * sz+p.2) p.1) vs) es' (by simpa using hn)
     ⟨by rw[hfold,g1,r1];simp,fun j el hj=>by
      by_cases e:j=i
      ·subst e;rw[h0i (by omega)]at hj;cases hj;simpa using hsz
      ·rw[h0m (Ne.symm e)]at hj;exact r2 j el hj,fun j u hu=>by
      rw[hfold,g2 j]at hu;simp only[h1m,Array.length_toList]at hu;by_cases hjin:i * sz≤j∧j<i * sz+v.cells.size
      ·rw[if_pos hjin]at hu;have hjc:j - i * sz<(cellsV x).length:=by omega
       have hu':v.cells[j - i * sz]? = some u:=by simpa using hu
       have h1:=hr1 _ _ _ (h0f hjc) hu';have:=h1.cell_one (List.all_eq_true.1 hcell _ (List.getElem_mem hjc));exact c9u this
      ·rw[if_neg hjin]at hu;exact r3 j u hu,fun k el j c hk hj=>by
      by_cases e:k=i
      ·subst e;rw[h0i (by omega)]at hk;cases hk
       rw[h0u]at hj;obtain⟨c',hc',rfl⟩:=h0p.1 hj;have hjl:=(h0b.1 hc').1;have hjv:j<v.cells.size:=by omega
       refine⟨v.cells[j],?_,(hr1 j c' _ hc' (h0t hjv)).share1⟩;rw[hfold,g2];simp only[h1m,Array.length_toList];rw[if_pos (by omega),show k * sz+j - k * sz=j by omega];simp[hjv]
      ·rw[h0m (Ne.symm e)]at hk;obtain⟨u,hu,hru⟩:=r4 k el j c hk hj;refine⟨u,?_,hru⟩;rw[hfold,g2];simp only[h1m,Array.length_toList];have hjl:=(h0b.1 hj).1;have hel:=r2 k el hk;rw[if_neg]
       ·exact hu
       ·intro hh;rcases Nat.lt_or_gt_of_ne e with hlt | hgt
        ·have:(k+1) * sz≤i * sz:=h0P _ (by omega);rw[h0V,Nat.one_mul]at this;omega
        ·have:(i+1) * sz≤k * sz:=h0P _ (by omega);rw[h0V,Nat.one_mul]at this;omega⟩ (by simpa using hl) (fun j p q hp' hq'=>hp (j+1) p q (by simpa using hp') (by simpa using hq')) hf
    refine⟨vs',?_,h2,h3⟩;simp only[Instr.fill];rw[if_neg (by rw[h1u,h0l,h0l];omega)];exact h1
   ·cases hf
def vBuildSlice(E:Env)(t:TypeId)(len:Nat)(parts:List (Nat×V))(K:V→Prop):Prop :=
 match E.P.underlying t with
 | some (.slice e)=>(b0W E.P e=true∧len * E.P.cellsOf e≤16777216) ∧
  match b5u len (E.P.cellsOf e) (List.replicate len ((b3v E e).map share1)) parts with
  | some es=>K (.slice .full e es)
  | none=>False
 | _=>False
theorem c0X{E:Env}{G:Gh}{heap:List VObj}{arr:List Nat}{w0:Base}{w:World}(h:RelW E G heap arr w0 w){t:TypeId}{len:Nat}{parts:List (Nat×V)}{vparts:Array (Nat×Value)}
  {K:V→Prop} (hl:parts.length=vparts.size) (hp:∀ (j:Nat) p q,parts[j]? = some p→vparts[j]? = some q→p.1=q.1∧RV E.P G arr p.2 q.2) (hK:vBuildSlice E t len parts K) :
  ∃ u y G' w',(Instr.buildSlice t len vparts).run E.P w = .ok u w'∧K y∧Ext G arr G' arr∧RelW E G' heap arr w0 w'∧RV E.P G' arr y u:=by
 unfold vBuildSlice at hK;split at hK
 case h_2=>exact hK.elim
 rename_i e hd;obtain⟨⟨hok,hle⟩,hk⟩:=hK;obtain⟨i,z,hi,hz,hz1,hzs,his,hib,hs1,hb1,hb2⟩:=b2J hok;cases hf:b5u len (E.P.cellsOf e) (List.replicate len ((b3v E e).map share1)) parts with
 | none=>rw[hf]at hk;exact hk.elim
 | some es =>
  rw[hf]at hk;have hzl:=b7a (G:=G) (arr:=arr) hi hz;have hr0:RR E.P G arr (E.P.cellsOf e) (List.replicate len ((b3v E e).map share1)) ((Array.range (len * E.P.cellsOf e)).map (z.cells[· % z.cells.size]!)):=by
   refine⟨by simp,fun j el hj=>?_,fun j v hv=>?_,fun k el j c hk' hj=>?_⟩
   ·rw[List.getElem?_replicate]at hj;split at hj <;> cases hj
    rw[h0v,←hzl.1];exact hzs
   ·rw[Array.getElem?_map]at hv;obtain⟨j',hj',rfl⟩:=h0p.1 hv;have hlt:j' % z.cells.size<z.cells.size:=Nat.mod_lt _ (by omega);rw[getElem!_pos z.cells _ hlt];exact Array.all_eq_true.1 hz1 _ hlt
   ·rw[List.getElem?_replicate]at hk';have hkl:k<len:=by
     split at hk'
     ·assumption
     ·cases hk'
    rw[if_pos hkl]at hk';cases hk'
    rw[h0u]at hj;obtain⟨c',hc',rfl⟩:=h0p.1 hj;have hjl:=(h0b.1 hc').1;have hjz:j<z.cells.size:=by rw[hzl.1];exact hjl
    have hlt:k * E.P.cellsOf e+j<len * E.P.cellsOf e:=by
     have:(k+1) * E.P.cellsOf e≤len * E.P.cellsOf e:=h0P _ hkl;rw[h0V,Nat.one_mul]at this;omega
    refine⟨z.cells[j],?_,(hzl.2 j c' _ hc' (h0t hjz)).share1⟩;have hmod:(k * E.P.cellsOf e+j) % z.cells.size=j:=by
     rw[hzs,Nat.mul_comm,Nat.mul_add_mod,Nat.mod_eq_of_lt (by omega)]
    have hlt':(k * E.P.cellsOf e+j) % z.cells.size<z.cells.size:=by omega
    simp only[Array.getElem?_map,Array.getElem?_range,hlt,if_true,h0D,Option.some.injEq];rw[getElem!_pos z.cells _ hlt'];congr 1
  obtain⟨vs',g1,⟨g2,g3,g4,g5⟩,g6⟩:=c9J parts vparts.toList _ _ es (by simp) hr0 (by simpa using hl) (fun j p q hj hq=>hp j p q hj (by simpa using hq)) hf;have hx:=h.extF vs';have hr:=h.allocF vs' e (fun j v hv=>g4 j v hv);refine⟨.slice (some ⟨w.heap.size,0,none⟩) len len,_,_,_,?_,hk,hx,hr,?_⟩
  ·have hn:¬ (16777216<len * E.P.cellsOf e):=by omega
   simp only[Instr.buildSlice,h1E,b0x hd,h1D,b0M hi];rw[if_neg (by omega)];by_cases h0:len * E.P.cellsOf e=0
   ·rw[if_pos h0];have hempty:(Array.range (len * E.P.cellsOf e)).map (fun x=>z.cells[x % z.cells.size]!)=(Array.range (len * E.P.cellsOf e)).map (fun x=>(#[]:Array Value)[x % (#[]:Array Value).size]!):=by
     rw[h0];simp
    simp only[h1F,h1D,←hempty,g1,h1E,newRow,newObj,Sem.run];rfl
   ·rw[if_neg h0];simp only[h1E,b1R hi hz,h1F,h1D,g1,newRow,newObj,Sem.run];rfl
  ·rw[←g6];refine RV.ofCells rfl g3 ?_ hb1 (h0q _) fun i' el j c hi' hj'=>?_
   ·have:es.length≤es.length * E.P.cellsOf e:=Nat.le_mul_of_pos_right _ hs1;rw[g6]at this ⊢
    calc len * E.P.bytesOf e≤16777216 * 1048576:=Nat.mul_le_mul (by omega) hb2
     _≤_:=by decide
   ·obtain⟨u,hu,hru⟩:=g5 i' el j c hi' hj';refine⟨u,?_,hru.mono hx⟩;simp only[Gh.freezeNew,h0w,if_true];exact hu
def b2M(P:Program)(t:TypeId):List V :=
 match P.info? t with
 | some i=>match i.zero with
  | some z=>z.cells.toList.map ofV1
  | none=>[]
 | none=>[]
def b0Q(P:Program)(t:TypeId):Bool :=
 match P.info? t with
 | some i=>i.zero.isSome
 | none=>false
end Go.Vg
namespace Go.Vg
open Go.RowKit
def d4h:TypeDesc→V→Bool
 | .int k,.int k' _=>decide (k'=k)
 | .string,.str _=>true
 | .bool,.bool _=>true
 | _,_=>false
def b7C:TypeDesc→V→V→Option Bool
 | .int _,.int k a,.int k' b=>if k=k' then some (a == b)else none
 | .string,.str a,.str b=>some (a == b)
 | .bool,.bool a,.bool b=>some (a == b)
 | _,_,_=>none
def b1v(d:TypeDesc)(k:V):List (V×V)→Nat→Option (Option (Nat×V))
 | [],_=>some none
 | (k',v)::r,i=>match b7C d k k' with
  | some true=>some (some (i,v))
  | some false=>b1v d k r (i+1)
  | none=>none
def RP(P:Program)(G:Gh)(arr:List Nat)(es:List (V×V))(m:List MapEntry):Prop :=
 m.length=es.length∧∀ (j:Nat) kx vx,es[j]? = some (kx,vx)→∃ e:MapEntry,m[j]? = some e∧RV P G arr kx e.key∧RV P G arr vx e.val
theorem b8i{P:Program}{G:Gh}{arr:List Nat}{d:TypeDesc}{x y:V}{vx vy:Value}{b:Bool}(hx:RV P G arr x vx)(hy:RV P G arr y vy)(h:b7C d x y=some b):Instr.sameNow d vx vy=some b:=by
 unfold b7C at h;split at h
 ·cases hx;cases hy;exact h
 ·cases hx;cases hy;exact h
 ·cases hx;cases hy;exact h
 ·cases h
theorem c9Y{P:Program}{G:Gh}{arr:List Nat}{d:TypeDesc}{x y:V}{vx vy:Value}(hx:RV P G arr x vx)(hy:RV P G arr y vy)(h:b7C d x y=some true):vx=vy:=by
 unfold b7C at h;split at h
 ·cases hx;cases hy
  split at h
  ·rename_i e;subst e;simp only[Option.some.injEq,beq_iff_eq]at h;subst h;rfl
  ·cases h
 ·cases hx;cases hy
  simp only[Option.some.injEq]at h;rw[MapKept.bytes_beq]at h;rw[h]
 ·cases hx;cases hy
  simp only[Option.some.injEq,beq_iff_eq]at h;subst h;rfl
 ·cases h
theorem c5d{P:Program}{G:Gh}{arr:List Nat}{d:TypeDesc}{x:V}{v:Value}(hx:RV P G arr x v)(h:d4h d x=true):MapKept.IsKey d v:=by
 unfold d4h at h;split at h
 ·cases hx;exact(of_decide_eq_true h:_=_)
 ·cases hx;trivial
 ·cases hx;trivial
 ·cases h
theorem b6e{P:Program}{G:Gh}{arr:List Nat}{d:TypeDesc}{k:V}{kv:Value}(hk:RV P G arr k kv):∀ (es:List (V×V)) (m:List MapEntry) (i:Nat) r,RP P G arr es m→b1v d k es i=some r →
  (r=none∧Instr.findNow d kv m i=some none)∨∃ j v e,r=some (i+j,v)∧m[j]? = some e∧es[j]?.map (·.2)=some v∧Instr.findNow d kv m i=some (some (i+j,e.val))∧e.key=kv∧RV P G arr v e.val:=by
 intro es;induction es with
 | nil =>
  intro m i r hp h;have:m=[]:=h0G hp.1;subst this;simp only[b1v,Option.some.injEq]at h;subst h;exact .inl ⟨rfl,rfl⟩
 | cons p es ih =>
  obtain⟨k',v⟩:=p;intro m i r hp h;cases m with
  | nil=>have:=hp.1;simp at this
  | cons e m =>
   obtain⟨e',he',h1,h2⟩:=hp.2 0 k' v rfl;simp at he';subst he';simp only[b1v]at h;split at h
   ·rename_i hs;simp only[Option.some.injEq]at h;subst h;exact .inr ⟨0,v,e,rfl,rfl,rfl,by simp[Instr.findNow,b8i hk h1 hs],(c9Y hk h1 hs).symm,h2⟩
   ·rename_i hs;rcases ih m (i+1) r ⟨by have:=hp.1;simpa using this,fun j kx vx hj=>by
     obtain⟨e2,g1,g2⟩:=hp.2 (j+1) kx vx (by simpa using hj);exact⟨e2,by simpa using g1,g2⟩⟩ h with⟨g1,g2⟩ | ⟨j,u,e2,g1,g2,g3,g4,g5,g6⟩
    ·exact .inl ⟨g1,by simp[Instr.findNow,b8i hk h1 hs,g2]⟩
    ·refine .inr ⟨j+1,u,e2,by rw[g1];congr 2;omega,by simpa using g2,by simpa using g3,?_,g5,g6⟩;simp only[Instr.findNow,b8i hk h1 hs,g4];congr 3;omega
   ·cases h
def b8K(heap:List VObj):V→Option (List (V×V))
 | .nilmap=>some []
 | .map id=>match heap[id]? with
  | some (.map es)=>some es
  | _=>none
 | _=>none
def b2S(P:Program)(t:TypeId):V :=
 match P.info? t with
 | some i=>match i.zero with
  | some z=>ofV z
  | none => .junk
 | none => .junk
def vLook(E:Env)(heap:List VObj)(t:TypeId)(m k:V)(ok:Bool)(K:V→Prop):Prop :=
 match E.P.underlying t,b8K heap m with
 | some (.map kt et),some es=>match E.P.underlying kt with
  | some d=>d4h d k=true∧match b1v d k es 0 with
   | some (some (_,v))=>K (if ok then .tuple [v,.bool true]else v)
   | some none=>b0Q E.P et=true∧K (if ok then .tuple [b2S E.P et,.bool false]else b2S E.P et)
   | none=>False
  | none=>False
 | _,_=>False
theorem d5X{E:Env}{G:Gh}{heap:List VObj}{arr:List Nat}{w0:Base}{w:World}(h:RelW E G heap arr w0 w){t:TypeId}{m k:V}{vm vk:Value}{ok:Bool}{K:V→Prop}(hm:RV E.P G arr m vm)(hk:RV E.P G arr k vk)
  (hK:vLook E heap t m k ok K):∃ u y,(Instr.lookup t vm vk ok).run E.P w = .ok u w∧K y∧RV E.P G arr y u:=by
 unfold vLook at hK;split at hK
 case h_2=>exact hK.elim
 rename_i kt et es ht hat;split at hK
 case h_2=>exact hK.elim
 rename_i d hd;obtain⟨hkey,hK⟩:=hK;have hik:=c5d hk hkey
 -- the entries
 have hes:∃ ms:Array MapEntry,RP E.P G arr es ms.toList∧((vm = .map none∧ms = #[])∨∃ b clk,vm = .map (some b)∧w.heap[b]? = some (.map ms clk)):=by
  unfold b8K at hat;split at hat
  ·cases hm
   simp only[Option.some.injEq]at hat;subst hat;exact⟨#[],⟨rfl,by simp⟩,.inl ⟨rfl,rfl⟩⟩
  ·rename_i id;split at hat
   ·rename_i es' hh;simp only[Option.some.injEq]at hat;subst hat;cases hm with
    | map _ b hb =>
     obtain⟨b',hb',ms,clk,g1,g2,g3⟩:=h.obj id _ hh;rw[hb]at hb';cases hb';refine⟨ms,⟨by simpa using g2,fun j kx vx hj=>?_⟩,.inr ⟨b,clk,rfl,g1⟩⟩;obtain⟨e,q1,q2⟩:=g3 j kx vx hj;exact⟨e,by simpa using q1,q2⟩
   ·cases hat
  ·cases hat
 obtain⟨ms,hrp,hvm⟩:=hes;have hck:=MapKept.run_checkKey (w:=w) hd hik ms.isEmpty 9999;split at hK
 ·rename_i i v hf;rcases b6e hk es ms.toList 0 _ hrp hf with⟨g1,_⟩ | ⟨j,v',e,g1,g2,g3,g4,g5,g6⟩
  ·cases g1
  ·simp only[Option.some.injEq,Prod.mk.injEq]at g1;obtain⟨_,rfl⟩:=g1;have hfk:=MapKept.run_findKey (w:=w) hd g4;cases ok with
   | true =>
    refine⟨.tuple #[e.val,.bool true],_,?_,hK,?_⟩
    ·rcases hvm with⟨rfl,rfl⟩ | ⟨b,clk,rfl,hb⟩
     ·simp only[Instr.lookup,h1E,b0x ht,h1D,hck,hfk,h1F,if_true]
     ·simp only[Instr.lookup,h1E,b0x ht,h1D,MapKept.run_getObj_map hb,hck,hfk,h1F,if_true]
    ·refine .tuple _ _ rfl fun j c u hc hu=>?_
     match j with
     | 0=>simp at hc hu;subst hc hu;exact g6
     | 1=>simp at hc hu;subst hc hu;exact .bool _
     | j+2=>simp at hc
   | false =>
    refine⟨e.val,_,?_,hK,g6⟩;rcases hvm with⟨rfl,rfl⟩ | ⟨b,clk,rfl,hb⟩
    ·simp only[Instr.lookup,h1E,b0x ht,h1D,hck,hfk,h1F,h0r,if_false]
    ·simp only[Instr.lookup,h1E,b0x ht,h1D,MapKept.run_getObj_map hb,hck,hfk,h1F,h0r,if_false]
 ·rename_i hf;obtain⟨hz,hK⟩:=hK;rcases b6e hk es ms.toList 0 _ hrp hf with⟨_,g2⟩ | ⟨j,v',e,g1,_⟩
  ·have hfk:=MapKept.run_findKey (w:=w) hd g2;obtain⟨i,z,hi,hz'⟩:=b3U (E:=E) (t:=et) hz;have hzv:RV E.P G arr (b2S E.P et) z:=by
    unfold b2S;rw[hi];simp only[hz'];exact RV.ofV z
   have hzr:=b1R (w:=w) hi hz';cases ok with
   | true =>
    refine⟨.tuple #[z,.bool false],_,?_,hK,?_⟩
    ·rcases hvm with⟨rfl,rfl⟩ | ⟨b,clk,rfl,hb⟩
     ·simp only[Instr.lookup,h1E,b0x ht,h1D,hck,hfk,h1F,if_true,hzr]
     ·simp only[Instr.lookup,h1E,b0x ht,h1D,MapKept.run_getObj_map hb,hck,hfk,h1F,if_true,hzr]
    ·refine .tuple _ _ rfl fun j c u hc hu=>?_
     match j with
     | 0=>simp at hc hu;subst hc hu;exact hzv
     | 1=>simp at hc hu;subst hc hu;exact .bool _
     | j+2=>simp at hc
   | false =>
    refine⟨z,_,?_,hK,hzv⟩;rcases hvm with⟨rfl,rfl⟩ | ⟨b,clk,rfl,hb⟩
    ·simp only[Instr.lookup,h1E,b0x ht,h1D,hck,hfk,h1F,h0r,if_false,hzr]
    ·simp only[Instr.lookup,h1E,b0x ht,h1D,MapKept.run_getObj_map hb,hck,hfk,h1F,h0r,if_false,hzr]
  ·cases g1
 ·exact hK.elim
def vMapSet(E:Env)(heap:List VObj)(t:TypeId)(m k v:V)(K:List VObj→Prop):Prop :=
 match E.P.underlying t,m with
 | some (.map kt _),.map id=>match heap[id]?,E.P.underlying kt with
  | some (.map es),some d=>d4h d k=true∧match b1v d k es 0 with
   | some (some (j,_))=>K (heap.set id (.map (es.set j (k,v))))
   | some none=>K (heap.set id (.map (es++[(k,v)])))
   | none=>False
  | _,_=>False
 | _,_=>False
theorem c9K{E:Env}{G:Gh}{heap:List VObj}{arr:List Nat}{w0:Base}{w:World}(h:RelW E G heap arr w0 w){t:TypeId}{m k x:V}{vm vk vx:Value}{K:List VObj→Prop}(hm:RV E.P G arr m vm)(hk:RV E.P G arr k vk)
  (hx:RV E.P G arr x vx) (hK:vMapSet E heap t m k x K):∃ w' heap',(Instr.mapUpdate t vm vk vx).run E.P w = .ok () w'∧K heap'∧RelW E G heap' arr w0 w':=by
 unfold vMapSet at hK;split at hK
 case h_2=>exact hK.elim
 rename_i kt et id ht;split at hK
 case h_2=>exact hK.elim
 rename_i es d hh hd;obtain⟨hkey,hK⟩:=hK;have hik:=c5d hk hkey;cases hm with
 | map _ b hb =>
  obtain⟨b',hb',ms,clk,g1,g2,g3⟩:=h.obj id _ hh;rw[hb]at hb';cases hb';have hrp:RP E.P G arr es ms.toList:=⟨by simpa using g2,fun j kx vx hj=>by
   obtain⟨e,q1,q2⟩:=g3 j kx vx hj;exact⟨e,by simpa using q1,q2⟩⟩
  have hck:=MapKept.run_checkKey (w:=w) hd hik false 9999;have hidl:=(h0b.1 hh).1;have hbl:b<w.heap.size:=(h0B.1 g1).1;have go:∀ (ms':Array MapEntry) (clk':Nat) (es':List (V×V)),RP E.P G arr es' ms'.toList→RelW E G (heap.set id (.map es')) arr w0 { w with heap:=w.heap.setIfInBounds b (.map ms' clk') }:=by
   intro ms' clk' es' hp;refine h.change hb hidl (by rw[hh];simp) rfl rfl rfl (by simp) (fun k hk=>by simp[Array.getElem?_setIfInBounds_ne (Ne.symm hk)]) ⟨ms',clk',by simp[hbl],by simpa using hp.1,fun j kx vx hj=>?_⟩;obtain⟨e,q1,q2⟩:=hp.2 j kx vx hj;exact⟨e,by simpa using q1,q2⟩
  split at hK
  ·rename_i j v hf;rcases b6e hk es ms.toList 0 _ hrp hf with⟨q1,_⟩ | ⟨j',v',e,q1,q2,q3,q4,q5,q6⟩
   ·cases q1
   ·simp only[Option.some.injEq,Prod.mk.injEq,h0w]at q1;obtain⟨rfl,rfl⟩:=q1;have hj:ms[j]? = some e:=by simpa using q2
    have hfk:=MapKept.run_findKey (w:=w) hd q4;have hkeep:=MapKept.run_keyThatStays (P:=E.P) (w:=w) hik;refine⟨_,_,?_,hK,go (ms.modify j fun e=>{ e with key:=vk,val:=vx }) clk _ ⟨by simp[hrp.1],fun i kx ux hi=>?_⟩⟩
    ·simp only[h0w]at hfk;simp only[Instr.mapUpdate,h1E,b0x ht,h1D,MapKept.run_getObj_map g1,hck,hfk,hj,h0D,h0A,q5,hkeep,MapKept.run_setObj_map _ g1]
    ·by_cases hij:i=j
     ·subst hij;have hjl:i<es.length:=by
       rcases h1A i es.length with h' | h'
       ·exact h'
       ·rw[h0O (by simpa using h')]at hi;cases hi
      rw[h0i hjl]at hi;cases hi
      exact⟨{ e with key:=vk,val:=vx },by simp[hj],hk,hx⟩
     ·rw[h0m (Ne.symm hij)]at hi;obtain⟨e2,r1,r2⟩:=hrp.2 i kx ux hi;refine⟨e2,?_,r2⟩;simp only[Array.getElem?_toList]at r1 ⊢;rw[Array.getElem?_modify,if_neg (Ne.symm hij)];exact r1
  ·rename_i hf;rcases b6e hk es ms.toList 0 _ hrp hf with⟨_,q2⟩ | ⟨j',v',e,q1,_⟩
   ·have hfk:=MapKept.run_findKey (w:=w) hd q2;refine⟨_,_,?_,hK,go (ms.push { key:=vk,val:=vx,born:=clk }) (clk+1) _ ⟨by simp[hrp.1],fun i kx ux hi=>?_⟩⟩
    ·simp only[Instr.mapUpdate,h1E,b0x ht,h1D,MapKept.run_getObj_map g1,hck,hfk,MapKept.run_setObj_map _ g1]
    ·have hl:=hrp.1;simp only[Array.toList_push];by_cases hil:i<es.length
     ·rw[h0e hil]at hi;obtain⟨e2,r1,r2⟩:=hrp.2 i kx ux hi;exact⟨e2,by rw[h0e (by omega)];exact r1,r2⟩
     ·rw[h0g (by omega)]at hi;have hi0:i - es.length=0:=by
       rcases Nat.eq_zero_or_pos (i - es.length)with h' | h'
       ·exact h'
       ·rw[h0O (by simp;omega)]at hi;cases hi
      rw[hi0]at hi;simp at hi;obtain⟨rfl,rfl⟩:=hi;exact⟨{ key:=vk,val:=vx,born:=clk },by rw[h0g (by omega),hl,hi0];rfl,hk,hx⟩
   ·cases q1
  ·exact hK.elim
theorem c5v{E:Env}{G:Gh}{heap:List VObj}{arr:List Nat}{w0:Base}{w:World}(h:RelW E G heap arr w0 w){t:TypeId} :
  (Instr.makeMap t none).run E.P w = .ok (.map (some w.heap.size)) (w.alloc (.map #[] 0))∧RelW E (G.newObj w.heap.size) (heap++[.map []]) arr w0 (w.alloc (.map #[] 0))∧RV E.P (G.newObj w.heap.size) arr (.map heap.length) (.map (some w.heap.size)):=by
 refine⟨by simp[Instr.makeMap,Result.andThen],h.allocM _ _ ⟨#[],0,by rw[b0N,if_pos rfl],rfl,by simp⟩,.map _ _ ?_⟩;simp[Gh.newObj,h.lenφ]
def b3k(E:Env)(heap:List VObj)(t:TypeId)(l c:V)(K:V→List VObj→Prop):Prop :=
 match E.P.underlying t,l,c with
 | some (.slice e),.int _ n,.int _ n'=>(n=n'∧b0W E.P e=true∧0≤n∧n.toNat * E.P.bytesOf e≤140737488355328) ∧
   K (.mslice heap.length 0 n.toNat n.toNat e) (heap++[.cells (List.replicate n.toNat (b3v E e)).flatten])
 | _,_,_=>False
theorem b1M{x:Int}(h : -9223372036854775808≤x)(h':x≤9223372036854775807):IntKind.i64.wrap x=x:=by
 simp only[IntKind.wrap,IntKind.signed,IntKind.bits];simp;omega
theorem d6t{α:Type}(l:List α)(hl:0<l.length):∀ (n j:Nat) x,(List.replicate n l).flatten[j]? = some x→l[j % l.length]? = some x:=by
 intro n;induction n with
 | zero=>intro j x h;simp at h
 | succ n ih =>
  intro j x h;simp only[List.replicate_succ,h1b]at h;by_cases hj:j<l.length
  ·rw[h0e hj]at h;rw[Nat.mod_eq_of_lt hj];exact h
  ·rw[h0g (by omega)]at h;rw[Nat.mod_eq_sub_mod (by omega)];exact ih _ _ h
theorem g9p{P:Program}{n:Nat}{w:World}:(askRoom n).run P w = .ok () w:=by unfold askRoom;split <;> rfl
theorem c2l{E:Env}{G:Gh}{heap:List VObj}{arr:List Nat}{w0:Base}{w:World}(h:RelW E G heap arr w0 w){t:TypeId}{l c:V}{vl vc:Value}{K:V→List VObj→Prop}(hl:RV E.P G arr l vl)(hc:RV E.P G arr c vc)
  (hK:b3k E heap t l c K):∃ u y heap' G' w',(Instr.makeSlice t vl vc).run E.P w = .ok u w'∧K y heap'∧Ext G arr G' arr∧RelW E G' heap' arr w0 w'∧RV E.P G' arr y u:=by
 unfold b3k at hK;split at hK
 case h_2=>exact hK.elim
 rename_i e k1 n k2 n' ht;obtain⟨⟨rfl,hok,h0,hb⟩,hK⟩:=hK;cases hl;cases hc
 obtain⟨i,z,hi,hz,hz1,hzs,his,hib,hs1,hb1,hb2⟩:=b2J hok;have hzl:=b7a (G:=G) (arr:=arr) (E:=E) hi hz;have hzl0:(b3v E e).length=E.P.cellsOf e:=by rw[←hzl.1];exact hzs
 have hn47:n.toNat≤140737488355328:=h1n (Nat.le_mul_of_pos_right _ hb1) hb;have hw:IntKind.i64.wrap n=n:=b1M (by omega) (by omega);have hnot:¬ ((2:Int) ^ 48<(i.bytes:Int) * n):=by
  rw[hib];have h1:((n.toNat:Int))=n:=by omega
  have h2:((n.toNat * E.P.bytesOf e:Nat):Int)=(E.P.bytesOf e:Int) * n:=by rw[Int.natCast_mul,h1,Int.mul_comm]
  rw[←h2];have h48:(2:Int) ^ 48=281474976710656:=by decide
  rw[h48];generalize n.toNat * E.P.bytesOf e=q at hb;omega
 let cells:=(Array.range (n.toNat * E.P.cellsOf e)).map (z.cells[· % z.cells.size]!)
 refine⟨.slice (some ⟨w.heap.size,0,none⟩) n.toNat n.toNat,_,_,G.newObj w.heap.size,w.alloc (.cells cells e),?_,hK,G.ext_newObj _ _,h.allocM _ _ ⟨cells,e,by rw[b0N,if_pos rfl],?_,fun j x hj=>?_⟩,.mslice _ _ _ _ _ w.heap.size ?_ hn47 (h0q _) hb⟩
 ·simp only[Instr.makeSlice,h1E,b0x ht,h1D,asInt,asIntOf,h1F,c2U hi,hw];have hc1:decide ((2:Int) ^ 48<(i.bytes:Int) * n)=false:=h0z hnot;have hc2:(decide (n<0))=false:=by simpa using h0
  simp only[gt_iff_lt,hc1,h0Y,Int.lt_irrefl,decide_false,Bool.or_false,hc2,h0r,if_false,h1E,g9p,h1D,b0M hi];by_cases h0':n.toNat * E.P.cellsOf e=0
  ·simp only[if_pos h0',h1E,h1F,h1D,newRow,newObj,Sem.run];have:cells=(Array.range (n.toNat * E.P.cellsOf e)).map ((#[]:Array Value)[· % (#[]:Array Value).size]!):=by simp only[cells,h0'];simp
   rw[this];rfl
  ·simp only[if_neg h0',h1E,b1R hi hz,h1F,h1D,newRow,newObj,Sem.run];rfl
 ·simp[cells,List.length_flatten,hzl0]
 ·have hjl:=(h0b.1 hj).1;have hlen:((List.replicate n.toNat (b3v E e)).flatten).length=n.toNat * E.P.cellsOf e:=by simp[List.length_flatten,hzl0]
  rw[hlen]at hjl;have hg:=d6t (b3v E e) (by omega) _ _ _ hj;rw[hzl0]at hg;have hm:j % E.P.cellsOf e<z.cells.size:=by rw[hzs];exact Nat.mod_lt _ (by omega)
  refine⟨z.cells[j % E.P.cellsOf e],?_,hzl.2 _ x _ hg (h0t hm)⟩;have hm':j % z.cells.size<z.cells.size:=by rw[hzs];rw[hzs]at hm;exact hm
  simp only[cells,Array.getElem?_map,Array.getElem?_range,hjl,if_true,h0D,Option.some.injEq];rw[getElem!_pos z.cells _ hm'];simp only[hzs]
 ·simp[Gh.newObj,h.lenφ]
def c8K(heap:List VObj)(x:V)(K:V→List VObj→Prop):Prop :=
 match x with
 | .ptr id 0=>match heap[id]? with
  | some (.siter s pos)=>if pos<s.size then K (.tuple [.bool true,.int .i64 pos,.int .i32 (Utf8.decode s pos).1]) (heap.set id (.siter s (pos+(Utf8.decode s pos).2)))else K (.tuple [.bool false]) heap
  | _=>False
 | _=>False
theorem d6b{E:Env}{G:Gh}{heap:List VObj}{arr:List Nat}{w0:Base}{w:World}(h:RelW E G heap arr w0 w){ty:TypeId}{x:V}{vx:Value}{K:V→List VObj→Prop}(hx:RV E.P G arr x vx)(hK:c8K heap x K) :
  ∃ u y heap' w',(Instr.next vx true ty).run E.P w = .ok u w'∧K y heap'∧RelW E G heap' arr w0 w'∧RV E.P G arr y u:=by
 unfold c8K at hK;split at hK
 case h_2=>exact hK.elim
 rename_i id;split at hK
 case h_2=>exact hK.elim
 rename_i s pos hh;cases hx with
 | ptr _ _ b hb =>
  obtain⟨b',hb',g1,g2⟩:=h.obj id _ hh;rw[hb]at hb';cases hb';have hbl:b<w.heap.size:=(h0B.1 g1).1;have hg:(getObj b).run E.P w = .ok (.stringIter s pos) w:=by simp[getObj,Sem.run,g1]
  split at hK
  ·rename_i hp;refine⟨.tuple #[.bool true,goInt pos,.int .i32 (Utf8.decode s pos).1],_,_,{ w with heap:=w.heap.setIfInBounds b (.stringIter s (pos+(Utf8.decode s pos).2)) },?_,hK,?_,?_⟩
   ·have hso:(setObj b (.stringIter s (pos+(Utf8.decode s pos).2))).run E.P w = .ok () { w with heap:=w.heap.setIfInBounds b (.stringIter s (pos+(Utf8.decode s pos).2)) }:=by simp[setObj,Sem.run,g1]
    simp only[Instr.next,h1E,hg,h1D,if_pos hp,hso,h1F]
   ·exact h.change hb (h0b.1 hh).1 (by rw[hh];simp) rfl rfl rfl (by simp) (fun k hk=>by simp[Array.getElem?_setIfInBounds_ne (Ne.symm hk)]) ⟨by simp[hbl],g2⟩
   ·refine .tuple _ _ rfl fun j c u hc hu=>?_
    match j with
    | 0=>simp at hc hu;subst hc hu;exact .bool _
    | 1=>simp[goInt]at hc hu;subst hc hu;exact .int _ _
    | 2=>simp at hc hu;subst hc hu;exact .int _ _
    | j+3=>simp at hc
  ·rename_i hp;refine⟨.tuple #[.bool false],_,_,w,?_,hK,h,?_⟩
   ·simp only[Instr.next,h1E,hg,h1D,if_neg hp,h1F]
   ·refine .tuple _ _ rfl fun j c u hc hu=>?_
    match j with
    | 0=>simp at hc hu;subst hc hu;exact .bool _
    | j+1=>simp at hc
def c1B(E:Env)(heap:List VObj)(t:TypeId)(x:V)(K:V→List VObj→Prop):Prop :=
 match E.P.underlying t,x with
 | some .string,.str s=>K (.ptr heap.length 0) (heap++[.siter s 0])
 | _,_=>False
theorem d3U{E:Env}{G:Gh}{heap:List VObj}{arr:List Nat}{w0:Base}{w:World}(h:RelW E G heap arr w0 w){t:TypeId}{x:V}{vx:Value}{K:V→List VObj→Prop}(hx:RV E.P G arr x vx)(hK:c1B E heap t x K) :
  ∃ u y heap' G' w',(Instr.range t vx).run E.P w = .ok u w'∧K y heap'∧Ext G arr G' arr∧RelW E G' heap' arr w0 w'∧RV E.P G' arr y u:=by
 unfold c1B at hK;split at hK
 case h_2=>exact hK.elim
 rename_i s ht;cases hx with
 | str _ hs =>
  refine⟨.pointer (some ⟨w.heap.size,0,none⟩),_,_,G.newObj w.heap.size,w.alloc (.stringIter s 0),?_,hK,G.ext_newObj _ _,h.allocM _ _ ⟨by rw[b0N,if_pos rfl],hs⟩,.ptr _ _ _ (by simp[Gh.newObj,h.lenφ])⟩;simp only[Instr.range,h1E,b0x ht,h1D,h1F,newObj,Sem.run];rfl
def vMin(x y:V)(K:V→Prop):Prop :=
 match x,y with
 | .int k a,.int _ b=>K (.int k (if b<a then b else a))
 | _,_=>False
def vMax3(x y z:V)(K:V→Prop):Prop :=
 match x,y,z with
 | .int k a,.int _ b,.int _ c=>K (.int k (if(if a<b then b else a)<c then c else(if a<b then b else a)))
 | _,_,_=>False
def vMax(x y:V)(K:V→Prop):Prop :=
 match x,y with
 | .int k a,.int _ b=>K (.int k (if b > a then b else a))
 | _,_=>False
def c0N:List (List V)→Option (List Int)
 | []=>some []
 | [.int .u8 n]::r=>(c0N r).map (n::·)
 | _=>none
def b9L(ns:List Int):ByteArray:=⟨(ns.map fun n=>UInt8.ofNat n.toNat).toArray⟩
theorem c9T:∀ {es:List (List V)} {ns:List Int},c0N es=some ns→ns.length=es.length∧∀ (i:Nat) n,ns[i]? = some n→es[i]? = some [.int .u8 n]:=by
 intro es;induction es with
 | nil=>intro ns h;simp only[c0N,Option.some.injEq]at h;subst h;exact⟨rfl,by simp⟩
 | cons x r ih =>
  intro ns h;unfold c0N at h;split at h
  ·rename_i heq;cases heq
  ·rename_i n r' heq
   injection heq with h1 h2
   subst h1 h2;obtain⟨ms,hms,rfl⟩:=h0p.1 h;obtain⟨g1,g2⟩:=ih hms;refine⟨by simp[g1],fun i m hi=>?_⟩;cases i with
   | zero=>simp at hi;subst hi;rfl
   | succ i=>simpa using g2 i m (by simpa using hi)
  ·cases h
theorem d1i:∀ (ns:List Int) (s:ByteArray),ns.foldl (fun r n=>r.push (UInt8.ofNat n.toNat)) s=⟨s.data++(ns.map fun n=>UInt8.ofNat n.toNat).toArray⟩:=by
 intro ns;induction ns with
 | nil=>intro s;simp
 | cons n r ih =>
  intro s;simp only[h0K,ih,h0s];congr 1;show(s.data.push _)++_=_;apply Array.ext';simp
theorem d1D{E:Env}{G:Gh}{heap:List VObj}{arr:List Nat}{w0:Base}{w:World}(h:RelW E G heap arr w0 w){o:Own}{e:TypeId}{es:List (List V)}{v:Value}{ns:List Int}
  (hv:RV E.P G arr (.slice o e es) v) (he:E.P.cellsOf e=1) (hn:c0N es=some ns):(Conv.bytesToString v).run E.P w = .ok (.string (b9L ns)) w∧(b9L ns).size≤1152921504606846976:=by
 obtain⟨hl,hg⟩:=c9T hn;obtain⟨vs,⟨a,cap,rfl⟩,h2,h3,h4⟩:=c9s h hv;have hle:es.length≤140737488355328:=by
  cases hv with
  | snil=>simp
  | sodd=>simp
  | slice _ _ _ b off cap ho g1 g2 g3 g4 g5 g6=>exact g3
 have hvs:vs=(ns.map (Value.int .u8)).toArray:=by
  apply Array.ext_getElem?;intro i;by_cases hi:i<ns.length
  ·have hes:=hg i _ (h0f hi);obtain⟨u,hu,hr⟩:=h4 i _ 0 _ hes rfl;rw[he,Nat.mul_one,h1m]at hu;cases hr
   rw[hu];simp[hi]
  ·rw[h1C (by rw[h3,he];omega),h1C (by simp;omega)]
 refine⟨?_,by simp[b9L,ByteArray.size];omega⟩;cases a with
 | none =>
  have hz:ns=[]:=by
   cases hv <;> (simp at hl;exact hl)
  subst hz;rfl
 | some a =>
  rw[he]at h2;simp only[Builtin.firstCells,Nat.mul_one]at h2;rw[hvs]at h2;rw[run_bytesToString w a es.length cap ns h2,d1i];congr 2
  simp[b9L]
end Go.Vg
namespace Go.Vg
open Go.RowKit
def eq1:V→V→Option Bool
 | .str a,.str b=>some (decide (a=b))
 | .int k a,.int k' b=>if k=k' then some (decide (a=b))else none
 | .bool a,.bool b=>some (a == b)
 | _,_=>none
def eqL:List V→List V→Option Bool
 | [],[]=>some true
 | x::r,y::q=>match eq1 x y,eqL r q with
  | some a,some b=>some (a && b)
  | _,_=>none
 | _,_=>none
def d6E:Option TypeDesc→Option Nat
 | some .string=>some 0
 | some (.int _)=>some 1
 | some .bool=>some 2
 | _=>none
def c0j(P:Program)(sub:TypeId→Option (List Nat)):Nat→List Field→Option (List Nat)
 | _,[]=>some []
 | o,f::fs=>if f.name != "_" && decide (f.offset=o)then match sub f.type,c0j P sub (o+P.cellsOf f.type) fs with
   | some ks,some r=>if ks.length=P.cellsOf f.type∧0<ks.length then some (ks++r)else none
   | _,_=>none
  else none
def b5r(P:Program):Nat→TypeId→Option (List Nat)
 | 0,_=>none
 | f+1,t=>match P.underlying t with
  | some .string=>some [0]
  | some (.int _)=>some [1]
  | some .bool=>some [2]
  | some (.struct fs)=>if P.stoodInHeld t then none else c0j P (b5r P f) 0 fs.toList
  | some (.array n e)=>match b5r P f e with
   | some ks=>if ks.length=P.cellsOf e∧0<ks.length then some (List.replicate n ks).flatten else none
   | none=>none
  | _=>none
def flatK(P:Program)(t:TypeId):Option (List Nat):=match P.underlying t with
 | some (.struct _) | some (.array _ _)=>if P.eqGuardType P.depth t then none else b5r P 20 t
 | _=>none
def d1W:Nat→V→V→Bool
 | 0,.str _,.str _=>true
 | 1,.int k _,.int k' _=>decide (k=k')
 | 2,.bool _,.bool _=>true
 | _,_,_=>false
def b3F:List Nat→List V→List V→Bool
 | [],[],[]=>true
 | k::ks,x::xs,y::ys=>d1W k x y && b3F ks xs ys
 | _,_,_=>false
theorem c0K{P:Program}{w:World}{t:TypeId}(a b:Bool)(ht:P.underlying t=some .bool):(Op.equal t (.bool a) (.bool b)).run P w = .ok (a == b) w:=by
 have:∀ d,(Op.equalIn (d+1) t (.bool a) (.bool b)).run P w = .ok (a == b) w:=fun d=>by
  simp only[Op.equalIn,h1E,b0x ht,h1D,h1F]
 exact this 9999
theorem b6n:∀ {ks:List Nat} {xs ys:List V},b3F ks xs ys=true→xs.length=ks.length∧ys.length=ks.length
 | [],[],[],_=>⟨rfl,rfl⟩
 | k::ks,x::xs,y::ys,h=>by
  simp only[b3F,h0k]at h;obtain⟨h1,h2⟩:=b6n h.2;exact⟨by simp[h1],by simp[h2]⟩
 | [],_::_,_,h=>by simp[b3F]at h
 | [],[],_::_,h=>by simp[b3F]at h
 | _::_,[],_,h=>by simp[b3F]at h
 | _::_,_::_,[],h=>by simp[b3F]at h
theorem b8g:∀ {k1 k2:List Nat} {xs ys:List V},b3F (k1++k2) xs ys=true→b3F k1 (xs.take k1.length) (ys.take k1.length)=true∧b3F k2 (xs.drop k1.length) (ys.drop k1.length)=true
 | [],k2,xs,ys,h=>by simpa[b3F]using h
 | k::k1,k2,xs,ys,h=>by
  cases xs with
  | nil=>simp[b3F]at h
  | cons x xs =>
   cases ys with
   | nil=>simp[b3F]at h
   | cons y ys =>
    simp only[h0a,b3F,h0k]at h;obtain⟨g1,g2⟩:=b8g h.2;simp only[h0o,List.take_succ_cons,List.drop_succ_cons,b3F,h0k];exact⟨⟨h.1,g1⟩,g2⟩
theorem b9E:∀ (n:Nat) {xs ys:List V} {a b:Bool},n≤xs.length→n≤ys.length→eqL (xs.take n) (ys.take n)=some a→eqL (xs.drop n) (ys.drop n)=some b→eqL xs ys=some (a && b)
 | 0,xs,ys,a,b,_,_,h1,h2=>by
  simp only[List.take_zero,eqL,Option.some.injEq]at h1;subst h1;simpa using h2
 | n+1,[],_,_,_,h,_,_,_=>by simp at h
 | n+1,_::_,[],_,_,_,h,_,_=>by simp at h
 | n+1,x::xs,y::ys,a,b,l1,l2,h1,h2=>by
  simp only[List.take_succ_cons,List.drop_succ_cons,eqL]at h1 h2 ⊢;split at h1
  ·rename_i c d hc hd;cases h1
   rw[hc,b9E n (by simpa using l1) (by simpa using l2) hd h2];simp[Bool.and_assoc]
  ·cases h1
theorem c4I{P:Program}{w:World}{t:TypeId}(a b:Bool)(ht:P.underlying t=some .bool)(d:Nat):(Op.equalIn (d+1) t (.bool a) (.bool b)).run P w = .ok (a == b) w:=by
 simp only[Op.equalIn,h1E,b0x ht,h1D,h1F]
theorem d9J{P:Program}{G:Gh}{arr:List Nat}{w:World}{t:TypeId}{x y:V}{vx vy:Value}{k:Nat}(hx:RV P G arr x vx)(hy:RV P G arr y vy)(ht:d6E (P.underlying t)=some k)(hk:d1W k x y=true)(d:Nat) :
  ∃ b,eq1 x y=some b∧(Op.equalIn (d+1) t vx vy).run P w = .ok b w:=by
 unfold d6E at ht;split at ht
 ·rename_i hu;cases ht
  cases x <;> cases y <;> simp only[d1W,h0r]at hk
  cases hx;cases hy
  rename_i a b _ _;refine⟨decide (a=b),rfl,?_⟩;simp only[Op.equalIn,h1E,b0x hu,h1D,h1F];congr 1;rw[h1k];obtain⟨a⟩:=a;obtain⟨b⟩:=b;show((a == b)=true)↔_;simp
 ·rename_i k' hu;cases ht
  cases x <;> cases y <;> simp only[d1W,h0r]at hk
  cases hx;cases hy
  have hk:=of_decide_eq_true hk;subst hk;rename_i kk a b;refine⟨decide (a=b),by simp[eq1],?_⟩;simp only[Op.equalIn,h1E,b0x hu,h1D,h1F,if_true];congr 1
 ·rename_i hu;cases ht
  cases x <;> cases y <;> simp only[d1W,h0r]at hk
  cases hx;cases hy
  exact⟨_,rfl,c4I _ _ hu d⟩
 ·cases ht
def c2k(P:Program)(G:Gh)(arr:List Nat)(t:TypeId)(xs:List V)(v:Value):Prop:=∃ d,P.underlying t=some d∧((c0Q d=true∧RV P G arr (.agg xs) v)∨(c0Q d=false∧∃ x,xs=[x]∧RV P G arr x v))
theorem b6d{P:Program}{f:Nat}{t:TypeId}{ks:List Nat}(h:b5r P f t=some ks):∃ d,P.underlying t=some d∧(c0Q d=false→ks.length=1):=by
 cases f with
 | zero=>cases h
 | succ f =>
  rw[b5r]at h;split at h
  ·rename_i e;cases h;exact⟨_,e,fun _=>rfl⟩
  ·rename_i e;cases h;exact⟨_,e,fun _=>rfl⟩
  ·rename_i e;cases h;exact⟨_,e,fun _=>rfl⟩
  ·rename_i e;exact⟨_,e,fun h=>by simp[c0Q]at h⟩
  ·rename_i e;exact⟨_,e,fun h=>by simp[c0Q]at h⟩
  ·cases h
theorem b3O{P:Program}{G:Gh}{arr:List Nat}{w:World}{t:TypeId}{d:TypeDesc}{xs:List V}{vs:Array Value}{o:Nat}(hd:P.underlying t=some d)(hl:xs.length=vs.size)(hr:∀ (j:Nat) c v,xs[j]? = some c→vs[j]? = some v→RV P G arr c v)
  (ho:o+P.cellsOf t≤xs.length) (h1:c0Q d=false→P.cellsOf t=1):∃ v,(part t vs o).run P w = .ok v w∧c2k P G arr t ((xs.drop o).take (P.cellsOf t)) v:=by
 cases hag:c0Q d with
 | true =>
  obtain⟨i,hi⟩:=b2N hd;refine⟨.agg (vs.extract o (o+P.cellsOf t)),by simp only[part,h1E,b4Q hd,hag,h1D,if_true,b0M hi,h1F],d,hd,.inl ⟨hag,.agg _ _ (by simp;omega) fun j c v hc hv=>?_⟩⟩;have hjl:=(h0b.1 hc).1;simp only[List.length_take,h1i]at hjl;rw[List.getElem?_take,if_pos (by omega),h1d]at hc;rw[Array.getElem?_extract]at hv;have:j<min (o+P.cellsOf t) vs.size - o:=by omega
  rw[if_pos this]at hv;exact hr _ _ _ hc hv
 | false =>
  have h1:=h1 hag;have hlo:o<vs.size:=by omega
  have hxo:o<xs.length:=by omega
  refine⟨vs[o],by simp only[part,h1E,b4Q hd,hag,h1D,h0r,if_false,h0t hlo,h1F],d,hd,.inr ⟨hag,xs[o],?_,hr o _ _ (h0f hxo) (h0t hlo)⟩⟩;rw[h1,List.drop_eq_getElem_cons hxo];rfl
theorem c0h{P:Program}{w:World}{α:Type}{body:α→Option Bool×PUnit→Sem (ForInStep (Option Bool×PUnit))}:∀ {fs:List α} {e:List Bool},
  fs.length=e.length→(∀ (i:Nat) f b,fs[i]? = some f→e[i]? = some b→(body f (none,())).run P w = .ok (if b then .yield (none,())else .done (some false,())) w)→(forIn fs (none,()) body).run P w = .ok (if e.all id then(none,())else(some false,())) w
 | [],[],_,_=>by simp
 | [],_::_,h,_=>by simp at h
 | _::_,[],h,_=>by simp at h
 | f::fs,b::e,hl,h=>by
  have h1:=h 0 f b rfl rfl;have ih:=c0h (fs:=fs) (e:=e) (by simpa using hl) fun i g c hg hc=>h (i+1) g c (by simpa using hg) (by simpa using hc)
  rw[List.forIn_cons,h1E,h1];cases b
  ·simp
  ·simp only[if_true,h1D,List.all_cons,id,h0S];exact ih
theorem eqT{P:Program}{G:Gh}{arr:List Nat}{w:World}:∀ (f:Nat) (t:TypeId) (ks:List Nat),b5r P f t=some ks→∀ (xs ys:List V) (vx vy:Value),b3F ks xs ys=true→c2k P G arr t xs vx→c2k P G arr t ys vy→∀ d:Nat,
  ∃ b,eqL xs ys=some b∧(Op.equalIn (d+f) t vx vy).run P w = .ok b w:=by
 have hprog:(program:Sem Program).run P w = .ok P w:=rfl;intro f;induction f with
 | zero=>intro t ks h;cases h
 | succ f ih =>
  intro t ks h xs ys vx vy hf hx hy d;have one:∀ k,ks=[k]→d6E (P.underlying t)=some k→∃ b,eqL xs ys=some b∧(Op.equalIn (d+(f+1)) t vx vy).run P w = .ok b w:=by
   intro k hk hkd;subst hk;obtain⟨d1,hd1,hx⟩:=hx;obtain⟨d2,hd2,hy⟩:=hy;rw[hd1]at hd2;cases hd2;have hag:c0Q d1=false:=by
    rw[hd1]at hkd;unfold d6E at hkd;split at hkd <;> first | (rename_i e;cases e;rfl) | cases hkd
   rcases hx with⟨h1,_⟩ | ⟨_,x,rfl,hx⟩
   ·rw[hag]at h1;cases h1
   rcases hy with⟨h1,_⟩ | ⟨_,y,rfl,hy⟩
   ·rw[hag]at h1;cases h1
   simp only[b3F,h1g]at hf;obtain⟨b,hb,hrun⟩:=d9J (w:=w) hx hy hkd hf (d+f);exact⟨b,by simp[eqL,hb],hrun⟩
  rw[b5r]at h;split at h
  ·rename_i e;cases h;exact one 0 rfl (by rw[e];rfl)
  ·rename_i e;cases h;exact one 1 rfl (by rw[e];rfl)
  ·rename_i e;cases h;exact one 2 rfl (by rw[e];rfl)
  ·rename_i fs hu;split at h
   ·cases h
   rename_i hst;obtain⟨d1,hd1,hx⟩:=hx;obtain⟨d2,hd2,hy⟩:=hy;rw[hu]at hd1 hd2;cases hd1;cases hd2;rcases hx with⟨_,hx⟩ | ⟨h1,_⟩
   case inr=>simp[c0Q]at h1
   rcases hy with⟨_,hy⟩ | ⟨h1,_⟩
   case inr=>simp[c0Q]at h1
   cases hx with
   | agg _ vxs hlx hrx =>
   cases hy with
   | agg _ vys hly hry =>
   -- the fields,one after the other
   have key:∀ (fs:List Field) (o:Nat) (kk:List Nat),c0j P (b5r P f) o fs=some kk→b3F kk (xs.drop o) (ys.drop o)=true →
     ∃ e:List Bool,fs.length=e.length∧eqL (xs.drop o) (ys.drop o)=some (e.all id)∧∀ (i:Nat) g b,fs[i]? = some g→e[i]? = some b→g.name ≠ "_" ∧ ∃ v1 v2,(part g.type vxs g.offset).run P w = .ok v1 w∧(part g.type vys g.offset).run P w = .ok v2 w∧(Op.equalIn (d+f) g.type v1 v2).run P w = .ok b w:=by
    intro fs;induction fs with
    | nil =>
     intro o kk hkk hff;simp only[c0j,Option.some.injEq]at hkk;subst hkk;obtain⟨q1,q2⟩:=b6n hff;rw[List.length_eq_zero_iff.1 q1,List.length_eq_zero_iff.1 q2];exact⟨[],rfl,rfl,by simp⟩
    | cons g fs ihf =>
     intro o kk hkk hff;simp only[c0j]at hkk;split at hkk
     case isFalse=>cases hkk
     rename_i hc;simp only[h0k,bne_iff_ne,ne_eq,h0l]at hc;obtain⟨hn,ho⟩:=hc;split at hkk
     case h_2=>cases hkk
     rename_i k1 r hk1 hkr;split at hkk
     case isFalse=>cases hkk
     rename_i hkl;obtain⟨hkl,hkp⟩:=hkl;simp only[Option.some.injEq]at hkk;subst hkk;obtain⟨s1,s2⟩:=b8g hff;rw[hkl,h1y,h1y]at s2;rw[hkl]at s1;obtain⟨l1,l2⟩:=b6n hff;rw[h0h,hkl,h1i]at l1 l2;obtain⟨e,he1,he2,he3⟩:=ihf _ _ hkr s2;obtain⟨dd,hdd,hone⟩:=b6d hk1;have hone':c0Q dd=false→P.cellsOf g.type=1:=fun h=>by rw[←hkl];exact hone h
     have hpos:o+P.cellsOf g.type≤xs.length∨P.cellsOf g.type=0:=by omega
     have hle:P.cellsOf g.type≤xs.length - o:=by omega
     have hle2:P.cellsOf g.type≤ys.length - o:=by omega
     obtain⟨v1,p1,c1⟩:=b3O (w:=w) (o:=o) hdd hlx hrx (by omega) hone';obtain⟨v2,p2,c2⟩:=b3O (w:=w) (o:=o) hdd hly hry (by omega) hone';obtain⟨b,hb,hrun⟩:=ih _ _ hk1 _ _ _ _ s1 c1 c2 d;refine⟨b::e,by simp[he1],?_,fun i g' b' hg hb'=>?_⟩
     ·rw[List.all_cons];exact b9E (P.cellsOf g.type) (by rw[h1i];exact hle) (by rw[h1i];exact hle2) hb (by rw[h1y,h1y];exact he2)
     ·cases i with
      | zero =>
       simp at hg hb';subst hg hb';exact⟨hn,v1,v2,by rw[ho];exact p1,by rw[ho];exact p2,hrun⟩
      | succ i=>exact he3 i g' b' (by simpa using hg) (by simpa using hb')
   obtain⟨e,he1,he2,he3⟩:=key fs.toList 0 ks h hf;refine⟨e.all id,he2,?_⟩;rw[show d+(f+1)=d+f+1 from rfl,Op.equalIn];simp only[h1E,b0x hu,h1D,hprog,hst,h0r,if_false];rw[←Array.forIn_toList,c0h (e:=e) he1 (fun i g b hg hb=>?_)]
   ·simp only[h1D];cases e.all id <;> rfl
   ·obtain⟨hn,v1,v2,p1,p2,hrun⟩:=he3 i g b hg hb;simp only[ne_eq,hn,not_false_eq_true,if_true,h1E,p1,p2,h1D,hrun];cases b <;> simp
  ·rename_i n el hu;split at h
   case h_2=>cases h
   rename_i k1 hk1;split at h
   case isFalse=>cases h
   rename_i hkl;obtain⟨hkl,hkp⟩:=hkl;simp only[Option.some.injEq]at h;subst h;obtain⟨d1,hd1,hx⟩:=hx;obtain⟨d2,hd2,hy⟩:=hy;rw[hu]at hd1 hd2;cases hd1;cases hd2;rcases hx with⟨_,hx⟩ | ⟨h1,_⟩
   case inr=>simp[c0Q]at h1
   rcases hy with⟨_,hy⟩ | ⟨h1,_⟩
   case inr=>simp[c0Q]at h1
   cases hx with
   | agg _ vxs hlx hrx =>
   cases hy with
   | agg _ vys hly hry =>
   obtain⟨dd,hdd,hone⟩:=b6d hk1;have hone':c0Q dd=false→P.cellsOf el=1:=fun h=>by rw[←hkl];exact hone h
   have key:∀ (m o:Nat),b3F (List.replicate m k1).flatten (xs.drop o) (ys.drop o)=true →
     ∃ e:List Bool,e.length=m∧eqL (xs.drop o) (ys.drop o)=some (e.all id)∧∀ (i:Nat) b,e[i]? = some b→∃ v1 v2,(part el vxs (o+i * P.cellsOf el)).run P w = .ok v1 w∧(part el vys (o+i * P.cellsOf el)).run P w = .ok v2 w∧(Op.equalIn (d+f) el v1 v2).run P w = .ok b w:=by
    intro m;induction m with
    | zero =>
     intro o hff;obtain⟨q1,q2⟩:=b6n hff;rw[List.length_eq_zero_iff.1 q1,List.length_eq_zero_iff.1 q2];exact⟨[],rfl,rfl,by simp⟩
    | succ m ihm =>
     intro o hff;rw[List.replicate_succ,h1b]at hff;obtain⟨s1,s2⟩:=b8g hff;rw[hkl,h1y,h1y]at s2;rw[hkl]at s1;obtain⟨l1,l2⟩:=b6n hff;rw[h0h,hkl,h1i]at l1 l2;obtain⟨e,he1,he2,he3⟩:=ihm _ s2;have hle:P.cellsOf el≤xs.length - o:=by omega
     have hle2:P.cellsOf el≤ys.length - o:=by omega
     obtain⟨v1,p1,c1⟩:=b3O (w:=w) (o:=o) hdd hlx hrx (by omega) hone';obtain⟨v2,p2,c2⟩:=b3O (w:=w) (o:=o) hdd hly hry (by omega) hone';obtain⟨b,hb,hrun⟩:=ih _ _ hk1 _ _ _ _ s1 c1 c2 d;refine⟨b::e,by simp[he1],?_,fun i b' hb'=>?_⟩
     ·rw[List.all_cons];exact b9E (P.cellsOf el) (by rw[h1i];exact hle) (by rw[h1i];exact hle2) hb (by rw[h1y,h1y];exact he2)
     ·cases i with
      | zero =>
       simp at hb';subst hb';exact⟨v1,v2,by rw[Nat.zero_mul,h1m];exact p1,by rw[Nat.zero_mul,h1m];exact p2,hrun⟩
      | succ i =>
       have:=he3 i b' (by simpa using hb');rw[show o+(i+1) * P.cellsOf el=o+P.cellsOf el+i * P.cellsOf el by rw[h0V];omega];exact this
   obtain⟨e,he1,he2,he3⟩:=key n 0 hf;refine⟨e.all id,he2,?_⟩;obtain⟨ie,hie⟩:=b2N hdd;rw[show d+(f+1)=d+f+1 from rfl,Op.equalIn];simp only[h1E,b0x hu,h1D,b0M hie,Std.Legacy.Range.forIn_eq_forIn_range',Std.Legacy.Range.size,Nat.sub_zero,Nat.add_sub_cancel,Nat.div_one];rw[c0h (e:=e) (by simp[he1]) (fun i g b hg hb=>?_)]
   ·simp only[h1D];cases e.all id <;> rfl
   ·have hgi:g=i:=by
     have hil:=(h0b.1 hb).1;rw[List.getElem?_range' (by omega)]at hg;simp at hg;omega
    subst hgi;obtain⟨v1,v2,p1,p2,hrun⟩:=he3 g b hb;rw[h0w]at p1 p2;simp only[h1E,p1,p2,h1D,hrun];cases b <;> simp
  ·cases h
theorem c2X{P:Program}{t:TypeId}{ks:List Nat}(hks:flatK P t=some ks):(∃ d,P.underlying t=some d∧c0Q d=true∧((∃ fs,d = .struct fs)∨∃ n e,d = .array n e))∧P.eqGuardType P.depth t=false∧b5r P 20 t=some ks:=by
 unfold flatK at hks;split at hks
 ·rename_i fs hu;split at hks
  ·cases hks
  ·rename_i hg;exact⟨⟨_,hu,rfl,.inl ⟨_,rfl⟩⟩,by simpa using hg,hks⟩
 ·rename_i n e hu;split at hks
  ·cases hks
  ·rename_i hg;exact⟨⟨_,hu,rfl,.inr ⟨_,_,rfl⟩⟩,by simpa using hg,hks⟩
 ·cases hks
theorem d0R{P:Program}{G:Gh}{arr:List Nat}{w:World}{t:TypeId}{xs ys:List V}{vxs vys:Array Value}{ks:List Nat}(hks:flatK P t=some ks)(h1:b3F ks xs ys=true)(hx:RV P G arr (.agg xs) (.agg vxs))(hy:RV P G arr (.agg ys) (.agg vys)) :
  ∃ b,eqL xs ys=some b∧(Op.equal t (.agg vxs) (.agg vys)).run P w = .ok b w:=by
 obtain⟨⟨d,hd,ha,_⟩,_,hk⟩:=c2X hks;exact eqT 20 t ks hk xs ys _ _ h1 ⟨d,hd,.inl ⟨ha,hx⟩⟩ ⟨d,hd,.inl ⟨ha,hy⟩⟩ 9980
theorem RelW.belowF{E:Env}{G:Gh}{heap:List VObj}{arr:List Nat}{w0:Base}{w w':World}(h:RelW E G heap arr w0 w)(hb:Below w.heap.size w w')(c:Array Value)(h1:∀ (j:Nat) v,c[j]? = some v→v.oneCell'=true)
  (hc:∀ (j:Nat) v,c[j]? = some v→w'.cell? ⟨w.heap.size,j,none⟩=some v):RelW E (G.freezeNew w.heap.size c) heap arr w0 w':=by
 have hs:=hb.size;have hx:=h.extF c;refine⟨fun b o v hv hlt=>h.newF b o v (by
   simp only[Gh.freezeNew]at hv
   rwa [if_neg (by have:=h.below.size;omega)]at hv) hlt,fun g cs hg=>⟨(h.glob g cs hg).1,(h.glob g cs hg).2.mono hx⟩,h.below.trans (hb.mono h.below.size),?_,fun b o v hv=>by
   simp only[Gh.freezeNew]at hv;split at hv
   ·exact h1 _ _ hv
   ·exact h.one _ _ _ hv,?_,h.lenφ,h.nod,?_,?_,h.lenρ,?_,h.regd,h.fre,h.bldA hb.block fun g hg ⟨s1,s2,s3⟩=>⟨fun o=>by
    simp only[Gh.freezeNew];rw[if_neg (by omega)];exact s1 o,s2,s3⟩,h.ini,h.vsK hx (fun _ _ _ _ _ h=>h) (fun _ _ h _=>h) hb.block⟩
 ·intro b o v hv;simp only[Gh.freezeNew]at hv;by_cases eb:b=w.heap.size
  ·rw[if_pos eb]at hv;subst eb;exact hc _ _ hv
  ·rw[if_neg eb]at hv;have hcc:=h.frz _ _ _ hv;have hlt:b<w.heap.size:=by
    rcases h1A b w.heap.size with h' | h'
    ·exact h'
    ·simp[World.cell?,h1C h']at hcc
   rw[hb.cell (p:=⟨b,o,none⟩) hlt];exact hcc
 ·intro id ob hid;obtain⟨b,hb',hr⟩:=h.obj id ob hid;exact⟨b,hb',hr.keep hx (hb.block b (h.geφ id b hb').2)⟩
 ·intro id b o hb' hd;simp only[Gh.freezeNew];rw[if_neg (by have:=(h.geφ id b hb').2;omega)];exact h.sep id b o hb' hd
 ·intro id b hb';obtain⟨g1,g2⟩:=h.geφ id b hb';exact⟨g1,by omega⟩
 ·intro k b lo hi hk hlt;obtain⟨⟨c',e',r0,r1⟩,r2,r3,r4⟩:=h.reg k b lo hi hk hlt;have hlt':b<w.heap.size:=(h0B.1 r0).1;refine⟨⟨c',e',by rw[hb.block b hlt'];exact r0,r1⟩,r2,fun o ho1 ho2=>?_,r4⟩;simp only[Gh.freezeNew];rw[if_neg (by omega)];exact r3 o ho1 ho2
theorem d5i{E:Env}{G:Gh}{heap:List VObj}{arr:List Nat}{w0:Base}{w:World}(h:RelW E G heap arr w0 w){src dst e:TypeId}{s:ByteArray}{u:TypeDesc}
  (hs:E.P.underlying src=some u) (hd:E.P.underlying dst=some (.slice e)) (he:E.P.underlying e=some (.int .u8)) (h1:E.P.cellsOf e=1) (h2:E.P.bytesOf e=1) (h3:s.size≤140737488355328) :
  ∃ v w' G',(convert src dst (.string s)).run E.P w = .ok v w'∧Ext G arr G' arr∧RelW E G' heap arr w0 w'∧RV E.P G' arr (sl e (b2r s)) v:=by
 have hl:(b2r s).length=s.size:=by simp[b2r]
 have hget:∀ (i:Nat) el,(b2r s)[i]? = some el→∃ y:UInt8,s.data[i]? = some y∧el=[.int .u8 y.toNat]:=fun i el hi=>by
  unfold b2r at hi;rw[h0u]at hi;obtain⟨y,hy,rfl⟩:=h0p.1 hi;exact⟨y,by simpa using hy,rfl⟩
 have hcap:s.size≤grownCap w s.size 0 e:=by
  exact grownCap_ge _ _ _ _
 have hv:RV E.P (G.freezeNew w.heap.size (s.data.map fun b=>Value.int .u8 b.toNat)) arr (.slice .shared e (b2r s)) (.slice (some ⟨w.heap.size,0,none⟩) (b2r s).length (grownCap w s.size 0 e)):=by
  refine RV.ofCells (o := .shared) trivial (fun i el hi=>?_) ?_ (by omega) (by omega) fun i el j c hi hj=>?_
  ·obtain⟨y,_,rfl⟩:=hget i el hi;rw[h1];rfl
  ·rw[hl,h2];omega
  ·obtain⟨y,hy,rfl⟩:=hget i el hi
   match j with
   | 0 =>
    simp at hj;subst hj;refine⟨.int .u8 y.toNat,?_,.int _ _⟩;simp only[Gh.freezeNew,if_true,h1,Nat.mul_one,h1m,h0w,Array.getElem?_map,hy,h0D]
   | j+1=>simp at hj
 rw[hl]at hv;refine⟨_,_,G.freezeNew w.heap.size (s.data.map fun b=>Value.int .u8 b.toNat),Lib.run_convert_string_bytes w src dst e s hs hd he,h.extF _,h.belowF (w':=Lib.bytesWorld w e s) ⟨rfl,rfl,rfl,?_,fun k hk=>Lib.bytesWorld_at_old w e s k hk⟩ _ (fun j v hv=>?_) (fun j v hv=>?_),RV.sl hv⟩
 ·rw[Lib.bytesWorld_size];omega
 ·simp only[Array.getElem?_map]at hv;obtain⟨y,_,rfl⟩:=h0p.1 hv;rfl
 ·simp only[Array.getElem?_map]at hv;obtain⟨y,hy,rfl⟩:=h0p.1 hv;have hj:j<s.size:=by
   have:=(h0B.1 hy).1;exact this
  rw[Lib.bytesWorld_cell w e s j hj];simp[List.getD,hy]
end Go.Vg
namespace Go.Vg
open Go.RowKit
def b1e(ks:List Nat)(xs:List V):List (V×V)→Nat→Option (Option (Nat×V))
 | [],_=>some none
 | (.agg ys,v)::r,i=>if b3F ks xs ys then match eqL xs ys with
   | some true=>some (some (i,v))
   | some false=>b1e ks xs r (i+1)
   | none=>none
  else none
 | _::_,_=>none
theorem d5A{x y:V}(h:eq1 x y=some true):x=y:=by
 unfold eq1 at h;split at h
 ·simp at h;rw[h]
 ·split at h
  ·rename_i e;simp at h;rw[e,h]
  ·cases h
 ·simp at h;rw[h]
 ·cases h
theorem c6S:∀ {xs ys:List V},eqL xs ys=some true→xs=ys
 | [],[],_=>rfl
 | [],_::_,h=>by simp[eqL]at h
 | _::_,[],h=>by simp[eqL]at h
 | x::xs,y::ys,h=>by
  simp only[eqL]at h;split at h
  ·rename_i a b ha hb;simp only[Option.some.injEq,h0k]at h;obtain⟨rfl,rfl⟩:=h;rw[d5A ha,c6S hb]
  ·cases h
def c9q:Value→Bool
 | .string _ | .int _ _ | .bool _=>true
 | _=>false
theorem f2b{P:Program}{G:Gh}{arr:List Nat}{k:Nat}{x y:V}{u v:Value}(h:d1W k x y=true)(hu:RV P G arr x u)(hv:RV P G arr x v):u=v∧c9q u=true:=by
 unfold d1W at h;split at h
 ·cases hu;cases hv;exact⟨rfl,rfl⟩
 ·cases hu;cases hv;exact⟨rfl,rfl⟩
 ·cases hu;cases hv;exact⟨rfl,rfl⟩
 ·cases h
theorem c8s:∀ {ks:List Nat} {xs ys:List V},b3F ks xs ys=true→∀ (j:Nat) x,xs[j]? = some x→∃ k y,d1W k x y=true
 | [],[],[],_,j,x,hx=>by simp at hx
 | k::ks,a::xs,b::ys,h,j,x,hx=>by
  simp only[b3F,h0k]at h
  match j with
  | 0=>simp at hx;subst hx;exact⟨k,b,h.1⟩
  | j+1=>exact c8s h.2 j x (by simpa using hx)
 | [],_::_,_,h,_,_,_=>by simp[b3F]at h
 | [],[],_::_,h,_,_,_=>by simp[b3F]at h
 | _::_,[],_,h,_,_,_=>by simp[b3F]at h
 | _::_,_::_,[],h,_,_,_=>by simp[b3F]at h
theorem c7B{P:Program}{G:Gh}{arr:List Nat}{ks:List Nat}{xs ys:List V}{us vs:Array Value}(h:b3F ks xs ys=true)(hu:RV P G arr (.agg xs) (.agg us))(hv:RV P G arr (.agg xs) (.agg vs)):us=vs∧∀ (j:Nat) u,us[j]? = some u→c9q u=true:=by
 cases hu with
 | agg _ _ hlu hru =>
 cases hv with
 | agg _ _ hlv hrv =>
 have key:∀ (j:Nat) u,us[j]? = some u→vs[j]? = some u∧c9q u=true:=fun j u hj=>by
  have hjl:=(h0B.1 hj).1;have hxl:j<xs.length:=by omega
  have hvl:j<vs.size:=by omega
  obtain⟨k,y,hf⟩:=c8s h j _ (h0f hxl);obtain⟨e,hb⟩:=f2b hf (hru j _ _ (h0f hxl) hj) (hrv j _ _ (h0f hxl) (h0t hvl));exact⟨by rw[h0t hvl,e],hb⟩
 refine⟨?_,fun j u hj=>(key j u hj).2⟩;apply Array.ext
 ·omega
 ·intro i h1 h2;have:=(key i _ (h0t h1)).1;rw[h0t h2]at this;simpa using this.symm
theorem c2F{P:Program}{w:World}{α:Type}{body:α→PUnit→Sem (ForInStep PUnit)}:∀ {fs:List α},(∀ (i:Nat) f,fs[i]? = some f→(body f ()).run P w = .ok (.yield ()) w)→(forIn fs () body).run P w = .ok () w
 | [],_=>by simp
 | f::fs,h=>by
  rw[List.forIn_cons,h1E,h 0 f rfl];exact c2F fun i g hg=>h (i+1) g (by simpa using hg)
theorem g9H{P:Program}{G:Gh}{arr:List Nat}{w:World}(em:Bool):∀ (f:Nat) (t:TypeId) (ks:List Nat),b5r P f t=some ks→∀ (xs:List V) (vx:Value),xs.length=ks.length→c2k P G arr t xs vx→∀ d:Nat,
  (Instr.checkKey em (d+f) t vx).run P w = .ok () w:=by
 intro f;induction f with
 | zero=>intro t ks h;cases h
 | succ f ih =>
  intro t ks h xs vx hf hx d;rw[b5r]at h;rw[show d+(f+1)=d+f+1 from rfl,Instr.checkKey];split at h
  ·rename_i e;simp only[h1E,b0x e,h1D,h1F]
  ·rename_i e;simp only[h1E,b0x e,h1D,h1F]
  ·rename_i e;simp only[h1E,b0x e,h1D,h1F]
  ·rename_i fs hu;split at h
   ·cases h
   obtain⟨d1,hd1,hx⟩:=hx;rw[hu]at hd1;cases hd1;rcases hx with⟨_,hx⟩ | ⟨h1,_⟩
   case inr=>simp[c0Q]at h1
   cases hx with
   | agg _ vxs hlx hrx =>
   have key:∀ (fs:List Field) (o:Nat) (kk:List Nat),c0j P (b5r P f) o fs=some kk→o+kk.length≤xs.length →
     ∀ (i:Nat) g,fs[i]? = some g→g.name ≠ "_" ∧ ∃ v1,(part g.type vxs g.offset).run P w = .ok v1 w∧(Instr.checkKey em (d+f) g.type v1).run P w = .ok () w:=by
    intro fs;induction fs with
    | nil=>intro o kk _ _ i g hg;simp at hg
    | cons g fs ihf =>
     intro o kk hkk hff;simp only[c0j]at hkk;split at hkk
     case isFalse=>cases hkk
     rename_i hc;simp only[h0k,bne_iff_ne,ne_eq,h0l]at hc;obtain⟨hn,ho⟩:=hc;split at hkk
     case h_2=>cases hkk
     rename_i k1 r hk1 hkr;split at hkk
     case isFalse=>cases hkk
     rename_i hkl;obtain⟨hkl,hkp⟩:=hkl;simp only[Option.some.injEq]at hkk;subst hkk;rw[h0h,hkl]at hff;obtain⟨dd,hdd,hone⟩:=b6d hk1;obtain⟨v1,p1,c1⟩:=b3O (w:=w) (o:=o) hdd hlx hrx (by omega) fun h=>by rw[←hkl];exact hone h
     have hrun:=ih _ _ hk1 _ _ (by rw[List.length_take,h1i];omega) c1 d;intro i g' hg;cases i with
     | zero=>simp at hg;subst hg;exact⟨hn,v1,by rw[ho];exact p1,hrun⟩
     | succ i=>exact ihf _ _ hkr (by omega) i g' (by simpa using hg)
   simp only[h1E,b0x hu,h1D];rw[←Array.forIn_toList,c2F fun i g hg=>?_]
   ·rfl
   obtain⟨hn,v1,p1,hrun⟩:=key fs.toList 0 ks h (by omega) i g hg;simp only[ne_eq,hn,not_false_eq_true,if_true,h1E,p1,h1D,hrun,h1F]
  ·rename_i n el hu;split at h
   case h_2=>cases h
   rename_i k1 hk1;split at h
   case isFalse=>cases h
   rename_i hkl;obtain⟨hkl,hkp⟩:=hkl;simp only[Option.some.injEq]at h;subst h;obtain⟨d1,hd1,hx⟩:=hx;rw[hu]at hd1;cases hd1;rcases hx with⟨_,hx⟩ | ⟨h1,_⟩
   case inr=>simp[c0Q]at h1
   cases hx with
   | agg _ vxs hlx hrx =>
   obtain⟨dd,hdd,hone⟩:=b6d hk1;obtain⟨ie,hie⟩:=b2N hdd;have hlen:xs.length=n * P.cellsOf el:=by
    rw[hf,←hkl];have hrep:∀ n:Nat,(List.replicate n k1).flatten.length=n * k1.length:=fun n=>by
     induction n with
     | zero=>simp
     | succ n ihn=>rw[List.replicate_succ,h1b,h0h,ihn,Nat.succ_mul];omega
    exact hrep n
   simp only[h1E,b0x hu,h1D,Std.Legacy.Range.forIn_eq_forIn_range',Std.Legacy.Range.size,Nat.sub_zero,Nat.add_sub_cancel,Nat.div_one];rw[c2F fun i g hg=>?_]
   ·rfl
   have hgi:g=i∧i<n:=by
    have hil:=(h0b.1 hg).1;simp at hil;rw[List.getElem?_range' (by omega)]at hg;simp at hg;omega
   obtain⟨rfl,hin⟩:=hgi;have hle:g * P.cellsOf el+P.cellsOf el≤xs.length:=by
    rw[hlen,←Nat.succ_mul];exact h0P _ hin
   obtain⟨v1,p1,c1⟩:=b3O (w:=w) (o:=g * P.cellsOf el) hdd hlx hrx hle fun h=>by rw[←hkl];exact hone h
   have hrun:=ih _ _ hk1 _ _ (by rw[List.length_take,h1i];omega) c1 d;simp only[h1E,b0M hie,h1D,p1,hrun,h1F]
  ·cases h
theorem b7d{P:Program}{G:Gh}{arr:List Nat}{w:World}{t:TypeId}{xs:List V}{us:Array Value}{ks:List Nat}(hks:flatK P t=some ks)(h1:b3F ks xs xs=true)(hx:RV P G arr (.agg xs) (.agg us))(em:Bool) :
  (Instr.checkKey em 10000 t (.agg us)).run P w = .ok () w:=by
 obtain⟨⟨d,hd,ha,_⟩,_,hk⟩:=c2X hks;exact g9H em 20 t ks hk xs _ (b6n h1).1 ⟨d,hd,.inl ⟨ha,hx⟩⟩ 9980
theorem c6z{P:Program}{G:Gh}{arr:List Nat}{w:World}{t:TypeId}{xs:List V}{us:Array Value}{ks:List Nat}(hks:flatK P t=some ks)(hx:RV P G arr (.agg xs) (.agg us)):∀ (es:List (V×V)) (m:List MapEntry) (i:Nat) r,RP P G arr es m→b1e ks xs es i=some r →
  (r=none∧(Instr.findAsking t (.agg us) m i).run P w = .ok none w)∨∃ j v e,r=some (i+j,v)∧m[j]? = some e∧es[j]?.map (·.2)=some v∧(Instr.findAsking t (.agg us) m i).run P w = .ok (some (i+j,e.val)) w∧e.key = .agg us∧RV P G arr v e.val:=by
 intro es;induction es with
 | nil =>
  intro m i r hp h;have:m=[]:=h0G hp.1;subst this;simp only[b1e,Option.some.injEq]at h;subst h;exact .inl ⟨rfl,rfl⟩
 | cons p es ih =>
  obtain⟨k',v⟩:=p;intro m i r hp h;cases m with
  | nil=>have:=hp.1;simp at this
  | cons e m =>
   obtain⟨e',he',h1,h2⟩:=hp.2 0 k' v rfl;simp at he';subst he';obtain⟨ys,rfl⟩:∃ ys,k' = .agg ys:=by
    cases k' <;> first | exact⟨_,rfl⟩ | (simp[b1e]at h)
   simp only[b1e]at h;split at h
   case isFalse=>cases h
   rename_i hfit;obtain⟨vys,hvys⟩:∃ vys,e.key = .agg vys:=by
    generalize e.key=kk at h1;cases h1;exact⟨_,rfl⟩
   rw[hvys]at h1;obtain⟨b,hb,hrun⟩:=d0R (w:=w) hks hfit hx h1;rw[hb]at h;cases b with
   | true =>
    simp only[Option.some.injEq]at h;subst h;have e1:=c6S hb;subst e1;refine .inr ⟨0,v,e,rfl,rfl,rfl,?_,?_,h2⟩
    ·simp only[Instr.findAsking,hvys,h1E,hrun,h1D,if_true,h1F,h1m]
    ·rw[hvys,(c7B hfit hx h1).1]
   | false =>
    simp only at h;rcases ih m (i+1) r ⟨by have:=hp.1;simpa using this,fun j kx vx hj=>by
     obtain⟨e2,g1,g2⟩:=hp.2 (j+1) kx vx (by simpa using hj);exact⟨e2,by simpa using g1,g2⟩⟩ h with⟨g1,g2⟩ | ⟨j,u,e2,g1,g2,g3,g4,g5,g6⟩
    ·exact .inl ⟨g1,by simp only[Instr.findAsking,hvys,h1E,hrun,h1D,h0r,if_false,g2]⟩
    ·refine .inr ⟨j+1,u,e2,by rw[g1];congr 2;omega,by simpa using g2,by simpa using g3,?_,g5,g6⟩;simp only[Instr.findAsking,hvys,h1E,hrun,h1D,h0r,if_false,g4];congr 3;omega
theorem b4m{P:Program}{G:Gh}{arr:List Nat}{w:World}{t:TypeId}{xs:List V}{us:Array Value}{ks:List Nat}(hks:flatK P t=some ks)(hx:RV P G arr (.agg xs) (.agg us)){es:List (V×V)}{m:List MapEntry}{r:Option (Nat×V)}(hp:RP P G arr es m)(hf:b1e ks xs es 0=some r) :
  (r=none∧(Instr.findKey t (.agg us) m).run P w = .ok none w)∨∃ j v e,r=some (j,v)∧m[j]? = some e∧es[j]?.map (·.2)=some v∧(Instr.findKey t (.agg us) m).run P w = .ok (some (j,e.val)) w∧e.key = .agg us∧RV P G arr v e.val:=by
 obtain⟨⟨dd,hu,-,hsa⟩,-⟩:=c2X hks;have hrun:(Instr.findKey t (.agg us) m).run P w=(Instr.findAsking t (.agg us) m 0).run P w:=by
  simp only[Instr.findKey,h1E,b0x hu,h1D];rcases hsa with⟨fs,rfl⟩ | ⟨n,e,rfl⟩
  ·cases m with
   | nil=>simp[Instr.findNow,Instr.findAsking]
   | cons e m=>simp[Instr.findNow,Instr.sameNow]
  ·cases m with
   | nil=>simp[Instr.findNow,Instr.findAsking]
   | cons e m=>simp[Instr.findNow,Instr.sameNow]
 rcases c6z (w:=w) hks hx es m 0 r hp hf with⟨g1,g2⟩ | ⟨j,v,e,g1,g2,g3,g4,g5,g6⟩
 ·exact .inl ⟨g1,by rw[hrun,g2]⟩
 ·exact .inr ⟨j,v,e,by rw[g1,h0w],g2,g3,by rw[hrun,g4,h0w],g5,g6⟩
theorem c1e{n:Nat}{v:Value}(h:c9q v=true):Instr.sameBits n v v=true:=by
 unfold c9q at h;split at h
 ·cases n <;> simp[Instr.sameBits,MapKept.bytes_beq]
 ·cases n <;> simp[Instr.sameBits]
 ·cases n <;> simp[Instr.sameBits]
 ·cases h
theorem c6G{α:Type}(f:α×α→Bool):∀ l:List α,(∀ x∈l,f (x,x)=true)→(l.zip l).all f=true
 | [],_=>rfl
 | x::l,h=>by
  have ih:=c6G f l fun x hx=>h x (by simp[hx])
  rw[List.zip_cons_cons,List.all_cons,ih,h x (by simp)];rfl
theorem d0O{P:Program}{w:World}{us:Array Value}(h:∀ (j:Nat) u,us[j]? = some u→c9q u=true):(Instr.keyThatStays (.agg us) (.agg us)).run P w = .ok (.agg us) w:=by
 have:Instr.sameBits 10000 (.agg us) (.agg us)=true:=by
  have:∀ n:Nat,Instr.sameBits (n+1) (.agg us) (.agg us)=true:=fun n=>by
   simp only[Instr.sameBits,beq_self_eq_true,h0S];refine c6G _ _ fun x hx=>?_
   obtain⟨j,hj,e⟩:=h1h hx;exact c1e (h j x (by rw[←e];simp at hj ⊢))
  exact this 9999
 simp[Instr.keyThatStays,this]
def vLookA(E:Env)(heap:List VObj)(t:TypeId)(m:V)(xs:List V)(ok:Bool)(K:V→Prop):Prop :=
 match E.P.underlying t,b8K heap m with
 | some (.map kt et),some es=>match flatK E.P kt with
  | some ks=>b3F ks xs xs=true∧match b1e ks xs es 0 with
   | some (some (_,v))=>K (if ok then .tuple [v,.bool true]else v)
   | some none=>b0Q E.P et=true∧K (if ok then .tuple [b2S E.P et,.bool false]else b2S E.P et)
   | none=>False
  | none=>False
 | _,_=>False
def vLookK(E:Env)(heap:List VObj)(t:TypeId)(m k:V)(ok:Bool)(K:V→Prop):Prop:=match k with
 | .agg xs=>vLookA E heap t m xs ok K
 | k=>vLook E heap t m k ok K
theorem d2W{E:Env}{G:Gh}{heap:List VObj}{arr:List Nat}{w0:Base}{w:World}(h:RelW E G heap arr w0 w){t:TypeId}{m:V}{xs:List V}{vm vk:Value}{ok:Bool}{K:V→Prop}(hm:RV E.P G arr m vm)(hk:RV E.P G arr (.agg xs) vk)
  (hK:vLookA E heap t m xs ok K):∃ u y,(Instr.lookup t vm vk ok).run E.P w = .ok u w∧K y∧RV E.P G arr y u:=by
 unfold vLookA at hK;split at hK
 case h_2=>exact hK.elim
 rename_i kt et es ht hat;split at hK
 case h_2=>exact hK.elim
 rename_i ks hks;obtain⟨hkey,hK⟩:=hK;obtain⟨us,rfl⟩:∃ us,vk = .agg us:=by cases hk;exact⟨_,rfl⟩
 have hes:∃ ms:Array MapEntry,RP E.P G arr es ms.toList∧((vm = .map none∧ms = #[])∨∃ b clk,vm = .map (some b)∧w.heap[b]? = some (.map ms clk)):=by
  unfold b8K at hat;split at hat
  ·cases hm
   simp only[Option.some.injEq]at hat;subst hat;exact⟨#[],⟨rfl,by simp⟩,.inl ⟨rfl,rfl⟩⟩
  ·rename_i id;split at hat
   ·rename_i es' hh;simp only[Option.some.injEq]at hat;subst hat;cases hm with
    | map _ b hb =>
     obtain⟨b',hb',ms,clk,g1,g2,g3⟩:=h.obj id _ hh;rw[hb]at hb';cases hb';refine⟨ms,⟨by simpa using g2,fun j kx vx hj=>?_⟩,.inr ⟨b,clk,rfl,g1⟩⟩;obtain⟨e,q1,q2⟩:=g3 j kx vx hj;exact⟨e,by simpa using q1,q2⟩
   ·cases hat
  ·cases hat
 obtain⟨ms,hrp,hvm⟩:=hes;have hck:=b7d (w:=w) hks hkey hk ms.isEmpty;split at hK
 ·rename_i i v hf;rcases b4m (w:=w) hks hk hrp hf with⟨g1,_⟩ | ⟨j,v',e,g1,g2,g3,g4,g5,g6⟩
  ·cases g1
  ·simp only[Option.some.injEq,Prod.mk.injEq]at g1;obtain⟨_,rfl⟩:=g1;have hfk:=g4;cases ok with
   | true =>
    refine⟨.tuple #[e.val,.bool true],_,?_,hK,?_⟩
    ·rcases hvm with⟨rfl,rfl⟩ | ⟨b,clk,rfl,hb⟩
     ·simp only[Instr.lookup,h1E,b0x ht,h1D,hck,hfk,h1F,if_true]
     ·simp only[Instr.lookup,h1E,b0x ht,h1D,MapKept.run_getObj_map hb,hck,hfk,h1F,if_true]
    ·refine .tuple _ _ rfl fun j c u hc hu=>?_
     match j with
     | 0=>simp at hc hu;subst hc hu;exact g6
     | 1=>simp at hc hu;subst hc hu;exact .bool _
     | j+2=>simp at hc
   | false =>
    refine⟨e.val,_,?_,hK,g6⟩;rcases hvm with⟨rfl,rfl⟩ | ⟨b,clk,rfl,hb⟩
    ·simp only[Instr.lookup,h1E,b0x ht,h1D,hck,hfk,h1F,h0r,if_false]
    ·simp only[Instr.lookup,h1E,b0x ht,h1D,MapKept.run_getObj_map hb,hck,hfk,h1F,h0r,if_false]
 ·rename_i hf;obtain⟨hz,hK⟩:=hK;rcases b4m (w:=w) hks hk hrp hf with⟨_,hfk⟩ | ⟨j,v',e,g1,_⟩
  ·obtain⟨i,z,hi,hz'⟩:=b3U (E:=E) (t:=et) hz;have hzv:RV E.P G arr (b2S E.P et) z:=by
    unfold b2S;rw[hi];simp only[hz'];exact RV.ofV z
   have hzr:=b1R (w:=w) hi hz';cases ok with
   | true =>
    refine⟨.tuple #[z,.bool false],_,?_,hK,?_⟩
    ·rcases hvm with⟨rfl,rfl⟩ | ⟨b,clk,rfl,hb⟩
     ·simp only[Instr.lookup,h1E,b0x ht,h1D,hck,hfk,h1F,if_true,hzr]
     ·simp only[Instr.lookup,h1E,b0x ht,h1D,MapKept.run_getObj_map hb,hck,hfk,h1F,if_true,hzr]
    ·refine .tuple _ _ rfl fun j c u hc hu=>?_
     match j with
     | 0=>simp at hc hu;subst hc hu;exact hzv
     | 1=>simp at hc hu;subst hc hu;exact .bool _
     | j+2=>simp at hc
   | false =>
    refine⟨z,_,?_,hK,hzv⟩;rcases hvm with⟨rfl,rfl⟩ | ⟨b,clk,rfl,hb⟩
    ·simp only[Instr.lookup,h1E,b0x ht,h1D,hck,hfk,h1F,h0r,if_false,hzr]
    ·simp only[Instr.lookup,h1E,b0x ht,h1D,MapKept.run_getObj_map hb,hck,hfk,h1F,h0r,if_false,hzr]
  ·cases g1
 ·exact hK.elim
theorem d3I{E:Env}{G:Gh}{heap:List VObj}{arr:List Nat}{w0:Base}{w:World}(h:RelW E G heap arr w0 w){t:TypeId}{m k:V}{vm vk:Value}{ok:Bool}{K:V→Prop}(hm:RV E.P G arr m vm)(hk:RV E.P G arr k vk)
  (hK:vLookK E heap t m k ok K):∃ u y,(Instr.lookup t vm vk ok).run E.P w = .ok u w∧K y∧RV E.P G arr y u:=by
 unfold vLookK at hK;split at hK
 ·exact d2W h hm hk hK
 ·exact d5X h hm hk hK
def vMapSetA(E:Env)(heap:List VObj)(t:TypeId)(m:V)(xs:List V)(v:V)(K:List VObj→Prop):Prop :=
 match E.P.underlying t,m with
 | some (.map kt _),.map id=>match heap[id]?,flatK E.P kt with
  | some (.map es),some ks=>b3F ks xs xs=true∧match b1e ks xs es 0 with
   | some (some (j,_))=>K (heap.set id (.map (es.set j (.agg xs,v))))
   | some none=>K (heap.set id (.map (es++[(.agg xs,v)])))
   | none=>False
  | _,_=>False
 | _,_=>False
def vMapSetK(E:Env)(heap:List VObj)(t:TypeId)(m k v:V)(K:List VObj→Prop):Prop:=match k with
 | .agg xs=>vMapSetA E heap t m xs v K
 | k=>vMapSet E heap t m k v K
theorem c5D{E:Env}{G:Gh}{heap:List VObj}{arr:List Nat}{w0:Base}{w:World}(h:RelW E G heap arr w0 w){t:TypeId}{m x:V}{xs:List V}{vm vk vx:Value}{K:List VObj→Prop}(hm:RV E.P G arr m vm)(hk:RV E.P G arr (.agg xs) vk)
  (hx:RV E.P G arr x vx) (hK:vMapSetA E heap t m xs x K):∃ w' heap',(Instr.mapUpdate t vm vk vx).run E.P w = .ok () w'∧K heap'∧RelW E G heap' arr w0 w':=by
 unfold vMapSetA at hK;split at hK
 case h_2=>exact hK.elim
 rename_i kt et id ht;split at hK
 case h_2=>exact hK.elim
 rename_i es ks hh hks;obtain⟨hkey,hK⟩:=hK;obtain⟨us,rfl⟩:∃ us,vk = .agg us:=by cases hk;exact⟨_,rfl⟩
 cases hm with
 | map _ b hb =>
  obtain⟨b',hb',ms,clk,g1,g2,g3⟩:=h.obj id _ hh;rw[hb]at hb';cases hb';have hrp:RP E.P G arr es ms.toList:=⟨by simpa using g2,fun j kx vx hj=>by
   obtain⟨e,q1,q2⟩:=g3 j kx vx hj;exact⟨e,by simpa using q1,q2⟩⟩
  have hck:=b7d (w:=w) hks hkey hk false;have hidl:=(h0b.1 hh).1;have hbl:b<w.heap.size:=(h0B.1 g1).1;have go:∀ (ms':Array MapEntry) (clk':Nat) (es':List (V×V)),RP E.P G arr es' ms'.toList→RelW E G (heap.set id (.map es')) arr w0 { w with heap:=w.heap.setIfInBounds b (.map ms' clk') }:=by
   intro ms' clk' es' hp;refine h.change hb hidl (by rw[hh];simp) rfl rfl rfl (by simp) (fun k hk=>by simp[Array.getElem?_setIfInBounds_ne (Ne.symm hk)]) ⟨ms',clk',by simp[hbl],by simpa using hp.1,fun j kx vx hj=>?_⟩;obtain⟨e,q1,q2⟩:=hp.2 j kx vx hj;exact⟨e,by simpa using q1,q2⟩
  split at hK
  ·rename_i j v hf;rcases b4m (w:=w) hks hk hrp hf with⟨q1,_⟩ | ⟨j',v',e,q1,q2,q3,q4,q5,q6⟩
   ·cases q1
   ·simp only[Option.some.injEq,Prod.mk.injEq]at q1;obtain⟨rfl,rfl⟩:=q1;have hj:ms[j]? = some e:=by simpa using q2
    have hkeep:=d0O (P:=E.P) (w:=w) (c7B hkey hk hk).2;refine⟨_,_,?_,hK,go (ms.modify j fun e=>{ e with key := .agg us,val:=vx }) clk _ ⟨by simp[hrp.1],fun i kx ux hi=>?_⟩⟩
    ·simp only[Instr.mapUpdate,h1E,b0x ht,h1D,MapKept.run_getObj_map g1,hck,q4,hj,h0D,h0A,q5,hkeep,MapKept.run_setObj_map _ g1]
    ·by_cases hij:i=j
     ·subst hij;have hjl:i<es.length:=by
       rcases h1A i es.length with h' | h'
       ·exact h'
       ·rw[h0O (by simpa using h')]at hi;cases hi
      rw[h0i hjl]at hi;cases hi
      exact⟨{ e with key := .agg us,val:=vx },by simp[hj],hk,hx⟩
     ·rw[h0m (Ne.symm hij)]at hi;obtain⟨e2,r1,r2⟩:=hrp.2 i kx ux hi;refine⟨e2,?_,r2⟩;simp only[Array.getElem?_toList]at r1 ⊢;rw[Array.getElem?_modify,if_neg (Ne.symm hij)];exact r1
  ·rename_i hf;rcases b4m (w:=w) hks hk hrp hf with⟨_,hfk⟩ | ⟨j',v',e,q1,_⟩
   ·refine⟨_,_,?_,hK,go (ms.push { key := .agg us,val:=vx,born:=clk }) (clk+1) _ ⟨by simp[hrp.1],fun i kx ux hi=>?_⟩⟩
    ·simp only[Instr.mapUpdate,h1E,b0x ht,h1D,MapKept.run_getObj_map g1,hck,hfk,MapKept.run_setObj_map _ g1]
    ·have hl:=hrp.1;simp only[Array.toList_push];by_cases hil:i<es.length
     ·rw[h0e hil]at hi;obtain⟨e2,r1,r2⟩:=hrp.2 i kx ux hi;exact⟨e2,by rw[h0e (by omega)];exact r1,r2⟩
     ·rw[h0g (by omega)]at hi;have hi0:i - es.length=0:=by
       rcases Nat.eq_zero_or_pos (i - es.length)with h' | h'
       ·exact h'
       ·rw[h0O (by simp;omega)]at hi;cases hi
      rw[hi0]at hi;simp at hi;obtain⟨rfl,rfl⟩:=hi;exact⟨{ key := .agg us,val:=vx,born:=clk },by rw[h0g (by omega),hl,hi0];rfl,hk,hx⟩
   ·cases q1
  ·exact hK.elim
theorem b9F{E:Env}{G:Gh}{heap:List VObj}{arr:List Nat}{w0:Base}{w:World}(h:RelW E G heap arr w0 w){t:TypeId}{m k x:V}{vm vk vx:Value}{K:List VObj→Prop}(hm:RV E.P G arr m vm)(hk:RV E.P G arr k vk)
  (hx:RV E.P G arr x vx) (hK:vMapSetK E heap t m k x K):∃ w' heap',(Instr.mapUpdate t vm vk vx).run E.P w = .ok () w'∧K heap'∧RelW E G heap' arr w0 w':=by
 unfold vMapSetK at hK;split at hK
 ·exact c5D h hm hk hx hK
 ·exact c9K h hm hk hx hK
end Go.Vg
