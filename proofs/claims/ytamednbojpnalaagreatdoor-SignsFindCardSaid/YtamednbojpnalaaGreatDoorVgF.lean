/- The operations on trees, part 4: building. -/
import Derived.Test.YtamednbojpnalaaGreatDoorVgE
set_option linter.unusedVariables false
set_option linter.unusedSimpArgs false
namespace Go.Vg
open Go.RowKit
def V.some? : V→Bool
 | .junk=>false
 | _=>true
theorem V.some?_ne{x:V}(h:x.some? = true):x ≠ .junk:=fun e=>by subst e;simp[V.some?]at h
theorem oneCell_of{v:Value}(h:(∀ cs,v ≠ .agg cs)∧∀ cs,v ≠ .tuple cs):v.oneCell'=true:=by
 cases v
 case agg cs=>exact absurd rfl (h.1 cs)
 case tuple cs=>exact absurd rfl (h.2 cs)
 all_goals rfl
def RL(P:Program)(G:Gh)(arr:List Nat)(cs:List V)(vs:Array Value):Prop :=
 vs.size=cs.length∧∀ (j:Nat) c v,cs[j]? = some c→vs[j]? = some v→RV P G arr c v
theorem set_fold_get(off:Nat):∀ (vs:List Value) (i:Nat) (cells:Array Value),off+i+vs.length≤cells.size →
  ((vs.zipIdx i).foldl (fun(cs:Array Value) (p:Value×Nat)=>cs.setIfInBounds (off+p.2) p.1) cells).size=cells.size ∧
  ∀ j,((vs.zipIdx i).foldl (fun(cs:Array Value) (p:Value×Nat)=>cs.setIfInBounds (off+p.2) p.1) cells)[j]? = if off+i≤j∧j<off+i+vs.length then vs[j - (off+i)]? else cells[j]?:=by
 intro vs
 induction vs with
 | nil=>intro i cells h;refine⟨rfl,fun j=>?_⟩;simp only[List.length_nil,List.zipIdx_nil,List.foldl_nil];rw[if_neg (by omega)]
 | cons v vs ih =>
  intro i cells h
  simp only[List.length_cons]at h
  simp only[List.zipIdx_cons,List.foldl_cons,List.length_cons]
  obtain⟨h1,h2⟩:=ih (i+1) (cells.setIfInBounds (off+i) v) (by simp;omega)
  refine⟨by rw[h1];simp,fun j=>?_⟩
  rw[h2 j]
  by_cases e1:j=off+i
  ·subst e1
   rw[if_neg (by omega),if_pos (by omega)]
   have:off+i<cells.size:=by omega
   simp[this]
  ·by_cases e2:off+(i+1)≤j∧j<off+(i+1)+vs.length
   ·rw[if_pos e2,if_pos (by omega)]
    have:j - (off+i)=(j - (off+(i+1)))+1:=by omega
    rw[this];simp
   ·rw[if_neg e2,if_neg (by omega)]
    simp[Ne.symm e1]
def fillV(place:Nat→Option (Nat×Nat)):List V→List (Nat×V)→Option (List V)
 | cs,[]=>some cs
 | cs,(i,x)::r =>
  match place i with
  | none=>none
  | some (off,size)=>if x.some? = true∧(cellsV x).length=size∧off+size≤cs.length then fillV place (over cs off (cellsV x)) r else none
theorem fill_rel{P:Program}{G:Gh}{arr:List Nat}{place:Nat→Option (Nat×Nat)}:∀ (parts:List (Nat×V)) (vparts:List (Nat×Value)) (cs:List V) (vs:Array Value) (cs':List V),
  RL P G arr cs vs→parts.length=vparts.length→(∀ (j:Nat) p q,parts[j]? = some p→vparts[j]? = some q→p.1=q.1∧RV P G arr p.2 q.2)→fillV place cs parts=some cs' →
  ∃ vs',Instr.fill place vs vparts=some vs'∧RL P G arr cs' vs':=by
 intro parts
 induction parts with
 | nil =>
  intro vparts cs vs cs' hr hl _ hf
  cases vparts with
  | nil=>simp only[fillV]at hf;cases hf;exact⟨vs,rfl,hr⟩
  | cons _ _=>simp at hl
 | cons p parts ih =>
  intro vparts cs vs cs' hr hl hp hf
  cases vparts with
  | nil=>simp at hl
  | cons q vparts =>
   obtain⟨i,x⟩:=p
   obtain⟨i',v⟩:=q
   obtain⟨hii,hxv⟩:=hp 0 _ _ rfl rfl
   simp only at hii hxv
   subst hii
   simp only[fillV]at hf
   split at hf
   ·cases hf
   ·rename_i off size hpl
    split at hf
    ·rename_i hc
     obtain⟨hs,hsz,hle⟩:=hc
     obtain⟨hl1,hr1⟩:=hxv.cellsV (V.some?_ne hs)
     obtain⟨g1,g2⟩:=set_fold_get off v.cells.toList 0 vs (by rw[hr.1];simp;omega)
     have hfold:v.cells.zipIdx.foldl (fun(cs:Array Value) (p:Value×Nat)=>cs.setIfInBounds (off+p.2) p.1) vs =
       (v.cells.toList.zipIdx 0).foldl (fun(cs:Array Value) (p:Value×Nat)=>cs.setIfInBounds (off+p.2) p.1) vs:=by
      rw[←Array.foldl_toList,Array.toList_zipIdx]
     obtain⟨vs',h1,h2⟩:=ih vparts (over cs off (cellsV x)) (v.cells.zipIdx.foldl (fun(cs:Array Value) (p:Value×Nat)=>cs.setIfInBounds (off+p.2) p.1) vs) cs'
      ⟨by rw[hfold,g1,over_length _ _ _ (by omega)];exact hr.1,fun j c u hc hu=>by
       rw[over_get _ _ _ (by omega)]at hc
       rw[hfold,g2 j]at hu
       simp only[Nat.add_zero,Array.length_toList]at hu
       by_cases hin:off≤j∧j<off+(cellsV x).length
       ·rw[if_pos hin]at hc
        rw[if_pos (by omega)]at hu
        exact hr1 _ _ _ hc (by simpa using hu)
       ·rw[if_neg hin]at hc
        rw[if_neg (by omega)]at hu
        exact hr.2 j c u hc hu⟩ (by simpa using hl) (fun j p q hp' hq'=>hp (j+1) p q (by simpa using hp') (by simpa using hq')) hf
     refine⟨vs',?_,h2⟩
     simp only[Instr.fill,hpl]
     rw[if_neg (by rw[hr.1,Bool.or_eq_true,decide_eq_true_eq,decide_eq_true_eq];omega)]
     exact h1
    ·cases hf
def zeroL(E:Env)(t:TypeId):List V :=
 match E.P.info? t with
 | some i=>match i.zero with
  | some z=>z.cells.toList.map ofV1
  | none=>[]
 | none=>[]
theorem zeroL_rel{E:Env}{G:Gh}{arr:List Nat}{t:TypeId}{i:TypeInfo}{z:Value}(hi:E.P.info? t=some i)(hz:i.zero=some z):RL E.P G arr (zeroL E t) z.cells:=by
 simp only[zeroL,hi,hz]
 refine⟨by simp,fun j c v hc hv=>?_⟩
 simp only[List.getElem?_map,Array.getElem?_toList,hv,Option.map_some,Option.some.injEq]at hc
 exact hc ▸ RV.ofV1 v
def zeroOK(E:Env)(t:TypeId):Bool :=
 match E.P.info? t with
 | some i=>i.zero.isSome
 | none=>false
theorem zeroOK_spec{E:Env}{t:TypeId}(h:zeroOK E t=true):∃ i z,E.P.info? t=some i∧i.zero=some z:=by
 unfold zeroOK at h
 cases hi:E.P.info? t with
 | none=>simp[hi]at h
 | some i =>
  simp only[hi]at h
  obtain⟨z,hz⟩:=Option.isSome_iff_exists.1 h
  exact⟨i,z,rfl,hz⟩
theorem run_zeroValue{P:Program}{w:World}{t:TypeId}{i:TypeInfo}{z:Value}(hi:P.info? t=some i)(hz:i.zero=some z):(zeroValue t).run P w = .ok z w:=by
 simp[zeroValue,run_info hi,hz]
def places(P:Program)(fs:Array Field)(i:Nat):Option (Nat×Nat):=(fs[i]?).map fun f=>(f.offset,P.cellsOf f.type)
def infoOK(P:Program)(t:TypeId):Bool:=(P.info? t).isSome
def vBuild(E:Env)(t:TypeId)(parts:List (Nat×V))(K:V→Prop):Prop :=
 match E.P.underlying t with
 | some (.struct fs)=>(zeroOK E t=true∧fs.all (fun f=>infoOK E.P f.type)=true) ∧
  match fillV (places E.P fs) (zeroL E t) parts with
  | some cs=>K (.agg cs)
  | none=>False
 | some (.array _ e)=>(zeroOK E t=true∧infoOK E.P e=true) ∧
  match fillV (fun i=>some (i * E.P.cellsOf e,E.P.cellsOf e)) (zeroL E t) parts with
  | some cs=>K (.agg cs)
  | none=>False
 | _=>False
theorem run_mapM_sizes{P:Program}{w:World}:∀ (fs:List Field),(fs.all fun f=>infoOK P f.type)=true →
  (fs.mapM fun f=>(do pure (f.offset,←sizeOf f.type):Sem (Nat×Nat))).run P w = .ok (fs.map fun f=>(f.offset,P.cellsOf f.type)) w:=by
 intro fs
 induction fs with
 | nil=>intro _;rfl
 | cons f fs ih =>
  intro h
  simp only[List.all_cons,Bool.and_eq_true]at h
  obtain⟨i,hi⟩:=Option.isSome_iff_exists.1 h.1
  simp only[List.mapM_cons,Sem.run_bind,run_sizeOf hi,Result.andThen_ok,Sem.run_pure,ih h.2,List.map_cons]
theorem build_out{E:Env}{G:Gh}{arr:List Nat}{w:World}{t:TypeId}{parts:List (Nat×V)}{vparts:Array (Nat×Value)}{K:V→Prop}(hl:parts.length=vparts.size)
  (hp:∀ (j:Nat) p q,parts[j]? = some p→vparts[j]? = some q→p.1=q.1∧RV E.P G arr p.2 q.2) (hK:vBuild E t parts K) :
  ∃ u y,(Instr.build t vparts).run E.P w = .ok u w∧K y∧RV E.P G arr y u:=by
 have fin:∀ (place:Nat→Option (Nat×Nat)) i z,E.P.info? t=some i→i.zero=some z→(match fillV place (zeroL E t) parts with | some cs=>K (.agg cs) | none=>False) →
   ∃ cells y,Instr.fill place z.cells vparts.toList=some cells∧K y∧RV E.P G arr y (.agg cells):=by
  intro place i z hi hz hk
  cases hf:fillV place (zeroL E t) parts with
  | none=>rw[hf]at hk;exact hk.elim
  | some cs =>
   rw[hf]at hk
   obtain⟨vs',h1,h2,h3⟩:=fill_rel parts vparts.toList (zeroL E t) z.cells cs (zeroL_rel hi hz) (by simpa using hl) (fun j p q hj hq=>hp j p q hj (by simpa using hq)) hf
   exact⟨vs',_,h1,hk,.agg _ _ h2.symm h3⟩
 unfold vBuild at hK
 split at hK
 ·rename_i fs hd
  obtain⟨⟨h1,h2⟩,hk⟩:=hK
  obtain⟨i,z,hi,hz⟩:=zeroOK_spec h1
  obtain⟨cells,y,g1,g2,g3⟩:=fin _ i z hi hz hk
  refine⟨.agg cells,y,?_,g2,g3⟩
  have hm:(fs.mapM fun f=>(do pure (f.offset,←sizeOf f.type):Sem (Nat×Nat))).run E.P w = .ok (fs.map fun f=>(f.offset,E.P.cellsOf f.type)) w:=by
   have:=run_mapM_sizes (P:=E.P) (w:=w) fs.toList (by simpa using h2)
   rw[Array.mapM_eq_mapM_toList]
   simp only[Sem.run_map,this,Result.andThen_ok]
   congr 1
   apply Array.ext'
   simp
  have hplace:(fun i=>(fs.map fun f=>(f.offset,E.P.cellsOf f.type))[i]?)=places E.P fs:=by
   funext i;simp[places]
  simp only[Instr.build,Sem.run_bind,run_zeroValue hi hz,Result.andThen_ok,run_und hd,hm,hplace,g1,Sem.run_pure]
 ·rename_i n e hd
  obtain⟨⟨h1,h2⟩,hk⟩:=hK
  obtain⟨i,z,hi,hz⟩:=zeroOK_spec h1
  obtain⟨cells,y,g1,g2,g3⟩:=fin _ i z hi hz hk
  obtain⟨ie,hie⟩:=Option.isSome_iff_exists.1 h2
  refine⟨.agg cells,y,?_,g2,g3⟩
  simp only[Instr.build,Sem.run_bind,run_zeroValue hi hz,Result.andThen_ok,run_und hd,run_sizeOf hie,g1,Sem.run_pure]
 ·exact hK.elim
def setEls(n sz:Nat):List (List V)→List (Nat×V)→Option (List (List V))
 | es,[]=>some es
 | es,(i,x)::r=>if x.some? = true∧(cellsV x).all V.cell=true∧(cellsV x).length=sz∧i<n then setEls n sz (es.set i ((cellsV x).map share1)) r else none
def RR(P:Program)(G:Gh)(arr:List Nat)(sz:Nat)(es:List (List V))(vs:Array Value):Prop :=
 vs.size=es.length * sz∧(∀ (i:Nat) el,es[i]? = some el→el.length=sz)∧(∀ (j:Nat) v,vs[j]? = some v→v.oneCell'=true) ∧
 ∀ (i:Nat) el (j:Nat) c,es[i]? = some el→el[j]? = some c→∃ u,vs[i * sz+j]? = some u∧RV P G arr c u
theorem setEls_rel{P:Program}{G:Gh}{arr:List Nat}{n sz:Nat}:∀ (parts:List (Nat×V)) (vparts:List (Nat×Value)) (es:List (List V)) (vs:Array Value) (es':List (List V)),
  es.length=n→RR P G arr sz es vs→parts.length=vparts.length→(∀ (j:Nat) p q,parts[j]? = some p→vparts[j]? = some q→p.1=q.1∧RV P G arr p.2 q.2)→setEls n sz es parts=some es' →
  ∃ vs',Instr.fill (fun i=>some (i * sz,sz)) vs vparts=some vs'∧RR P G arr sz es' vs'∧es'.length=n:=by
 intro parts
 induction parts with
 | nil =>
  intro vparts es vs es' hn hr hl _ hf
  cases vparts with
  | nil=>simp only[setEls]at hf;cases hf;exact⟨vs,rfl,hr,hn⟩
  | cons _ _=>simp at hl
 | cons p parts ih =>
  intro vparts es vs es' hn hr hl hp hf
  cases vparts with
  | nil=>simp at hl
  | cons q vparts =>
   obtain⟨i,x⟩:=p
   obtain⟨i',v⟩:=q
   obtain⟨hii,hxv⟩:=hp 0 _ _ rfl rfl
   simp only at hii hxv
   subst hii
   simp only[setEls]at hf
   split at hf
   ·rename_i hc
    obtain⟨hs,hcell,hsz,hin⟩:=hc
    obtain⟨hl1,hr1⟩:=hxv.cellsV (V.some?_ne hs)
    obtain⟨r1,r2,r3,r4⟩:=hr
    have hmul:(i+1) * sz≤es.length * sz:=Nat.mul_le_mul_right _ (by omega)
    rw[Nat.add_mul,Nat.one_mul]at hmul
    obtain⟨g1,g2⟩:=set_fold_get (i * sz) v.cells.toList 0 vs (by rw[r1];simp;omega)
    have hfold:v.cells.zipIdx.foldl (fun(cs:Array Value) (p:Value×Nat)=>cs.setIfInBounds (i * sz+p.2) p.1) vs =
      (v.cells.toList.zipIdx 0).foldl (fun(cs:Array Value) (p:Value×Nat)=>cs.setIfInBounds (i * sz+p.2) p.1) vs:=by
     rw[←Array.foldl_toList,Array.toList_zipIdx]
    obtain⟨vs',h1,h2,h3⟩:=ih vparts (es.set i ((cellsV x).map share1)) (v.cells.zipIdx.foldl (fun(cs:Array Value) (p:Value×Nat)=>cs.setIfInBounds (i * sz+p.2) p.1) vs) es' (by simpa using hn)
     ⟨by rw[hfold,g1,r1];simp,fun j el hj=>by
      by_cases e:j=i
      ·subst e
       rw[List.getElem?_set_self (by omega)]at hj
       cases hj;simpa using hsz
      ·rw[List.getElem?_set_ne (Ne.symm e)]at hj
       exact r2 j el hj,fun j u hu=>by
      rw[hfold,g2 j]at hu
      simp only[Nat.add_zero,Array.length_toList]at hu
      by_cases hjin:i * sz≤j∧j<i * sz+v.cells.size
      ·rw[if_pos hjin]at hu
       have hjc:j - i * sz<(cellsV x).length:=by omega
       have hu':v.cells[j - i * sz]? = some u:=by simpa using hu
       have h1:=hr1 _ _ _ (List.getElem?_eq_getElem hjc) hu'
       have:=h1.cell_one (List.all_eq_true.1 hcell _ (List.getElem_mem hjc))
       exact oneCell_of this
      ·rw[if_neg hjin]at hu
       exact r3 j u hu,fun k el j c hk hj=>by
      by_cases e:k=i
      ·subst e
       rw[List.getElem?_set_self (by omega)]at hk
       cases hk
       rw[List.getElem?_map]at hj
       obtain⟨c',hc',rfl⟩:=Option.map_eq_some_iff.1 hj
       have hjl:=(List.getElem?_eq_some_iff.1 hc').1
       have hjv:j<v.cells.size:=by omega
       refine⟨v.cells[j],?_,(hr1 j c' _ hc' (Array.getElem?_eq_getElem hjv)).share1⟩
       rw[hfold,g2]
       simp only[Nat.add_zero,Array.length_toList]
       rw[if_pos (by omega),show k * sz+j - k * sz=j by omega]
       simp[hjv]
      ·rw[List.getElem?_set_ne (Ne.symm e)]at hk
       obtain⟨u,hu,hru⟩:=r4 k el j c hk hj
       refine⟨u,?_,hru⟩
       rw[hfold,g2]
       simp only[Nat.add_zero,Array.length_toList]
       have hjl:=(List.getElem?_eq_some_iff.1 hj).1
       have hel:=r2 k el hk
       rw[if_neg]
       ·exact hu
       ·intro hh
        rcases Nat.lt_or_gt_of_ne e with hlt | hgt
        ·have:(k+1) * sz≤i * sz:=Nat.mul_le_mul_right _ (by omega)
         rw[Nat.add_mul,Nat.one_mul]at this
         omega
        ·have:(i+1) * sz≤k * sz:=Nat.mul_le_mul_right _ (by omega)
         rw[Nat.add_mul,Nat.one_mul]at this
         omega⟩ (by simpa using hl) (fun j p q hp' hq'=>hp (j+1) p q (by simpa using hp') (by simpa using hq')) hf
    refine⟨vs',?_,h2,h3⟩
    simp only[Instr.fill]
    rw[if_neg (by rw[Bool.or_eq_true,decide_eq_true_eq,decide_eq_true_eq];omega)]
    exact h1
   ·cases hf
def vBuildSlice(E:Env)(t:TypeId)(len:Nat)(parts:List (Nat×V))(K:V→Prop):Prop :=
 match E.P.underlying t with
 | some (.slice e)=>(elemOK E.P e=true∧len * E.P.cellsOf e≤16777216) ∧
  match setEls len (E.P.cellsOf e) (List.replicate len ((zeroL E e).map share1)) parts with
  | some es=>K (.slice .full e es)
  | none=>False
 | _=>False
theorem buildSlice_out{E:Env}{G:Gh}{heap:List VObj}{arr:List Nat}{w0:Base}{w:World}(h:RelW E G heap arr w0 w){t:TypeId}{len:Nat}{parts:List (Nat×V)}{vparts:Array (Nat×Value)}
  {K:V→Prop} (hl:parts.length=vparts.size) (hp:∀ (j:Nat) p q,parts[j]? = some p→vparts[j]? = some q→p.1=q.1∧RV E.P G arr p.2 q.2) (hK:vBuildSlice E t len parts K) :
  ∃ u y G' w',(Instr.buildSlice t len vparts).run E.P w = .ok u w'∧K y∧Ext G arr G' arr∧RelW E G' heap arr w0 w'∧RV E.P G' arr y u:=by
 unfold vBuildSlice at hK
 split at hK
 case h_2=>exact hK.elim
 rename_i e hd
 obtain⟨⟨hok,hle⟩,hk⟩:=hK
 obtain⟨i,z,hi,hz,hz1,hzs,his,hib,hs1,hb1,hb2⟩:=elemOK_spec hok
 cases hf:setEls len (E.P.cellsOf e) (List.replicate len ((zeroL E e).map share1)) parts with
 | none=>rw[hf]at hk;exact hk.elim
 | some es =>
  rw[hf]at hk
  have hzl:=zeroL_rel (G:=G) (arr:=arr) hi hz
  have hr0:RR E.P G arr (E.P.cellsOf e) (List.replicate len ((zeroL E e).map share1)) ((Array.range (len * E.P.cellsOf e)).map (z.cells[· % z.cells.size]!)):=by
   refine⟨by simp,fun j el hj=>?_,fun j v hv=>?_,fun k el j c hk' hj=>?_⟩
   ·rw[List.getElem?_replicate]at hj
    split at hj <;> cases hj
    rw[List.length_map,←hzl.1];exact hzs
   ·rw[Array.getElem?_map]at hv
    obtain⟨j',hj',rfl⟩:=Option.map_eq_some_iff.1 hv
    have hlt:j' % z.cells.size<z.cells.size:=Nat.mod_lt _ (by omega)
    rw[getElem!_pos z.cells _ hlt]
    exact Array.all_eq_true.1 hz1 _ hlt
   ·rw[List.getElem?_replicate]at hk'
    have hkl:k<len:=by
     split at hk'
     ·assumption
     ·cases hk'
    rw[if_pos hkl]at hk'
    cases hk'
    rw[List.getElem?_map]at hj
    obtain⟨c',hc',rfl⟩:=Option.map_eq_some_iff.1 hj
    have hjl:=(List.getElem?_eq_some_iff.1 hc').1
    have hjz:j<z.cells.size:=by rw[hzl.1];exact hjl
    have hlt:k * E.P.cellsOf e+j<len * E.P.cellsOf e:=by
     have:(k+1) * E.P.cellsOf e≤len * E.P.cellsOf e:=Nat.mul_le_mul_right _ hkl
     rw[Nat.add_mul,Nat.one_mul]at this
     omega
    refine⟨z.cells[j],?_,(hzl.2 j c' _ hc' (Array.getElem?_eq_getElem hjz)).share1⟩
    have hmod:(k * E.P.cellsOf e+j) % z.cells.size=j:=by
     rw[hzs,Nat.mul_comm,Nat.mul_add_mod,Nat.mod_eq_of_lt (by omega)]
    have hlt':(k * E.P.cellsOf e+j) % z.cells.size<z.cells.size:=by omega
    simp only[Array.getElem?_map,Array.getElem?_range,hlt,if_true,Option.map_some,Option.some.injEq]
    rw[getElem!_pos z.cells _ hlt']
    congr 1
  obtain⟨vs',g1,⟨g2,g3,g4,g5⟩,g6⟩:=setEls_rel parts vparts.toList _ _ es (by simp) hr0 (by simpa using hl) (fun j p q hj hq=>hp j p q hj (by simpa using hq)) hf
  have hx:=h.extF vs'
  have hr:=h.allocF vs' e (fun j v hv=>g4 j v hv)
  refine⟨.slice (some ⟨w.heap.size,0,none⟩) len len,_,_,_,?_,hk,hx,hr,?_⟩
  ·have hn:¬ (16777216<len * E.P.cellsOf e):=by omega
   simp only[Instr.buildSlice,Sem.run_bind,run_und hd,Result.andThen_ok,run_sizeOf hi]
   rw[if_neg (by omega)]
   by_cases h0:len * E.P.cellsOf e=0
   ·rw[if_pos h0]
    have hempty:(Array.range (len * E.P.cellsOf e)).map (fun x=>z.cells[x % z.cells.size]!)=(Array.range (len * E.P.cellsOf e)).map (fun x=>(#[]:Array Value)[x % (#[]:Array Value).size]!):=by
     rw[h0];simp
    simp only[Sem.run_pure,Result.andThen_ok,←hempty,g1,Sem.run_bind,newRow,newObj,Sem.run]
    rfl
   ·rw[if_neg h0]
    simp only[Sem.run_bind,run_zeroValue hi hz,Sem.run_pure,Result.andThen_ok,g1,newRow,newObj,Sem.run]
    rfl
  ·rw[←g6]
   refine RV.ofCells rfl g3 ?_ hb1 (Nat.le_refl _) fun i' el j c hi' hj'=>?_
   ·have:es.length≤es.length * E.P.cellsOf e:=Nat.le_mul_of_pos_right _ hs1
    rw[g6]at this ⊢
    calc len * E.P.bytesOf e≤16777216 * 1048576:=Nat.mul_le_mul (by omega) hb2
     _≤_:=by decide
   ·obtain⟨u,hu,hru⟩:=g5 i' el j c hi' hj'
    refine⟨u,?_,hru.mono hx⟩
    simp only[Gh.freezeNew,Nat.zero_add,if_true]
    exact hu
/-! ### Zeros, by program -/
def zeroP(P:Program)(t:TypeId):List V :=
 match P.info? t with
 | some i=>match i.zero with
  | some z=>z.cells.toList.map ofV1
  | none=>[]
 | none=>[]
def zeroOKP(P:Program)(t:TypeId):Bool :=
 match P.info? t with
 | some i=>i.zero.isSome
 | none=>false
end Go.Vg
