/- The operations on trees, part 1, and that the machine's operations do the same. -/
import Derived.Test.YtamednbojpnalaaGreatDoorVgB
set_option linter.unusedVariables false
set_option linter.unusedSimpArgs false
namespace Go.Vg
open Go.RowKit
/-! ### Words -/
def ofV1:Value→V
 | .bool b => .bool b
 | .int k n => .int k n
 | .string s=>if s.size≤1152921504606846976 then .str s else .junk
 | .pointer none => .nilp
 | .slice none 0 0 => .slice .nil 0 []
 | .map none => .nilmap
 | .nilFunc => .nilfunc
 | .nilIface => .nilif
 | _ => .junk
def ofV:Value→V
 | .agg cs => .agg (cs.toList.map ofV1)
 | v=>ofV1 v
def ev(E:Env)(tmps:List (Nat×V)):Operand→V
 | .tmp t=>look tmps t
 | .const v=>ofV v
 | .global g=>match E.gl g with
  | some cs => .fptr cs
  | none => .junk
 | .func f => .func f []
theorem RV.ofV1{P:Program}{G:Gh}{arr:List Nat}(v:Value):RV P G arr (ofV1 v) v:=by
 unfold Vg.ofV1
 split
 ·exact .bool _
 ·exact .int _ _
 ·split
  ·exact .str _ (by assumption)
  ·exact .junk _
 ·exact .nilp
 ·exact .snil _ _ trivial
 ·exact .nilmap
 ·exact .nilfunc
 ·exact .nilif
 ·exact .junk _
theorem RV.ofV{P:Program}{G:Gh}{arr:List Nat}(v:Value):RV P G arr (ofV v) v:=by
 unfold Vg.ofV
 split
 ·rename_i cs
  refine .agg _ _ (by simp) fun j c u hc hu=>?_
  simp only[List.getElem?_map,Array.getElem?_toList,hu,Option.map_some,Option.some.injEq]at hc
  exact hc ▸ RV.ofV1 u
 ·exact RV.ofV1 v
theorem RV.ev{E:Env}{G:Gh}{heap:List VObj}{arr:List Nat}{w0:Base}{w:World}{tmps:List (Nat×V)}{n:Nat}{a:Act}(h:RelW E G heap arr w0 w)
  (ht:RelT E.P G arr tmps n a) (x:Operand):RV E.P G arr (ev E tmps x) (a.eval x):=by
 cases x with
 | tmp t=>exact ht.tm t
 | const v=>exact RV.ofV v
 | global g =>
  simp only[Vg.ev,Act.eval]
  split
  ·rename_i cs hg;exact(h.glob g cs hg).2
  ·exact .junk _
 | func f=>exact .func f [] #[] rfl (by simp)
def cellsV:V→List V
 | .agg cs=>cs
 | x=>[x]
def V.cell:V→Bool
 | .junk | .agg _ | .tuple _=>false
 | _=>true
theorem RV.cellsV{P:Program}{G:Gh}{arr:List Nat}{x:V}{v:Value}(h:RV P G arr x v)(hj:x ≠ .junk):(cellsV x).length=v.cells.size ∧
  ∀ (j:Nat) c u,(cellsV x)[j]? = some c→v.cells[j]? = some u→RV P G arr c u:=by
 cases h
 case junk=>exact absurd rfl hj
 case agg cs vs hl hr=>exact⟨hl,hr⟩
 all_goals
  refine⟨rfl,fun j c u hc hu=>?_⟩
  simp only[Vg.cellsV,Value.cells]at hc hu
  cases j with
  | succ j=>simp at hc
  | zero =>
   simp at hc hu
   subst hc hu
   constructor <;> assumption
theorem RV.cell_one{P:Program}{G:Gh}{arr:List Nat}{x:V}{v:Value}(h:RV P G arr x v)(hc:x.cell=true):(∀ cs,v ≠ .agg cs)∧(∀ cs,v ≠ .tuple cs):=by
 cases h <;> simp_all [V.cell]
section
variable {P : Program} {w : World}
theorem run_und{t:TypeId}{d:TypeDesc}(h:P.underlying t=some d):(underlying t).run P w = .ok d w:=by
 simp[underlying,program,Sem.run,h]
theorem info_of_und{t:TypeId}{d:TypeDesc}(h:P.underlying t=some d):∃ i,P.info? t=some i:=by
 cases hi:P.info? t with
 | some i=>exact⟨i,rfl⟩
 | none=>simp[Program.underlying,hi]at h
theorem run_info{t:TypeId}{i:TypeInfo}(h:P.info? t=some i):(typeInfo t).run P w = .ok i w:=by
 simp[typeInfo,program,Sem.run,h]
theorem run_sizeOf{t:TypeId}{i:TypeInfo}(h:P.info? t=some i):(sizeOf t).run P w = .ok (P.cellsOf t) w:=by
 simp[sizeOf,run_info h,Program.cellsOf,h]
def aggB:TypeDesc→Bool
 | .struct _ | .array _ _=>true
 | _=>false
theorem run_isAgg{t:TypeId}{d:TypeDesc}(h:P.underlying t=some d) :
  (isAgg t).run P w = .ok (aggB d) w:=by
 simp only[isAgg,Sem.run_bind,run_und h,Result.andThen_ok]
 cases d <;> rfl
end
/-! ### Reading and writing cells -/
theorem Addr.add_mk(b o n:Nat):(⟨b,o,none⟩:Addr).add n=⟨b,o+n,none⟩:=by
 unfold Addr.add
 split
 ·rename_i h;subst h;rfl
 ·rfl
theorem run_loadCellsFrom{P:Program}{w:World}{b o:Nat}(f:Nat→Value):∀ (n i:Nat) (acc:Array Value),(∀ j,i≤j→j<i+n→w.cell? ⟨b,o+j,none⟩=some (f j)) →
  (loadCellsFrom ⟨b,o,none⟩ i n acc).run P w = .ok (acc++((List.range' i n).map f).toArray) w:=by
 intro n
 induction n with
 | zero=>intro i acc _;simp[loadCellsFrom,Sem.run]
 | succ n ih =>
  intro i acc h
  simp only[loadCellsFrom,Sem.run_bind,Addr.add_mk]
  rw[run_load,h i (Nat.le_refl _) (by omega)]
  simp only[Result.andThen_ok]
  rw[ih (i+1) (acc.push (f i)) (fun j h1 h2=>h j (by omega) (by omega))]
  simp[List.range'_succ]
theorem run_loadCells{P:Program}{w:World}{b o n:Nat}(h:∀ j,j<n→∃ v,w.cell? ⟨b,o+j,none⟩=some v) :
  ∃ vs:Array Value,(loadCells ⟨b,o,none⟩ n).run P w = .ok vs w∧vs.size=n∧∀ j,j<n→vs[j]? = w.cell? ⟨b,o+j,none⟩:=by
 refine⟨((List.range' 0 n).map fun j=>(w.cell? ⟨b,o+j,none⟩).getD undef).toArray,?_,by simp,?_⟩
 ·unfold loadCells
  rw[run_loadCellsFrom (fun j=>(w.cell? ⟨b,o+j,none⟩).getD undef) n 0 #[] (fun j _ hj=>?_)]
  ·simp
  ·obtain⟨v,hv⟩:=h j (by omega)
   rw[hv];rfl
 ·intro j hj
  obtain⟨v,hv⟩:=h j hj
  simp[hj,hv]
theorem run_storeCells{P:Program}:∀ (vs:List Value) (w:World) (b o i:Nat) (c:Array Value) (e:TypeId),w.heap[b]? = some (.cells c e (0,0))→o+i+vs.length≤c.size →
  (∀ v∈vs,(∀ cs,v ≠ .agg cs)∧∀ cs,v ≠ .tuple cs) →
  ∃ w' c',(storeCells ⟨b,o,none⟩ vs i).run P w = .ok () w'∧w'.os=w.os∧w'.tape=w.tape∧w'.output=w.output∧w'.heap.size=w.heap.size ∧
   (∀ k,k≠b→w'.heap[k]? = w.heap[k]?)∧w'.heap[b]? = some (.cells c' e (0,0))∧c'.size=c.size ∧
   ∀ j,c'[j]? = if o+i≤j∧j<o+i+vs.length then vs[j - (o+i)]? else c[j]?:=by
 intro vs
 induction vs with
 | nil =>
  intro w b o i c e hb _ _
  refine⟨w,c,by simp[storeCells],rfl,rfl,rfl,rfl,fun _ _=>rfl,hb,rfl,fun j=>?_⟩
  rw[if_neg (by simp only[List.length_nil];omega)]
 | cons v vs ih =>
  intro w b o i c e hb hle hv
  simp only[List.length_cons]at hle
  have hcell:w.cell? ⟨b,o+i,none⟩=some c[o+i]:=by
   simp[World.cell?,hb]
  have hfr:w.frozen? ⟨b,o+i,none⟩=false:=by
   simp[World.frozen?,hb]
  have hst:(store ⟨b,o+i,none⟩ v).run P w = .ok () (w.setCell ⟨b,o+i,none⟩ v):=by
   have:=hv v (by simp)
   unfold store
   cases v
   case agg cs=>exact absurd rfl (this.1 cs)
   case tuple cs=>exact absurd rfl (this.2 cs)
   all_goals simp[Sem.run,hcell,hfr]
  have hb':(w.setCell ⟨b,o+i,none⟩ v).heap[b]? = some (.cells (c.setIfInBounds (o+i) v) e (0,0)):=by
   simp[World.setCell,Array.getElem?_modify,hb]
  obtain⟨w',c',h1,h2,h3,h4,h5,h6,h7,h8,h9⟩:=ih (w.setCell ⟨b,o+i,none⟩ v) b o (i+1) (c.setIfInBounds (o+i) v) e hb' (by simp;omega)
   (fun u hu=>hv u (by simp[hu]))
  refine⟨w',c',?_,h2,h3,h4,by rw[h5];simp,fun k hk=>?_,h7,by rw[h8];simp,fun j=>?_⟩
  ·simp only[storeCells,Sem.run_bind,Addr.add_mk,hst,Result.andThen_ok]
   exact h1
  ·rw[h6 k hk]
   exact Below.heap_setCell _ _ _ _ (by simpa using hk)
  ·rw[h9 j]
   simp only[List.length_cons]
   by_cases e1:j=o+i
   ·subst e1
    rw[if_neg (by omega),if_pos (by omega)]
    have:o+i<c.size:=by omega
    simp[this]
   ·by_cases e2:o+(i+1)≤j∧j<o+(i+1)+vs.length
    ·rw[if_pos e2,if_pos (by omega)]
     have:j - (o+i)=(j - (o+(i+1)))+1:=by omega
     rw[this];simp
    ·rw[if_neg e2,if_neg (by omega)]
     simp[Array.getElem?_setIfInBounds,Ne.symm e1]
def vAt(heap:List VObj):V→Option (List V)
 | .fptr cs=>some cs
 | .ptr id off=>match heap[id]? with
  | some ob=>ob.cs?.map fun cs=>cs.drop off
  | _=>none
 | .vptr id k gen off=>match heap[id]? with
  | some (.vec k' gen' _ cs)=>if k'=k∧gen'=gen then some (cs.drop off)else none
  | _=>none
 | _=>none
theorem read_at{E:Env}{G:Gh}{heap:List VObj}{arr:List Nat}{w0:Base}{w:World}(h:RelW E G heap arr w0 w){x:V}{v:Value}{cs:List V}
  (hx:RV E.P G arr x v) (hat:vAt heap x=some cs):∃ b o,v = .pointer (some ⟨b,o,none⟩) ∧
   ∀ (j:Nat) c,cs[j]? = some c→∃ u,w.cell? ⟨b,o+j,none⟩=some u∧RV E.P G arr c u:=by
 cases x <;> simp only[vAt]at hat <;> try cases hat
 case fptr =>
  cases hx with
  | fptr _ b o hd hr =>
   refine⟨b,o,rfl,fun j c hc=>?_⟩
   obtain⟨u,hu⟩:=hd j (List.getElem?_eq_some_iff.1 hc).1
   exact⟨u,h.frz _ _ _ hu,hr j c u hc hu⟩
 case ptr id off =>
  cases hx with
  | ptr _ _ b hb =>
   split at hat
   ·rename_i ob hcs
    obtain⟨cs',hcs',rfl⟩:=Option.map_eq_some_iff.1 hat
    obtain⟨b',hb',hro⟩:=h.obj id _ hcs
    obtain⟨c,e,h1,h2,h3,_⟩:=hro.un hcs'
    rw[hb]at hb'
    cases hb'
    refine⟨b,off,rfl,fun j c' hc=>?_⟩
    rw[List.getElem?_drop]at hc
    obtain⟨u,hu,hr⟩:=h3 _ _ hc
    exact⟨u,by simp[World.cell?,h1,hu],hr⟩
   ·cases hat
 case vptr id k gen off =>
  split at hat
  ·rename_i k' gen' e cs' hcs
   split at hat
   ·rename_i hkg
    obtain⟨rfl,rfl⟩:=hkg
    cases hat
    obtain⟨h1,h2,b,hi,h3,h4,h5⟩:=h.vs.at_ id _ _ e cs' hcs
    cases hx with
    | vptr _ _ _ _ _ _ hv =>
     obtain⟨n,g1,g2,g3⟩:=hv
     rw[h1]at g1
     cases g1
     obtain⟨b',hi',g4,g5,g6⟩:=g3 rfl
     rw[h3]at g4
     cases g4
     refine⟨b,off,by rw[g6,g5],fun j c hc=>?_⟩
     rw[List.getElem?_drop]at hc
     obtain⟨v,hv,hr,_⟩:=h5 _ _ hc
     exact⟨v,hv,hr⟩
   ·cases hat
  ·cases hat
def vHead(cs:List V)(K:V→Prop):Prop :=
 match cs with
 | c::_=>K c
 | []=>False
def vLoadL(E:Env)(t:TypeId)(cs:List V)(K:V→Prop):Prop :=
 match E.P.underlying t with
 | some (.struct _) | some (.array _ _)=>E.P.cellsOf t≤cs.length∧K (.agg (cs.take (E.P.cellsOf t)))
 | some _=>vHead cs K
 | none=>False
theorem load_out{E:Env}{G:Gh}{heap:List VObj}{arr:List Nat}{w0:Base}{w:World}(h:RelW E G heap arr w0 w){x:V}{v:Value}{cs:List V}{t:TypeId}{K:V→Prop}
  (hx:RV E.P G arr x v) (hat:vAt heap x=some cs) (hK:vLoadL E t cs K):∃ u y,(Instr.loadAt t v).run E.P w = .ok u w∧K y∧RV E.P G arr y u:=by
 obtain⟨b,o,rfl,hc⟩:=read_at h hx hat
 have hagg:∀ d,E.P.underlying t=some d→aggB d=true→E.P.cellsOf t≤cs.length∧K (.agg (cs.take (E.P.cellsOf t))) →
   ∃ u y,(Instr.loadAt t (.pointer (some ⟨b,o,none⟩))).run E.P w = .ok u w∧K y∧RV E.P G arr y u:=by
  intro d hd ht ⟨hl,hk⟩
  obtain⟨i,hi⟩:=info_of_und hd
  obtain⟨vs,h1,h2,h3⟩:=run_loadCells (P:=E.P) (w:=w) (b:=b) (o:=o) (n:=E.P.cellsOf t) (fun j hj=>by
   obtain⟨u,hu,_⟩:=hc j _ (List.getElem?_eq_getElem (show j<cs.length by omega))
   exact⟨u,hu⟩)
  refine⟨.agg vs,.agg (cs.take (E.P.cellsOf t)),?_,hk,.agg _ _ (by rw[h2];simp;omega) fun j c u hj hu=>?_⟩
  ·simp only[Instr.loadAt,Instr.sureAddr,loadVar,Sem.run_bind,Sem.run_pure,Result.andThen_ok,run_isAgg hd,ht,if_true,run_sizeOf hi,h1]
  ·have hj':j<E.P.cellsOf t:=by rw[←h2];exact(Array.getElem?_eq_some_iff.1 hu).1
   rw[List.getElem?_take,if_pos hj']at hj
   obtain⟨u',hu',hr⟩:=hc j c hj
   rw[h3 j hj',hu']at hu
   cases hu
   exact hr
 have hone:∀ d,E.P.underlying t=some d→aggB d=false→vHead cs K →
   ∃ u y,(Instr.loadAt t (.pointer (some ⟨b,o,none⟩))).run E.P w = .ok u w∧K y∧RV E.P G arr y u:=by
  intro d hd ht hk
  cases cs with
  | nil=>exact hk.elim
  | cons c cs =>
   obtain⟨u,hu,hr⟩:=hc 0 c rfl
   refine⟨u,c,?_,hk,hr⟩
   simp only[Instr.loadAt,Instr.sureAddr,loadVar,Sem.run_bind,Sem.run_pure,Result.andThen_ok,run_isAgg hd,ht,Bool.false_eq_true,if_false]
   rw[run_load,show o=o+0 from rfl,hu]
 unfold vLoadL at hK
 cases hd:E.P.underlying t with
 | none=>rw[hd]at hK;exact hK.elim
 | some d =>
  rw[hd]at hK
  cases d <;> first | exact hagg _ hd rfl hK | exact hone _ hd rfl hK
def over(cs:List V)(off:Nat)(xs:List V):List V:=cs.take off++xs++cs.drop (off+xs.length)
theorem over_get(cs:List V)(off:Nat)(xs:List V)(h:off+xs.length≤cs.length)(j:Nat) :
  (over cs off xs)[j]? = if off≤j∧j<off+xs.length then xs[j - off]? else cs[j]?:=by
 unfold over
 rw[List.append_assoc]
 by_cases h1:j<off
 ·rw[List.getElem?_append_left (by simp;omega),if_neg (by omega),List.getElem?_take,if_pos h1]
 ·rw[List.getElem?_append_right (by simp;omega)]
  have hl:(cs.take off).length=off:=by simp;omega
  rw[hl]
  by_cases h2:j<off+xs.length
  ·rw[List.getElem?_append_left (by omega),if_pos (by omega)]
  ·rw[List.getElem?_append_right (by omega),if_neg (by omega),List.getElem?_drop]
   congr 1;omega
theorem over_length(cs:List V)(off:Nat)(xs:List V)(h:off+xs.length≤cs.length):(over cs off xs).length=cs.length:=by
 simp[over];omega
def vStore(E:Env)(heap:List VObj)(t:TypeId)(a x:V)(K:List VObj→Prop):Prop :=
 match a with
 | .ptr id off=>match heap[id]? with
  | some ob=>match ob.cs? with
   | some cs=>(x ≠ .junk∧(cellsV x).all V.cell=true∧(cellsV x).length=E.P.cellsOf t∧(E.P.underlying t).isSome=true∧off+(cellsV x).length≤cs.length) ∧
     K (heap.set id (ob.put (over cs off (cellsV x))))
   | none=>False
  | _=>False
 | .vptr id k gen off=>match heap[id]? with
  | some (.vec k' gen' e cs)=>(k'=k∧gen'=gen∧x ≠ .junk∧(cellsV x).all V.cell=true∧(cellsV x).length=E.P.cellsOf t∧(E.P.underlying t).isSome=true∧off+(cellsV x).length≤cs.length∧0<(cellsV x).length) ∧
    K (heap.set id (.vec k gen e (over cs off (cellsV x))))
  | _=>False
 | _=>False
theorem RelW.storeVec{E:Env}{G:Gh}{heap:List VObj}{arr:List Nat}{w0:Base}{w w':World}(h:RelW E G heap arr w0 w){id k gen b hi off:Nat}{e:TypeId}{cs xs:List V}{vs:List Value}{c c':Array Value}{t:TypeId}
  (hid:heap[id]? = some (.vec k gen e cs)) (hρ:G.ρ[k]? = some (b,0,hi)) (hc:w.heap[b]? = some (.cells c t (0,0))) (hle:off+xs.length≤cs.length) (hch:cs.length≤hi) (hpos:0<xs.length) (hl:vs.length=xs.length)
  (hr:∀ (j:Nat) x v,xs[j]? = some x→vs[j]? = some v→RV E.P G arr x v) (hone:∀ v∈vs,v.oneCell'=true)
  (hos:w'.os=w.os) (ht:w'.tape=w.tape) (ho:w'.output=w.output) (hsz:w'.heap.size=w.heap.size) (hk:∀ k,k≠b→w'.heap[k]? = w.heap[k]?) (hc':w'.heap[b]? = some (.cells c' t (0,0))) (hcs:c'.size=c.size)
  (hget:∀ j,c'[j]? = if off≤j∧j<off+vs.length then vs[j - off]? else c[j]?):RelW E G (heap.set id (.vec k gen e (over cs off xs))) arr w0 w':=by
 have hhi:0<hi:=by omega
 have hidl:id<heap.length:=(List.getElem?_eq_some_iff.1 hid).1
 obtain⟨⟨c0,e0,r1,r2⟩,r3,r4,r5⟩:=h.reg k b 0 hi hρ hhi
 rw[hc]at r1
 cases r1
 have hcell:∀ b' o,(b'≠b∨¬ (off≤o∧o<off+vs.length))→w'.cell? ⟨b',o,none⟩=w.cell? ⟨b',o,none⟩:=fun b' o hor=>by
  by_cases e:b'=b
  ·subst e
   have hn:¬ (off≤o∧o<off+vs.length):=by rcases hor with h | h;exact absurd rfl h;exact h
   unfold World.cell?
   rw[hc',hc]
   simp only[Option.isSome_none,Bool.false_eq_true,if_false]
   rw[hget,if_neg hn]
  ·exact cell_same (hk b' e)
 have hne:∀ (i c:Nat),G.φ[i]? = some c→∀ o,heap[i]? = some o→o.loose=false→c≠b:=fun i c hi' o ho hlo e=>by
  subst e
  rw[VObj.loose_of (r3 i hi' o ho)]at hlo;cases hlo
 have hset:∀ (i:Nat) o,(heap.set id (.vec k gen e (over cs off xs)))[i]? = some o→i≠id→heap[i]? = some o:=fun i o hi' hn=>by rwa [List.getElem?_set_ne (Ne.symm hn)]at hi'
 refine⟨h.newF,h.glob,h.below.trans ⟨hos,ht,ho,by omega,fun k' hk'=>hk k' (by omega)⟩,fun b' o v hv=>?_,h.one,fun i ob hi'=>?_,by simp[h.lenφ],h.nod,fun i c1 o hc1 hd=>?_,fun i c1 hc1=>by rw[hsz];exact h.geφ i c1 hc1,h.lenρ,
  fun k' b' lo hi' hk' hlt=>?_,h.regd,h.fre,fun i t' s c1 hi' hc1=>?_,h.ini,?_⟩
 ·rw[hcell b' o]
  ·exact h.frz _ _ _ hv
  ·by_cases e:b'=b
   ·subst e
    refine .inr fun hh=>?_
    rw[r4 o (Nat.zero_le _) (by omega)]at hv
    cases hv
   ·exact .inl e
 ·by_cases e1:i=id
  ·subst e1
   rw[List.getElem?_set_self hidl]at hi'
   cases hi'
   obtain⟨c1,hc1,_⟩:=h.obj i _ hid
   exact⟨c1,hc1,trivial⟩
  ·have hi2:=hset i ob hi' e1
   obtain⟨c1,hc1,hr1⟩:=h.obj i ob hi2
   refine⟨c1,hc1,?_⟩
   cases hlo:ob.loose with
   | false=>exact hr1.keep (Ext.refl _ _) (hk c1 (hne i c1 hc1 ob hi2 hlo))
   | true =>
    cases ob <;> simp only[VObj.loose,Bool.false_eq_true,reduceCtorEq]at hlo
    ·trivial
    ·trivial
 ·by_cases e1:i=id
  ·subst e1
   exact h.sep i c1 o hc1 (by rw[hid];intro hh;cases hh)
  ·rw[List.getElem?_set_ne (Ne.symm e1)]at hd
   exact h.sep i c1 o hc1 hd
 ·obtain⟨⟨c1,e1,q1,q2⟩,q3,q4,q5⟩:=h.reg k' b' lo hi' hk' hlt
  refine⟨?_,fun i hi2 o ho2=>?_,q4,q5⟩
  ·by_cases eb:b'=b
   ·subst eb
    rw[hc]at q1
    cases q1
    exact⟨c',t,hc',by omega⟩
   ·exact⟨c1,e1,by rw[hk b' eb];exact q1,q2⟩
  ·by_cases e1:i=id
   ·subst e1
    rw[List.getElem?_set_self hidl]at ho2
    cases ho2
    have:=q3 i hi2 _ hid
    exact this
   ·exact q3 i hi2 o (hset i o ho2 e1)
 ·have e1:i≠id:=fun e1=>by subst e1;rw[List.getElem?_set_self hidl]at hi';cases hi'
  have hi2:=hset i _ hi' e1
  refine(h.bld i t' s c1 hi2 hc1).keep (hk c1 (hne i c1 hc1 _ hi2 rfl)) fun g hg hs=>⟨hk g fun eg=>?_,hs⟩
  subst eg
  have:=hs.2.2 k 0 hi hρ
  omega
 ·refine⟨fun i k1 g1 e1 cs1 hi1=>?_,fun i i' k1 g1 g1' e1 e1' cs1 cs1' hi1 hi1'=>?_⟩
  ·by_cases ei:i=id
   ·subst ei
    rw[List.getElem?_set_self hidl]at hi1
    cases hi1
    obtain⟨q1,q2,b1,hi2,q3,q4,q5⟩:=h.vs.at_ i k gen e cs hid
    rw[hρ]at q3
    cases q3
    refine⟨q1,q2,b,hi,hρ,by rw[over_length _ _ _ hle];exact hch,fun j x hj=>?_⟩
    rw[over_get _ _ _ hle]at hj
    by_cases hin:off≤j∧j<off+xs.length
    ·rw[if_pos hin]at hj
     have hjl:j - off<vs.length:=by omega
     refine⟨vs[j - off],?_,hr _ _ _ hj (List.getElem?_eq_getElem hjl),hone _ (List.getElem_mem hjl)⟩
     unfold World.cell?
     rw[hc']
     simp only[Option.isSome_none,Bool.false_eq_true,if_false]
     rw[hget,if_pos (by omega),List.getElem?_eq_getElem hjl]
    ·rw[if_neg hin]at hj
     obtain⟨v,hv,hrv⟩:=q5 j x hj
     exact⟨v,by rw[hcell b j (.inr (by omega))];exact hv,hrv⟩
   ·have hi2:=hset i _ hi1 ei
    obtain⟨q1,q2,b1,hi3,q3,q4,q5⟩:=h.vs.at_ i k1 g1 e1 cs1 hi2
    refine⟨q1,q2,b1,hi3,q3,q4,fun j x hj=>?_⟩
    obtain⟨v,hv,hrv⟩:=q5 j x hj
    refine⟨v,?_,hrv⟩
    rw[hcell b1 j (.inl fun eb=>?_)]
    ·exact hv
    ·subst eb
     have hkk:k1≠k:=fun ek=>by subst ek;exact ei (h.vs.uni _ _ _ _ _ _ _ _ _ hi2 hid)
     have:=h.regd k1 k b1 0 hi3 0 hi hkk q3 hρ (by have:=(List.getElem?_eq_some_iff.1 hj).1;omega) hhi
     have:=(List.getElem?_eq_some_iff.1 hj).1
     omega
  ·have key:∀ (i k1 g1:Nat) e1 cs1,(heap.set id (.vec k gen e (over cs off xs)))[i]? = some (.vec k1 g1 e1 cs1)→∃ g e2 cs2,heap[i]? = some (.vec k1 g e2 cs2):=fun i k1 g1 e1 cs1 hq=>by
    by_cases ei:i=id
    ·subst ei
     rw[List.getElem?_set_self hidl]at hq
     cases hq
     exact⟨_,_,_,hid⟩
    ·exact⟨_,_,_,hset i _ hq ei⟩
   obtain⟨_,_,_,a1⟩:=key _ _ _ _ _ hi1
   obtain⟨_,_,_,a2⟩:=key _ _ _ _ _ hi1'
   exact h.vs.uni _ _ _ _ _ _ _ _ _ a1 a2
theorem store_out{E:Env}{G:Gh}{heap:List VObj}{arr:List Nat}{w0:Base}{w:World}(h:RelW E G heap arr w0 w){a x:V}{va vx:Value}{t:TypeId}{K:List VObj→Prop}
  (ha:RV E.P G arr a va) (hx:RV E.P G arr x vx) (hK:vStore E heap t a x K) :
  ∃ w' heap',(Instr.storeAt t va vx).run E.P w = .ok () w'∧K heap'∧RelW E G heap' arr w0 w':=by
 cases a <;> simp only[vStore]at hK <;> try exact hK.elim
 case ptr id off =>
  split at hK
  ·rename_i ob hcs
   split at hK
   case h_2=>exact hK.elim
   rename_i cs hcs'
   obtain⟨⟨h1,h2,h3,h4,h5⟩,hk⟩:=hK
   cases ha with
   | ptr _ _ b hb =>
    obtain⟨b',hb',hro⟩:=h.obj id _ hcs
    obtain⟨c,e,hc1,hc2,hc3,hput⟩:=hro.un hcs'
    rw[hb]at hb';cases hb'
    obtain⟨hl,hr⟩:=hx.cellsV h1
    obtain⟨d,hd⟩:=Option.isSome_iff_exists.1 h4
    obtain⟨i,hi⟩:=info_of_und hd
    have hcells:∀ v∈vx.cells.toList,(∀ cs,v ≠ .agg cs)∧∀ cs,v ≠ .tuple cs:=by
     intro v hv
     obtain⟨j,hj,rfl⟩:=List.getElem_of_mem hv
     have hj':j<vx.cells.size:=by simpa using hj
     have hjc:j<(cellsV x).length:=by omega
     have:=hr j _ _ (List.getElem?_eq_getElem hjc) (Array.getElem?_eq_getElem hj')
     exact this.cell_one (List.all_eq_true.1 h2 _ (List.getElem_mem hjc))
    obtain⟨w',c',g1,g2,g3,g4,g5,g6,g7,g8,g9⟩:=run_storeCells (P:=E.P) vx.cells.toList w b off 0 c e hc1 (by simp;omega) hcells
    refine⟨w',_,?_,hk,h.change (hbl:=by intro t s hh;unfold VObj.put at hh;split at hh <;> cases hh) (hnv:=by intro _ _ _ _ hh;unfold VObj.put at hh;split at hh <;> cases hh) (hnl:=by intro _ _ _ _ hh;rw[hcs]at hh;cases hh;cases hcs') hb (List.getElem?_eq_some_iff.1 hcs).1 (by rw[hcs];intro hd;cases hd;cases hcs') g2 g3 g4 g5 g6 (hput w' c' _ g7 (by rw[g8,hc2,over_length _ _ _ h5]) fun j y hy=>?_)⟩
    ·simp only[Instr.storeAt,Instr.sureAddr,storeVar,Sem.run_bind,Sem.run_pure,Result.andThen_ok,run_sizeOf hi]
     rw[if_neg (by omega)]
     exact g1
    ·rw[over_get _ _ _ h5]at hy
     have:=g9 j
     simp only[Nat.add_zero,Array.length_toList]at this
     by_cases hin:off≤j∧j<off+(cellsV x).length
     ·rw[if_pos hin]at hy
      rw[if_pos (by omega)]at this
      have hj':j - off<vx.cells.size:=by omega
      refine⟨vx.cells[j - off],by rw[this];simp[hj'],hr _ _ _ hy (Array.getElem?_eq_getElem hj')⟩
     ·rw[if_neg hin]at hy
      rw[if_neg (by omega)]at this
      obtain⟨u,hu,hru⟩:=hc3 j y hy
      exact⟨u,by rw[this];exact hu,hru⟩
  ·exact hK.elim
 case vptr id k gen off =>
  split at hK
  case h_2=>exact hK.elim
  rename_i k' gen' e cs hcs
  obtain⟨⟨rfl,rfl,h1,h2,h3,h4,h5,h6⟩,hk⟩:=hK
  obtain⟨q1,q2,b,hi,q3,q4,q5⟩:=h.vs.at_ id _ _ e cs hcs
  cases ha with
  | vptr _ _ _ _ _ _ hv =>
   obtain⟨n,g1,g2,g3⟩:=hv
   rw[q1]at g1
   cases g1
   obtain⟨b',hi',g4,g5,g6⟩:=g3 rfl
   rw[q3]at g4
   cases g4
   subst g5
   cases g6
   obtain⟨hl,hr⟩:=hx.cellsV h1
   obtain⟨d,hd⟩:=Option.isSome_iff_exists.1 h4
   obtain⟨i,hi2⟩:=info_of_und hd
   have hcells:∀ v∈vx.cells.toList,(∀ cs,v ≠ .agg cs)∧∀ cs,v ≠ .tuple cs:=by
    intro v hv
    obtain⟨j,hj,rfl⟩:=List.getElem_of_mem hv
    have hj':j<vx.cells.size:=by simpa using hj
    have hjc:j<(cellsV x).length:=by omega
    have:=hr j _ _ (List.getElem?_eq_getElem hjc) (Array.getElem?_eq_getElem hj')
    exact this.cell_one (List.all_eq_true.1 h2 _ (List.getElem_mem hjc))
   obtain⟨⟨c,t',hc1,hc2⟩,_⟩:=h.reg _ b 0 hi q3 (by omega)
   obtain⟨w',c',p1,p2,p3,p4,p5,p6,p7,p8,p9⟩:=run_storeCells (P:=E.P) vx.cells.toList w b off 0 c t' hc1 (by simp;omega) hcells
   refine⟨w',_,?_,hk,h.storeVec (vs:=vx.cells.toList) hcs q3 hc1 h5 q4 h6 (by simp;omega) (fun j y v hy hv=>hr j y v hy (by simpa using hv)) (fun v hv=>by
    obtain⟨g1,g2⟩:=hcells v hv
    cases v <;> first | rfl | exact absurd rfl (g1 _) | exact absurd rfl (g2 _)) p2 p3 p4 p5 p6 p7 p8 (fun j=>by have:=p9 j;simpa using this)⟩
   simp only[Instr.storeAt,Instr.sureAddr,storeVar,Sem.run_bind,Sem.run_pure,Result.andThen_ok,run_sizeOf hi2]
   rw[if_neg (by omega)]
   exact p1
end Go.Vg
