import Derived.Test.YtighfcpaplmaiaaGreatDoorVgB
set_option linter.unusedVariables false
set_option linter.unusedSimpArgs false
namespace Go.Vg
open Go.RowKit
def ofV1:Value→V
 | .bool b => .bool b
 | .int k n => .int k n
 | .string s=>if s.size≤1152921504606846976 then .str s else .junk
 | .pointer none => .nilp
 | .slice none 0 0 => .slice .nil 0 []
 | .map none => .nilmap
 | .nilFunc => .nilfunc
 | .nilIface => .nilif
 | _ => .junk
def ofV:Value→V
 | .agg cs => .agg (cs.toList.map ofV1)
 | v=>ofV1 v
def ev(E:Env)(tmps:List (Nat×V)):Operand→V
 | .tmp t=>b1S tmps t
 | .const v=>ofV v
 | .global g=>match E.gl g with
  | some cs => .fptr cs
  | none => .junk
 | .func f => .func f []
theorem RV.ofV1{P:Program}{G:Gh}{arr:List Nat}(v:Value):RV P G arr (ofV1 v) v:=by
 unfold Vg.ofV1
 split
 ·exact .bool _
 ·exact .int _ _
 ·split
  ·exact .str _ (by assumption)
  ·exact .junk _
 ·exact .nilp
 ·exact .snil _ _ trivial
 ·exact .nilmap
 ·exact .nilfunc
 ·exact .nilif
 ·exact .junk _
theorem RV.ofV{P:Program}{G:Gh}{arr:List Nat}(v:Value):RV P G arr (ofV v) v:=by
 unfold Vg.ofV
 split
 ·rename_i cs
  refine .agg _ _ (by simp) fun j c u hc hu=>?_
  simp only[g9q,Array.getElem?_toList,hu,g9z,Option.some.injEq]at hc
  exact hc ▸ RV.ofV1 u
 ·exact RV.ofV1 v
theorem RV.ev{E:Env}{G:Gh}{heap:List VObj}{arr:List Nat}{w0:Base}{w:World}{tmps:List (Nat×V)}{n:Nat}{a:Act}(h:RelW E G heap arr w0 w)
  (ht:RelT E.P G arr tmps n a) (x:Operand):RV E.P G arr (ev E tmps x) (a.eval x):=by
 cases x with
 | tmp t=>exact ht.tm t
 | const v=>exact RV.ofV v
 | global g =>
  simp only[Vg.ev,Act.eval]
  split
  ·rename_i cs hg;exact(h.glob g cs hg).2
  ·exact .junk _
 | func f=>exact .func f [] #[] rfl (by simp)
def cellsV:V→List V
 | .agg cs=>cs
 | x=>[x]
def V.cell:V→Bool
 | .junk | .agg _ | .tuple _=>false
 | _=>true
theorem RV.cellsV{P:Program}{G:Gh}{arr:List Nat}{x:V}{v:Value}(h:RV P G arr x v)(hj:x ≠ .junk):(cellsV x).length=v.cells.size ∧
  ∀ (j:Nat) c u,(cellsV x)[j]? = some c→v.cells[j]? = some u→RV P G arr c u:=by
 cases h
 case junk=>exact absurd rfl hj
 case agg cs vs hl hr=>exact⟨hl,hr⟩
 all_goals
  refine⟨rfl,fun j c u hc hu=>?_⟩
  simp only[Vg.cellsV,Value.cells]at hc hu
  cases j with
  | succ j=>simp at hc
  | zero =>
   simp at hc hu
   subst hc hu
   constructor <;> assumption
theorem RV.cell_one{P:Program}{G:Gh}{arr:List Nat}{x:V}{v:Value}(h:RV P G arr x v)(hc:x.cell=true):(∀ cs,v ≠ .agg cs)∧(∀ cs,v ≠ .tuple cs):=by
 cases h <;> simp_all [V.cell]
section
variable {P : Program} {w : World}
theorem b0y{t:TypeId}{d:TypeDesc}(h:P.underlying t=some d):(underlying t).run P w = .ok d w:=by
 simp[underlying,program,Sem.run,h]
theorem b2C{t:TypeId}{d:TypeDesc}(h:P.underlying t=some d):∃ i,P.info? t=some i:=by
 cases hi:P.info? t with
 | some i=>exact⟨i,rfl⟩
 | none=>simp[Program.underlying,hi]at h
theorem c2k{t:TypeId}{i:TypeInfo}(h:P.info? t=some i):(typeInfo t).run P w = .ok i w:=by
 simp[typeInfo,program,Sem.run,h]
theorem b0O{t:TypeId}{i:TypeInfo}(h:P.info? t=some i):(sizeOf t).run P w = .ok (P.cellsOf t) w:=by
 simp[sizeOf,c2k h,Program.cellsOf,h]
def c0t:TypeDesc→Bool
 | .struct _ | .array _ _=>true
 | _=>false
theorem b4E{t:TypeId}{d:TypeDesc}(h:P.underlying t=some d) :
  (isAgg t).run P w = .ok (c0t d) w:=by
 simp only[isAgg,h0z,b0y h,h0y]
 cases d <;> rfl
end
theorem Addr.add_mk(b o n:Nat):(⟨b,o,none⟩:Addr).add n=⟨b,o+n,none⟩:=by
 unfold Addr.add
 split
 ·rename_i h;subst h;rfl
 ·rfl
theorem b7A{P:Program}{w:World}{b o:Nat}(f:Nat→Value):∀ (n i:Nat) (acc:Array Value),(∀ j,i≤j→j<i+n→w.cell? ⟨b,o+j,none⟩=some (f j)) →
  (loadCellsFrom ⟨b,o,none⟩ i n acc).run P w = .ok (acc++((List.range' i n).map f).toArray) w:=by
 intro n
 induction n with
 | zero=>intro i acc _;simp[loadCellsFrom,Sem.run]
 | succ n ih =>
  intro i acc h
  simp only[loadCellsFrom,h0z,Addr.add_mk]
  rw[run_load,h i (g9m _) (by omega)]
  simp only[h0y]
  rw[ih (i+1) (acc.push (f i)) (fun j h1 h2=>h j (by omega) (by omega))]
  simp[List.range'_succ]
theorem b6O{P:Program}{w:World}{b o n:Nat}(h:∀ j,j<n→∃ v,w.cell? ⟨b,o+j,none⟩=some v) :
  ∃ vs:Array Value,(loadCells ⟨b,o,none⟩ n).run P w = .ok vs w∧vs.size=n∧∀ j,j<n→vs[j]? = w.cell? ⟨b,o+j,none⟩:=by
 refine⟨((List.range' 0 n).map fun j=>(w.cell? ⟨b,o+j,none⟩).getD undef).toArray,?_,by simp,?_⟩
 ·unfold loadCells
  rw[b7A (fun j=>(w.cell? ⟨b,o+j,none⟩).getD undef) n 0 #[] (fun j _ hj=>?_)]
  ·simp
  ·obtain⟨v,hv⟩:=h j (by omega)
   rw[hv];rfl
 ·intro j hj
  obtain⟨v,hv⟩:=h j hj
  simp[hj,hv]
theorem b2z{P:Program}:∀ (vs:List Value) (w:World) (b o i:Nat) (c:Array Value) (e:TypeId),w.heap[b]? = some (.cells c e (0,0))→o+i+vs.length≤c.size →
  (∀ v∈vs,(∀ cs,v ≠ .agg cs)∧∀ cs,v ≠ .tuple cs) →
  ∃ w' c',(storeCells ⟨b,o,none⟩ vs i).run P w = .ok () w'∧w'.os=w.os∧w'.tape=w.tape∧w'.output=w.output∧w'.heap.size=w.heap.size ∧
   (∀ k,k≠b→w'.heap[k]? = w.heap[k]?)∧w'.heap[b]? = some (.cells c' e (0,0))∧c'.size=c.size ∧
   ∀ j,c'[j]? = if o+i≤j∧j<o+i+vs.length then vs[j - (o+i)]? else c[j]?:=by
 intro vs
 induction vs with
 | nil =>
  intro w b o i c e hb _ _
  refine⟨w,c,by simp[storeCells],rfl,rfl,rfl,rfl,fun _ _=>rfl,hb,rfl,fun j=>?_⟩
  rw[if_neg (by simp only[g9F];omega)]
 | cons v vs ih =>
  intro w b o i c e hb hle hv
  simp only[g9k]at hle
  have hcell:w.cell? ⟨b,o+i,none⟩=some c[o+i]:=by
   simp[World.cell?,hb]
  have hfr:w.frozen? ⟨b,o+i,none⟩=false:=by
   simp[World.frozen?,hb]
  have hst:(store ⟨b,o+i,none⟩ v).run P w = .ok () (w.setCell ⟨b,o+i,none⟩ v):=by
   have:=hv v (by simp)
   unfold store
   cases v
   case agg cs=>exact absurd rfl (this.1 cs)
   case tuple cs=>exact absurd rfl (this.2 cs)
   all_goals simp[Sem.run,hcell,hfr]
  have hb':(w.setCell ⟨b,o+i,none⟩ v).heap[b]? = some (.cells (c.setIfInBounds (o+i) v) e (0,0)):=by
   simp[World.setCell,Array.getElem?_modify,hb]
  obtain⟨w',c',h1,h2,h3,h4,h5,h6,h7,h8,h9⟩:=ih (w.setCell ⟨b,o+i,none⟩ v) b o (i+1) (c.setIfInBounds (o+i) v) e hb' (by simp;omega)
   (fun u hu=>hv u (by simp[hu]))
  refine⟨w',c',?_,h2,h3,h4,by rw[h5];simp,fun k hk=>?_,h7,by rw[h8];simp,fun j=>?_⟩
  ·simp only[storeCells,h0z,Addr.add_mk,hst,h0y]
   exact h1
  ·rw[h6 k hk]
   exact Below.heap_setCell _ _ _ _ (by simpa using hk)
  ·rw[h9 j]
   simp only[g9k]
   by_cases e1:j=o+i
   ·subst e1
    rw[if_neg (by omega),if_pos (by omega)]
    have:o+i<c.size:=by omega
    simp[this]
   ·by_cases e2:o+(i+1)≤j∧j<o+(i+1)+vs.length
    ·rw[if_pos e2,if_pos (by omega)]
     have:j - (o+i)=(j - (o+(i+1)))+1:=by omega
     rw[this];simp
    ·rw[if_neg e2,if_neg (by omega)]
     simp[Array.getElem?_setIfInBounds,Ne.symm e1]
def vAt(heap:List VObj):V→Option (List V)
 | .fptr cs=>some cs
 | .ptr id off=>match heap[id]? with
  | some ob=>ob.cs?.map fun cs=>cs.drop off
  | _=>none
 | .vptr id k gen off=>match heap[id]? with
  | some (.vec k' gen' _ cs)=>if k'=k∧gen'=gen then some (cs.drop off)else none
  | _=>none
 | _=>none
theorem d2O{E:Env}{G:Gh}{heap:List VObj}{arr:List Nat}{w0:Base}{w:World}(h:RelW E G heap arr w0 w){x:V}{v:Value}{cs:List V}
  (hx:RV E.P G arr x v) (hat:vAt heap x=some cs):∃ b o,v = .pointer (some ⟨b,o,none⟩) ∧
   ∀ (j:Nat) c,cs[j]? = some c→∃ u,w.cell? ⟨b,o+j,none⟩=some u∧RV E.P G arr c u:=by
 cases x <;> simp only[vAt]at hat <;> try cases hat
 case fptr =>
  cases hx with
  | fptr _ b o hd hr =>
   refine⟨b,o,rfl,fun j c hc=>?_⟩
   obtain⟨u,hu⟩:=hd j (g8Y.1 hc).1
   exact⟨u,h.frz _ _ _ hu,hr j c u hc hu⟩
 case ptr id off =>
  cases hx with
  | ptr _ _ b hb =>
   split at hat
   ·rename_i ob hcs
    obtain⟨cs',hcs',rfl⟩:=g9l.1 hat
    obtain⟨b',hb',hro⟩:=h.obj id _ hcs
    obtain⟨c,e,h1,h2,h3,_⟩:=hro.un hcs'
    rw[hb]at hb'
    cases hb'
    refine⟨b,off,rfl,fun j c' hc=>?_⟩
    rw[g9Y]at hc
    obtain⟨u,hu,hr⟩:=h3 _ _ hc
    exact⟨u,by simp[World.cell?,h1,hu],hr⟩
   ·cases hat
 case vptr id k gen off =>
  split at hat
  ·rename_i k' gen' e cs' hcs
   split at hat
   ·rename_i hkg
    obtain⟨rfl,rfl⟩:=hkg
    cases hat
    obtain⟨h1,h2,b,hi,h3,h4,h5⟩:=h.vs.at_ id _ _ e cs' hcs
    cases hx with
    | vptr _ _ _ _ _ _ hv =>
     obtain⟨n,g1,g2,g3⟩:=hv
     rw[h1]at g1
     cases g1
     obtain⟨b',hi',g4,g5,g6⟩:=g3 rfl
     rw[h3]at g4
     cases g4
     refine⟨b,off,by rw[g6,g5],fun j c hc=>?_⟩
     rw[g9Y]at hc
     obtain⟨v,hv,hr,_⟩:=h5 _ _ hc
     exact⟨v,hv,hr⟩
   ·cases hat
  ·cases hat
def vHead(cs:List V)(K:V→Prop):Prop :=
 match cs with
 | c::_=>K c
 | []=>False
def vLoadL(E:Env)(t:TypeId)(cs:List V)(K:V→Prop):Prop :=
 match E.P.underlying t with
 | some (.struct _) | some (.array _ _)=>E.P.cellsOf t≤cs.length∧K (.agg (cs.take (E.P.cellsOf t)))
 | some _=>vHead cs K
 | none=>False
theorem c6A{E:Env}{G:Gh}{heap:List VObj}{arr:List Nat}{w0:Base}{w:World}(h:RelW E G heap arr w0 w){x:V}{v:Value}{cs:List V}{t:TypeId}{K:V→Prop}
  (hx:RV E.P G arr x v) (hat:vAt heap x=some cs) (hK:vLoadL E t cs K):∃ u y,(Instr.loadAt t v).run E.P w = .ok u w∧K y∧RV E.P G arr y u:=by
 obtain⟨b,o,rfl,hc⟩:=d2O h hx hat
 have hagg:∀ d,E.P.underlying t=some d→c0t d=true→E.P.cellsOf t≤cs.length∧K (.agg (cs.take (E.P.cellsOf t))) →
   ∃ u y,(Instr.loadAt t (.pointer (some ⟨b,o,none⟩))).run E.P w = .ok u w∧K y∧RV E.P G arr y u:=by
  intro d hd ht ⟨hl,hk⟩
  obtain⟨i,hi⟩:=b2C hd
  obtain⟨vs,h1,h2,h3⟩:=b6O (P:=E.P) (w:=w) (b:=b) (o:=o) (n:=E.P.cellsOf t) (fun j hj=>by
   obtain⟨u,hu,_⟩:=hc j _ (g9b (show j<cs.length by omega))
   exact⟨u,hu⟩)
  refine⟨.agg vs,.agg (cs.take (E.P.cellsOf t)),?_,hk,.agg _ _ (by rw[h2];simp;omega) fun j c u hj hu=>?_⟩
  ·simp only[Instr.loadAt,Instr.sureAddr,loadVar,h0z,h0A,h0y,b4E hd,ht,if_true,b0O hi,h1]
  ·have hj':j<E.P.cellsOf t:=by rw[←h2];exact(g9x.1 hu).1
   rw[List.getElem?_take,if_pos hj']at hj
   obtain⟨u',hu',hr⟩:=hc j c hj
   rw[h3 j hj',hu']at hu
   cases hu
   exact hr
 have hone:∀ d,E.P.underlying t=some d→c0t d=false→vHead cs K →
   ∃ u y,(Instr.loadAt t (.pointer (some ⟨b,o,none⟩))).run E.P w = .ok u w∧K y∧RV E.P G arr y u:=by
  intro d hd ht hk
  cases cs with
  | nil=>exact hk.elim
  | cons c cs =>
   obtain⟨u,hu,hr⟩:=hc 0 c rfl
   refine⟨u,c,?_,hk,hr⟩
   simp only[Instr.loadAt,Instr.sureAddr,loadVar,h0z,h0A,h0y,b4E hd,ht,g9n,if_false]
   rw[run_load,show o=o+0 from rfl,hu]
 unfold vLoadL at hK
 cases hd:E.P.underlying t with
 | none=>rw[hd]at hK;exact hK.elim
 | some d =>
  rw[hd]at hK
  cases d <;> first | exact hagg _ hd rfl hK | exact hone _ hd rfl hK
def c0q(cs:List V)(off:Nat)(xs:List V):List V:=cs.take off++xs++cs.drop (off+xs.length)
theorem b8A(cs:List V)(off:Nat)(xs:List V)(h:off+xs.length≤cs.length)(j:Nat) :
  (c0q cs off xs)[j]? = if off≤j∧j<off+xs.length then xs[j - off]? else cs[j]?:=by
 unfold c0q
 rw[g9t]
 by_cases h1:j<off
 ·rw[g9a (by simp;omega),if_neg (by omega),List.getElem?_take,if_pos h1]
 ·rw[g9c (by simp;omega)]
  have hl:(cs.take off).length=off:=by simp;omega
  rw[hl]
  by_cases h2:j<off+xs.length
  ·rw[g9a (by omega),if_pos (by omega)]
  ·rw[g9c (by omega),if_neg (by omega),g9Y]
   congr 1;omega
theorem b4Q(cs:List V)(off:Nat)(xs:List V)(h:off+xs.length≤cs.length):(c0q cs off xs).length=cs.length:=by
 simp[c0q];omega
def b9n(E:Env)(heap:List VObj)(t:TypeId)(a x:V)(K:List VObj→Prop):Prop :=
 match a with
 | .ptr id off=>match heap[id]? with
  | some ob=>match ob.cs? with
   | some cs=>(x ≠ .junk∧(cellsV x).all V.cell=true∧(cellsV x).length=E.P.cellsOf t∧(E.P.underlying t).isSome=true∧off+(cellsV x).length≤cs.length) ∧
     K (heap.set id (ob.put (c0q cs off (cellsV x))))
   | none=>False
  | _=>False
 | .vptr id k gen off=>match heap[id]? with
  | some (.vec k' gen' e cs)=>(k'=k∧gen'=gen∧x ≠ .junk∧(cellsV x).all V.cell=true∧(cellsV x).length=E.P.cellsOf t∧(E.P.underlying t).isSome=true∧off+(cellsV x).length≤cs.length∧0<(cellsV x).length) ∧
    K (heap.set id (.vec k gen e (c0q cs off (cellsV x))))
  | _=>False
 | _=>False
theorem RelW.storeVec{E:Env}{G:Gh}{heap:List VObj}{arr:List Nat}{w0:Base}{w w':World}(h:RelW E G heap arr w0 w){id k gen b hi off:Nat}{e:TypeId}{cs xs:List V}{vs:List Value}{c c':Array Value}{t:TypeId}
  (hid:heap[id]? = some (.vec k gen e cs)) (hρ:G.ρ[k]? = some (b,0,hi)) (hc:w.heap[b]? = some (.cells c t (0,0))) (hle:off+xs.length≤cs.length) (hch:cs.length≤hi) (hpos:0<xs.length) (hl:vs.length=xs.length)
  (hr:∀ (j:Nat) x v,xs[j]? = some x→vs[j]? = some v→RV E.P G arr x v) (hone:∀ v∈vs,v.oneCell'=true)
  (hos:w'.os=w.os) (ht:w'.tape=w.tape) (ho:w'.output=w.output) (hsz:w'.heap.size=w.heap.size) (hk:∀ k,k≠b→w'.heap[k]? = w.heap[k]?) (hc':w'.heap[b]? = some (.cells c' t (0,0))) (hcs:c'.size=c.size)
  (hget:∀ j,c'[j]? = if off≤j∧j<off+vs.length then vs[j - off]? else c[j]?):RelW E G (heap.set id (.vec k gen e (c0q cs off xs))) arr w0 w':=by
 have hhi:0<hi:=by omega
 have hidl:id<heap.length:=(g8Y.1 hid).1
 obtain⟨⟨c0,e0,r1,r2⟩,r3,r4,r5⟩:=h.reg k b 0 hi hρ hhi
 rw[hc]at r1
 cases r1
 have hcell:∀ b' o,(b'≠b∨¬ (off≤o∧o<off+vs.length))→w'.cell? ⟨b',o,none⟩=w.cell? ⟨b',o,none⟩:=fun b' o hor=>by
  by_cases e:b'=b
  ·subst e
   have hn:¬ (off≤o∧o<off+vs.length):=by rcases hor with h | h;exact absurd rfl h;exact h
   unfold World.cell?
   rw[hc',hc]
   simp only[g9u,g9n,if_false]
   rw[hget,if_neg hn]
  ·exact b2r (hk b' e)
 have hne:∀ (i c:Nat),G.φ[i]? = some c→∀ o,heap[i]? = some o→o.loose=false→c≠b:=fun i c hi' o ho hlo e=>by
  subst e
  rw[VObj.loose_of (r3 i hi' o ho)]at hlo;cases hlo
 have hset:∀ (i:Nat) o,(heap.set id (.vec k gen e (c0q cs off xs)))[i]? = some o→i≠id→heap[i]? = some o:=fun i o hi' hn=>by rwa [g9i (Ne.symm hn)]at hi'
 refine⟨h.newF,h.glob,h.below.trans ⟨hos,ht,ho,by omega,fun k' hk'=>hk k' (by omega)⟩,fun b' o v hv=>?_,h.one,fun i ob hi'=>?_,by simp[h.lenφ],h.nod,fun i c1 o hc1 hd=>?_,fun i c1 hc1=>by rw[hsz];exact h.geφ i c1 hc1,h.lenρ,
  fun k' b' lo hi' hk' hlt=>?_,h.regd,h.fre,fun i t' s c1 hi' hc1=>?_,h.ini,?_⟩
 ·rw[hcell b' o]
  ·exact h.frz _ _ _ hv
  ·by_cases e:b'=b
   ·subst e
    refine .inr fun hh=>?_
    rw[r4 o (Nat.zero_le _) (by omega)]at hv
    cases hv
   ·exact .inl e
 ·by_cases e1:i=id
  ·subst e1
   rw[g9e hidl]at hi'
   cases hi'
   obtain⟨c1,hc1,_⟩:=h.obj i _ hid
   exact⟨c1,hc1,trivial⟩
  ·have hi2:=hset i ob hi' e1
   obtain⟨c1,hc1,hr1⟩:=h.obj i ob hi2
   refine⟨c1,hc1,?_⟩
   cases hlo:ob.loose with
   | false=>exact hr1.keep (Ext.refl _ _) (hk c1 (hne i c1 hc1 ob hi2 hlo))
   | true =>
    cases ob <;> simp only[VObj.loose,g9n,reduceCtorEq]at hlo
    ·trivial
    ·trivial
 ·by_cases e1:i=id
  ·subst e1
   exact h.sep i c1 o hc1 (by rw[hid];intro hh;cases hh)
  ·rw[g9i (Ne.symm e1)]at hd
   exact h.sep i c1 o hc1 hd
 ·obtain⟨⟨c1,e1,q1,q2⟩,q3,q4,q5⟩:=h.reg k' b' lo hi' hk' hlt
  refine⟨?_,fun i hi2 o ho2=>?_,q4,q5⟩
  ·by_cases eb:b'=b
   ·subst eb
    rw[hc]at q1
    cases q1
    exact⟨c',t,hc',by omega⟩
   ·exact⟨c1,e1,by rw[hk b' eb];exact q1,q2⟩
  ·by_cases e1:i=id
   ·subst e1
    rw[g9e hidl]at ho2
    cases ho2
    have:=q3 i hi2 _ hid
    exact this
   ·exact q3 i hi2 o (hset i o ho2 e1)
 ·have e1:i≠id:=fun e1=>by subst e1;rw[g9e hidl]at hi';cases hi'
  have hi2:=hset i _ hi' e1
  refine(h.bld i t' s c1 hi2 hc1).keep (hk c1 (hne i c1 hc1 _ hi2 rfl)) fun g hg hs=>⟨hk g fun eg=>?_,hs⟩
  subst eg
  have:=hs.2.2 k 0 hi hρ
  omega
 ·refine⟨fun i k1 g1 e1 cs1 hi1=>?_,fun i i' k1 g1 g1' e1 e1' cs1 cs1' hi1 hi1'=>?_⟩
  ·by_cases ei:i=id
   ·subst ei
    rw[g9e hidl]at hi1
    cases hi1
    obtain⟨q1,q2,b1,hi2,q3,q4,q5⟩:=h.vs.at_ i k gen e cs hid
    rw[hρ]at q3
    cases q3
    refine⟨q1,q2,b,hi,hρ,by rw[b4Q _ _ _ hle];exact hch,fun j x hj=>?_⟩
    rw[b8A _ _ _ hle]at hj
    by_cases hin:off≤j∧j<off+xs.length
    ·rw[if_pos hin]at hj
     have hjl:j - off<vs.length:=by omega
     refine⟨vs[j - off],?_,hr _ _ _ hj (g9b hjl),hone _ (List.getElem_mem hjl)⟩
     unfold World.cell?
     rw[hc']
     simp only[g9u,g9n,if_false]
     rw[hget,if_pos (by omega),g9b hjl]
    ·rw[if_neg hin]at hj
     obtain⟨v,hv,hrv⟩:=q5 j x hj
     exact⟨v,by rw[hcell b j (.inr (by omega))];exact hv,hrv⟩
   ·have hi2:=hset i _ hi1 ei
    obtain⟨q1,q2,b1,hi3,q3,q4,q5⟩:=h.vs.at_ i k1 g1 e1 cs1 hi2
    refine⟨q1,q2,b1,hi3,q3,q4,fun j x hj=>?_⟩
    obtain⟨v,hv,hrv⟩:=q5 j x hj
    refine⟨v,?_,hrv⟩
    rw[hcell b1 j (.inl fun eb=>?_)]
    ·exact hv
    ·subst eb
     have hkk:k1≠k:=fun ek=>by subst ek;exact ei (h.vs.uni _ _ _ _ _ _ _ _ _ hi2 hid)
     have:=h.regd k1 k b1 0 hi3 0 hi hkk q3 hρ (by have:=(g8Y.1 hj).1;omega) hhi
     have:=(g8Y.1 hj).1
     omega
  ·have key:∀ (i k1 g1:Nat) e1 cs1,(heap.set id (.vec k gen e (c0q cs off xs)))[i]? = some (.vec k1 g1 e1 cs1)→∃ g e2 cs2,heap[i]? = some (.vec k1 g e2 cs2):=fun i k1 g1 e1 cs1 hq=>by
    by_cases ei:i=id
    ·subst ei
     rw[g9e hidl]at hq
     cases hq
     exact⟨_,_,_,hid⟩
    ·exact⟨_,_,_,hset i _ hq ei⟩
   obtain⟨_,_,_,a1⟩:=key _ _ _ _ _ hi1
   obtain⟨_,_,_,a2⟩:=key _ _ _ _ _ hi1'
   exact h.vs.uni _ _ _ _ _ _ _ _ _ a1 a2
theorem d0W{E:Env}{G:Gh}{heap:List VObj}{arr:List Nat}{w0:Base}{w:World}(h:RelW E G heap arr w0 w){a x:V}{va vx:Value}{t:TypeId}{K:List VObj→Prop}
  (ha:RV E.P G arr a va) (hx:RV E.P G arr x vx) (hK:b9n E heap t a x K) :
  ∃ w' heap',(Instr.storeAt t va vx).run E.P w = .ok () w'∧K heap'∧RelW E G heap' arr w0 w':=by
 cases a <;> simp only[b9n]at hK <;> try exact hK.elim
 case ptr id off =>
  split at hK
  ·rename_i ob hcs
   split at hK
   case h_2=>exact hK.elim
   rename_i cs hcs'
   obtain⟨⟨h1,h2,h3,h4,h5⟩,hk⟩:=hK
   cases ha with
   | ptr _ _ b hb =>
    obtain⟨b',hb',hro⟩:=h.obj id _ hcs
    obtain⟨c,e,hc1,hc2,hc3,hput⟩:=hro.un hcs'
    rw[hb]at hb';cases hb'
    obtain⟨hl,hr⟩:=hx.cellsV h1
    obtain⟨d,hd⟩:=g9E.1 h4
    obtain⟨i,hi⟩:=b2C hd
    have hcells:∀ v∈vx.cells.toList,(∀ cs,v ≠ .agg cs)∧∀ cs,v ≠ .tuple cs:=by
     intro v hv
     obtain⟨j,hj,rfl⟩:=h0c hv
     have hj':j<vx.cells.size:=by simpa using hj
     have hjc:j<(cellsV x).length:=by omega
     have:=hr j _ _ (g9b hjc) (g9p hj')
     exact this.cell_one (List.all_eq_true.1 h2 _ (List.getElem_mem hjc))
    obtain⟨w',c',g1,g2,g3,g4,g5,g6,g7,g8,g9⟩:=b2z (P:=E.P) vx.cells.toList w b off 0 c e hc1 (by simp;omega) hcells
    refine⟨w',_,?_,hk,h.change (hbl:=by intro t s hh;unfold VObj.put at hh;split at hh <;> cases hh) (hnv:=by intro _ _ _ _ hh;unfold VObj.put at hh;split at hh <;> cases hh) (hnl:=by intro _ _ _ _ hh;rw[hcs]at hh;cases hh;cases hcs') hb (g8Y.1 hcs).1 (by rw[hcs];intro hd;cases hd;cases hcs') g2 g3 g4 g5 g6 (hput w' c' _ g7 (by rw[g8,hc2,b4Q _ _ _ h5]) fun j y hy=>?_)⟩
    ·simp only[Instr.storeAt,Instr.sureAddr,storeVar,h0z,h0A,h0y,b0O hi]
     rw[if_neg (by omega)]
     exact g1
    ·rw[b8A _ _ _ h5]at hy
     have:=g9 j
     simp only[h0h,Array.length_toList]at this
     by_cases hin:off≤j∧j<off+(cellsV x).length
     ·rw[if_pos hin]at hy
      rw[if_pos (by omega)]at this
      have hj':j - off<vx.cells.size:=by omega
      refine⟨vx.cells[j - off],by rw[this];simp[hj'],hr _ _ _ hy (g9p hj')⟩
     ·rw[if_neg hin]at hy
      rw[if_neg (by omega)]at this
      obtain⟨u,hu,hru⟩:=hc3 j y hy
      exact⟨u,by rw[this];exact hu,hru⟩
  ·exact hK.elim
 case vptr id k gen off =>
  split at hK
  case h_2=>exact hK.elim
  rename_i k' gen' e cs hcs
  obtain⟨⟨rfl,rfl,h1,h2,h3,h4,h5,h6⟩,hk⟩:=hK
  obtain⟨q1,q2,b,hi,q3,q4,q5⟩:=h.vs.at_ id _ _ e cs hcs
  cases ha with
  | vptr _ _ _ _ _ _ hv =>
   obtain⟨n,g1,g2,g3⟩:=hv
   rw[q1]at g1
   cases g1
   obtain⟨b',hi',g4,g5,g6⟩:=g3 rfl
   rw[q3]at g4
   cases g4
   subst g5
   cases g6
   obtain⟨hl,hr⟩:=hx.cellsV h1
   obtain⟨d,hd⟩:=g9E.1 h4
   obtain⟨i,hi2⟩:=b2C hd
   have hcells:∀ v∈vx.cells.toList,(∀ cs,v ≠ .agg cs)∧∀ cs,v ≠ .tuple cs:=by
    intro v hv
    obtain⟨j,hj,rfl⟩:=h0c hv
    have hj':j<vx.cells.size:=by simpa using hj
    have hjc:j<(cellsV x).length:=by omega
    have:=hr j _ _ (g9b hjc) (g9p hj')
    exact this.cell_one (List.all_eq_true.1 h2 _ (List.getElem_mem hjc))
   obtain⟨⟨c,t',hc1,hc2⟩,_⟩:=h.reg _ b 0 hi q3 (by omega)
   obtain⟨w',c',p1,p2,p3,p4,p5,p6,p7,p8,p9⟩:=b2z (P:=E.P) vx.cells.toList w b off 0 c t' hc1 (by simp;omega) hcells
   refine⟨w',_,?_,hk,h.storeVec (vs:=vx.cells.toList) hcs q3 hc1 h5 q4 h6 (by simp;omega) (fun j y v hy hv=>hr j y v hy (by simpa using hv)) (fun v hv=>by
    obtain⟨g1,g2⟩:=hcells v hv
    cases v <;> first | rfl | exact absurd rfl (g1 _) | exact absurd rfl (g2 _)) p2 p3 p4 p5 p6 p7 p8 (fun j=>by have:=p9 j;simpa using this)⟩
   simp only[Instr.storeAt,Instr.sureAddr,storeVar,h0z,h0A,h0y,b0O hi2]
   rw[if_neg (by omega)]
   exact p1
open Go.RowKit
theorem d1c(need:Nat):∀ (r c:Nat),c≤need+need / 4+192→Builtin.growBy need r c≤need+need / 4+192:=by
 intro r
 induction r with
 | zero=>intro c h;exact h
 | succ r ih =>
  intro c h
  unfold Builtin.growBy
  split
  ·exact h
  ·exact ih _ (by omega)
theorem b5E(need cap:Nat)(h:cap<need):Builtin.nextslicecap need cap≤need+need / 4+512:=by
 unfold Builtin.nextslicecap
 split
 ·omega
 ·split
  ·omega
  ·have:=d1c need 4 cap (by omega);omega
def b0W(P:Program)(e:TypeId):Bool :=
 match P.info? e with
 | some i=>(match i.zero with | some z=>z.cells.size == i.size && z.cells.all Value.oneCell' | none=>false) && decide (1≤i.size) && decide (1≤i.bytes) && decide (i.bytes≤1048576)
 | none=>false
theorem b2F{P:Program}{e:TypeId}(h:b0W P e=true):∃ i z,P.info? e=some i∧i.zero=some z∧z.cells.all Value.oneCell'=true∧z.cells.size=P.cellsOf e∧i.size=P.cellsOf e∧i.bytes=P.bytesOf e ∧
  1≤P.cellsOf e∧1≤P.bytesOf e∧P.bytesOf e≤1048576:=by
 unfold b0W at h
 cases hi:P.info? e with
 | none=>simp[hi]at h
 | some i =>
  simp only[hi]at h
  cases hz:i.zero with
  | none=>simp[hz]at h
  | some z =>
   simp only[hz,g9g,g9h,beq_iff_eq]at h
   obtain⟨⟨⟨⟨h1,h0⟩,h2⟩,h3⟩,h4⟩:=h
   refine⟨i,z,rfl,hz,h0,?_,?_,?_,?_,?_,?_⟩ <;> simp[Program.cellsOf,Program.bytesOf,hi, *]
def sl(e:TypeId)(es:List (List V)):V := .slice .shared (if es.isEmpty then 0 else e) es
theorem RV.anyElem{P:Program}{G:Gh}{arr:List Nat}{o:Own}{e e':TypeId}{v:Value}(h:RV P G arr (.slice o e []) v):RV P G arr (.slice .shared e' []) v:=by
 cases h with
 | snil o e ho=>exact .snil _ _ trivial
 | sodd e a c=>exact .sodd _ _ _
 | slice o e es b off cap ho h1 h2 h3 h4 h5 h6=>exact .slice _ _ [] b off cap trivial (by simp) (by simp) (by simp) (by simp) (by simp) (by simp)
theorem RV.sl{P:Program}{G:Gh}{arr:List Nat}{o:Own}{e:TypeId}{es:List (List V)}{v:Value}(h:RV P G arr (.slice o e es) v):RV P G arr (sl e es) v:=by
 cases es with
 | nil=>exact h.anyElem
 | cons x r =>
  show RV P G arr (.slice .shared e (x::r)) v
  cases h with
  | slice _ _ _ b off cap ho h1 h2 h3 h4 h5 h6=>exact .slice _ _ _ _ _ _ trivial h1 h2 h3 h4 h5 h6
def share1:V→V
 | .slice _ e es=>sl e es
 | x=>x
theorem RV.share1{P:Program}{G:Gh}{arr:List Nat}{x:V}{v:Value}(h:RV P G arr x v):RV P G arr (share1 x) v:=by
 cases x
 case slice o e es=>exact h.sl
 all_goals exact h
def shareA:V→V
 | .agg cs => .agg (cs.map share1)
 | x=>share1 x
theorem RV.shareA{P:Program}{G:Gh}{arr:List Nat}{x:V}{v:Value}(h:RV P G arr x v):RV P G arr (shareA x) v:=by
 cases x
 case agg cs =>
  cases h with
  | agg _ vs hl hr =>
   refine .agg _ _ (by simpa using hl) fun j c u hc hu=>?_
   rw[g9q]at hc
   obtain⟨c',hc',rfl⟩:=g9l.1 hc
   exact(hr j c' u hc' hu).share1
 all_goals exact h.share1
def share:V→V
 | .tuple cs => .tuple (cs.map shareA)
 | x=>shareA x
theorem RV.share{P:Program}{G:Gh}{arr:List Nat}{x:V}{v:Value}(h:RV P G arr x v):RV P G arr (share x) v:=by
 cases x
 case tuple cs =>
  cases h with
  | tuple _ vs hl hr =>
   refine .tuple _ _ (by simpa using hl) fun j c u hc hu=>?_
   rw[g9q]at hc
   obtain⟨c',hc',rfl⟩:=g9l.1 hc
   exact(hr j c' u hc' hu).shareA
 all_goals exact h.shareA
def b6t(P:Program)(e:TypeId):V→Option (List (List V))
 | .slice _ e' es=>if e'=e∨es=[]then some es else none
 | _=>none
theorem c8f{E:Env}{G:Gh}{heap:List VObj}{arr:List Nat}{w0:Base}{w:World}(h:RelW E G heap arr w0 w){o:Own}{e:TypeId}{es:List (List V)}{v:Value}
  (hv:RV E.P G arr (.slice o e es) v):∃ vs:Array Value,(∃ a cap,v = .slice a es.length cap)∧(Builtin.firstCells (E.P.cellsOf e) es.length v).run E.P w = .ok vs w∧vs.size=es.length * E.P.cellsOf e ∧
   ∀ (i:Nat) el (j:Nat) c,es[i]? = some el→el[j]? = some c→∃ u,vs[i * E.P.cellsOf e+j]? = some u∧RV E.P G arr c u:=by
 cases hv with
 | snil o e ho=>exact⟨#[],⟨none,0,rfl⟩,by simp[Builtin.firstCells],by simp,by simp⟩
 | sodd e a c =>
  refine⟨#[],⟨a,c,rfl⟩,?_,by simp,by simp⟩
  cases a with
  | none=>exact run_firstCells_none w _ 0 0 c
  | some a=>exact run_firstCells_some w _ 0 a 0 c [] (by simp) (by simp)
 | slice o e es b off cap ho h1 h2 h3 h4 h5 h6 =>
  obtain⟨vs,g1,g2,g3⟩:=b6O (P:=E.P) (w:=w) (b:=b) (o:=off) (n:=es.length * E.P.cellsOf e) (fun j hj=>by
   have hs:0<E.P.cellsOf e:=Nat.pos_of_ne_zero fun h0=>by simp[h0]at hj
   have hi:j / E.P.cellsOf e<es.length:=(Nat.div_lt_iff_lt_mul hs).2 hj
   have hel:=h1 _ _ (g9b hi)
   obtain⟨u,hu⟩:=h5 _ _ (j % E.P.cellsOf e) (g9b hi) (by rw[hel];exact Nat.mod_lt _ hs)
   refine⟨u,?_⟩
   have:j / E.P.cellsOf e * E.P.cellsOf e+j % E.P.cellsOf e=j:=Nat.div_add_mod' j _
   rw[this]at hu
   exact h.frz _ _ _ hu)
  refine⟨vs,⟨_,_,rfl⟩,by simpa[Builtin.firstCells]using g1,g2,fun i el j c hi hj=>?_⟩
  have hel:=h1 i el hi
  have hjl:=(g8Y.1 hj).1
  have hil:=(g8Y.1 hi).1
  obtain⟨u,hu⟩:=h5 i el j hi hjl
  have hlt:i * E.P.cellsOf e+j<es.length * E.P.cellsOf e:=by
   have:(i+1) * E.P.cellsOf e≤es.length * E.P.cellsOf e:=g9L _ hil
   rw[g9R]at this
   omega
  exact⟨u,by rw[g3 _ hlt];exact h.frz _ _ _ hu,h6 i el j c u hi hj hu⟩
def Gh.freezeAt(G:Gh)(b lo:Nat)(c:Array Value):Gh:={ G with F:=fun b' o=>if b'=b∧lo≤o∧o<lo+c.size then c[o - lo]? else G.F b' o }
theorem RelW.allocA{E:Env}{G:Gh}{heap:List VObj}{arr:List Nat}{w0:Base}{w:World}(h:RelW E G heap arr w0 w)(c rest:Array Value)(e:TypeId)(k m hi:Nat)(arr':List Nat)(ρ':List (Nat×Nat×Nat))
  (hhi:hi≤c.size+rest.size) (hl:ρ'.length=arr'.length) (hk:ρ'[k]? = some (w.heap.size,c.size,hi)) (hak:arr'[k]? = some m)
  (hold:∀ j:Nat,j≠k→ρ'[j]? = G.ρ[j]?∧arr'[j]? = arr[j]?) (hkm:∀ n:Nat,arr[k]? = some n→n<m) (h1:∀ (j:Nat) v,c[j]? = some v→v.oneCell'=true) (hm:m<18446744073709551616) :
  Ext G arr ⟨(G.freezeAt w.heap.size 0 c).F,G.φ,ρ'⟩ arr'∧RelW E ⟨(G.freezeAt w.heap.size 0 c).F,G.φ,ρ'⟩ heap arr' w0 (w.alloc (.cells (c++rest) e)):=by
 have hF:∀ b o v,G.F b o=some v→(G.freezeAt w.heap.size 0 c).F b o=some v:=by
  intro b o v hv
  simp only[Gh.freezeAt]
  rw[if_neg]
  ·exact hv
  ·rintro⟨rfl,_⟩
   rw[h.F_new]at hv;cases hv
 have hx:Ext G arr ⟨(G.freezeAt w.heap.size 0 c).F,G.φ,ρ'⟩ arr':=by
  refine⟨hF,fun _ _ h=>h,fun j n hj=>?_⟩
  by_cases e:j=k
  ·subst e
   have:=hkm n hj
   exact⟨m,hak,by omega,fun e=>by omega⟩
  ·exact⟨n,by rw[(hold j e).2];exact hj,g9m _,fun _=>(hold j e).1⟩
 have hs:=h.below.size
 refine⟨hx,⟨fun b o v hv hlt=>h.newF b o v (by
   simp only[Gh.freezeAt]at hv
   rwa [if_neg (by omega)]at hv) hlt,fun g cs hg=>⟨(h.glob g cs hg).1,(h.glob g cs hg).2.mono hx⟩,h.below.alloc hs _,?_,fun b o v hv=>by
   simp only[Gh.freezeAt]at hv
   split at hv
   ·exact h1 _ _ hv
   ·exact h.one _ _ _ hv,?_,h.lenφ,h.nod,?_,?_,hl,?_,?_,?_,?_,h.ini,h.vsK hx (fun _ _ _ _ _ h=>h) (fun j g hj hg=>by
    by_cases e:j=k
    ·subst e
     have:=hkm g hj
     omega
    ·rw[(hold j e).2];exact hj) fun j hj=>by rw[b0Q,if_neg (by omega)]⟩⟩
 ·intro b o v hv
  simp only[Gh.freezeAt]at hv
  split at hv
  ·rename_i hc
   obtain⟨rfl,_,hc2⟩:=hc
   rw[World.cell?_alloc_new,h0u (by omega)]
   simpa using hv
  ·rw[World.cell?_alloc_old _ _ _ (by have:=b6v (h.frz _ _ _ hv);simp;omega)]
   exact h.frz _ _ _ hv
 ·intro id ob hid
  obtain⟨b,hb,hr⟩:=h.obj id ob hid
  exact⟨b,hb,hr.keep hx (by rw[b0Q,if_neg (by have:=(h.geφ id b hb).2;omega)])⟩
 ·intro id b o hb hd
  simp only[Gh.freezeAt]
  have:=(h.geφ id b hb).2
  rw[if_neg (by omega)]
  exact h.sep id b o hb hd
 ·intro id b hb
  have:=h.geφ id b hb
  simp;omega
 ·intro j b lo hi' hj hlt
  by_cases ej:j=k
  ·subst ej
   simp only at hj
   rw[hk]at hj
   cases hj
   refine⟨⟨c++rest,e,by rw[b0Q,if_pos rfl],by simpa using hhi⟩,fun id hid=>?_,fun o h1 h2=>?_,hs⟩
   ·have:=(h.geφ id _ hid).2;omega
   ·simp only[Gh.freezeAt]
    rw[if_neg (by omega)]
    exact h.F_new o
  ·simp only at hj
   rw[(hold j ej).1]at hj
   obtain⟨⟨c',e',h1,h2⟩,h3,h4,h5⟩:=h.reg j b lo hi' hj hlt
   have hblt:b<w.heap.size:=(g9x.1 h1).1
   refine⟨⟨c',e',by rw[b0Q,if_neg (by omega)];exact h1,h2⟩,h3,fun o ho1 ho2=>?_,h5⟩
   simp only[Gh.freezeAt]
   rw[if_neg (by omega)]
   exact h4 o ho1 ho2
 ·intro i j b lo hi1 lo' hi2 hij hi' hj' hlt hlt'
  simp only at hi' hj'
  by_cases ei:i=k
  ·subst ei
   rw[hk]at hi'
   cases hi'
   rw[(hold j (Ne.symm hij)).1]at hj'
   obtain⟨⟨c',e',h1,_⟩,_⟩:=h.reg j _ lo' hi2 hj' hlt'
   have hblt:w.heap.size<w.heap.size:=(g9x.1 h1).1
   omega
  ·by_cases ej:j=k
   ·subst ej
    rw[hk]at hj'
    cases hj'
    rw[(hold i ei).1]at hi'
    obtain⟨⟨c',e',h1,_⟩,_⟩:=h.reg i _ lo hi1 hi' hlt
    have hblt:w.heap.size<w.heap.size:=(g9x.1 h1).1
    omega
   ·rw[(hold i ei).1]at hi'
    rw[(hold j ej).1]at hj'
    exact h.regd i j b lo hi1 lo' hi2 hij hi' hj' hlt hlt'
 ·intro j b lo hi' hj
  by_cases ej:j=k
  ·subst ej
   rw[show(⟨(G.freezeAt w.heap.size 0 c).F,G.φ,ρ'⟩:Gh).ρ=ρ' from rfl,hk]at hj
   cases hj
   exact .inl h.below.size
  ·rw[show(⟨(G.freezeAt w.heap.size 0 c).F,G.φ,ρ'⟩:Gh).ρ=ρ' from rfl,(hold j ej).1]at hj
   exact h.fre j b lo hi' hj
 ·refine h.bldA (fun k hk=>by rw[b0Q,if_neg (by omega)]) fun g hg ⟨s1,s2,s3⟩=>⟨fun o=>?_,s2,fun j lo hi' hj=>?_⟩
  ·simp only[Gh.freezeAt];rw[if_neg (by omega)];exact s1 o
  ·by_cases ej:j=k
   ·subst ej
    rw[show(⟨(G.freezeAt w.heap.size 0 c).F,G.φ,ρ'⟩:Gh).ρ=ρ' from rfl,hk]at hj
    cases hj;omega
   ·rw[show(⟨(G.freezeAt w.heap.size 0 c).F,G.φ,ρ'⟩:Gh).ρ=ρ' from rfl,(hold j ej).1]at hj
    exact s3 j lo hi' hj
theorem RelW.fillA{E:Env}{G:Gh}{heap:List VObj}{arr:List Nat}{w0:Base}{w:World}(h:RelW E G heap arr w0 w){k b lo hi n m:Nat}{c:Array Value}{w':World}{cb cb':Array Value}{e:TypeId}
  (hk:G.ρ[k]? = some (b,lo,hi)) (hlt:lo<hi) (hn:arr[k]? = some n) (hnm:n<m) (hc:lo+c.size≤hi)
  (hos:w'.os=w.os) (ht:w'.tape=w.tape) (ho:w'.output=w.output) (hsz:w'.heap.size=w.heap.size) (hkk:∀ j,j≠b→w'.heap[j]? = w.heap[j]?)
  (hb:w.heap[b]? = some (.cells cb e (0,0))) (hb':w'.heap[b]? = some (.cells cb' e (0,0))) (hcs:cb'.size=cb.size)
  (hget:∀ j,cb'[j]? = if lo≤j∧j<lo+c.size then c[j - lo]? else cb[j]?) (hone:∀ (j:Nat) v,c[j]? = some v→v.oneCell'=true) (hm:m<18446744073709551616) :
  Ext G arr ⟨(G.freezeAt b lo c).F,G.φ,G.ρ.set k (b,lo+c.size,hi)⟩ (arr.set k m) ∧
  RelW E ⟨(G.freezeAt b lo c).F,G.φ,G.ρ.set k (b,lo+c.size,hi)⟩ heap (arr.set k m) w0 w':=by
 obtain⟨_,r3,r4,r5⟩:=h.reg k b lo hi hk hlt
 have hkl:k<arr.length:=(g8Y.1 hn).1
 have hkl':k<G.ρ.length:=(g8Y.1 hk).1
 have hF:∀ b' o v,G.F b' o=some v→(G.freezeAt b lo c).F b' o=some v:=by
  intro b' o v hv
  simp only[Gh.freezeAt]
  rw[if_neg]
  ·exact hv
  ·rintro⟨rfl,h1,h2⟩
   rw[r4 o h1 (by omega)]at hv;cases hv
 have hx:Ext G arr ⟨(G.freezeAt b lo c).F,G.φ,G.ρ.set k (b,lo+c.size,hi)⟩ (arr.set k m):=by
  refine⟨hF,fun _ _ h=>h,fun j p hj=>?_⟩
  by_cases ej:j=k
  ·subst ej
   rw[hn]at hj
   cases hj
   exact⟨m,g9e hkl,by omega,fun e=>by omega⟩
  ·exact⟨p,by rw[g9i (Ne.symm ej)];exact hj,g9m _,fun _=>g9i (Ne.symm ej)⟩
 have hs:=h.below.size
 have hvs:Vecs E.P ⟨(G.freezeAt b lo c).F,G.φ,G.ρ.set k (b,lo+c.size,hi)⟩ heap (arr.set k m) w':=by
  refine h.vs.keep hx (fun _ _ _ _ _ h=>h) (fun j g b1 hi1 h1 h2 h3=>?_) fun j g b1 hi1 o h1 h2 h3 ho1=>?_
  ·by_cases e:j=k
   ·subst e
    rw[hn]at h1;cases h1
    omega
   ·rw[g9i (Ne.symm e)];exact h1
  ·have e:j≠k:=fun e=>by subst e;rw[hn]at h1;cases h1;omega
   by_cases eb:b1=b
   ·subst eb
    have:=h.regd j k b1 0 hi1 lo hi e h3 hk (by omega) hlt
    unfold World.cell?
    rw[hb',hb]
    simp only[g9u,g9n,if_false]
    rw[hget,if_neg (by omega)]
   ·exact b2r (hkk b1 eb)
 refine⟨hx,⟨fun b' o v hv hlt'=>h.newF b' o v (by
   simp only[Gh.freezeAt]at hv
   rwa [if_neg (by omega)]at hv) hlt',fun g cs hg=>⟨(h.glob g cs hg).1,(h.glob g cs hg).2.mono hx⟩,?_,?_,fun b' o v hv=>by
   simp only[Gh.freezeAt]at hv
   split at hv
   ·exact hone _ _ hv
   ·exact h.one _ _ _ hv,?_,h.lenφ,h.nod,?_,?_,by simp[h.lenρ],?_,?_,?_,?_,h.ini,hvs⟩⟩
 ·exact h.below.trans ⟨hos,ht,ho,by omega,fun j hj=>hkk j (by omega)⟩
 ·intro b' o v hv
  simp only[Gh.freezeAt]at hv
  split at hv
  ·rename_i hc'
   obtain⟨rfl,h1,h2⟩:=hc'
   simp only[World.cell?,hb',g9u,g9n,if_false]
   rw[hget,if_pos ⟨h1,h2⟩];exact hv
  ·rename_i hc'
   have hold:=h.frz _ _ _ hv
   by_cases eb:b'=b
   ·subst eb
    simp only[World.cell?,hb,g9u,g9n,if_false]at hold
    simp only[World.cell?,hb',g9u,g9n,if_false]
    rw[hget,if_neg (by intro hh;exact hc' ⟨rfl,hh⟩)];exact hold
   ·unfold World.cell? at hold ⊢
    rw[hkk b' eb];exact hold
 ·intro id ob hid
  obtain⟨b',hb1,hr⟩:=h.obj id ob hid
  refine⟨b',hb1,?_⟩
  cases hlo:ob.loose with
  | false=>exact hr.keep hx (hkk b' fun e=>by have:=VObj.loose_of (r3 id (e ▸ hb1) ob hid);rw[hlo]at this;cases this)
  | true =>
   cases ob <;> simp only[VObj.loose,g9n,reduceCtorEq]at hlo
   ·trivial
   ·trivial
 ·intro id b' o hb1 hd
  simp only[Gh.freezeAt]
  rw[if_neg (by
   rintro⟨rfl,_⟩
   cases hq:heap[id]? with
   | none =>
    have:=h.lenφ
    have h1:id<G.φ.length:=(g8Y.1 hb1).1
    rw[List.getElem?_eq_none_iff]at hq
    omega
   | some ob =>
    have hl:=r3 id hb1 ob hq
    cases ob <;> simp only[VObj.looseAt,g9n,beq_iff_eq]at hl
    ·exact hd hq
    ·subst hl
     obtain⟨q1,q2,_⟩:=h.vs.at_ _ _ _ _ _ hq
     rw[hn]at q1
     cases q1
     omega)]
  exact h.sep id b' o hb1 hd
 ·intro id b' hb1;rw[hsz];exact h.geφ id b' hb1
 ·intro j b' lo' hi' hj hlt'
  simp only at hj
  by_cases ej:j=k
  ·subst ej
   rw[g9e hkl']at hj
   cases hj
   obtain⟨⟨c1,e1,h1,h2⟩,_⟩:=h.reg j b lo hi hk hlt
   rw[hb]at h1
   cases h1
   refine⟨⟨cb',e,hb',by omega⟩,r3,fun o h1 h2=>?_,r5⟩
   simp only[Gh.freezeAt]
   rw[if_neg (by omega)]
   exact r4 o (by omega) h2
  ·rw[g9i (Ne.symm ej)]at hj
   obtain⟨⟨c1,e1,h1,h2⟩,h3,h4,h5⟩:=h.reg j b' lo' hi' hj hlt'
   refine⟨?_,h3,fun o ho1 ho2=>?_,h5⟩
   ·by_cases eb:b'=b
    ·subst eb
     rw[hb]at h1
     cases h1
     exact⟨cb',e,hb',by omega⟩
    ·exact⟨c1,e1,by rw[hkk b' eb];exact h1,h2⟩
   ·simp only[Gh.freezeAt]
    rw[if_neg]
    ·exact h4 o ho1 ho2
    ·rintro⟨rfl,h6,h7⟩
     have:=h.regd j k b' lo' hi' lo hi ej hj hk hlt' hlt
     omega
 ·intro i j b' lo1 hi1 lo2 hi2 hij hi' hj' hlt1 hlt2
  simp only at hi' hj'
  by_cases ei:i=k
  ·subst ei
   rw[g9e hkl']at hi'
   cases hi'
   rw[g9i hij]at hj'
   have:=h.regd i j b lo hi lo2 hi2 hij hk hj' hlt hlt2
   omega
  ·rw[g9i (Ne.symm ei)]at hi'
   by_cases ej:j=k
   ·subst ej
    rw[g9e hkl']at hj'
    cases hj'
    have:=h.regd i j b lo1 hi1 lo hi hij hi' hk hlt1 hlt
    omega
   ·rw[g9i (Ne.symm ej)]at hj'
    exact h.regd i j b' lo1 hi1 lo2 hi2 hij hi' hj' hlt1 hlt2
 ·intro j b' lo' hi' hj
  have hj:(G.ρ.set k (b,lo+c.size,hi))[j]? = some (b',lo',hi'):=hj
  by_cases ej:j=k
  ·subst ej
   rw[g9e hkl']at hj
   cases hj
   exact .inl r5
  ·rw[g9i (Ne.symm ej)]at hj
   exact h.fre j b' lo' hi' hj
 ·intro id t s b' hi' hb''
  refine(h.bld id t s b' hi' hb'').keep (hkk b' fun e=>by have:=r3 id (by rw[←e];exact hb'') _ hi';cases this) fun g hg ⟨s1,s2,s3⟩=>?_
  have hne:g≠b:=fun e=>by subst e;have:=s3 k lo hi hk;omega
  refine⟨hkk g hne,fun o=>?_,s2,fun j lo' hi' hj=>?_⟩
  ·simp only[Gh.freezeAt];rw[if_neg (fun hh=>hne hh.1)];exact s1 o
  ·have hj:(G.ρ.set k (b,lo+c.size,hi))[j]? = some (g,lo',hi'):=hj
   by_cases ej:j=k
   ·subst ej
    rw[g9e hkl']at hj
    cases hj;exact absurd rfl hne
   ·rw[g9i (Ne.symm ej)]at hj
    exact s3 j lo' hi' hj
theorem RelW.slot{E:Env}{G:Gh}{heap:List VObj}{arr:List Nat}{w0:Base}{w:World}(h:RelW E G heap arr w0 w)(n:Nat) :
  Ext G arr { G with ρ:=G.ρ++[(0,0,0)] } (arr++[n])∧RelW E { G with ρ:=G.ρ++[(0,0,0)] } heap (arr++[n]) w0 w:=by
 have hx:Ext G arr { G with ρ:=G.ρ++[(0,0,0)] } (arr++[n]):=by
  refine⟨fun _ _ _ h=>h,fun _ _ h=>h,fun j p hj=>⟨p,?_,g9m _,fun _=>?_⟩⟩
  ·rw[g9a (g8Y.1 hj).1];exact hj
  ·have:=(g8Y.1 hj).1
   exact g9a (by rw[h.lenρ];exact this)
 have hget:∀ (j b' lo' hi':Nat),(G.ρ++[(0,0,0)])[j]? = some (b',lo',hi')→lo'<hi'→G.ρ[j]? = some (b',lo',hi'):=by
  intro j b' lo' hi' hj hlt
  rcases Nat.lt_trichotomy j G.ρ.length with hjl | hjl | hjl
  ·rwa [g9a hjl]at hj
  ·subst hjl;rw[g9c (g9m _)]at hj;simp at hj;omega
  ·rw[g9K (by simp;omega)]at hj;cases hj
 refine⟨hx,⟨h.newF,fun g cs hg=>⟨(h.glob g cs hg).1,(h.glob g cs hg).2.mono hx⟩,h.below,h.frz,h.one,fun id ob hid=>(h.obj id ob hid).imp fun b' hb=>⟨hb.1,hb.2.keep hx rfl⟩,
  h.lenφ,h.nod,h.sep,h.geφ,by simp[h.lenρ],fun j b' lo' hi' hj hlt=>h.reg j b' lo' hi' (hget j b' lo' hi' hj hlt) hlt,fun i j b' lo1 hi1 lo2 hi2 hij hi' hj' hlt1 hlt2=>?_,fun j b' lo' hi' hj=>?_,h.bldA (fun _ _=>rfl) (fun g hg ⟨s1,s2,s3⟩=>⟨s1,s2,fun j lo' hi' hj=>?_⟩),h.ini,h.vsK hx (fun _ _ _ _ _ h=>h) (fun j g hj _=>by rw[g9a (g8Y.1 hj).1];exact hj) fun _ _=>rfl⟩⟩
 ·exact h.regd i j b' lo1 hi1 lo2 hi2 hij (hget _ _ _ _ hi' hlt1) (hget _ _ _ _ hj' hlt2) hlt1 hlt2
 ·have hj:(G.ρ++[(0,0,0)])[j]? = some (b',lo',hi'):=hj
  rcases Nat.lt_trichotomy j G.ρ.length with hjl | hjl | hjl
  ·rw[g9a hjl]at hj;exact h.fre j b' lo' hi' hj
  ·subst hjl;rw[g9c (g9m _)]at hj;simp at hj;exact .inr ⟨hj.1.symm,hj.2.1.symm,hj.2.2.symm⟩
  ·rw[g9K (by simp;omega)]at hj;cases hj
 ·rcases h0v lo' hi' with hlt | hge
  ·exact s3 j lo' hi' (hget j g lo' hi' hj hlt)
  ·exact hge
theorem RelW.slotMove{E:Env}{G:Gh}{heap:List VObj}{arr:List Nat}{w0:Base}{w:World}(h:RelW E G heap arr w0 w){k len m b lo hi lo0 hi0:Nat}(hk:arr[k]? = some len)(hsm:len<18446744073709551616)
  (hρ:G.ρ[k]? = some (b,lo0,hi0)) (hreg:(lo=lo0∧hi=hi0)∨(hi≤lo∧lo≤lo0∧hi≤lo)) :
  Ext G arr { G with ρ:=G.ρ.set k (0,0,0)++[(b,lo,hi)] } (arr.set k (len+1)++[m])∧RelW E { G with ρ:=G.ρ.set k (0,0,0)++[(b,lo,hi)] } heap (arr.set k (len+1)++[m]) w0 w:=by
 have hkl:=(g8Y.1 hk).1
 have hlr:=h.lenρ
 have hne:∀ j,j≠k→j<arr.length→(G.ρ.set k (0,0,0)++[(b,lo,hi)])[j]? = G.ρ[j]?:=fun j hj hl=>by
  rw[g9a (by simp;omega),g9i (Ne.symm hj)]
 have hx:Ext G arr { G with ρ:=G.ρ.set k (0,0,0)++[(b,lo,hi)] } (arr.set k (len+1)++[m]):=by
  refine⟨fun _ _ _ h=>h,fun _ _ h=>h,fun j p hj=>?_⟩
  have hjl:=(g8Y.1 hj).1
  by_cases e:j=k
  ·subst e
   rw[hk]at hj
   cases hj
   exact⟨len+1,by rw[g9a (by simpa using hjl),g9e hjl],by omega,fun h=>by omega⟩
  ·exact⟨p,by rw[g9a (by simpa using hjl),g9i (Ne.symm e)];exact hj,g9m _,fun _=>hne j e hjl⟩
 have hget:∀ (j b' lo' hi':Nat),(G.ρ.set k (0,0,0)++[(b,lo,hi)])[j]? = some (b',lo',hi')→lo'<hi'→(j≠k∧j<arr.length∧G.ρ[j]? = some (b',lo',hi'))∨(j=arr.length∧b'=b∧lo'=lo0∧hi'=hi0):=by
  intro j b' lo' hi' hj hlt
  rcases Nat.lt_trichotomy j arr.length with hjl | hjl | hjl
  ·by_cases e:j=k
   ·subst e
    rw[g9a (by simp;omega),g9e (by omega)]at hj
    simp at hj;omega
   ·rw[hne j e hjl]at hj;exact .inl ⟨e,hjl,hj⟩
  ·subst hjl
   rw[g9c (by simp;omega)]at hj
   simp[hlr]at hj
   rcases hreg with⟨r1,r2⟩ | ⟨r1,_,_⟩
   ·exact .inr ⟨rfl,hj.1.symm,by omega,by omega⟩
   ·omega
  ·rw[g9K (by simp;omega)]at hj;cases hj
 refine⟨hx,⟨h.newF,fun g cs hg=>⟨(h.glob g cs hg).1,(h.glob g cs hg).2.mono hx⟩,h.below,h.frz,h.one,fun id ob hid=>(h.obj id ob hid).imp fun b' hb=>⟨hb.1,hb.2.keep hx rfl⟩,
  h.lenφ,h.nod,h.sep,h.geφ,by simp[h.lenρ],fun j b' lo' hi' hj hlt=>?_,fun i j b' lo1 hi1 lo2 hi2 hij hi' hj' hlt1 hlt2=>?_,fun j b' lo' hi' hj=>?_,h.bldA (fun _ _=>rfl) (fun g hg ⟨s1,s2,s3⟩=>⟨s1,s2,fun j lo' hi' hj=>?_⟩),h.ini,h.vsK hx (fun _ _ _ _ _ h=>h) (fun j g hj hge=>?_) fun _ _=>rfl⟩⟩
 ·rcases hget j b' lo' hi' hj hlt with⟨e1,e2,e3⟩ | ⟨rfl,rfl,rfl,rfl⟩
  ·exact h.reg j b' lo' hi' e3 hlt
  ·obtain⟨q1,q2,q3,q4⟩:=h.reg k _ _ _ hρ hlt
   refine⟨q1,fun id hid ob hob=>?_,q3,q4⟩
   have:=q2 id hid ob hob
   cases ob with
   | dead=>rfl
   | vec k' gen e cs =>
    simp only[VObj.looseAt,beq_iff_eq]at this
    subst this
    obtain⟨z1,z2,_⟩:=h.vs.at_ id _ gen e cs hob
    rw[hk]at z1
    cases z1
    omega
   | _=>simp[VObj.looseAt]at this
 ·rcases hget i b' lo1 hi1 hi' hlt1 with⟨e1,e2,e3⟩ | ⟨rfl,e2,e3,e4⟩ <;> rcases hget j b' lo2 hi2 hj' hlt2 with⟨f1,f2,f3⟩ | ⟨rfl,f2,f3,f4⟩
  ·exact h.regd i j b' lo1 hi1 lo2 hi2 hij e3 f3 hlt1 hlt2
  ·subst f2 f3 f4
   exact h.regd i k _ lo1 hi1 _ _ e1 e3 hρ hlt1 hlt2
  ·subst e2 e3 e4
   exact h.regd k j _ _ _ lo2 hi2 (Ne.symm f1) hρ f3 hlt1 hlt2
  ·exact absurd rfl hij
 ·have hj:(G.ρ.set k (0,0,0)++[(b,lo,hi)])[j]? = some (b',lo',hi'):=hj
  rcases Nat.lt_trichotomy j arr.length with hjl | hjl | hjl
  ·by_cases e:j=k
   ·subst e
    rw[g9a (by simp;omega),g9e (by omega)]at hj
    simp at hj
    exact .inr ⟨hj.1.symm,hj.2.1.symm,hj.2.2.symm⟩
   ·rw[hne j e hjl]at hj;exact h.fre j b' lo' hi' hj
  ·subst hjl
   rw[g9c (by simp;omega)]at hj
   simp[hlr]at hj
   obtain⟨rfl,rfl,rfl⟩:=hj
   rcases h.fre k _ _ _ hρ with hf | ⟨f1,f2,f3⟩
   ·exact .inl hf
   ·right
    rcases hreg with⟨r1,r2⟩ | ⟨r1,r2,_⟩ <;> exact⟨f1,by omega,by omega⟩
  ·rw[g9K (by simp;omega)]at hj;cases hj
 ·rcases h0v lo' hi' with hlt | hge
  ·rcases hget j g lo' hi' hj hlt with⟨e1,e2,e3⟩ | ⟨rfl,rfl,rfl,rfl⟩
   ·exact s3 j lo' hi' e3
   ·exact s3 k _ _ hρ
  ·exact hge
 ·have e:j≠k:=fun e=>by subst e;rw[hk]at hj;cases hj;omega
  have hjl:=(g8Y.1 hj).1
  rw[g9a (by simpa using hjl),g9i (Ne.symm e)];exact hj
end Go.Vg
