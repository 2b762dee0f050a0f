import Derived.Test.YtighfcpaplmaiaaGreatDoorVgT
import Derived.Scope
set_option linter.unusedVariables false
set_option linter.unusedSimpArgs false
namespace Go.Vg
open Go.RowKit
section
variable {E : Env} {G : Gh} {heap : List VObj} {arr : List Nat} {w0 : Base} {w : World}
theorem c3q(h:RelW E G heap arr w0 w){s:TypeId}{x:V}{v:Value}{f:Nat}{K:V→Prop}(hx:RV E.P G arr x v)(hK:vFieldAddr E s x f K) :
  ∃ u z,(Instr.fieldAt s v f).run E.P w = .ok u w∧K z∧RV E.P G arr z u:=by
 unfold vFieldAddr at hK;split at hK
 case h_2=>exact hK.elim
 rename_i fs hd;split at hK
 case h_2=>exact hK.elim
 rename_i fd hf;obtain⟨⟨h1,h2⟩,hk⟩:=hK;obtain⟨i,hi⟩:=h0I.1 h1;split at hk
 ·cases hx with
  | fptr cs b o hdd hr =>
   refine⟨.pointer (some ⟨b,o+fd.offset,none⟩),_,?_,hk,.fptr _ _ _ (fun j hj=>?_) fun j c u hc hu=>?_⟩
   ·simp only[Instr.fieldAt,h1E,b0x hd,h1D,hf,Instr.sureAddr,h1F,fieldPlace,b0M hi,if_neg h2,Addr.add_mk]
   ·obtain⟨u,hu⟩:=hdd (fd.offset+j) (by simp at hj;omega);exact⟨u,by rw[←hu];congr 1;omega⟩
   ·rw[h1d]at hc;exact hr _ c u hc (by rw[←hu];congr 1;omega)
 ·rename_i id off;cases hx with
  | ptr _ _ b hb =>
   refine⟨.pointer (some ⟨b,off+fd.offset,none⟩),_,?_,hk,.ptr _ _ _ hb⟩;simp only[Instr.fieldAt,h1E,b0x hd,h1D,hf,Instr.sureAddr,h1F,fieldPlace,b0M hi,if_neg h2,Addr.add_mk]
 ·rename_i id k gen off;cases hx with
  | vptr _ _ _ _ b o hv =>
   refine⟨.pointer (some ⟨b,o+fd.offset,none⟩),_,?_,hk,.vptr _ _ _ _ _ _ ?_⟩
   ·simp only[Instr.fieldAt,h1E,b0x hd,h1D,hf,Instr.sureAddr,h1F,fieldPlace,b0M hi,if_neg h2,Addr.add_mk]
   ·obtain⟨n,g1,g2,g3⟩:=hv;refine⟨n,g1,g2,fun e=>?_⟩;obtain⟨b',hi',g4,g5,g6⟩:=g3 e;exact⟨b',hi',g4,g5,by rw[g6]⟩
 ·exact hk.elim
theorem c2z(h:RelW E G heap arr w0 w){t:TypeId}{x ix:V}{v vi:Value}{K:V→Prop}(hx:RV E.P G arr x v)(hi':RV E.P G arr ix vi)(hK:vIndexAddr E t x ix K) :
  ∃ u z,(Instr.indexAt t v vi).run E.P w = .ok u w∧K z∧RV E.P G arr z u:=by
 unfold vIndexAddr at hK;split at hK
 ·rename_i e o e' es k i hd;obtain⟨⟨rfl,h1,h2,h3⟩,hk⟩:=hK;obtain⟨ie,hie⟩:=h0I.1 h1;have hlt:i.toNat<es.length:=by omega
  cases hi'
  cases hx with
  | snil _ _ _=>simp at hlt
  | sodd _ _ _=>simp at hlt
  | slice _ _ _ b off cap ho g1 g2 g3 g4 g5 g6 =>
   refine⟨.pointer (some ⟨b,off+i.toNat * E.P.cellsOf e',none⟩),_,?_,hk,.fptr _ _ _ (fun j hj=>?_) fun j c u hc hu=>?_⟩
   ·simp only[Instr.indexAt,h1E,asIntOf,h1F,h1D,b0x hd];rw[if_pos ⟨h2,by omega⟩];simp only[h1E,b0M hie,h1D,h1F,Addr.add_mk]
   ·have hel:es[i.toNat]? = some (es.getD i.toNat []):=by simp[h0c,hlt]
    obtain⟨u,hu⟩:=g5 _ _ j hel hj;exact⟨u,by rw[←hu];congr 1;omega⟩
   ·have hel:es[i.toNat]? = some (es.getD i.toNat []):=by simp[h0c,hlt]
    exact g6 _ _ j c u hel hc (by rw[←hu];congr 1;omega)
 ·rename_i e id off len cap e' k i hd;obtain⟨⟨rfl,h1,h2,h3⟩,hk⟩:=hK;obtain⟨ie,hie⟩:=h0I.1 h1;cases hi'
  cases hx with
  | mslice _ _ _ _ _ b hb g1 g2 =>
   refine⟨.pointer (some ⟨b,off+i.toNat * E.P.cellsOf e',none⟩),_,?_,hk,.ptr _ _ _ hb⟩;simp only[Instr.indexAt,h1E,asIntOf,h1F,h1D,b0x hd];rw[if_pos ⟨h2,by omega⟩];simp only[h1E,b0M hie,h1D,h1F,Addr.add_mk]
 ·rename_i e id k' gen len e' k i hd;obtain⟨⟨rfl,h1,h2,h3⟩,hk⟩:=hK;obtain⟨ie,hie⟩:=h0I.1 h1;cases hi'
  cases hx with
  | vec _ _ _ _ _ b o cap hv g1 g2 =>
   refine⟨.pointer (some ⟨b,o+i.toNat * E.P.cellsOf e',none⟩),_,?_,hk,.vptr _ _ _ _ _ _ ?_⟩
   ·simp only[Instr.indexAt,h1E,asIntOf,h1F,h1D,b0x hd];rw[if_pos ⟨h2,by omega⟩];simp only[h1E,b0M hie,h1D,h1F,Addr.add_mk]
   ·obtain⟨n,q1,q2,q3⟩:=hv;refine⟨n,q1,q2,fun e=>?_⟩;obtain⟨b',hi',q4,q5,q6,q7,q8⟩:=q3 e;exact⟨b',hi',q4,q7,by rw[q8,h0w]⟩
 ·rename_i n e cs k i hd;obtain⟨⟨h1,h2,h3⟩,hk⟩:=hK;obtain⟨ie,hie⟩:=h0I.1 h1;cases hi'
  cases hx with
  | fptr _ b o hdd hr =>
   refine⟨.pointer (some ⟨b,o+i.toNat * E.P.cellsOf e,none⟩),_,?_,hk,.fptr _ _ _ (fun j hj=>?_) fun j c u hc hu=>?_⟩
   ·simp only[Instr.indexAt,h1E,asIntOf,h1F,h1D,b0x hd,Instr.sureAddr];rw[if_pos ⟨h2,by omega⟩];simp only[h1E,b0M hie,h1D,h1F,Addr.add_mk]
   ·obtain⟨u,hu⟩:=hdd (i.toNat * E.P.cellsOf e+j) (by simp at hj;omega);exact⟨u,by rw[←hu];congr 1;omega⟩
   ·rw[h1d]at hc;exact hr _ c u hc (by rw[←hu];congr 1;omega)
 ·rename_i n e id off k i hd;obtain⟨⟨h1,h2,h3⟩,hk⟩:=hK;obtain⟨ie,hie⟩:=h0I.1 h1;cases hi'
  cases hx with
  | ptr _ _ b hb =>
   refine⟨.pointer (some ⟨b,off+i.toNat * E.P.cellsOf e,none⟩),_,?_,hk,.ptr _ _ _ hb⟩;simp only[Instr.indexAt,h1E,asIntOf,h1F,h1D,b0x hd,Instr.sureAddr];rw[if_pos ⟨h2,by omega⟩];simp only[h1E,b0M hie,h1D,h1F,Addr.add_mk]
 ·exact hK.elim
theorem d1C(h:RelW E G heap arr w0 w){t:TypeId}{x ix:V}{v vi:Value}{K:V→Prop}(hx:RV E.P G arr x v)(hi':RV E.P G arr ix vi)(hK:vIndex E t x ix K) :
  ∃ u z,(Instr.index t v vi).run E.P w = .ok u w∧K z∧RV E.P G arr z u:=by
 unfold vIndex at hK;split at hK
 ·rename_i s k i hd;obtain⟨⟨h1,h2⟩,hk⟩:=hK;cases hi';cases hx
  have hlt:i.toNat<s.size:=by omega
  have hget:s[i.toNat]? = some s[i.toNat]:=by simp[hlt]
  refine⟨.int .u8 (b5q s i),_,?_,hk,.int _ _⟩;simp only[Instr.index,h1E,asIntOf,h1F,h1D,b0x hd,if_pos h1,hget,b5q]
 ·rename_i n e cs k i hd;obtain⟨⟨h0,h1,h2⟩,hk⟩:=hK;obtain⟨ie,hie⟩:=h0I.1 h0;cases hi'
  cases hx with
  | agg _ vs hl hr =>
   obtain⟨u,z,g1,g2,g3⟩:=c7R (w:=w) (⟨hl.symm,hr⟩:RL E.P G arr cs vs) hk;refine⟨u,z,?_,g2,g3⟩;simp only[Instr.index,h1E,asIntOf,h1F,h1D,b0x hd];rw[if_pos ⟨h1,by omega⟩];simp only[h1E,b0M hie,h1D,g1]
 ·exact hK.elim
theorem f1L(h:RelW E G heap arr w0 w){ts:Array TypeId}{t ty:TypeId}{x:V}{v:Value}{K:V→Prop}(h0:ts[0]? = some t)(hx:RV E.P G arr x v)(hK:d4e E t x K) :
  ∃ u z,(Builtin.len_ ts ty #[v]).run E.P w = .ok u w∧K z∧RV E.P G arr z u:=by
 unfold d4e at hK;split at hK
 ·rename_i s hd;cases hx with
  | str _ hs=>exact⟨_,_,by simp[Builtin.len_,h0,b0x hd,goInt],hK hs,.int _ _⟩
 ·rename_i e o e' es hd;cases hx with
  | snil _ _ _=>exact⟨_,_,by simp[Builtin.len_,h0,b0x hd,goInt],hK (by simp) (by simp),.int _ _⟩
  | sodd _ _ _=>exact⟨_,_,by simp[Builtin.len_,h0,b0x hd,goInt],hK (by simp) (by simp),.int _ _⟩
  | slice _ _ _ b off cap ho g1 g2 g3 g4 g5 g6=>exact⟨_,_,by simp[Builtin.len_,h0,b0x hd,goInt],hK g2 g3,.int _ _⟩
 ·rename_i e id off len cap e' hd;cases hx with
  | mslice _ _ _ _ _ b hb g1 g2=>exact⟨_,_,by simp[Builtin.len_,h0,b0x hd,goInt],hK g1,.int _ _⟩
 ·rename_i e id k gen len e' hd;cases hx with
  | vec _ _ _ _ _ b o cap hv g1 g2=>exact⟨_,_,by simp[Builtin.len_,h0,b0x hd,goInt],hK g1,.int _ _⟩
 ·exact hK.elim
theorem d5b(h:RelW E G heap arr w0 w){ts:Array TypeId}{t ty:TypeId}{x:V}{v:Value}{K:V→Prop}(h0:ts[0]? = some t)(hx:RV E.P G arr x v)(hK:b9V E heap t x K) :
  ∃ u z,(Builtin.len_ ts ty #[v]).run E.P w = .ok u w∧K z∧RV E.P G arr z u:=by
 unfold b9V at hK;split at hK
 ·rename_i id;split at hK
  case h_2=>exact hK.elim
  rename_i kt vt es hd ho;cases hx with
  | map _ b hb =>
   obtain⟨b',hb',m,clk,hm,hsz,_⟩:=h.obj id _ ho;rw[hb]at hb';cases hb'
   have hg:=MapKept.run_getObj_map (P:=E.P) hm;exact⟨.int .i64 m.size,_,by simp[Builtin.len_,h0,b0x hd,goInt,hg],hK,by rw[←hsz];exact .int _ _⟩
 ·exact f1L h h0 hx hK
def bnd(v:Option Value)(d y:Nat)(code:BoundsCode):Sem Nat :=
 match v with
 | some v=>Instr.sliceBound v y code
 | none=>pure d
theorem b4E{lo:Option V}{vlo:Option Value}{d y:Nat}{l:Int}{code:BoundsCode}(hl:∀ x,lo=some x→∃ v,vlo=some v∧RV E.P G arr x v)(hn:lo=none→vlo=none)
  (hb:b2x d lo=some l) (h0:0≤l) (hy:lo≠none→l≤y):(bnd vlo d y code).run E.P w = .ok l.toNat w:=by
 cases lo with
 | none =>
  have:=hn rfl;subst this;simp only[b2x,Option.some.injEq]at hb;subst hb;simp[bnd]
 | some x =>
  obtain⟨v,rfl,hv⟩:=hl x rfl;cases x <;> simp only[b2x]at hb <;> try cases hb
  cases hv
  simp only[bnd,Instr.sliceBound,h1E,asIntOf,h1F,h1D];rw[if_pos ⟨h0,hy (by simp)⟩];rfl
theorem b6h{P:Program}{b:Bool}{len cap l h:Nat}{vlo vhi:Option Value}(r1:(bnd vhi len cap (if b then .sliceAcap else .sliceAlen)).run P w = .ok h w)
  (r2:(bnd vlo 0 h .sliceB).run P w = .ok l w):(Instr.sliceBounds b len cap vlo vhi none).run P w = .ok (l,h,cap) w:=by
 unfold Instr.sliceBounds;cases vlo <;> cases vhi <;> simp only[bnd,h1F,Result.ok.injEq,and_true]at r1 r2 <;>
  simp only[h1E,h1F,h1D,h0y,h0r,if_false] <;>
  (try subst r1) <;> (try subst r2) <;> (try rw[r1]) <;> (try simp only[h1D]) <;> (try rw[r2]) <;> rfl
theorem d3M(h:RelW E G heap arr w0 w){t:TypeId}{x:V}{v:Value}{lo hi mx:Option V}{vlo vhi vmx:Option Value}{K:V→Prop}(hx:RV E.P G arr x v)
  (hlo:∀ x,lo=some x→∃ v,vlo=some v∧RV E.P G arr x v) (nlo:lo=none→vlo=none) (hhi:∀ x,hi=some x→∃ v,vhi=some v∧RV E.P G arr x v) (nhi:hi=none→vhi=none)
  (nmx:mx=none→vmx=none) (hK:vSlice E t x lo hi mx K):∃ u z,(Instr.sliceAt t v vlo vhi vmx).run E.P w = .ok u w∧K z∧RV E.P G arr z u:=by
 unfold vSlice at hK;split at hK
 ·rename_i s hd;split at hK
  case h_2=>exact hK.elim
  rename_i l hh hbl hbh;obtain⟨⟨h1,h2,h3⟩,hk⟩:=hK;rw[nmx rfl];cases hx with
  | str _ hs =>
   have r1:=b4E (w:=w) (y:=s.size) (code := .sliceAlen) hhi nhi hbh (by omega) (fun _=>by omega);have r2:=b4E (w:=w) (y:=hh.toNat) (code := .sliceB) hlo nlo hbl (by omega) (fun _=>by omega);have hsb:(Instr.sliceBounds false s.size s.size vlo vhi none).run E.P w = .ok (l.toNat,hh.toNat,s.size) w:=b6h r1 r2;refine⟨.string (s.extract l.toNat hh.toNat),_,?_,hk,.str _ (by simp[ByteArray.size_extract];omega)⟩;simp only[Instr.sliceAt,h1E,b0x hd,h1D,Instr.slice,h0y,h0r,if_false,h1F,hsb]
 ·rename_i e o e' es hd;split at hK
  case h_2=>exact hK.elim
  rename_i l hh hbl hbh;obtain⟨⟨he,h0,h1,h2,h3⟩,hk⟩:=hK;obtain⟨ie,hie⟩:=h0I.1 h0;rw[nmx rfl];have hx:=(f1d hx he).2;have key:∀ (a:Option Addr) (cap:Nat),v = .slice a es.length cap→es.length≤cap →
    (Instr.sliceAt t v vlo vhi none).run E.P w = .ok (.slice (if cap=l.toNat then a else a.map (·.add (l.toNat * E.P.cellsOf e))) (hh.toNat - l.toNat) (cap - l.toNat)) w:=by
   rintro a cap rfl hcap;have r1:=b4E (w:=w) (y:=cap) (code := .sliceAcap) hhi nhi hbh (by omega) (fun _=>by omega);have r2:=b4E (w:=w) (y:=hh.toNat) (code := .sliceB) hlo nlo hbl (by omega) (fun _=>by omega);have hsb:(Instr.sliceBounds true es.length cap vlo vhi none).run E.P w = .ok (l.toNat,hh.toNat,cap) w:=b6h r1 r2;simp only[Instr.sliceAt,h1E,b0x hd,h1D,Instr.slice,hsb,b0M hie,h1F]
  cases hx with
  | snil _ _ ho =>
   simp only[h0J]at h3;have hl0:l=0:=by omega
   have hh0:hh=0:=by omega
   subst hl0 hh0;refine⟨_,_,key none 0 rfl (h0q _),hk,RV.sl (o := .shared) ?_⟩;exact .snil _ _ trivial
  | sodd _ a c =>
   simp only[h0J]at h3;have hl0:l=0:=by omega
   have hh0:hh=0:=by omega
   subst hl0 hh0;refine⟨_,_,key a c rfl (Nat.zero_le _),hk,RV.sl (o := .shared) ?_⟩;exact .sodd _ _ _
  | slice _ _ _ b off cap ho g1 g2 g3 g4 g5 g6 =>
   refine⟨_,_,key _ cap rfl g4,hk,RV.sl (o := .shared) ?_⟩;have hlen:((es.take hh.toNat).drop l.toNat).length=hh.toNat - l.toNat:=by simp;omega
   by_cases hc:cap=l.toNat
   ·rw[if_pos hc];have h00:(es.take hh.toNat).drop l.toNat=[]:=h0G (by rw[hlen];omega);rw[h00,show hh.toNat - l.toNat=([]:List (List V)).length by simp;omega];exact .slice _ _ _ _ _ _ trivial (by simp) (by simp) (by simp) (by simp) (by simp) (by simp)
   ·rw[if_neg hc];simp only[h0D,Addr.add_mk];rw[←hlen];have hel:∀ (i:Nat) el,((es.take hh.toNat).drop l.toNat)[i]? = some el→es[l.toNat+i]? = some el:=by
     intro i el hi;rw[h1d,List.getElem?_take]at hi;split at hi
     ·exact hi
     ·cases hi
    refine .slice _ _ _ _ _ _ trivial (fun i el hi=>g1 _ el (hel i el hi)) ?_ (by omega) (by omega) (fun i el j hi hj=>?_) fun i el j c u hi hj hu=>?_
    ·refine h1n (h0P _ ?_) g2;omega
    ·obtain⟨u,hu⟩:=g5 _ el j (hel i el hi) hj;exact⟨u,by rw[←hu,h0V];congr 1;omega⟩
    ·exact g6 _ el j c u (hel i el hi) hj (by rw[←hu,h0V];congr 1;omega)
 ·exact hK.elim
theorem c9E{x:V}{lo hi mx:Option V}(h:b6J x lo hi mx=true):(hi=none∧mx=none∧∃ o e el es k l,x = .slice o e (el::es)∧lo=some (.int k l))∨(lo=none∧mx=none∧∃ id k gen len e kd l,x = .vec id k gen len e∧hi=some (.int kd l)):=by
 unfold b6J at h;split at h
 ·exact .inl ⟨rfl,rfl,_,_,_,_,_,_,rfl,rfl⟩
 ·exact .inl ⟨rfl,rfl,_,_,_,_,_,_,rfl,rfl⟩
 ·exact .inr ⟨rfl,rfl,_,_,_,_,_,_,_,rfl,rfl⟩
 ·cases h
theorem d0E(h:RelW E G heap arr w0 w){t:TypeId}{x:V}{v:Value}{lo hi mx:Option V}{vlo vhi vmx:Option Value}{K:V→List Nat→Prop}(hx:RV E.P G arr x v)
  (hlo:∀ x,lo=some x→∃ v,vlo=some v∧RV E.P G arr x v) (nhi:hi=none→vhi=none) (nmx:mx=none→vmx=none) (ht:hi=none∧mx=none∧∃ o e el es k l,x = .slice o e (el::es)∧lo=some (.int k l)) (hK:c4j E arr t x lo hi K) :
  ∃ u z arr' G',(Instr.sliceAt t v vlo vhi vmx).run E.P w = .ok u w∧K z arr'∧Ext G arr G' arr'∧RelW E G' heap arr' w0 w∧RV E.P G' arr' z u:=by
 obtain⟨rfl,rfl,o,e',el0,es0,kd,l,rfl,rfl⟩:=ht;rw[nhi rfl,nmx rfl];obtain⟨es,hes⟩:∃ es,es=el0::es0:=⟨_,rfl⟩
 have hne:es≠[]:=by rw[hes];simp
 rw[←hes]at hx hK;clear hes;have main:∀ (e:TypeId),E.P.underlying t=some (.slice e)→e'=e→b0A E.P e=true→0≤l→l≤es.length→∃ b off cap off',c3j G arr o b off es.length cap (E.P.cellsOf e')∧es.length≤cap ∧
   (Instr.sliceAt t v vlo none none).run E.P w = .ok (.slice (some ⟨b,off',none⟩) (es.drop l.toNat).length (cap - l.toNat)) w ∧
   ((cap=l.toNat∧off'=off)∨(cap≠l.toNat∧off'=off+l.toNat * E.P.cellsOf e')) ∧
   ∀ (G':Gh) (arr':List Nat) (o':Own),Ext G arr G' arr'→c3j G' arr' o' b off' (es.drop l.toNat).length (cap - l.toNat) (E.P.cellsOf e')→RV E.P G' arr' (.slice o' e' (es.drop l.toNat)) (.slice (some ⟨b,off',none⟩) (es.drop l.toNat).length (cap - l.toNat)):=by
  intro e hd he h0 h1 h2;subst he;obtain⟨ie,hie⟩:=h0I.1 h0;cases hx with
  | snil=>exact absurd rfl hne
  | sodd=>exact absurd rfl hne
  | slice _ _ _ b off cap ho g1 g2 g3 g4 g5 g6 =>
   have r1:(bnd none es.length cap .sliceAcap).run E.P w = .ok es.length w:=by simp[bnd]
   have r2:=b4E (w:=w) (d:=0) (y:=es.length) (code := .sliceB) hlo (fun h=>by cases h) (l:=l) rfl h1 (fun _=>by omega);have hsb:(Instr.sliceBounds true es.length cap vlo none none).run E.P w = .ok (l.toNat,es.length,cap) w:=b6h r1 r2;have hdl:(es.drop l.toNat).length=es.length - l.toNat:=h1i;have hrun:(Instr.sliceAt t (.slice (some ⟨b,off,none⟩) es.length cap) vlo none none).run E.P w = .ok (.slice (if cap=l.toNat then some ⟨b,off,none⟩else(some (⟨b,off,none⟩:Addr)).map (·.add (l.toNat * E.P.cellsOf e'))) (es.length - l.toNat) (cap - l.toNat)) w:=by
    simp only[Instr.sliceAt,h1E,b0x hd,h1D,Instr.slice,hsb,b0M hie,h1F]
   by_cases hc:cap=l.toNat
   ·rw[if_pos hc,←hdl]at hrun;have h00:es.drop l.toNat=[]:=h0G (by rw[hdl];omega);refine⟨b,off,cap,off,ho,g4,hrun,.inl ⟨hc,rfl⟩,fun G' arr' o' hx' ho'=>?_⟩;rw[h00]at ho' ⊢;exact .slice _ _ _ _ _ _ ho' (by simp) (by simp) (by simp) (by simp) (by simp) (by simp)
   ·rw[if_neg hc,←hdl]at hrun;simp only[h0D,Addr.add_mk]at hrun;refine⟨b,off,cap,_,ho,g4,hrun,.inr ⟨hc,rfl⟩,fun G' arr' o' hx' ho'=>?_⟩;have hel:∀ (i:Nat) el,(es.drop l.toNat)[i]? = some el→es[l.toNat+i]? = some el:=by
     intro i el hi;rw[h1d]at hi;exact hi
    refine .slice _ _ _ _ _ _ ho' (fun i el hi=>g1 _ el (hel i el hi)) ?_ (by omega) (by omega) (fun i el j hi hj=>?_) fun i el j c u hi hj hu=>?_
    ·refine h1n (h0P _ ?_) g2;omega
    ·obtain⟨u,hu⟩:=g5 _ el j (hel i el hi) hj;exact⟨u,by rw[←hx'.F _ _ _ hu,h0V];congr 1;omega⟩
    ·obtain⟨u',hu'⟩:=g5 _ el j (hel i el hi) (h0b.1 hj).1;have e3:off+l.toNat * E.P.cellsOf e'+(i * E.P.cellsOf e'+j)=off+((l.toNat+i) * E.P.cellsOf e'+j):=by rw[h0V];omega
     rw[e3,hx'.F _ _ _ hu']at hu;cases hu
     exact(g6 _ el j c _ (hel i el hi) hj hu').mono hx'
 unfold c4j at hK;split at hK
 ·rename_i e k e1 es1 kd1 l1 hd hxe hle;cases hxe;cases hle
  obtain⟨⟨h1,h2,h3,h4,h5⟩,hk⟩:=hK;obtain⟨b,off,cap,off',ho,hcap,hrun,hoff,hrv⟩:=main e hd h1 h2 h3 h4;obtain⟨n,q1,q2,q3⟩:=ho;rw[h5]at q1;cases q1
  have hρ:=q3 rfl;have hlen:es.length≤140737488355328:=by
   cases hx with
   | snil=>exact absurd rfl hne
   | slice _ _ _ _ _ _ _ _ _ g3 _ _ _=>exact g3
  have hdl:(es.drop l.toNat).length=es.length - l.toNat:=h1i;have hkl:=(h0b.1 h5).1;have hlr:=h.lenρ;obtain⟨hx',hr'⟩:=h.slotMove (m:=es.length - l.toNat) (lo:=off'+(es.drop l.toNat).length * E.P.cellsOf e') (hi:=off'+(cap - l.toNat) * E.P.cellsOf e') h5 (by omega) hρ (by
   rw[hdl];rcases hoff with⟨hc,rfl⟩ | ⟨hc,rfl⟩
   ·right;have e1:es.length - l.toNat=0:=by omega
    have e2:cap - l.toNat=0:=by omega
    rw[e1,e2];simp
   ·left;constructor
    ·rw[h1s,←h0V];congr 2;omega
    ·rw[h1s,←h0V];congr 2;omega)
  refine⟨_,_,_,_,hrun,hk,hx',hr',hrv _ _ _ hx' ?_⟩;refine⟨es.length - l.toNat,?_,by omega,fun _=>?_⟩
  ·rw[h0g (by simp)];simp
  ·show(G.ρ.set k (0,0,0)++_)[arr.length]? = _;rw[h0g (by simp;omega)];simp[hlr]
 ·rename_i e e1 es1 kd1 l1 hd hxe hle;cases hxe;cases hle
  obtain⟨⟨h1,h2,h3,h4⟩,hk⟩:=hK;obtain⟨b,off,cap,off',ho,hcap,hrun,hoff,hrv⟩:=main e hd h1 h2 h3 h4;have hdl:(es.drop l.toNat).length=es.length - l.toNat:=h1i;have ho':cap=es.length:=ho;refine⟨_,_,_,G,hrun,hk,Ext.refl _ _,h,hrv _ _ _ (Ext.refl _ _) ?_⟩;show cap - l.toNat=_;omega
 all_goals first | exact hK.elim | contradiction
theorem d6g(h:RelW E G heap arr w0 w){t:TypeId}{x:V}{v:Value}{lo hi mx:Option V}{vlo vhi vmx:Option Value}{K:V→List Nat→Prop}(hx:RV E.P G arr x v)
  (hlo:∀ x,lo=some x→∃ v,vlo=some v∧RV E.P G arr x v) (nlo:lo=none→vlo=none) (hhi:∀ x,hi=some x→∃ v,vhi=some v∧RV E.P G arr x v) (nhi:hi=none→vhi=none) (nmx:mx=none→vmx=none) (ht:b6J x lo hi mx=true) (hK:c4j E arr t x lo hi K) :
  ∃ u z arr' G',(Instr.sliceAt t v vlo vhi vmx).run E.P w = .ok u w∧K z arr'∧Ext G arr G' arr'∧RelW E G' heap arr' w0 w∧RV E.P G' arr' z u:=by
 rcases c9E ht with h1 | ⟨rfl,rfl,id,k,gen,len,e',kd,l,rfl,rfl⟩
 ·exact d0E h hx hlo nhi nmx h1 hK
 rw[nmx rfl];have h0:=nlo rfl;subst h0;unfold c4j at hK;split at hK
 case h_1=>contradiction
 case h_2=>contradiction
 case h_4=>exact hK.elim
 rename_i e a1 a2 a3 a4 a5 kd1 l1 hd hxe hlo0 hle;cases hxe;cases hle
 obtain⟨⟨he,g0,g1,g2,g3⟩,hk⟩:=hK;subst he;obtain⟨ie,hie⟩:=h0I.1 g0;cases hx with
 | vec _ _ _ _ _ b o cap hv p1 p2 =>
 obtain⟨n,q1,q2,q3⟩:=hv;rw[g3]at q1;cases q1
 obtain⟨b1,hi1,q4,q5,q6,q7,q8⟩:=q3 rfl;have r1:=b4E (w:=w) (d:=len) (y:=cap) (code := .sliceAcap) hhi nhi (l:=l) rfl (by omega) (fun _=>by omega);have r2:(bnd none 0 l.toNat .sliceB).run E.P w = .ok 0 w:=by simp[bnd]
 have hsb:(Instr.sliceBounds true len cap none vhi none).run E.P w = .ok (0,l.toNat,cap) w:=b6h r1 r2;refine⟨.slice (some ⟨b,o,none⟩) l.toNat cap,_,_,G,?_,hk,Ext.refl _ _,h,.vec _ _ _ _ _ _ _ _ ⟨_,g3,h0q _,fun _=>⟨b1,hi1,q4,q5,by omega,q7,q8⟩⟩ (by omega) (h1n (h0P _ (by omega)) p2)⟩;simp only[Instr.sliceAt,h1E,b0x hd,h1D,Instr.slice,hsb,b0M hie,h1F];by_cases hc:cap=0
 ·rw[if_pos hc];simp
 ·rw[if_neg hc];simp[Addr.add_mk]
end
end Go.Vg
namespace Go.Vg
open Go.RowKit
section
variable {E : Env} {G : Gh} {s : St} {w0 : Base} {w : World} {n : Nat} {a : Act} {K : b1y}
theorem b2n.here{heap:List VObj}{arr:List Nat}{v:V}{val:Value}(h:RelW E G heap arr w0 w)(hk:K v heap arr)(hr:RV E.P G arr v val):b2n E G arr w0 K val w :=
 ⟨v,heap,arr,G,hk,Ext.refl _ _,h,hr⟩
theorem c4K(h:RelW E G s.heap s.arr w0 w)(ht:RelT E.P G s.arr s.tmps n a)(parts:Array (Nat×Operand)) :
  ((parts.toList.map fun p=>(p.1,ev E s.tmps p.2)).length=(parts.map fun(i,x)=>(i,a.eval x)).size) ∧
  ∀ (j:Nat) p q,(parts.toList.map fun p=>(p.1,ev E s.tmps p.2))[j]? = some p→(parts.map fun(i,x)=>(i,a.eval x))[j]? = some q→p.1=q.1∧RV E.P G s.arr p.2 q.2:=by
 refine⟨by simp,fun j p q hp hq=>?_⟩;simp only[h0u,Array.getElem?_toList,Array.getElem?_map]at hp hq;cases hj:parts[j]? with
 | none=>simp[hj]at hp
 | some x =>
  simp only[hj,h0D,Option.some.injEq]at hp hq;subst hp hq;exact⟨rfl,RV.ev h ht x.2⟩
theorem b9e(h:RelW E G s.heap s.arr w0 w)(ht:RelT E.P G s.arr s.tmps n a)(xs:Array Operand):b8a E.P G s.arr (xs.toList.map (ev E s.tmps)) (xs.map a.eval):=by
 refine⟨by simp,fun j x v hx hv=>?_⟩;simp only[h0u,Array.getElem?_toList,Array.getElem?_map]at hx hv;cases hj:xs[j]? with
 | none=>simp[hj]at hx
 | some y =>
  simp only[hj,h0D,Option.some.injEq]at hx hv;subst hx hv;exact RV.ev h ht y
theorem b8a.append{P:Program}{G:Gh}{arr:List Nat}{xs ys:List V}{vs us:Array Value}(h:b8a P G arr xs vs)(h':b8a P G arr ys us):b8a P G arr (xs++ys) (vs++us):=by
 refine⟨by simp[h.1,h'.1],fun j x v hx hv=>?_⟩;by_cases hj:j<xs.length
 ·rw[h0e hj]at hx;rw[h1z (by rw[←h.1];exact hj)]at hv;exact h.2 j x v hx hv
 ·rw[h0g (by omega)]at hx;rw[Array.getElem?_append_right (by rw[←h.1];omega),←h.1]at hv;exact h'.2 _ x v hx hv
theorem d0p{c:Call}{ty:TypeId}(h:RelW E G s.heap s.arr w0 w)(ht:RelT E.P G s.arr s.tmps n a)(hK:c2K E s c K) :
  Out E G s.arr w0 K ((do let d ←resolve a.eval c ty;invoke d.target d.args:Sem Next).run E.P w):=by
 unfold c2K at hK;split at hK
 ·rename_i hc;split at hK
  case h_2=>exact hK.elim
  rename_i t x ht0 hargs;obtain⟨u,z,g1,g2,g3⟩:=d5b (ty:=ty) h ht0 (RV.ev h ht x) hK;have hm:c.args.map a.eval = #[a.eval x]:=by
   have:c.args = #[x]:=by apply Array.ext';simpa using hargs
   rw[this];simp
  simp only[resolve,hc,h1E,h1F,h1D,invoke,builtin,hm,g1];exact b2n.here h g2 g3
 ·rename_i hc;split at hK
  case h_2=>exact hK.elim
  rename_i x y hargs;have hx:=RV.ev h ht x;have hy:=RV.ev h ht y;have hm:c.args.map a.eval = #[a.eval x,a.eval y]:=by
   have:c.args = #[x,y]:=by apply Array.ext';simpa using hargs
   rw[this];simp
  generalize hvx:a.eval x=vx at hx hm;generalize hvy:a.eval y=vy at hy hm;unfold vMin at hK;split at hK
  case h_2=>exact hK.elim
  rename_i k n1 k2 n2 h1 h2;rw[h1]at hx;rw[h2]at hy;cases hx;cases hy
  simp only[resolve,hc,h1E,h1F,h1D,invoke,builtin,hm,Builtin.min_,Builtin.min2,List.foldlM];exact b2n.here h hK (.int _ _)
 ·rename_i hc;split at hK
  case h_3=>exact hK.elim
  ·rename_i x y hargs;have hx:=RV.ev h ht x;have hy:=RV.ev h ht y;have hm:c.args.map a.eval = #[a.eval x,a.eval y]:=by
    have:c.args = #[x,y]:=by apply Array.ext';simpa using hargs
    rw[this];simp
   generalize hvx:a.eval x=vx at hx hm;generalize hvy:a.eval y=vy at hy hm;unfold vMax at hK;split at hK
   case h_2=>exact hK.elim
   rename_i k n1 k2 n2 h1 h2;rw[h1]at hx;rw[h2]at hy;cases hx;cases hy
   simp only[resolve,hc,h1E,h1F,h1D,invoke,builtin,hm,Builtin.max_,Builtin.max2,List.foldlM];exact b2n.here h hK (.int _ _)
  ·rename_i x y z hargs;have hx:=RV.ev h ht x;have hy:=RV.ev h ht y;have hz:=RV.ev h ht z;have hm:c.args.map a.eval = #[a.eval x,a.eval y,a.eval z]:=by
    have:c.args = #[x,y,z]:=by apply Array.ext';simpa using hargs
    rw[this];simp
   generalize hvx:a.eval x=vx at hx hm;generalize hvy:a.eval y=vy at hy hm;generalize hvz:a.eval z=vz at hz hm;unfold vMax3 at hK;split at hK
   case h_2=>exact hK.elim
   rename_i k n1 k2 n2 k3 n3 h1 h2 h3;rw[h1]at hx;rw[h2]at hy;rw[h3]at hz;cases hx;cases hy;cases hz
   simp only[resolve,hc,h1E,h1F,h1D,invoke,builtin,hm,Builtin.max_,Builtin.max2,List.foldlM];exact b2n.here h hK (.int _ _)
 ·rename_i hc;split at hK
  case h_2=>exact hK.elim
  rename_i t t' x y hat hargs;have hm:c.args.map a.eval = #[a.eval x,a.eval y]:=by
   have:c.args = #[x,y]:=by apply Array.ext';simpa using hargs
   rw[this];simp
  have hm':c.argTypes = #[t,t']:=by apply Array.ext';simpa using hat
  unfold d9S at hK;split at hK
  ·obtain⟨u,z,heap',arr',G',w',g1,g2,g3,g4,g5⟩:=c5C (t:=ty) h (RV.ev h ht x) (RV.ev h ht y) hK;simp only[resolve,hc,h1E,h1F,h1D,invoke,builtin,hm,hm',g1];exact⟨z,_,_,G',g2,g3,g4,g5⟩
  ·obtain⟨u,z,arr',G',w',g1,g2,g3,g4,g5⟩:=c9G (t:=ty) h (RV.ev h ht x) (RV.ev h ht y) hK;simp only[resolve,hc,h1E,h1F,h1D,invoke,builtin,hm,hm',g1];exact⟨z,_,_,G',g2,g3,g4,g5⟩
 ·rename_i hc;split at hK
  case h_2=>exact hK.elim
  rename_i t t' x y hat hargs;have hm:c.args.map a.eval = #[a.eval x,a.eval y]:=by
   have:c.args = #[x,y]:=by apply Array.ext';simpa using hargs
   rw[this];simp
  have hm':c.argTypes = #[t,t']:=by apply Array.ext';simpa using hat
  obtain⟨u,z,heap',w',g1,g2,g3,g4⟩:=d6K (t:=ty) h (RV.ev h ht x) (RV.ev h ht y) hK;simp only[resolve,hc,h1E,h1F,h1D,invoke,builtin,hm,hm',g1];exact⟨z,_,_,G,g2,Ext.refl _ _,g3,g4⟩
 ·rename_i f hc;split at hK
  case h_3=>exact hK.elim
  case h_1 =>
   rename_i fid caps hf;obtain⟨h1,h2⟩:=hK;have hv:=RV.ev h ht f;rw[hf]at hv;generalize hev:a.eval f=vf at hv;cases hv with
   | func _ _ cs hl hr =>
    simp only[resolve,hc,hev,Deferred.ofValue,h1E,h1F,h1D,invoke,Array.empty_append,c2d h1];exact h2 G w0 w _ h ((b9e h ht c.args).append ⟨hl,hr⟩)
  case h_2 =>
   rename_i fid xs hf;obtain⟨h1,h2⟩:=hK;have hv:=RV.ev h ht f;rw[hf]at hv;generalize hev:a.eval f=vf at hv;cases hv with
   | meth _ _ cs hl hr =>
    simp only[resolve,hc,hev,Deferred.ofValue,h1E,h1F,h1D,invoke,Array.append_empty,c2d h1];exact h2 G w0 w _ h (b8a.append ⟨hl,hr⟩ (b9e h ht c.args))
 ·exact hK.elim
theorem d3N{P:Program}{G:Gh}{arr:List Nat}{c:Array Value}{cs:List V}(h:f8Y cs=true)(h2:c.size=cs.length)(h3:∀ (j:Nat) x,cs[j]? = some x→∃ v,c[j]? = some v∧RV P G arr x v) :
  ∃ p v,c = #[p,v]∧p = .pointer none∧v = .slice none 0 0:=by
 unfold f8Y at h;split at h
 ·rename_i e;obtain⟨p,hp,hrp⟩:=h3 0 _ rfl;obtain⟨v,hv,hrv⟩:=h3 1 _ rfl;refine⟨p,v,?_,by cases hrp;rfl,?_⟩
  ·apply Array.ext_getElem?;intro i
   match i with
   | 0=>simpa using hp
   | 1=>simpa using hv
   | i+2=>rw[h1C (by rw[h2];simp),h1C (by simp)]
  ·cases hrv with
   | snil=>rfl
   | slice _ _ _ _ _ _ ho=>exact ho.elim
 ·cases h
theorem d5R{E:Env}{G:Gh}{arr:List Nat}{w:World}{b:Nat}{t:TypeId}{c:Array Value}{cs:List V}(h0:d1O E t cs)(h1:w.heap[b]? = some (.cells c t (0,0)))(h2:c.size=cs.length)
  (h3:∀ (j:Nat) x,cs[j]? = some x→∃ v,c[j]? = some v∧RV E.P G arr x v):c3s E.P G arr w b (d7J E t cs):=by
 unfold d7J;split
 ·rename_i ht;obtain⟨p,v,rfl,hp,hv⟩:=d3N (h0 ht) h2 h3;exact⟨p,v,h1,.inl hp⟩
 ·exact⟨c,t,h1,h2,h3⟩
theorem d5y{E:Env}{G G':Gh}{arr:List Nat}{w:World}{b:Nat}{t:TypeId}{c:Array Value}{cs:List V}{bt:TypeId}{bs:ByteArray}(h0:d1O E t cs)(hbs:d7J E t cs = .builder bt bs)(h1:w.heap[b]? = some (.cells c t (0,0)))
  (h2:c.size=cs.length) (h3:∀ (j:Nat) x v,cs[j]? = some x→c[j]? = some v→RV E.P G arr x v):Bld E G' w bt bs b:=by
 unfold d7J at hbs;split at hbs
 ·rename_i ht;cases hbs
  obtain⟨p,v,rfl,hp,hv⟩:=d3N (h0 ht) h2 (fun j x hj=>by
   have hl:j<c.size:=by rw[h2];exact(h0b.1 hj).1
   exact⟨c[j],h0t hl,h3 j x _ hj (h0t hl)⟩)
  exact⟨p,v,h1,.inl ⟨hv,rfl⟩⟩
 ·cases hbs
theorem d1g{o:Oper}(h:RelW E G s.heap s.arr w0 w)(ht:RelT E.P G s.arr s.tmps n a)(hK:vop E s o.op K):Out E G s.arr w0 K ((execOp a.eval o).run E.P w):=by
 obtain⟨dst,op,ty,pos,after,guard⟩:=o;have e:∀ x,RV E.P G s.arr (ev E s.tmps x) (a.eval x):=RV.ev h ht;simp only at hK;cases op <;> simp only[vop]at hK <;> try exact hK.elim
 case move x=>exact b2n.here h hK (e x)
 case assign x=>exact b2n.here h hK (e x)
 case pick c x y =>
  split at hK
  case h_2=>exact hK.elim
  rename_i t hc;have hv:=e c;rw[hc]at hv;generalize hev:a.eval c=vc at hv;cases hv
  simp only[execOp,hev,asBool,h1E,h1F,h1D];refine b2n.here h hK ?_;cases t
  ·exact e y
  ·exact e x
 case alloc t =>
  obtain⟨⟨h1,h1'⟩,h2⟩:=hK;obtain⟨i,z,hi,hz⟩:=b3U h1;have hzl:=b7a (G:=G) (arr:=s.arr) (E:=E) hi hz;have hrun:(execOp a.eval ⟨dst,.alloc t,ty,pos,after,guard⟩).run E.P w = .ok (.value (.pointer (some ⟨w.heap.size,0,none⟩))) (w.alloc (.cells z.cells t)):=by
   simp only[execOp,Instr.alloc,h1E,b1R hi hz,h1D,newVar,newRow,newObj,Sem.run,h1F];rfl
  rw[hrun];refine⟨_,_,_,_,h2,G.ext_newObj _ _,h.allocM _ _ (d5R h1' (by rw[b0N,if_pos rfl]) hzl.1 fun j x hj=>?_) (fun bt bs hbs=>d5y (G':=G.newObj w.heap.size) h1' hbs (by rw[b0N,if_pos rfl]) hzl.1 hzl.2) (by intro _ _ _ _ hh;unfold d7J at hh;split at hh <;> cases hh),.ptr _ _ _ ?_⟩
  ·have hl:j<z.cells.size:=by rw[hzl.1];exact(h0b.1 hj).1
   exact⟨_,h0t hl,hzl.2 j x _ hj (h0t hl)⟩
  ·simp[Gh.newObj,h.lenφ]
 case box t x =>
  obtain⟨h1,h2⟩:=hK;obtain⟨hl1,hr1⟩:=(e x).cellsV (V.some?_ne h1);have hrun:(execOp a.eval ⟨dst,.box t x,ty,pos,after,guard⟩).run E.P w = .ok (.value (.pointer (some ⟨w.heap.size,0,none⟩))) (w.alloc (.cells (a.eval x).cells t)):=by
   simp only[execOp,Instr.box,h1E,h1D,newVar,newRow,newObj,Sem.run,h1F];rfl
  rw[hrun];refine⟨_,_,_,_,h2,G.ext_newObj _ _,h.allocM _ _ ⟨(a.eval x).cells,t,by rw[b0N,if_pos rfl],hl1.symm,fun j c hj=>?_⟩,.ptr _ _ _ ?_⟩
  ·have hl:j<(a.eval x).cells.size:=by rw[←hl1];exact(h0b.1 hj).1
   exact⟨_,h0t hl,hr1 j c _ hj (h0t hl)⟩
  ·simp[Gh.newObj,h.lenφ]
 case build t parts =>
  obtain⟨hl,hp⟩:=c4K h ht parts;obtain⟨u,y,g1,g2,g3⟩:=d3f (w:=w) hl hp hK;simp only[execOp,h1E,g1,h1D,h1F];exact b2n.here h g2 g3
 case buildSlice t len parts =>
  obtain⟨hl,hp⟩:=c4K h ht parts;obtain⟨u,y,G',w',g1,g2,g3,g4,g5⟩:=c0X h hl hp hK;simp only[execOp,h1E,g1,h1D,h1F];exact⟨y,_,_,G',g2,g3,g4,g5⟩
 case load t x =>
  split at hK
  case h_2=>exact hK.elim
  rename_i cs hat;obtain⟨u,y,g1,g2,g3⟩:=c7n h (e x) hat hK;simp only[execOp,h1E,g1,h1D,h1F];exact b2n.here h g2 g3
 case store t x y =>
  obtain⟨w',heap',g1,g2,g3⟩:=d3E h (e x) (e y) hK;simp only[execOp,h1E,g1,h1D,h1F];exact⟨heap',_,G,g2,Ext.refl _ _,g3⟩
 case nilCheck x =>
  have hv:=e x;generalize hev:a.eval x=vx at hv;generalize hxx:ev E s.tmps x=x' at hv hK;split at hK
  ·cases hv with
   | ptr _ _ b hb =>
    simp only[execOp,hev,h1F];exact b2n.here h hK (.ptr _ _ _ hb)
  ·cases hv with
   | fptr _ b o' h1 h2 =>
    simp only[execOp,hev,h1F];exact b2n.here h hK (.fptr _ _ _ h1 h2)
  ·cases hv with
   | vptr _ _ _ _ b o hvv =>
    simp only[execOp,hev,h1F];exact b2n.here h hK (.vptr _ _ _ _ _ _ hvv)
  ·exact hK.elim
 case binOp op t x y yt =>
  unfold vBinC at hK;split at hK
  ·rename_i hc;obtain⟨u,z,g1,g2,g3⟩:=f0L (w:=w) (ox:=x) (oy:=y) (e x) hc hK;have hy:a.eval y = .nilIface:=by
    unfold b8E at hc;split at hc
    ·rfl
    ·cases hc
   simp only[execOp,h1E,hy]at g1 ⊢;rw[g1];exact b2n.here h g2 g3
  ·obtain⟨u,z,g1,g2,g3⟩:=f1M (w:=w) (ox:=x) (oy:=y) (e x) (e y) hK;simp only[execOp,h1E]at g1 ⊢;rw[g1];exact b2n.here h g2 g3
 case makeInterface t x =>
  unfold vMkIface at hK;split at hK
  ·exact hK.elim
  ·exact hK.elim
  ·rename_i h1 h2;have hm:(Instr.makeInterface t (a.eval x)).run E.P w = .ok (.iface t (a.eval x)) w:=by
    cases hd:E.P.underlying t with
    | none=>exact absurd hd h2
    | some d =>
     cases d <;> first
      | exact absurd hd (h1 _)
      | simp only[Instr.makeInterface,h1E,b0x hd,h1D,h1F]
   simp only[execOp,h1E,hm,h1D,h1F];exact b2n.here h hK (.iface _ _ _ (e x))
 case panic x =>
  have hv:=e x;generalize hev:a.eval x=vx at hv;generalize hxx:ev E s.tmps x=x' at hv hK;unfold d2b at hK;split at hK
  ·obtain⟨t,v,rfl⟩:∃ t v,vx = .iface t v:=by cases hv;exact⟨_,_,rfl⟩
   have hp:(Instr.panic (.iface t v)).run E.P w = .halt (.panic (.iface t v)) w:=by
    simp[Instr.panic,goPanic,Sem.run]
   simp only[execOp,hev,h1E,hp];exact⟨⟨t,v,rfl⟩,_,_,G,hK,Ext.refl _ _,h⟩
  ·exact hK.elim
 case unOp op t x =>
  have hv:=e x;generalize hev:a.eval x=vx at hv;generalize hxx:ev E s.tmps x=x' at hv hK;unfold vUn at hK;split at hK
  ·cases hv
   simp only[execOp,hev,Op.unary,Op.intArith,h1E,h1F,h1D];exact b2n.here h hK (.int _ _)
  ·cases hv
   simp only[execOp,hev,Op.unary,h1E,h1F,h1D];exact b2n.here h hK (.bool _)
  ·exact hK.elim
 case convert src dst' x =>
  have hv:=e x;generalize hev:a.eval x=vx at hv;generalize hxx:ev E s.tmps x=x' at hv hK;split at hK
  ·rename_i d k k' m hs hd;cases hv
   have:(convert src dst' (.int k' m)).run E.P w = .ok (.int k (k.wrap m)) w:=by
    simp only[convert,h1E,b0x hs,b0x hd,h1D];cases d <;> rfl
   simp only[execOp,hev,h1E,this,h1D,h1F];exact b2n.here h hK (.int _ _)
  ·rename_i d b hs hd;cases hv with
   | str _ hb =>
    have:(convert src dst' (.string b)).run E.P w = .ok (.string b) w:=by
     simp only[convert,h1E,b0x hs,b0x hd,h1D];cases d <;> rfl
    simp only[execOp,hev,h1E,this,h1D,h1F];exact b2n.here h hK (.str _ hb)
  ·rename_i e o e' es hs hd;obtain⟨⟨h1,h2,h3⟩,hK⟩:=hK;split at hK
   ·rename_i ns hn;obtain⟨g1,g2⟩:=d1D h (f1d hv h1).2 h3 hn;have:(convert src dst' vx).run E.P w = .ok (.string (b9L ns)) w:=by
     cases hv <;> simp only[convert,h1E,b0x hs,b0x hd,b0x h2,h1D,g1]
    simp only[execOp,hev,h1E,this,h1D,h1F];exact b2n.here h hK (.str _ g2)
   ·exact hK.elim
  ·rename_i e b hs hd;obtain⟨⟨h1,h2,h3,h4⟩,hK⟩:=hK;cases hv with
   | str _ hb =>
    obtain⟨v,w',G',g1,g2,g3,g4⟩:=d5i h hs hd h1 h2 h3 h4;simp only[execOp,hev,h1E,g1,h1D,h1F];exact⟨_,_,_,_,hK,g2,g3,g4⟩
  ·exact hK.elim
 case makeFunc fn first caps =>
  split at hK
  ·rename_i f;split at hK
   ·rename_i h1;have hf:first = #[]:=by apply Array.ext';simpa using h1
    simp only[execOp,Instr.makeFunc,hf,h1E,h1F,h1D,List.map_toArray,h0T];obtain⟨g1,g2⟩:=b9e h ht caps;exact b2n.here h hK (.func _ _ _ g1 g2)
   ·rename_i x r h1;obtain⟨h2,h3⟩:=hK;have hf:caps = #[]:=by apply Array.ext';simpa using h2
    have hff:first=(x::r).toArray:=by apply Array.ext';simpa using h1
    simp only[execOp,Instr.makeFunc,hf,h1E,h1F,h1D,List.map_toArray,h0T];have g:=b9e h ht first;rw[h1]at g;obtain⟨g1,g2⟩:=g;exact b2n.here h h3 (.meth _ _ _ g1 g2)
  ·exact hK.elim
 case slice t x lo hi mx =>
  split at hK
  ·rename_i hts;rw[h0k]at hts;obtain⟨u,z,arr',G',g1,g2,g3,g4,g5⟩:=d6g (lo:=lo.map (ev E s.tmps)) (hi:=hi.map (ev E s.tmps)) (mx:=mx.map (ev E s.tmps)) (vlo:=lo.map a.eval) (vhi:=hi.map a.eval) (vmx:=mx.map a.eval) h (e x)
    (fun y hy=>by obtain⟨z,rfl,rfl⟩:=h0p.1 hy;exact⟨_,rfl,e z⟩) (fun hn=>by simpa using hn) (fun y hy=>by obtain⟨z,rfl,rfl⟩:=h0p.1 hy;exact⟨_,rfl,e z⟩) (fun hn=>by simpa using hn) (fun hn=>by simpa using hn) hts.2 hK
   simp only[execOp,h1E,g1,h1D,h1F];exact⟨z,_,_,G',g2,g3,g4,g5⟩
  obtain⟨u,z,g1,g2,g3⟩:=d3M (lo:=lo.map (ev E s.tmps)) (hi:=hi.map (ev E s.tmps)) (mx:=mx.map (ev E s.tmps)) (vlo:=lo.map a.eval) (vhi:=hi.map a.eval) (vmx:=mx.map a.eval) h (e x)
   (fun y hy=>by obtain⟨z,rfl,rfl⟩:=h0p.1 hy;exact⟨_,rfl,e z⟩) (fun hn=>by simpa using hn)
   (fun y hy=>by obtain⟨z,rfl,rfl⟩:=h0p.1 hy;exact⟨_,rfl,e z⟩) (fun hn=>by simpa using hn) (fun hn=>by simpa using hn) hK
  simp only[execOp,h1E,g1,h1D,h1F];exact b2n.here h g2 g3
 case fieldAddr t x f =>
  obtain⟨u,z,g1,g2,g3⟩:=c3q h (e x) hK;simp only[execOp,h1E,g1,h1D,h1F];exact b2n.here h g2 g3
 case field t x f =>
  have hv:=e x;generalize hev:a.eval x=vx at hv;generalize hxx:ev E s.tmps x=x' at hv hK;split at hK
  ·rename_i fs cs hd;split at hK
   ·rename_i fd hf;cases hv with
    | agg _ vs hl hr =>
     obtain⟨u,z,g1,g2,g3⟩:=c7R (w:=w) (⟨hl.symm,hr⟩:RL E.P G s.arr cs vs) hK;simp only[execOp,hev,Instr.field,h1E,b0x hd,h1D,hf,asAgg,h1F,g1];exact b2n.here h g2 g3
   ·exact hK.elim
  ·exact hK.elim
 case indexAddr t x ix =>
  obtain⟨u,z,g1,g2,g3⟩:=c2z h (e x) (e ix) hK;simp only[execOp,h1E,g1,h1D,h1F];exact b2n.here h g2 g3
 case index t x ix =>
  obtain⟨u,z,g1,g2,g3⟩:=d1C h (e x) (e ix) hK;simp only[execOp,h1E,g1,h1D,h1F];exact b2n.here h g2 g3
 case extract x ix =>
  have hv:=e x;generalize hev:a.eval x=vx at hv;generalize hxx:ev E s.tmps x=x' at hv hK;split at hK
  ·rename_i vs;split at hK
   ·rename_i y hy;cases hv with
    | tuple _ us hl hr =>
     have hlt:ix<us.size:=by rw[←hl];exact(h0b.1 hy).1
     simp only[execOp,hev,Instr.extract,h0t hlt,h1E,h1F,h1D];exact b2n.here h hK (hr ix y _ hy (h0t hlt))
   ·exact hK.elim
  ·exact hK.elim
 case lookup t m k ok =>
  obtain⟨u,z,g1,g2,g3⟩:=d3I h (e m) (e k) hK;simp only[execOp,h1E,g1,h1D,h1F];exact b2n.here h g2 g3
 case mapUpdate t m k v =>
  obtain⟨w',heap',g1,g2,g3⟩:=b9F h (e m) (e k) (e v) hK;simp only[execOp,h1E,g1,h1D,h1F];exact⟨heap',_,G,g2,Ext.refl _ _,g3⟩
 case insert t m k v =>
  obtain⟨w',heap',g1,g2,g3⟩:=b9F h (e m) (e k) (e v) hK;simp only[execOp,h1E,g1,h1D,h1F];exact⟨heap',_,G,g2,Ext.refl _ _,g3⟩
 case makeMap t r =>
  obtain⟨rfl,hk⟩:=hK;obtain⟨g1,g2,g3⟩:=c5v h (t:=t);simp only[execOp,h1E,h1r,g1,h1D,h1F];exact⟨_,_,_,_,hk,G.ext_newObj _ _,g2,g3⟩
 case makeSlice t l c =>
  obtain⟨u,y,heap',G',w',g1,g2,g3,g4,g5⟩:=c2l h (e l) (e c) hK;simp only[execOp,h1E,g1,h1D,h1F];exact⟨_,_,_,_,g2,g3,g4,g5⟩
 case range t x =>
  obtain⟨u,y,heap',G',w',g1,g2,g3,g4,g5⟩:=d3U h (e x) hK;simp only[execOp,h1E,g1,h1D,h1F];exact⟨_,_,_,_,g2,g3,g4,g5⟩
 case next x str =>
  obtain⟨rfl,hk⟩:=hK;obtain⟨u,y,heap',w',g1,g2,g3,g4⟩:=d6b (ty:=ty) h (e x) hk;simp only[execOp,h1E,g1,h1D,h1F];exact⟨_,_,_,_,g2,Ext.refl _ _,g3,g4⟩
 case call c=>exact d0p h ht hK
theorem Out.wp{o:Oper}{next:Act→World→Prop}{Q:Exit→Act→World→Prop}(h:Out E G s.arr w0 K ((execOp a.eval o).run E.P w))
  (hd:∀ ch w',d6S E G s.arr w0 ch w'→Q (.panic ch) a w')
  (hn:∀ v val heap' arr' G' w',K v heap' arr'→Ext G s.arr G' arr'→RelW E G' heap' arr' w0 w'→RV E.P G' arr' v val→next (a.put o.dst val) w'):o.wp E.P a w next Q:=by
 unfold Oper.wp;generalize(execOp a.eval o).run E.P w=r at h;cases r with
 | halt x w' =>
  cases x <;> try exact h.elim
  case panic v=>exact hd _ _ h
 | ok nx w' =>
  cases nx <;> try exact h.elim
  case value val =>
   obtain⟨v,heap',arr',G',g1,g2,g3,g4⟩:=h;exact hn v val heap' arr' G' w' g1 g2 g3 g4
  case skip =>
   obtain⟨heap',arr',G',g1,g2,g3⟩:=h;exact hn .junk undef heap' arr' G' w' g1 g2 g3 (.junk _)
  case enter f args =>
   refine Calls.mono h fun e w'' he=>?_
   rcases he with⟨val,rfl,v,heap',arr',G',g1,g2,g3,g4⟩ | ⟨ch,rfl,hh⟩
   ·exact hn v val heap' arr' G' w'' g1 g2 g3 g4
   ·exact hd _ _ hh
end
end Go.Vg
namespace Go.Vg
open Go.RowKit
def b5Y(ops:List Oper)(j:Nat):Option Nat :=
 match ops[j]? with
 | some o=>o.dst
 | none=>none
def c3A(n:Nat)(o:Oper):Bool :=
 match o.dst with
 | some d=>decide (d<n)
 | none=>true
def c5k(E:Env)(n:Nat)(ops:List Oper):List Oper→St→(St→Prop)→Prop
 | [],s,Q=>Q s
 | o::r,s,Q=>c3A n o=true∧match o.guard with
  | none=>vop E s o.op fun v heap' arr'=>c5k E n ops r (St.put ⟨s.tmps,heap',arr'⟩ o.dst v) Q
  | some (j,want)=>match b5Y ops j with
   | some d=>d<n∧match b1Z s.tmps d with
    | .bool b=>(b=want→vop E ⟨(d,.bool want)::s.tmps,s.heap,s.arr⟩ o.op fun v heap' arr'=>c5k E n ops r (St.put ⟨(d,.bool want)::s.tmps,heap',arr'⟩ o.dst v) Q) ∧
      (b = !want→c5k E n ops r (St.put ⟨(d,.bool (!want))::s.tmps,s.heap,s.arr⟩ o.dst (.tuple [])) Q)
    | .tuple []=>c5k E n ops r (s.put o.dst (.tuple [])) Q
    | _=>False
   | none=>False
structure Rel(E:Env)(G:Gh)(s:St)(w0:Base)(n:Nat)(a:Act)(w:World):Prop where
 rw:RelW E G s.heap s.arr w0 w
 rt:RelT E.P G s.arr s.tmps n a
 df:a.defers=w0.dfs
theorem Rel.put{E:Env}{G G':Gh}{s:St}{w0:Base}{n:Nat}{a:Act}{w':World}{heap':List VObj}{arr':List Nat}{o:Oper}{v:V}{val:Value}
  (ht:RelT E.P G s.arr s.tmps n a) (hdf:a.defers=w0.dfs) (hd:c3A n o=true) (hx:Ext G s.arr G' arr') (hr:RelW E G' heap' arr' w0 w') (hv:RV E.P G' arr' v val) :
  Rel E G' (St.put ⟨s.tmps,heap',arr'⟩ o.dst v) w0 n (a.put o.dst val) w':=by
 unfold c3A at hd;cases hdst:o.dst with
 | none=>exact⟨hr,ht.mono hx,hdf⟩
 | some d =>
  simp only[hdst,h0l]at hd;exact⟨hr,(ht.mono hx).put hd hv,hdf⟩
theorem c3X{E:Env}{G:Gh}{s:St}{n:Nat}{a:Act}{ops:List Oper}{o:Oper}{j d:Nat}{want b:Bool}(ht:RelT E.P G s.arr s.tmps n a)(hg:o.guard=some (j,want))
  (hd:b5Y ops j=some d) (hl:b1Z s.tmps d = .bool b):Region.wanted o (yielded ops.toArray a.tmps)=(b == want):=by
 have htm:=ht.tm d;rw[hl]at htm;generalize hv:a.tmps.getD d undef=v at htm;cases htm
 unfold Region.wanted;rw[hg];simp only;have hy:yielded ops.toArray a.tmps j=some b:=by
  unfold b5Y at hd;unfold yielded;cases ho:ops[j]? with
  | none=>rw[ho]at hd;cases hd
  | some oj =>
   rw[ho]at hd;simp only at hd;rw[h1w]at hv;cases htd:a.tmps[d]? with
   | none=>rw[htd]at hv;simp[undef]at hv
   | some u =>
    rw[htd]at hv;simp only[h0A]at hv;subst hv;simp[ho,hd,htd]
 rw[hy];simp
theorem RV.undef{P:Program}{G:Gh}{arr:List Nat}:RV P G arr (.tuple []) undef := .tuple [] #[] rfl (by simp)
theorem b8F{E:Env}{G:Gh}{s:St}{n:Nat}{a:Act}{ops:List Oper}{o:Oper}{j d:Nat}{want:Bool}(ht:RelT E.P G s.arr s.tmps n a)(hg:o.guard=some (j,want))
  (hd:b5Y ops j=some d) (hdn:d<n) (hl:b1Z s.tmps d = .tuple []):Region.wanted o (yielded ops.toArray a.tmps)=false:=by
 have htm:=ht.tm d;rw[hl]at htm;generalize hv:a.tmps.getD d undef=v at htm;cases htm with
 | tuple _ vs hlen _ =>
  have hvs:vs = #[]:=Array.eq_empty_of_size_eq_zero hlen.symm;subst hvs;unfold Region.wanted;rw[hg];simp only;have hy:yielded ops.toArray a.tmps j=none:=by
   unfold b5Y at hd;unfold yielded;cases ho:ops[j]? with
   | none=>rw[ho]at hd;cases hd
   | some oj =>
    rw[ho]at hd;simp only at hd;have htd:a.tmps[d]? = some (.tuple #[]):=by
     have hlt:d<a.tmps.size:=by rw[ht.sz];exact hdn
     rw[h0t hlt];rw[h1w,h0t hlt]at hv;simpa using hv
    simp[ho,hd,htd]
  rw[hy];rfl
theorem RelT.again{P:Program}{G:Gh}{arr:List Nat}{tmps:List (Nat×V)}{n:Nat}{a:Act}{d:Nat}{x:V}(ht:RelT P G arr tmps n a)(hl:b1Z tmps d=x):RelT P G arr ((d,x)::tmps) n a:=by
 refine⟨fun i=>?_,ht.sz⟩;simp only[b1Z];split
 ·rename_i e;subst e;rw[←hl];exact ht.tm i
 ·exact ht.tm i
theorem d6S.ext{E:Env}{G G':Gh}{arr arr':List Nat}{w0:Base}{ch:List PanicEntry}{w':World}(h:d6S E G' arr' w0 ch w')(hx:Ext G arr G' arr'):d6S E G arr w0 ch w':=by
 obtain⟨h1,heap',a',G'',h2,h3,h4⟩:=h;exact⟨h1,heap',a',G'',h2,hx.trans h3,h4⟩
theorem c8x{E:Env}{n:Nat}{ops:List Oper}{w0:Base}{QQ:Exit→Act→World→Prop}:∀ (l:List Oper) (k:Nat) (s:St) (Q:St→Prop) (G:Gh) (a:Act) (w:World),
  (∀ j,l[j]? = ops[k+j]?)→Rel E G s w0 n a w→c5k E n ops l s Q→(∀ s' G' a' w',Q s'→Ext G s.arr G' s'.arr→Rel E G' s' w0 n a' w'→QQ .normal a' w') →
  (∀ ch a' w',a'.defers=w0.dfs→d6S E G s.arr w0 ch w'→QQ (.panic ch) a' w') →
  wpOps E.P ops.toArray QQ (List.range' k l.length) a w:=by
 intro l;induction l with
 | nil=>intro k s Q G a w _ hr h hq _;exact hq s G a w h (Ext.refl _ _) hr
 | cons o l ih =>
  intro k s Q G a w hl hr h hq hdi;obtain⟨hd,hg⟩:=h;have h0:ops.toArray[k]? = some o:=by have:=hl 0;simp at this;simpa using this.symm
  have hl':∀ j,l[j]? = ops[k+1+j]?:=fun j=>by have:=hl (j+1);simpa[h1s,Nat.add_comm 1 j]using this
  simp only[h0o,List.range'_succ,wpOps,h0];have run:∀ t:St,t.arr=s.arr→Rel E G t w0 n a w→Region.wanted o (yielded ops.toArray a.tmps)=true →
    (vop E t o.op fun v heap' arr'=>c5k E n ops l (St.put ⟨t.tmps,heap',arr'⟩ o.dst v) Q) →
    (if Region.wanted o (yielded ops.toArray a.tmps)=true then o.wp E.P a w (wpOps E.P ops.toArray QQ (List.range' (k+1) l.length)) QQ∨(o.asks E.P a w∧LetsOut QQ)
     else wpOps E.P ops.toArray QQ (List.range' (k+1) l.length) (a.put o.dst undef) w):=by
   intro t hta htr hw hrun;rw[if_pos hw];refine .inl ((d1g htr.rw htr.rt hrun).wp (fun ch w' hh=>hdi ch a w' hr.df (by rw[←hta];exact hh)) fun v val heap' arr' G' w' g1 g2 g3 g4=>?_);exact ih (k+1) _ Q G' _ w' hl' (Rel.put htr.rt htr.df hd g2 g3 g4) g1 (fun s' G'' a' w'' q1 q2 q3=>hq s' G'' a' w'' q1 (by rw[←hta];exact g2.trans (by simpa using q2)) q3)
    fun ch a' w'' q1 q2=>hdi ch a' w'' q1 (q2.ext (by rw[←hta];simpa using g2))
  cases hgu:o.guard with
  | none =>
   rw[hgu]at hg;exact run s rfl hr (by unfold Region.wanted;rw[hgu]) hg
  | some p =>
   obtain⟨j,want⟩:=p;rw[hgu]at hg;simp only at hg;split at hg
   case h_2=>exact hg.elim
   rename_i d hdo;obtain⟨hdn,hg⟩:=hg;split at hg
   case h_3=>exact hg.elim
   case h_2 =>
    rename_i hlu;rw[if_neg (by rw[b8F hr.rt hgu hdo hdn hlu];simp)];exact ih (k+1) _ Q G _ w hl' (Rel.put (o:=o) (v := .tuple []) (val:=undef) hr.rt hr.df hd (Ext.refl _ _) hr.rw RV.undef) hg (fun s' G'' a' w'' q1 q2 q3=>hq s' G'' a' w'' q1 (by simpa using q2) q3)
     fun ch a' w'' q1 q2=>hdi ch a' w'' q1 (by simpa using q2)
   rename_i b hlb;have hwant:=c3X (ops:=ops) hr.rt hgu hdo hlb;by_cases e:b=want
   ·subst e;exact run ⟨(d,.bool b)::s.tmps,s.heap,s.arr⟩ rfl ⟨hr.rw,hr.rt.again hlb,hr.df⟩ (by rw[hwant];simp) (hg.1 rfl)
   ·have e':b = !want:=by cases b <;> cases want <;> simp_all
    have hf:Region.wanted o (yielded ops.toArray a.tmps)=false:=by rw[hwant];simpa using e
    rw[if_neg (by simp[hf])];have hr':Rel E G ⟨(d,.bool (!want))::s.tmps,s.heap,s.arr⟩ w0 n a w:=⟨hr.rw,hr.rt.again (e' ▸ hlb),hr.df⟩
    refine ih (k+1) _ Q G _ w hl' (Rel.put (o:=o) (v := .tuple []) (val:=undef) hr'.rt hr'.df hd (Ext.refl _ _) hr'.rw RV.undef) (hg.2 e') (fun s' G'' a' w'' q1 q2 q3=>hq s' G'' a' w'' q1 (by simpa using q2) q3)
     fun ch a' w'' q1 q2=>hdi ch a' w'' q1 (by simpa using q2)
inductive VEx where
 | normal | exit (id:Nat) | ret
 deriving DecidableEq
def VEx.real:VEx→Exit
 | .normal => .normal
 | .exit id => .exit id
 | .ret => .ret
structure Fn0 where
 w0:Base
 G:Gh
 arr:List Nat
def f9J(E:Env)(n:Nat)(B:Fn0)(Q:VEx→St→Prop)(e:Exit)(a:Act)(w:World):Prop :=
 ∃ ve s' G',e=ve.real∧Q ve s'∧Ext B.G B.arr G' s'.arr∧Rel E G' s' B.w0 n a w
def g1c(E:Env)(B:Fn0)(e:Exit)(a:Act)(w:World):Prop :=
 ∃ ch,e = .panic ch∧a.defers=B.w0.dfs∧d6S E B.G B.arr B.w0 ch w
def f0K(E:Env)(n:Nat)(B:Fn0)(Q:VEx→St→Prop):Exit→Act→World→Prop :=
 fun e a w=>f9J E n B Q e a w∨g1c E B e a w
def Snd(E:Env)(hb ab n:Nat)(c:Code)(s:St)(Q:VEx→St→Prop):Prop :=
 ∀ (B:Fn0) (G:Gh) (a:Act) (w:World),B.G.φ.length=hb→B.arr.length=ab→Ext B.G B.arr G s.arr→Rel E G s B.w0 n a w→c.wp E.P (f0K E n B Q) a w
theorem c8T{P:Program}{c:Code}{Q:Exit→Act→World→Prop}(I:Nat→Act→World→Prop)
  (round:∀ m a w,I m a w→c.wp P (Exit.then (fun a' w'=>∃ m',m'<m∧I m' a' w') Q) a w):∀ m a w,I m a w→(Code.loop c).wp P Q a w:=by
 intro m a w h₀ b k cs;have key:∀ m a w,I m a w→∃ e a' w',Q e a' w'∧Arrives P (lone (b.at a (.code c :: .inLoop c::k)) cs w) b k cs e a' w':=by
  intro m;induction m using Nat.strongRecOn with
  | _ m ih =>
   intro a w hI;obtain⟨e,a₁,w₁,hq,harr⟩:=round m a w hI b (.inLoop c::k) cs;cases e with
   | normal =>
    obtain⟨m',hlt,hI₁⟩:=hq;obtain⟨e₂,a₂,w₂,hq₂,harr₂⟩:=ih m' hlt a₁ w₁ hI₁;exact⟨e₂,a₂,w₂,hq₂,.of_steps (Steps.trans harr (.one step_inLoop)) harr₂⟩
   | exit id=>exact⟨_,a₁,w₁,hq,.pass (x := .inLoop c) rfl (fun _ _ => .inl (by simp)) harr⟩
   | goto l=>exact⟨_,a₁,w₁,hq,.pass (x := .inLoop c) rfl (fun _ _ => .inl (by simp)) harr⟩
   | ret=>exact⟨_,a₁,w₁,hq,.pass (x := .inLoop c) rfl (fun _ _ => .inl (by simp)) harr⟩
   | panic ch=>exact⟨_,a₁,w₁,hq,.pass (x := .inLoop c) rfl (fun _ _ => .inl (by simp)) harr⟩
   | outgrown=>exact⟨_,a₁,w₁,hq,.pass (x := .inLoop c) rfl (fun _ _ => .inl (by simp)) harr⟩
 obtain⟨e,a',w',hq,harr⟩:=key m a w h₀;exact⟨e,a',w',hq,.of_steps (.one step_loop) harr⟩
theorem f0K.mono{E:Env}{n:Nat}{B:Fn0}{Q Q':VEx→St→Prop}(hq:∀ e s,Q e s→Q' e s){e:Exit}{a:Act}{w:World}
  (h:f0K E n B Q e a w):f0K E n B Q' e a w:=by
 rcases h with⟨ve,s',G'',h1,h2,h3,h4⟩ | h
 ·exact .inl ⟨ve,s',G'',h1,hq _ _ h2,h3,h4⟩
 ·exact .inr h
section rules
variable {E : Env} {hb ab n : Nat} {s : St} {Q : VEx → St → Prop}
theorem Snd.mono{c:Code}{Q':VEx→St→Prop}(h:Snd E hb ab n c s Q)(hq:∀ e s,Q e s→Q' e s):Snd E hb ab n c s Q' :=
 fun B G a w h1 h2 h3 h4=>wp_mono (h B G a w h1 h2 h3 h4) fun _ _ _ hm=>hm.mono hq
theorem d7k(h:Q .normal s):Snd E hb ab n .skip s Q:=fun B G a w h1 h2 h3 h4=>wp_skip (.inl ⟨.normal,s,G,rfl,h,h3,h4⟩)
theorem d2U{l:Nat}(h:Q .normal s):Snd E hb ab n (.label l) s Q:=fun B G a w h1 h2 h3 h4=>wp_label (.inl ⟨.normal,s,G,rfl,h,h3,h4⟩)
theorem d7b{id:Nat}(h:Q (.exit id) s):Snd E hb ab n (.exit id) s Q:=fun B G a w h1 h2 h3 h4=>wp_exit (.inl ⟨.exit id,s,G,rfl,h,h3,h4⟩)
theorem f0r(h:Q .ret s):Snd E hb ab n .ret s Q:=fun B G a w h1 h2 h3 h4=>wp_ret (.inl ⟨.ret,s,G,rfl,h,h3,h4⟩)
def c4U(M:St→Prop)(Q:VEx→St→Prop):VEx→St→Prop
 | .normal,s=>M s
 | e,s=>Q e s
theorem d2w{x y:Code}(M:St→Prop)(hx:Snd E hb ab n x s (c4U M Q))(hy:∀ s',M s'→Snd E hb ab n y s' Q):Snd E hb ab n (.seq x y) s Q:=by
 intro B G a w h1 h2 h3 h4;refine wp_seq (wp_mono (hx B G a w h1 h2 h3 h4) fun e a' w' hm=>?_);rcases hm with⟨ve,s',G',rfl,g2,g3,g4⟩ | ⟨ch,rfl,hm⟩
 ·cases ve with
  | normal=>exact hy s' g2 B G' a' w' h1 h2 g3 g4
  | exit id=>exact .inl ⟨.exit id,s',G',rfl,g2,g3,g4⟩
  | ret=>exact .inl ⟨.ret,s',G',rfl,g2,g3,g4⟩
 ·exact .inr ⟨ch,rfl,hm⟩
theorem d1R{x:Code}(hx:Snd E hb ab n x s Q):Snd E hb ab n (.scope x) s Q:=by
 intro B G a w h1 h2 h3 h4;refine wp_scope_straight (wp_mono (hx B G a w h1 h2 h3 h4) fun e a' w' hm=>?_);rcases hm with⟨ve,s',G',rfl,g2,g3,g4⟩ | ⟨ch,rfl,hm⟩
 ·cases ve with
  | normal=>exact .inl ⟨.normal,s',G',rfl,g2,g3,g4⟩
  | exit id'=>exact .inl ⟨.exit id',s',G',rfl,g2,g3,g4⟩
  | ret=>exact .inl ⟨.ret,s',G',rfl,g2,g3,g4⟩
 ·exact .inr ⟨ch,rfl,hm⟩
theorem d6i{c:Operand}{x y:Code}{b:Bool}(hc:ev E s.tmps c = .bool b)(hx:b=true→Snd E hb ab n x s Q)(hy:b=false→Snd E hb ab n y s Q):Snd E hb ab n (.cond c x y) s Q:=by
 intro B G a w h1 h2 h3 h4;have hv:=RV.ev h4.rw h4.rt c;rw[hc]at hv;generalize hvc:a.eval c=v at hv;cases hv
 exact wp_cond_split hvc (fun hb=>hx hb B G a w h1 h2 h3 h4) fun hb=>hy hb B G a w h1 h2 h3 h4
def c1E(id:Nat)(Q:VEx→St→Prop):VEx→St→Prop
 | .exit id',s=>if id'=id then Q .normal s else Q (.exit id') s
 | e,s=>Q e s
theorem d1A{id:Nat}{x:Code}(hx:Snd E hb ab n x s (c1E id Q)):Snd E hb ab n (.block id x) s Q:=by
 intro B G a w h1 h2 h3 h4;refine wp_block (wp_mono (hx B G a w h1 h2 h3 h4) fun e a' w' hm=>?_);rcases hm with⟨ve,s',G',rfl,g2,g3,g4⟩ | ⟨ch,rfl,hm⟩
 ·cases ve with
  | normal=>exact .inl ⟨.normal,s',G',rfl,g2,g3,g4⟩
  | exit id' =>
   simp only[VEx.real,Exit.inBlock];simp only[c1E]at g2;split
   ·rename_i e;rw[if_pos e]at g2;exact .inl ⟨.normal,s',G',rfl,g2,g3,g4⟩
   ·rename_i e;rw[if_neg e]at g2;exact .inl ⟨.exit id',s',G',rfl,g2,g3,g4⟩
  | ret=>exact .inl ⟨.ret,s',G',rfl,g2,g3,g4⟩
 ·exact .inr ⟨ch,rfl,hm⟩
def b7h(E:Env)(hb ab n:Nat)(s t:St):Prop :=
 ∀ (B:Fn0) (G:Gh) (a:Act) (w:World),B.G.φ.length=hb→B.arr.length=ab→Ext B.G B.arr G s.arr→Rel E G s B.w0 n a w→∃ G',Ext B.G B.arr G' t.arr∧Rel E G' t B.w0 n a w
theorem b7h.refl:b7h E hb ab n s s:=fun B G a w _ _ h3 h4=>⟨G,h3,h4⟩
theorem b7h.trans{t u:St}(h:b7h E hb ab n s t)(h':b7h E hb ab n t u):b7h E hb ab n s u:=fun B G a w h1 h2 h3 h4 =>
 let⟨G',g1,g2⟩:=h B G a w h1 h2 h3 h4
 h' B G' a w h1 h2 g1 g2
theorem c7I{c:Code}{t:St}(hw:b7h E hb ab n s t)(h:Snd E hb ab n c t Q):Snd E hb ab n c s Q:=fun B G a w h1 h2 h3 h4 =>
 let⟨G',g1,g2⟩:=hw B G a w h1 h2 h3 h4
 h B G' a w h1 h2 g1 g2
theorem c3m{x:Code}(I:Nat→St→Prop)(h0:∃ m t,b7h E hb ab n s t∧I m t)
  (round:∀ m t,I m t→Snd E hb ab n x t (c4U (fun t'=>∃ m' u,m'<m∧b7h E hb ab n t' u∧I m' u) Q)):Snd E hb ab n (.loop x) s Q:=by
 intro B G a w h1 h2 h3 h4;obtain⟨m,t,hw,hI⟩:=h0;obtain⟨G0,q1,q2⟩:=hw B G a w h1 h2 h3 h4;refine c8T (fun m a w=>∃ t G',I m t∧Ext B.G B.arr G' t.arr∧Rel E G' t B.w0 n a w) (fun m a w ⟨t,G',g1,g2,g3⟩=>?_) m a w ⟨t,G0,hI,q1,q2⟩;refine wp_mono (round m t g1 B G' a w h1 h2 g2 g3) fun e a' w' hm'=>?_
 rcases hm' with⟨ve,s',G'',rfl,r2,r3,r4⟩ | ⟨ch,rfl,hm⟩
 ·cases ve with
  | normal =>
   obtain⟨m',u,hlt,hwu,hI⟩:=r2;obtain⟨G3,p1,p2⟩:=hwu B G'' a' w' h1 h2 r3 r4;exact⟨m',hlt,u,G3,hI,p1,p2⟩
  | exit id=>exact .inl ⟨.exit id,s',G'',rfl,r2,r3,r4⟩
  | ret=>exact .inl ⟨.ret,s',G'',rfl,r2,r3,r4⟩
 ·exact .inr ⟨ch,rfl,hm⟩
theorem c9M{id:Nat}{ops:Array Oper}(h:c5k E n ops.toList ops.toList s (Q .normal)):Snd E hb ab n (.region id ops false) s Q:=by
 intro B G a w h1 h2 h3 h4;have:=c8x (QQ:=f0K E n B Q) ops.toList 0 s _ G a w (by simp) h4 h (fun s' G' a' w' q1 q2 q3 => .inl ⟨.normal,s',G',rfl,q1,h3.trans q2,q3⟩)
  fun ch a' w' q1 q2 => .inr ⟨ch,rfl,q1,q2.ext h3⟩
 refine wp_region ?_;simpa[List.range_eq_range']using this
end rules
def vc(E:Env)(hb ab n:Nat):Code→St→(VEx→St→Prop)→Prop
 | .skip,s,Q=>Q .normal s
 | .label _,s,Q=>Q .normal s
 | .region id ops draw,s,Q=>if draw then Snd E hb ab n (.region id ops true) s Q else c5k E n ops.toList ops.toList s (Q .normal)
 | .seq x y,s,Q=>vc E hb ab n x s (c4U (fun s'=>vc E hb ab n y s' Q) Q)
 | .cond c x y,s,Q=>match ev E s.tmps c with
  | .bool b=>(b=true→vc E hb ab n x s Q)∧(b=false→vc E hb ab n y s Q)
  | _=>False
 | .block id x,s,Q=>vc E hb ab n x s (c1E id Q)
 | .exit id,s,Q=>Q (.exit id) s
 | .ret,s,Q=>Q .ret s
 | .loop x,s,Q=>Snd E hb ab n (.loop x) s Q
 | .scope x,s,Q=>vc E hb ab n x s Q
 | _,_,_=>False
theorem b5p{E:Env}{hb ab n:Nat}:∀ (c:Code) (s:St) (Q:VEx→St→Prop),vc E hb ab n c s Q→Snd E hb ab n c s Q:=by
 intro c;induction c with
 | skip=>intro s Q h;exact d7k h
 | label l=>intro s Q h;exact d2U h
 | exit id=>intro s Q h;exact d7b h
 | ret=>intro s Q h;exact f0r h
 | region id ops draw =>
  intro s Q h;cases draw with
  | true=>simpa only[vc,if_true]using h
  | false=>simp only[vc,h0r,if_false]at h;exact c9M h
 | seq x y ihx ihy=>intro s Q h;exact d2w _ (ihx s _ h) fun s' hm=>ihy s' Q hm
 | cond c x y ihx ihy =>
  intro s Q h;simp only[vc]at h;generalize hev:ev E s.tmps c=x' at h;cases x' <;> simp only at h
  case bool b=>exact d6i hev (fun e=>ihx s Q (h.1 e)) fun e=>ihy s Q (h.2 e)
  all_goals exact h.elim
 | block id x ih=>intro s Q h;exact d1A (ih s _ h)
 | loop x ih=>intro s Q h;exact h
 | rangeFunc f params assign body _ _=>intro s Q h;exact h.elim
 | scope body ih=>intro s Q h;exact d1R (ih s Q h)
 | goto l=>intro s Q h;exact h.elim
 | refuse why=>intro s Q h;exact h.elim
def b9v:Nat→List V→List (Nat×V)
 | _,[]=>[]
 | i,x::r=>(i,x)::b9v (i+1) r
theorem c9b:∀ (xs:List V) (i j:Nat),b1Z (b9v i xs) j=if i≤j then(xs[j - i]?).getD .junk else .junk:=by
 intro xs;induction xs with
 | nil=>intro i j;simp[b9v,b1Z]
 | cons x xs ih =>
  intro i j;simp only[b9v,b1Z];by_cases e:j=i
  ·subst e;simp
  ·rw[if_neg e,ih];by_cases h:i+1≤j
   ·rw[if_pos h,if_pos (by omega)];have:j - i=(j - (i+1))+1:=by omega
    rw[this];simp
   ·rw[if_neg h,if_neg (by omega)]
theorem RelW.base{E:Env}{G:Gh}{heap:List VObj}{arr:List Nat}{w0 w1:Base}{w:World}(h1:w0.w=w1.w)(h2:w0.F=w1.F)(h:RelW E G heap arr w0 w):RelW E G heap arr w1 w:=by
 obtain⟨a,b,c⟩:=w0;obtain⟨a',b',c'⟩:=w1;cases h1;cases h2
 exact⟨h.newF,h.glob,h.below,h.frz,h.one,h.obj,h.lenφ,h.nod,h.sep,h.geφ,h.lenρ,h.reg,h.regd,h.fre,h.bldA (fun _ _=>rfl) (fun _ _ hs=>hs),h.ini,h.vs⟩
def c2E(E:Env)(s:St):List ResultVar→(List V→Prop)→Prop
 | [],K=>K []
 | .tmp t::r,K=>c2E E s r fun vs=>K (b1Z s.tmps t::vs)
 | .cell a t::r,K=>match vAt s.heap (b1Z s.tmps a)with
  | some cs=>vLoadL E t cs fun v=>c2E E s r fun vs=>K (v::vs)
  | none=>False
def f6V(E:Env)(s:St)(rs:List ResultVar)(K:V→Prop):Prop :=
 c2E E s rs fun vs=>match vs with
  | [v]=>K v
  | vs=>K (.tuple vs)
theorem c6j{E:Env}{t:TypeId}{cs:List V}{K:V→Prop}(h:vLoadL E t cs K):∃ v,vLoadL E t cs (fun u=>u=v)∧K v:=by
  unfold vLoadL at h ⊢;cases hd:E.P.underlying t with
  | none=>rw[hd]at h;exact h.elim
  | some d =>
    rw[hd]at h;cases d <;> simp only[]at h ⊢ <;>
      first
        | exact⟨_,⟨h.1,rfl⟩,h.2⟩
        | (cases cs with
           | nil=>exact h.elim
           | cons c r=>exact⟨c,rfl,h⟩)
def f4y(tmps:Array Value):ResultVar→Sem Value
 | .tmp t=>pure (tmps.getD t undef)
 | .cell b t=>do loadVar t (←asAddr (tmps.getD b undef))
theorem c9g(fn:Func)(tmps:Array Value):results fn tmps=(do let vs ←fn.results.mapM (f4y tmps);pure (if h:vs.size=1 then vs[0]else .tuple vs)):=by
 unfold results;congr 1
theorem d0l{E:Env}{G:Gh}{s:St}{w0:Base}{n:Nat}{a:Act}{w:World}(hr:Rel E G s w0 n a w):∀ (rs:List ResultVar) (K:List V→Prop),c2E E s rs K →
  ∃ vs us,(rs.mapM (f4y a.tmps)).run E.P w = .ok us w∧K vs∧vs.length=us.length ∧
   ∀ (j:Nat) x v,vs[j]? = some x→us[j]? = some v→RV E.P G s.arr x v:=by
 intro rs;induction rs with
 | nil=>intro K h;exact⟨[],[],rfl,h,rfl,by simp⟩
 | cons r rs ih =>
  intro K h;cases r with
  | tmp t =>
   obtain⟨vs,us,g1,g2,g3,g4⟩:=ih _ h;refine⟨b1Z s.tmps t::vs,a.tmps.getD t undef::us,by simp only[List.mapM_cons,f4y,h1E,h1F,h1D,g1],g2,by simp[g3],fun j x v hx hv=>?_⟩;cases j with
   | zero =>
    simp only[List.getElem?_cons_zero,Option.some.injEq]at hx hv;subst hx hv;exact hr.rt.tm t
   | succ j=>exact g4 j x v (by simpa using hx) (by simpa using hv)
  | cell b t =>
   simp only[c2E]at h;split at h
   case h_2=>exact h.elim
   rename_i cs hat;obtain⟨y,hy1,hy2⟩:=c6j h;obtain⟨u,y',q1,q2,q3⟩:=c7n hr.rw (hr.rt.tm b) hat hy1;subst q2;obtain⟨vs,us,g1,g2,g3,g4⟩:=ih _ hy2;obtain⟨b',o',hv,_⟩:=d2c hr.rw (hr.rt.tm b) hat;rw[hv]at q1;simp only[Instr.loadAt,Instr.sureAddr,h1E,h1F,h1D]at q1;refine⟨y'::vs,u::us,by simp only[List.mapM_cons,f4y,h1E,h1F,h1D,hv,asAddr,q1,g1],g2,by simp[g3],fun j x v hx hv=>?_⟩;cases j with
   | zero=>simp at hx hv;subst hx hv;exact q3
   | succ j=>exact g4 j x v (by simpa using hx) (by simpa using hv)
theorem c5E{E:Env}{G:Gh}{s:St}{w0:Base}{n:Nat}{a:Act}{w:World}(hr:Rel E G s w0 n a w){fn:Func}{K:V→Prop}(h:f6V E s fn.results.toList K) :
  ∃ v val,(results fn a.tmps).run E.P w = .ok val w∧K v∧RV E.P G s.arr v val:=by
 obtain⟨vs,us,g1,g2,g3,g4⟩:=d0l hr _ _ h;have hm:(fn.results.mapM (f4y a.tmps)).run E.P w = .ok us.toArray w:=by
  rw[Array.mapM_eq_mapM_toList];simp only[Sem.run_map,g1,h1D]
 have hall:∀ v,K v→(vs.length≠1→v = .tuple vs)→(∀ x,vs=[x]→v=x)→∃ v val,(results fn a.tmps).run E.P w = .ok val w∧K v∧RV E.P G s.arr v val:=by
  intro v hk h1 h2;refine⟨v,if h:us.toArray.size=1 then us.toArray[0]else .tuple us.toArray,?_,hk,?_⟩
  ·rw[c9g];simp only[h1E,hm,h1D,h1F]
  ·by_cases hl:vs.length=1
   ·obtain⟨x,hx⟩:=List.length_eq_one_iff.1 hl;rw[dif_pos (by simp;omega),h2 x hx];exact g4 0 x _ (by rw[hx];rfl) (by simp)
   ·rw[dif_neg (by simp;omega),h1 hl];exact .tuple _ _ (by simpa using g3) fun j c u hc hu=>g4 j c u hc (by simpa using hu)
 match vs,g2 with
 | [],g2=>exact hall _ g2 (fun _=>rfl) (by simp)
 | [x],g2=>exact hall _ g2 (by simp) (fun y hy=>by cases hy;rfl)
 | x::y::r,g2=>exact hall _ g2 (fun _=>rfl) (by simp)
theorem c5b{E:Env}{f:FuncId}{fn:Func}{c:Code}{args:List V}{heap:List VObj}{arr:List Nat}{K:b1y}(hf:E.P.funcs[f]? = some fn)(hbody:fn.body=some c)(hn:args.length≤fn.ntmps)
  (h:Snd E heap.length arr.length fn.ntmps c ⟨b9v 0 args,heap,arr⟩ fun e s=>(∀ id,e ≠ .exit id)∧f6V E s fn.results.toList fun v=>K v s.heap s.arr):b0q E f args heap arr K:=by
 intro G w0 w vals hr ha;refine calls_of_wp hf hbody (wp_mono (h ⟨{ w0 with dfs:=[] },G,arr⟩ G _ w hr.lenφ rfl (Ext.refl _ _) ⟨hr.base (w0:=w0) (w1:={ w0 with dfs:=[] }) rfl rfl,⟨fun i=>?_,by simp;have:=ha.1;omega⟩,rfl⟩) fun e a' w' hm=>?_)
 ·rw[c9b,if_pos (Nat.zero_le _),Nat.sub_zero];cases hi:args[i]? with
  | none=>exact .junk _
  | some x =>
   have hlt:i<vals.size:=by rw[←ha.1];exact(h0b.1 hi).1
   have:(vals++Array.replicate (fn.ntmps - vals.size) undef).getD i undef=vals[i]:=by
    rw[h1w,h1z hlt];simp[hlt]
   show RV _ _ _ _ ((vals++Array.replicate (fn.ntmps - vals.size) undef).getD i undef);rw[this];exact ha.2 i x _ hi (h0t hlt)
 ·rcases hm with⟨ve,s',G',rfl,⟨q1,q2⟩,q3,q4⟩ | ⟨ch,rfl,q1,q2,heap',arr',G',q3,q4,q5⟩
  ·obtain⟨v,val,g1,g2,g3⟩:=c5E q4 q2;have hres:a'.defers=[]∧∃ v,(results fn a'.tmps).run E.P w' = .ok v w'∧d9U E G arr w0 K (Ending.returned v) w' :=
    ⟨q4.df,val,g1,.inl ⟨val,rfl,v,s'.heap,s'.arr,G',g2,q3,q4.rw.base (w0:={ w0 with dfs:=[] }) (w1:=w0) rfl rfl,g3⟩⟩
   cases ve with
   | normal=>exact hres
   | ret=>exact hres
   | exit id=>exact absurd rfl (q1 id)
  ·exact⟨q1,.inr ⟨ch,rfl,q2,heap',arr',G',q3,q4,q5.base (w0:={ w0 with dfs:=[] }) (w1:=w0) rfl rfl⟩⟩
theorem c8e{E:Env}{f:FuncId}{fn:Func}{c:Code}{args:List V}{r:V}(hf:E.P.funcs[f]? = some fn)(hbody:fn.body=some c)(hn:args.length≤fn.ntmps)(hp:b0Y args=true)(hr:r.pure=true)
  (h:Snd E 0 0 fn.ntmps c ⟨b9v 0 args,[],[]⟩ fun e s=>(∀ id,e ≠ .exit id)∧f6V E s fn.results.toList fun v=>share v=r) (hal:E.alive=E:=by exact rfl):b0s E f args r:=by
 refine⟨hp,hr,?_⟩;have:=c5b (heap:=[]) (arr:=[]) (K:=fun v _ _=>share v=r) hf hbody hn h;rw[←hal]at this;intro G w0 w vals hrel ha;refine(this G w0 w vals hrel ha).mono fun e w' hg=>?_
 obtain⟨val,he,v,heap',arr',G',hv,hx,hr',hrv⟩:=hg.alive;exact .inl ⟨val,he,share v,heap',arr',G',hv,hx,hr',hrv.share⟩
end Go.Vg
