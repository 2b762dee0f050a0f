import Derived.Test.YtighfcpaplmaiaaGreatDoorVgG
set_option linter.unusedVariables false
set_option linter.unusedSimpArgs false
namespace Go.Vg
open Go.RowKit
section
variable {E : Env} {G : Gh} {heap : List VObj} {arr : List Nat} {w0 : Base} {w : World}
theorem c2G(h:RelW E G heap arr w0 w){s:TypeId}{x:V}{v:Value}{f:Nat}{K:V→Prop}(hx:RV E.P G arr x v)(hK:vFieldAddr E s x f K) :
  ∃ u z,(Instr.fieldAt s v f).run E.P w = .ok u w∧K z∧RV E.P G arr z u:=by
 unfold vFieldAddr at hK
 split at hK
 case h_2=>exact hK.elim
 rename_i fs hd
 split at hK
 case h_2=>exact hK.elim
 rename_i fd hf
 obtain⟨⟨h1,h2⟩,hk⟩:=hK
 obtain⟨i,hi⟩:=g9E.1 h1
 split at hk
 ·cases hx with
  | fptr cs b o hdd hr =>
   refine⟨.pointer (some ⟨b,o+fd.offset,none⟩),_,?_,hk,.fptr _ _ _ (fun j hj=>?_) fun j c u hc hu=>?_⟩
   ·simp only[Instr.fieldAt,h0z,b0y hd,h0y,hf,Instr.sureAddr,h0A,fieldPlace,b0O hi,if_neg h2,Addr.add_mk]
   ·obtain⟨u,hu⟩:=hdd (fd.offset+j) (by simp at hj;omega)
    exact⟨u,by rw[←hu];congr 1;omega⟩
   ·rw[g9Y]at hc
    exact hr _ c u hc (by rw[←hu];congr 1;omega)
 ·rename_i id off
  cases hx with
  | ptr _ _ b hb =>
   refine⟨.pointer (some ⟨b,off+fd.offset,none⟩),_,?_,hk,.ptr _ _ _ hb⟩
   simp only[Instr.fieldAt,h0z,b0y hd,h0y,hf,Instr.sureAddr,h0A,fieldPlace,b0O hi,if_neg h2,Addr.add_mk]
 ·rename_i id k gen off
  cases hx with
  | vptr _ _ _ _ b o hv =>
   refine⟨.pointer (some ⟨b,o+fd.offset,none⟩),_,?_,hk,.vptr _ _ _ _ _ _ ?_⟩
   ·simp only[Instr.fieldAt,h0z,b0y hd,h0y,hf,Instr.sureAddr,h0A,fieldPlace,b0O hi,if_neg h2,Addr.add_mk]
   ·obtain⟨n,g1,g2,g3⟩:=hv
    refine⟨n,g1,g2,fun e=>?_⟩
    obtain⟨b',hi',g4,g5,g6⟩:=g3 e
    exact⟨b',hi',g4,g5,by rw[g6]⟩
 ·exact hk.elim
theorem c2Q(h:RelW E G heap arr w0 w){t:TypeId}{x ix:V}{v vi:Value}{K:V→Prop}(hx:RV E.P G arr x v)(hi':RV E.P G arr ix vi)(hK:vIndexAddr E t x ix K) :
  ∃ u z,(Instr.indexAt t v vi).run E.P w = .ok u w∧K z∧RV E.P G arr z u:=by
 unfold vIndexAddr at hK
 split at hK
 ·rename_i e o e' es k i hd
  obtain⟨⟨rfl,h1,h2,h3⟩,hk⟩:=hK
  obtain⟨ie,hie⟩:=g9E.1 h1
  have hlt:i.toNat<es.length:=by omega
  cases hi'
  cases hx with
  | snil _ _ _=>simp at hlt
  | sodd _ _ _=>simp at hlt
  | slice _ _ _ b off cap ho g1 g2 g3 g4 g5 g6 =>
   refine⟨.pointer (some ⟨b,off+i.toNat * E.P.cellsOf e',none⟩),_,?_,hk,.fptr _ _ _ (fun j hj=>?_) fun j c u hc hu=>?_⟩
   ·simp only[Instr.indexAt,h0z,asIntOf,h0A,h0y,b0y hd]
    rw[if_pos ⟨h2,by omega⟩]
    simp only[h0z,b0O hie,h0y,h0A,Addr.add_mk]
   ·have hel:es[i.toNat]? = some (es.getD i.toNat []):=by simp[g8Z,hlt]
    obtain⟨u,hu⟩:=g5 _ _ j hel hj
    exact⟨u,by rw[←hu];congr 1;omega⟩
   ·have hel:es[i.toNat]? = some (es.getD i.toNat []):=by simp[g8Z,hlt]
    exact g6 _ _ j c u hel hc (by rw[←hu];congr 1;omega)
 ·rename_i e id off len cap e' k i hd
  obtain⟨⟨rfl,h1,h2,h3⟩,hk⟩:=hK
  obtain⟨ie,hie⟩:=g9E.1 h1
  cases hi'
  cases hx with
  | mslice _ _ _ _ _ b hb g1 g2 =>
   refine⟨.pointer (some ⟨b,off+i.toNat * E.P.cellsOf e',none⟩),_,?_,hk,.ptr _ _ _ hb⟩
   simp only[Instr.indexAt,h0z,asIntOf,h0A,h0y,b0y hd]
   rw[if_pos ⟨h2,by omega⟩]
   simp only[h0z,b0O hie,h0y,h0A,Addr.add_mk]
 ·rename_i e id k' gen len e' k i hd
  obtain⟨⟨rfl,h1,h2,h3⟩,hk⟩:=hK
  obtain⟨ie,hie⟩:=g9E.1 h1
  cases hi'
  cases hx with
  | vec _ _ _ _ _ b o cap hv g1 g2 =>
   refine⟨.pointer (some ⟨b,o+i.toNat * E.P.cellsOf e',none⟩),_,?_,hk,.vptr _ _ _ _ _ _ ?_⟩
   ·simp only[Instr.indexAt,h0z,asIntOf,h0A,h0y,b0y hd]
    rw[if_pos ⟨h2,by omega⟩]
    simp only[h0z,b0O hie,h0y,h0A,Addr.add_mk]
   ·obtain⟨n,q1,q2,q3⟩:=hv
    refine⟨n,q1,q2,fun e=>?_⟩
    obtain⟨b',hi',q4,q5,q6,q7,q8⟩:=q3 e
    exact⟨b',hi',q4,q7,by rw[q8,g9s]⟩
 ·rename_i n e cs k i hd
  obtain⟨⟨h1,h2,h3⟩,hk⟩:=hK
  obtain⟨ie,hie⟩:=g9E.1 h1
  cases hi'
  cases hx with
  | fptr _ b o hdd hr =>
   refine⟨.pointer (some ⟨b,o+i.toNat * E.P.cellsOf e,none⟩),_,?_,hk,.fptr _ _ _ (fun j hj=>?_) fun j c u hc hu=>?_⟩
   ·simp only[Instr.indexAt,h0z,asIntOf,h0A,h0y,b0y hd,Instr.sureAddr]
    rw[if_pos ⟨h2,by omega⟩]
    simp only[h0z,b0O hie,h0y,h0A,Addr.add_mk]
   ·obtain⟨u,hu⟩:=hdd (i.toNat * E.P.cellsOf e+j) (by simp at hj;omega)
    exact⟨u,by rw[←hu];congr 1;omega⟩
   ·rw[g9Y]at hc
    exact hr _ c u hc (by rw[←hu];congr 1;omega)
 ·rename_i n e id off k i hd
  obtain⟨⟨h1,h2,h3⟩,hk⟩:=hK
  obtain⟨ie,hie⟩:=g9E.1 h1
  cases hi'
  cases hx with
  | ptr _ _ b hb =>
   refine⟨.pointer (some ⟨b,off+i.toNat * E.P.cellsOf e,none⟩),_,?_,hk,.ptr _ _ _ hb⟩
   simp only[Instr.indexAt,h0z,asIntOf,h0A,h0y,b0y hd,Instr.sureAddr]
   rw[if_pos ⟨h2,by omega⟩]
   simp only[h0z,b0O hie,h0y,h0A,Addr.add_mk]
 ·exact hK.elim
theorem d0m(h:RelW E G heap arr w0 w){t:TypeId}{x ix:V}{v vi:Value}{K:V→Prop}(hx:RV E.P G arr x v)(hi':RV E.P G arr ix vi)(hK:vIndex E t x ix K) :
  ∃ u z,(Instr.index t v vi).run E.P w = .ok u w∧K z∧RV E.P G arr z u:=by
 unfold vIndex at hK
 split at hK
 ·rename_i s k i hd
  obtain⟨⟨h1,h2⟩,hk⟩:=hK
  cases hi';cases hx
  have hlt:i.toNat<s.size:=by omega
  have hget:s[i.toNat]? = some s[i.toNat]:=by simp[hlt]
  refine⟨.int .u8 (b5b s i),_,?_,hk,.int _ _⟩
  simp only[Instr.index,h0z,asIntOf,h0A,h0y,b0y hd,if_pos h1,hget,b5b]
 ·rename_i n e cs k i hd
  obtain⟨⟨h0,h1,h2⟩,hk⟩:=hK
  obtain⟨ie,hie⟩:=g9E.1 h0
  cases hi'
  cases hx with
  | agg _ vs hl hr =>
   obtain⟨u,z,g1,g2,g3⟩:=c6t (w:=w) (⟨hl.symm,hr⟩:RL E.P G arr cs vs) hk
   refine⟨u,z,?_,g2,g3⟩
   simp only[Instr.index,h0z,asIntOf,h0A,h0y,b0y hd]
   rw[if_pos ⟨h1,by omega⟩]
   simp only[h0z,b0O hie,h0y,g1]
 ·exact hK.elim
theorem d8h(h:RelW E G heap arr w0 w){ts:Array TypeId}{t ty:TypeId}{x:V}{v:Value}{K:V→Prop}(h0:ts[0]? = some t)(hx:RV E.P G arr x v)(hK:d3h E t x K) :
  ∃ u z,(Builtin.len_ ts ty #[v]).run E.P w = .ok u w∧K z∧RV E.P G arr z u:=by
 unfold d3h at hK
 split at hK
 ·rename_i s hd
  cases hx with
  | str _ hs=>exact⟨_,_,by simp[Builtin.len_,h0,b0y hd,goInt],hK hs,.int _ _⟩
 ·rename_i e o e' es hd
  cases hx with
  | snil _ _ _=>exact⟨_,_,by simp[Builtin.len_,h0,b0y hd,goInt],hK (by simp) (by simp),.int _ _⟩
  | sodd _ _ _=>exact⟨_,_,by simp[Builtin.len_,h0,b0y hd,goInt],hK (by simp) (by simp),.int _ _⟩
  | slice _ _ _ b off cap ho g1 g2 g3 g4 g5 g6=>exact⟨_,_,by simp[Builtin.len_,h0,b0y hd,goInt],hK g2 g3,.int _ _⟩
 ·rename_i e id off len cap e' hd
  cases hx with
  | mslice _ _ _ _ _ b hb g1 g2=>exact⟨_,_,by simp[Builtin.len_,h0,b0y hd,goInt],hK g1,.int _ _⟩
 ·rename_i e id k gen len e' hd
  cases hx with
  | vec _ _ _ _ _ b o cap hv g1 g2=>exact⟨_,_,by simp[Builtin.len_,h0,b0y hd,goInt],hK g1,.int _ _⟩
 ·exact hK.elim
theorem d3L(h:RelW E G heap arr w0 w){ts:Array TypeId}{t ty:TypeId}{x:V}{v:Value}{K:V→Prop}(h0:ts[0]? = some t)(hx:RV E.P G arr x v)(hK:b8K E heap t x K) :
  ∃ u z,(Builtin.len_ ts ty #[v]).run E.P w = .ok u w∧K z∧RV E.P G arr z u:=by
 unfold b8K at hK
 split at hK
 ·rename_i id
  split at hK
  case h_2=>exact hK.elim
  rename_i kt vt es hd ho
  cases hx with
  | map _ b hb =>
   obtain⟨b',hb',m,clk,hm,hsz,_⟩:=h.obj id _ ho
   rw[hb]at hb'
   cases hb'
   have hg:=MapKept.run_getObj_map (P:=E.P) hm
   exact⟨.int .i64 m.size,_,by simp[Builtin.len_,h0,b0y hd,goInt,hg],hK,by rw[←hsz];exact .int _ _⟩
 ·exact d8h h h0 hx hK
def bnd(v:Option Value)(d y:Nat)(code:BoundsCode):Sem Nat :=
 match v with
 | some v=>Instr.sliceBound v y code
 | none=>pure d
theorem b4q{lo:Option V}{vlo:Option Value}{d y:Nat}{l:Int}{code:BoundsCode}(hl:∀ x,lo=some x→∃ v,vlo=some v∧RV E.P G arr x v)(hn:lo=none→vlo=none)
  (hb:b2v d lo=some l) (h0:0≤l) (hy:lo≠none→l≤y):(bnd vlo d y code).run E.P w = .ok l.toNat w:=by
 cases lo with
 | none =>
  have:=hn rfl
  subst this
  simp only[b2v,Option.some.injEq]at hb
  subst hb
  simp[bnd]
 | some x =>
  obtain⟨v,rfl,hv⟩:=hl x rfl
  cases x <;> simp only[b2v]at hb <;> try cases hb
  cases hv
  simp only[bnd,Instr.sliceBound,h0z,asIntOf,h0A,h0y]
  rw[if_pos ⟨h0,hy (by simp)⟩]
  rfl
theorem b5P{P:Program}{b:Bool}{len cap l h:Nat}{vlo vhi:Option Value}(r1:(bnd vhi len cap (if b then .sliceAcap else .sliceAlen)).run P w = .ok h w)
  (r2:(bnd vlo 0 h .sliceB).run P w = .ok l w):(Instr.sliceBounds b len cap vlo vhi none).run P w = .ok (l,h,cap) w:=by
 unfold Instr.sliceBounds
 cases vlo <;> cases vhi <;> simp only[bnd,h0A,Result.ok.injEq,and_true]at r1 r2 <;>
  simp only[h0z,h0A,h0y,g9u,g9n,if_false] <;>
  (try subst r1) <;> (try subst r2) <;> (try rw[r1]) <;> (try simp only[h0y]) <;> (try rw[r2]) <;> rfl
theorem d2B(h:RelW E G heap arr w0 w){t:TypeId}{x:V}{v:Value}{lo hi mx:Option V}{vlo vhi vmx:Option Value}{K:V→Prop}(hx:RV E.P G arr x v)
  (hlo:∀ x,lo=some x→∃ v,vlo=some v∧RV E.P G arr x v) (nlo:lo=none→vlo=none) (hhi:∀ x,hi=some x→∃ v,vhi=some v∧RV E.P G arr x v) (nhi:hi=none→vhi=none)
  (nmx:mx=none→vmx=none) (hK:vSlice E t x lo hi mx K):∃ u z,(Instr.sliceAt t v vlo vhi vmx).run E.P w = .ok u w∧K z∧RV E.P G arr z u:=by
 unfold vSlice at hK
 split at hK
 ·rename_i s hd
  split at hK
  case h_2=>exact hK.elim
  rename_i l hh hbl hbh
  obtain⟨⟨h1,h2,h3⟩,hk⟩:=hK
  rw[nmx rfl]
  cases hx with
  | str _ hs =>
   have r1:=b4q (w:=w) (y:=s.size) (code := .sliceAlen) hhi nhi hbh (by omega) (fun _=>by omega)
   have r2:=b4q (w:=w) (y:=hh.toNat) (code := .sliceB) hlo nlo hbl (by omega) (fun _=>by omega)
   have hsb:(Instr.sliceBounds false s.size s.size vlo vhi none).run E.P w = .ok (l.toNat,hh.toNat,s.size) w:=b5P r1 r2
   refine⟨.string (s.extract l.toNat hh.toNat),_,?_,hk,.str _ (by simp[ByteArray.size_extract];omega)⟩
   simp only[Instr.sliceAt,h0z,b0y hd,h0y,Instr.slice,g9u,g9n,if_false,h0A,hsb]
 ·rename_i e o e' es hd
  split at hK
  case h_2=>exact hK.elim
  rename_i l hh hbl hbh
  obtain⟨⟨he,h0,h1,h2,h3⟩,hk⟩:=hK
  obtain⟨ie,hie⟩:=g9E.1 h0
  rw[nmx rfl]
  have hx:=(d8q hx he).2
  have key:∀ (a:Option Addr) (cap:Nat),v = .slice a es.length cap→es.length≤cap →
    (Instr.sliceAt t v vlo vhi none).run E.P w = .ok (.slice (if cap=l.toNat then a else a.map (·.add (l.toNat * E.P.cellsOf e))) (hh.toNat - l.toNat) (cap - l.toNat)) w:=by
   rintro a cap rfl hcap
   have r1:=b4q (w:=w) (y:=cap) (code := .sliceAcap) hhi nhi hbh (by omega) (fun _=>by omega)
   have r2:=b4q (w:=w) (y:=hh.toNat) (code := .sliceB) hlo nlo hbl (by omega) (fun _=>by omega)
   have hsb:(Instr.sliceBounds true es.length cap vlo vhi none).run E.P w = .ok (l.toNat,hh.toNat,cap) w:=b5P r1 r2
   simp only[Instr.sliceAt,h0z,b0y hd,h0y,Instr.slice,hsb,b0O hie,h0A]
  cases hx with
  | snil _ _ ho =>
   simp only[g9F]at h3
   have hl0:l=0:=by omega
   have hh0:hh=0:=by omega
   subst hl0 hh0
   refine⟨_,_,key none 0 rfl (g9m _),hk,RV.sl (o := .shared) ?_⟩
   exact .snil _ _ trivial
  | sodd _ a c =>
   simp only[g9F]at h3
   have hl0:l=0:=by omega
   have hh0:hh=0:=by omega
   subst hl0 hh0
   refine⟨_,_,key a c rfl (Nat.zero_le _),hk,RV.sl (o := .shared) ?_⟩
   exact .sodd _ _ _
  | slice _ _ _ b off cap ho g1 g2 g3 g4 g5 g6 =>
   refine⟨_,_,key _ cap rfl g4,hk,RV.sl (o := .shared) ?_⟩
   have hlen:((es.take hh.toNat).drop l.toNat).length=hh.toNat - l.toNat:=by simp;omega
   by_cases hc:cap=l.toNat
   ·rw[if_pos hc]
    have h00:(es.take hh.toNat).drop l.toNat=[]:=g9C (by rw[hlen];omega)
    rw[h00,show hh.toNat - l.toNat=([]:List (List V)).length by simp;omega]
    exact .slice _ _ _ _ _ _ trivial (by simp) (by simp) (by simp) (by simp) (by simp) (by simp)
   ·rw[if_neg hc]
    simp only[g9z,Addr.add_mk]
    rw[←hlen]
    have hel:∀ (i:Nat) el,((es.take hh.toNat).drop l.toNat)[i]? = some el→es[l.toNat+i]? = some el:=by
     intro i el hi
     rw[g9Y,List.getElem?_take]at hi
     split at hi
     ·exact hi
     ·cases hi
    refine .slice _ _ _ _ _ _ trivial (fun i el hi=>g1 _ el (hel i el hi)) ?_ (by omega) (by omega) (fun i el j hi hj=>?_) fun i el j c u hi hj hu=>?_
    ·refine h0i (g9L _ ?_) g2
     omega
    ·obtain⟨u,hu⟩:=g5 _ el j (hel i el hi) hj
     exact⟨u,by rw[←hu,g9R];congr 1;omega⟩
    ·exact g6 _ el j c u (hel i el hi) hj (by rw[←hu,g9R];congr 1;omega)
 ·exact hK.elim
theorem c8I{x:V}{lo hi mx:Option V}(h:b6r x lo hi mx=true):(hi=none∧mx=none∧∃ o e el es k l,x = .slice o e (el::es)∧lo=some (.int k l))∨(lo=none∧mx=none∧∃ id k gen len e kd l,x = .vec id k gen len e∧hi=some (.int kd l)):=by
 unfold b6r at h
 split at h
 ·exact .inl ⟨rfl,rfl,_,_,_,_,_,_,rfl,rfl⟩
 ·exact .inl ⟨rfl,rfl,_,_,_,_,_,_,rfl,rfl⟩
 ·exact .inr ⟨rfl,rfl,_,_,_,_,_,_,_,rfl,rfl⟩
 ·cases h
theorem d0M(h:RelW E G heap arr w0 w){t:TypeId}{x:V}{v:Value}{lo hi mx:Option V}{vlo vhi vmx:Option Value}{K:V→List Nat→Prop}(hx:RV E.P G arr x v)
  (hlo:∀ x,lo=some x→∃ v,vlo=some v∧RV E.P G arr x v) (nhi:hi=none→vhi=none) (nmx:mx=none→vmx=none) (ht:hi=none∧mx=none∧∃ o e el es k l,x = .slice o e (el::es)∧lo=some (.int k l)) (hK:c3Q E arr t x lo hi K) :
  ∃ u z arr' G',(Instr.sliceAt t v vlo vhi vmx).run E.P w = .ok u w∧K z arr'∧Ext G arr G' arr'∧RelW E G' heap arr' w0 w∧RV E.P G' arr' z u:=by
 obtain⟨rfl,rfl,o,e',el0,es0,kd,l,rfl,rfl⟩:=ht
 rw[nhi rfl,nmx rfl]
 obtain⟨es,hes⟩:∃ es,es=el0::es0:=⟨_,rfl⟩
 have hne:es≠[]:=by rw[hes];simp
 rw[←hes]at hx hK
 clear hes
 have main:∀ (e:TypeId),E.P.underlying t=some (.slice e)→e'=e→b0C E.P e=true→0≤l→l≤es.length→∃ b off cap off',c2j G arr o b off es.length cap (E.P.cellsOf e')∧es.length≤cap ∧
   (Instr.sliceAt t v vlo none none).run E.P w = .ok (.slice (some ⟨b,off',none⟩) (es.drop l.toNat).length (cap - l.toNat)) w ∧
   ((cap=l.toNat∧off'=off)∨(cap≠l.toNat∧off'=off+l.toNat * E.P.cellsOf e')) ∧
   ∀ (G':Gh) (arr':List Nat) (o':Own),Ext G arr G' arr'→c2j G' arr' o' b off' (es.drop l.toNat).length (cap - l.toNat) (E.P.cellsOf e')→RV E.P G' arr' (.slice o' e' (es.drop l.toNat)) (.slice (some ⟨b,off',none⟩) (es.drop l.toNat).length (cap - l.toNat)):=by
  intro e hd he h0 h1 h2
  subst he
  obtain⟨ie,hie⟩:=g9E.1 h0
  cases hx with
  | snil=>exact absurd rfl hne
  | sodd=>exact absurd rfl hne
  | slice _ _ _ b off cap ho g1 g2 g3 g4 g5 g6 =>
   have r1:(bnd none es.length cap .sliceAcap).run E.P w = .ok es.length w:=by simp[bnd]
   have r2:=b4q (w:=w) (d:=0) (y:=es.length) (code := .sliceB) hlo (fun h=>by cases h) (l:=l) rfl h1 (fun _=>by omega)
   have hsb:(Instr.sliceBounds true es.length cap vlo none none).run E.P w = .ok (l.toNat,es.length,cap) w:=b5P r1 r2
   have hdl:(es.drop l.toNat).length=es.length - l.toNat:=h0e
   have hrun:(Instr.sliceAt t (.slice (some ⟨b,off,none⟩) es.length cap) vlo none none).run E.P w = .ok (.slice (if cap=l.toNat then some ⟨b,off,none⟩else(some (⟨b,off,none⟩:Addr)).map (·.add (l.toNat * E.P.cellsOf e'))) (es.length - l.toNat) (cap - l.toNat)) w:=by
    simp only[Instr.sliceAt,h0z,b0y hd,h0y,Instr.slice,hsb,b0O hie,h0A]
   by_cases hc:cap=l.toNat
   ·rw[if_pos hc,←hdl]at hrun
    have h00:es.drop l.toNat=[]:=g9C (by rw[hdl];omega)
    refine⟨b,off,cap,off,ho,g4,hrun,.inl ⟨hc,rfl⟩,fun G' arr' o' hx' ho'=>?_⟩
    rw[h00]at ho' ⊢
    exact .slice _ _ _ _ _ _ ho' (by simp) (by simp) (by simp) (by simp) (by simp) (by simp)
   ·rw[if_neg hc,←hdl]at hrun
    simp only[g9z,Addr.add_mk]at hrun
    refine⟨b,off,cap,_,ho,g4,hrun,.inr ⟨hc,rfl⟩,fun G' arr' o' hx' ho'=>?_⟩
    have hel:∀ (i:Nat) el,(es.drop l.toNat)[i]? = some el→es[l.toNat+i]? = some el:=by
     intro i el hi
     rw[g9Y]at hi
     exact hi
    refine .slice _ _ _ _ _ _ ho' (fun i el hi=>g1 _ el (hel i el hi)) ?_ (by omega) (by omega) (fun i el j hi hj=>?_) fun i el j c u hi hj hu=>?_
    ·refine h0i (g9L _ ?_) g2
     omega
    ·obtain⟨u,hu⟩:=g5 _ el j (hel i el hi) hj
     exact⟨u,by rw[←hx'.F _ _ _ hu,g9R];congr 1;omega⟩
    ·obtain⟨u',hu'⟩:=g5 _ el j (hel i el hi) (g8Y.1 hj).1
     have e3:off+l.toNat * E.P.cellsOf e'+(i * E.P.cellsOf e'+j)=off+((l.toNat+i) * E.P.cellsOf e'+j):=by rw[g9R];omega
     rw[e3,hx'.F _ _ _ hu']at hu
     cases hu
     exact(g6 _ el j c _ (hel i el hi) hj hu').mono hx'
 unfold c3Q at hK
 split at hK
 ·rename_i e k e1 es1 kd1 l1 hd hxe hle
  cases hxe;cases hle
  obtain⟨⟨h1,h2,h3,h4,h5⟩,hk⟩:=hK
  obtain⟨b,off,cap,off',ho,hcap,hrun,hoff,hrv⟩:=main e hd h1 h2 h3 h4
  obtain⟨n,q1,q2,q3⟩:=ho
  rw[h5]at q1
  cases q1
  have hρ:=q3 rfl
  have hlen:es.length≤140737488355328:=by
   cases hx with
   | snil=>exact absurd rfl hne
   | slice _ _ _ _ _ _ _ _ _ g3 _ _ _=>exact g3
  have hdl:(es.drop l.toNat).length=es.length - l.toNat:=h0e
  have hkl:=(g8Y.1 h5).1
  have hlr:=h.lenρ
  obtain⟨hx',hr'⟩:=h.slotMove (m:=es.length - l.toNat) (lo:=off'+(es.drop l.toNat).length * E.P.cellsOf e') (hi:=off'+(cap - l.toNat) * E.P.cellsOf e') h5 (by omega) hρ (by
   rw[hdl]
   rcases hoff with⟨hc,rfl⟩ | ⟨hc,rfl⟩
   ·right
    have e1:es.length - l.toNat=0:=by omega
    have e2:cap - l.toNat=0:=by omega
    rw[e1,e2]
    simp
   ·left
    constructor
    ·rw[h0n,←g9R];congr 2;omega
    ·rw[h0n,←g9R];congr 2;omega)
  refine⟨_,_,_,_,hrun,hk,hx',hr',hrv _ _ _ hx' ?_⟩
  refine⟨es.length - l.toNat,?_,by omega,fun _=>?_⟩
  ·rw[g9c (by simp)];simp
  ·show(G.ρ.set k (0,0,0)++_)[arr.length]? = _
   rw[g9c (by simp;omega)];simp[hlr]
 ·rename_i e e1 es1 kd1 l1 hd hxe hle
  cases hxe;cases hle
  obtain⟨⟨h1,h2,h3,h4⟩,hk⟩:=hK
  obtain⟨b,off,cap,off',ho,hcap,hrun,hoff,hrv⟩:=main e hd h1 h2 h3 h4
  have hdl:(es.drop l.toNat).length=es.length - l.toNat:=h0e
  have ho':cap=es.length:=ho
  refine⟨_,_,_,G,hrun,hk,Ext.refl _ _,h,hrv _ _ _ (Ext.refl _ _) ?_⟩
  show cap - l.toNat=_
  omega
 all_goals first | exact hK.elim | contradiction
theorem d4I(h:RelW E G heap arr w0 w){t:TypeId}{x:V}{v:Value}{lo hi mx:Option V}{vlo vhi vmx:Option Value}{K:V→List Nat→Prop}(hx:RV E.P G arr x v)
  (hlo:∀ x,lo=some x→∃ v,vlo=some v∧RV E.P G arr x v) (nlo:lo=none→vlo=none) (hhi:∀ x,hi=some x→∃ v,vhi=some v∧RV E.P G arr x v) (nhi:hi=none→vhi=none) (nmx:mx=none→vmx=none) (ht:b6r x lo hi mx=true) (hK:c3Q E arr t x lo hi K) :
  ∃ u z arr' G',(Instr.sliceAt t v vlo vhi vmx).run E.P w = .ok u w∧K z arr'∧Ext G arr G' arr'∧RelW E G' heap arr' w0 w∧RV E.P G' arr' z u:=by
 rcases c8I ht with h1 | ⟨rfl,rfl,id,k,gen,len,e',kd,l,rfl,rfl⟩
 ·exact d0M h hx hlo nhi nmx h1 hK
 rw[nmx rfl]
 have h0:=nlo rfl
 subst h0
 unfold c3Q at hK
 split at hK
 case h_1=>contradiction
 case h_2=>contradiction
 case h_4=>exact hK.elim
 rename_i e a1 a2 a3 a4 a5 kd1 l1 hd hxe hlo0 hle
 cases hxe;cases hle
 obtain⟨⟨he,g0,g1,g2,g3⟩,hk⟩:=hK
 subst he
 obtain⟨ie,hie⟩:=g9E.1 g0
 cases hx with
 | vec _ _ _ _ _ b o cap hv p1 p2 =>
 obtain⟨n,q1,q2,q3⟩:=hv
 rw[g3]at q1
 cases q1
 obtain⟨b1,hi1,q4,q5,q6,q7,q8⟩:=q3 rfl
 have r1:=b4q (w:=w) (d:=len) (y:=cap) (code := .sliceAcap) hhi nhi (l:=l) rfl (by omega) (fun _=>by omega)
 have r2:(bnd none 0 l.toNat .sliceB).run E.P w = .ok 0 w:=by simp[bnd]
 have hsb:(Instr.sliceBounds true len cap none vhi none).run E.P w = .ok (0,l.toNat,cap) w:=b5P r1 r2
 refine⟨.slice (some ⟨b,o,none⟩) l.toNat cap,_,_,G,?_,hk,Ext.refl _ _,h,.vec _ _ _ _ _ _ _ _ ⟨_,g3,g9m _,fun _=>⟨b1,hi1,q4,q5,by omega,q7,q8⟩⟩ (by omega) (h0i (g9L _ (by omega)) p2)⟩
 simp only[Instr.sliceAt,h0z,b0y hd,h0y,Instr.slice,hsb,b0O hie,h0A]
 by_cases hc:cap=0
 ·rw[if_pos hc];simp
 ·rw[if_neg hc];simp[Addr.add_mk]
end
open Go.RowKit
section
variable {E : Env} {G : Gh} {s : St} {w0 : Base} {w : World} {n : Nat} {a : Act} {K : b1z}
theorem b2k.here{heap:List VObj}{arr:List Nat}{v:V}{val:Value}(h:RelW E G heap arr w0 w)(hk:K v heap arr)(hr:RV E.P G arr v val):b2k E G arr w0 K val w :=
 ⟨v,heap,arr,G,hk,Ext.refl _ _,h,hr⟩
theorem c4x(h:RelW E G s.heap s.arr w0 w)(ht:RelT E.P G s.arr s.tmps n a)(parts:Array (Nat×Operand)) :
  ((parts.toList.map fun p=>(p.1,ev E s.tmps p.2)).length=(parts.map fun(i,x)=>(i,a.eval x)).size) ∧
  ∀ (j:Nat) p q,(parts.toList.map fun p=>(p.1,ev E s.tmps p.2))[j]? = some p→(parts.map fun(i,x)=>(i,a.eval x))[j]? = some q→p.1=q.1∧RV E.P G s.arr p.2 q.2:=by
 refine⟨by simp,fun j p q hp hq=>?_⟩
 simp only[g9q,Array.getElem?_toList,Array.getElem?_map]at hp hq
 cases hj:parts[j]? with
 | none=>simp[hj]at hp
 | some x =>
  simp only[hj,g9z,Option.some.injEq]at hp hq
  subst hp hq
  exact⟨rfl,RV.ev h ht x.2⟩
theorem b8H(h:RelW E G s.heap s.arr w0 w)(ht:RelT E.P G s.arr s.tmps n a)(xs:Array Operand):b8d E.P G s.arr (xs.toList.map (ev E s.tmps)) (xs.map a.eval):=by
 refine⟨by simp,fun j x v hx hv=>?_⟩
 simp only[g9q,Array.getElem?_toList,Array.getElem?_map]at hx hv
 cases hj:xs[j]? with
 | none=>simp[hj]at hx
 | some y =>
  simp only[hj,g9z,Option.some.injEq]at hx hv
  subst hx hv
  exact RV.ev h ht y
theorem b8d.append{P:Program}{G:Gh}{arr:List Nat}{xs ys:List V}{vs us:Array Value}(h:b8d P G arr xs vs)(h':b8d P G arr ys us):b8d P G arr (xs++ys) (vs++us):=by
 refine⟨by simp[h.1,h'.1],fun j x v hx hv=>?_⟩
 by_cases hj:j<xs.length
 ·rw[g9a hj]at hx
  rw[h0u (by rw[←h.1];exact hj)]at hv
  exact h.2 j x v hx hv
 ·rw[g9c (by omega)]at hx
  rw[Array.getElem?_append_right (by rw[←h.1];omega),←h.1]at hv
  exact h'.2 _ x v hx hv
theorem d1T{c:Call}{ty:TypeId}(h:RelW E G s.heap s.arr w0 w)(ht:RelT E.P G s.arr s.tmps n a)(hK:c2f E s c K) :
  Out E G s.arr w0 K ((do let d ←resolve a.eval c ty;invoke d.target d.args:Sem Next).run E.P w):=by
 unfold c2f at hK
 split at hK
 ·rename_i hc
  split at hK
  case h_2=>exact hK.elim
  rename_i t x ht0 hargs
  obtain⟨u,z,g1,g2,g3⟩:=d3L (ty:=ty) h ht0 (RV.ev h ht x) hK
  have hm:c.args.map a.eval = #[a.eval x]:=by
   have:c.args = #[x]:=by apply Array.ext';simpa using hargs
   rw[this];simp
  simp only[resolve,hc,h0z,h0A,h0y,invoke,builtin,hm,g1]
  exact b2k.here h g2 g3
 ·rename_i hc
  split at hK
  case h_2=>exact hK.elim
  rename_i x y hargs
  have hx:=RV.ev h ht x
  have hy:=RV.ev h ht y
  have hm:c.args.map a.eval = #[a.eval x,a.eval y]:=by
   have:c.args = #[x,y]:=by apply Array.ext';simpa using hargs
   rw[this];simp
  generalize hvx:a.eval x=vx at hx hm
  generalize hvy:a.eval y=vy at hy hm
  unfold vMin at hK
  split at hK
  case h_2=>exact hK.elim
  rename_i k n1 k2 n2 h1 h2
  rw[h1]at hx
  rw[h2]at hy
  cases hx;cases hy
  simp only[resolve,hc,h0z,h0A,h0y,invoke,builtin,hm,Builtin.min_,Builtin.min2,List.foldlM]
  exact b2k.here h hK (.int _ _)
 ·rename_i hc
  split at hK
  case h_3=>exact hK.elim
  ·rename_i x y hargs
   have hx:=RV.ev h ht x
   have hy:=RV.ev h ht y
   have hm:c.args.map a.eval = #[a.eval x,a.eval y]:=by
    have:c.args = #[x,y]:=by apply Array.ext';simpa using hargs
    rw[this];simp
   generalize hvx:a.eval x=vx at hx hm
   generalize hvy:a.eval y=vy at hy hm
   unfold vMax at hK
   split at hK
   case h_2=>exact hK.elim
   rename_i k n1 k2 n2 h1 h2
   rw[h1]at hx
   rw[h2]at hy
   cases hx;cases hy
   simp only[resolve,hc,h0z,h0A,h0y,invoke,builtin,hm,Builtin.max_,Builtin.max2,List.foldlM]
   exact b2k.here h hK (.int _ _)
  ·rename_i x y z hargs
   have hx:=RV.ev h ht x
   have hy:=RV.ev h ht y
   have hz:=RV.ev h ht z
   have hm:c.args.map a.eval = #[a.eval x,a.eval y,a.eval z]:=by
    have:c.args = #[x,y,z]:=by apply Array.ext';simpa using hargs
    rw[this];simp
   generalize hvx:a.eval x=vx at hx hm
   generalize hvy:a.eval y=vy at hy hm
   generalize hvz:a.eval z=vz at hz hm
   unfold vMax3 at hK
   split at hK
   case h_2=>exact hK.elim
   rename_i k n1 k2 n2 k3 n3 h1 h2 h3
   rw[h1]at hx
   rw[h2]at hy
   rw[h3]at hz
   cases hx;cases hy;cases hz
   simp only[resolve,hc,h0z,h0A,h0y,invoke,builtin,hm,Builtin.max_,Builtin.max2,List.foldlM]
   exact b2k.here h hK (.int _ _)
 ·rename_i hc
  split at hK
  case h_2=>exact hK.elim
  rename_i t t' x y hat hargs
  have hm:c.args.map a.eval = #[a.eval x,a.eval y]:=by
   have:c.args = #[x,y]:=by apply Array.ext';simpa using hargs
   rw[this];simp
  have hm':c.argTypes = #[t,t']:=by apply Array.ext';simpa using hat
  unfold d9n at hK
  split at hK
  ·obtain⟨u,z,heap',arr',G',w',g1,g2,g3,g4,g5⟩:=c5j (t:=ty) h (RV.ev h ht x) (RV.ev h ht y) hK
   simp only[resolve,hc,h0z,h0A,h0y,invoke,builtin,hm,hm',g1]
   exact⟨z,_,_,G',g2,g3,g4,g5⟩
  ·obtain⟨u,z,arr',G',w',g1,g2,g3,g4,g5⟩:=c8C (t:=ty) h (RV.ev h ht x) (RV.ev h ht y) hK
   simp only[resolve,hc,h0z,h0A,h0y,invoke,builtin,hm,hm',g1]
   exact⟨z,_,_,G',g2,g3,g4,g5⟩
 ·rename_i hc
  split at hK
  case h_2=>exact hK.elim
  rename_i t t' x y hat hargs
  have hm:c.args.map a.eval = #[a.eval x,a.eval y]:=by
   have:c.args = #[x,y]:=by apply Array.ext';simpa using hargs
   rw[this];simp
  have hm':c.argTypes = #[t,t']:=by apply Array.ext';simpa using hat
  obtain⟨u,z,heap',w',g1,g2,g3,g4⟩:=d4L (t:=ty) h (RV.ev h ht x) (RV.ev h ht y) hK
  simp only[resolve,hc,h0z,h0A,h0y,invoke,builtin,hm,hm',g1]
  exact⟨z,_,_,G,g2,Ext.refl _ _,g3,g4⟩
 ·rename_i f hc
  split at hK
  case h_3=>exact hK.elim
  case h_1 =>
   rename_i fid caps hf
   obtain⟨h1,h2⟩:=hK
   have hv:=RV.ev h ht f
   rw[hf]at hv
   generalize hev:a.eval f=vf at hv
   cases hv with
   | func _ _ cs hl hr =>
    simp only[resolve,hc,hev,Deferred.ofValue,h0z,h0A,h0y,invoke,Array.empty_append,c1B h1]
    exact h2 G w0 w _ h ((b8H h ht c.args).append ⟨hl,hr⟩)
  case h_2 =>
   rename_i fid xs hf
   obtain⟨h1,h2⟩:=hK
   have hv:=RV.ev h ht f
   rw[hf]at hv
   generalize hev:a.eval f=vf at hv
   cases hv with
   | meth _ _ cs hl hr =>
    simp only[resolve,hc,hev,Deferred.ofValue,h0z,h0A,h0y,invoke,Array.append_empty,c1B h1]
    exact h2 G w0 w _ h (b8d.append ⟨hl,hr⟩ (b8H h ht c.args))
 ·exact hK.elim
theorem d2I{P:Program}{G:Gh}{arr:List Nat}{c:Array Value}{cs:List V}(h:f8A cs=true)(h2:c.size=cs.length)(h3:∀ (j:Nat) x,cs[j]? = some x→∃ v,c[j]? = some v∧RV P G arr x v) :
  ∃ p v,c = #[p,v]∧p = .pointer none∧v = .slice none 0 0:=by
 unfold f8A at h
 split at h
 ·rename_i e
  obtain⟨p,hp,hrp⟩:=h3 0 _ rfl
  obtain⟨v,hv,hrv⟩:=h3 1 _ rfl
  refine⟨p,v,?_,by cases hrp;rfl,?_⟩
  ·apply Array.ext_getElem?
   intro i
   match i with
   | 0=>simpa using hp
   | 1=>simpa using hv
   | i+2=>rw[h0x (by rw[h2];simp),h0x (by simp)]
  ·cases hrv with
   | snil=>rfl
   | slice _ _ _ _ _ _ ho=>exact ho.elim
 ·cases h
theorem d5b{E:Env}{G:Gh}{arr:List Nat}{w:World}{b:Nat}{t:TypeId}{c:Array Value}{cs:List V}(h0:d1Q E t cs)(h1:w.heap[b]? = some (.cells c t (0,0)))(h2:c.size=cs.length)
  (h3:∀ (j:Nat) x,cs[j]? = some x→∃ v,c[j]? = some v∧RV E.P G arr x v):c2r E.P G arr w b (d6X E t cs):=by
 unfold d6X
 split
 ·rename_i ht
  obtain⟨p,v,rfl,hp,hv⟩:=d2I (h0 ht) h2 h3
  exact⟨p,v,h1,.inl hp⟩
 ·exact⟨c,t,h1,h2,h3⟩
theorem d3S{E:Env}{G G':Gh}{arr:List Nat}{w:World}{b:Nat}{t:TypeId}{c:Array Value}{cs:List V}{bt:TypeId}{bs:ByteArray}(h0:d1Q E t cs)(hbs:d6X E t cs = .builder bt bs)(h1:w.heap[b]? = some (.cells c t (0,0)))
  (h2:c.size=cs.length) (h3:∀ (j:Nat) x v,cs[j]? = some x→c[j]? = some v→RV E.P G arr x v):Bld E G' w bt bs b:=by
 unfold d6X at hbs
 split at hbs
 ·rename_i ht
  cases hbs
  obtain⟨p,v,rfl,hp,hv⟩:=d2I (h0 ht) h2 (fun j x hj=>by
   have hl:j<c.size:=by rw[h2];exact(g8Y.1 hj).1
   exact⟨c[j],g9p hl,h3 j x _ hj (g9p hl)⟩)
  exact⟨p,v,h1,.inl ⟨hv,rfl⟩⟩
 ·cases hbs
theorem d2n{o:Oper}(h:RelW E G s.heap s.arr w0 w)(ht:RelT E.P G s.arr s.tmps n a)(hK:vop E s o.op K):Out E G s.arr w0 K ((execOp a.eval o).run E.P w):=by
 obtain⟨dst,op,ty,pos,after,guard⟩:=o
 have e:∀ x,RV E.P G s.arr (ev E s.tmps x) (a.eval x):=RV.ev h ht
 simp only at hK
 cases op <;> simp only[vop]at hK <;> try exact hK.elim
 case move x=>exact b2k.here h hK (e x)
 case assign x=>exact b2k.here h hK (e x)
 case pick c x y =>
  split at hK
  case h_2=>exact hK.elim
  rename_i t hc
  have hv:=e c
  rw[hc]at hv
  generalize hev:a.eval c=vc at hv
  cases hv
  simp only[execOp,hev,asBool,h0z,h0A,h0y]
  refine b2k.here h hK ?_
  cases t
  ·exact e y
  ·exact e x
 case alloc t =>
  obtain⟨⟨h1,h1'⟩,h2⟩:=hK
  obtain⟨i,z,hi,hz⟩:=b3R h1
  have hzl:=b6U (G:=G) (arr:=s.arr) (E:=E) hi hz
  have hrun:(execOp a.eval ⟨dst,.alloc t,ty,pos,after,guard⟩).run E.P w = .ok (.value (.pointer (some ⟨w.heap.size,0,none⟩))) (w.alloc (.cells z.cells t)):=by
   simp only[execOp,Instr.alloc,h0z,b1K hi hz,h0y,newVar,newRow,newObj,Sem.run,h0A]
   rfl
  rw[hrun]
  refine⟨_,_,_,_,h2,G.ext_newObj _ _,h.allocM _ _ (d5b h1' (by rw[b0Q,if_pos rfl]) hzl.1 fun j x hj=>?_) (fun bt bs hbs=>d3S (G':=G.newObj w.heap.size) h1' hbs (by rw[b0Q,if_pos rfl]) hzl.1 hzl.2) (by intro _ _ _ _ hh;unfold d6X at hh;split at hh <;> cases hh),.ptr _ _ _ ?_⟩
  ·have hl:j<z.cells.size:=by rw[hzl.1];exact(g8Y.1 hj).1
   exact⟨_,g9p hl,hzl.2 j x _ hj (g9p hl)⟩
  ·simp[Gh.newObj,h.lenφ]
 case box t x =>
  obtain⟨h1,h2⟩:=hK
  obtain⟨hl1,hr1⟩:=(e x).cellsV (V.some?_ne h1)
  have hrun:(execOp a.eval ⟨dst,.box t x,ty,pos,after,guard⟩).run E.P w = .ok (.value (.pointer (some ⟨w.heap.size,0,none⟩))) (w.alloc (.cells (a.eval x).cells t)):=by
   simp only[execOp,Instr.box,h0z,h0y,newVar,newRow,newObj,Sem.run,h0A]
   rfl
  rw[hrun]
  refine⟨_,_,_,_,h2,G.ext_newObj _ _,h.allocM _ _ ⟨(a.eval x).cells,t,by rw[b0Q,if_pos rfl],hl1.symm,fun j c hj=>?_⟩,.ptr _ _ _ ?_⟩
  ·have hl:j<(a.eval x).cells.size:=by rw[←hl1];exact(g8Y.1 hj).1
   exact⟨_,g9p hl,hr1 j c _ hj (g9p hl)⟩
  ·simp[Gh.newObj,h.lenφ]
 case build t parts =>
  obtain⟨hl,hp⟩:=c4x h ht parts
  obtain⟨u,y,g1,g2,g3⟩:=d2e (w:=w) hl hp hK
  simp only[execOp,h0z,g1,h0y,h0A]
  exact b2k.here h g2 g3
 case buildSlice t len parts =>
  obtain⟨hl,hp⟩:=c4x h ht parts
  obtain⟨u,y,G',w',g1,g2,g3,g4,g5⟩:=c0x h hl hp hK
  simp only[execOp,h0z,g1,h0y,h0A]
  exact⟨y,_,_,G',g2,g3,g4,g5⟩
 case load t x =>
  split at hK
  case h_2=>exact hK.elim
  rename_i cs hat
  obtain⟨u,y,g1,g2,g3⟩:=c6A h (e x) hat hK
  simp only[execOp,h0z,g1,h0y,h0A]
  exact b2k.here h g2 g3
 case store t x y =>
  obtain⟨w',heap',g1,g2,g3⟩:=d0W h (e x) (e y) hK
  simp only[execOp,h0z,g1,h0y,h0A]
  exact⟨heap',_,G,g2,Ext.refl _ _,g3⟩
 case nilCheck x =>
  have hv:=e x
  generalize hev:a.eval x=vx at hv
  generalize hxx:ev E s.tmps x=x' at hv hK
  split at hK
  ·cases hv with
   | ptr _ _ b hb =>
    simp only[execOp,hev,h0A]
    exact b2k.here h hK (.ptr _ _ _ hb)
  ·cases hv with
   | fptr _ b o' h1 h2 =>
    simp only[execOp,hev,h0A]
    exact b2k.here h hK (.fptr _ _ _ h1 h2)
  ·cases hv with
   | vptr _ _ _ _ b o hvv =>
    simp only[execOp,hev,h0A]
    exact b2k.here h hK (.vptr _ _ _ _ _ _ hvv)
  ·exact hK.elim
 case binOp op t x y yt =>
  unfold vBinC at hK
  split at hK
  ·rename_i hc
   obtain⟨u,z,g1,g2,g3⟩:=f0b (w:=w) (ox:=x) (oy:=y) (e x) hc hK
   have hy:a.eval y = .nilIface:=by
    unfold b8f at hc
    split at hc
    ·rfl
    ·cases hc
   simp only[execOp,h0z,hy]at g1 ⊢
   rw[g1]
   exact b2k.here h g2 g3
  ·obtain⟨u,z,g1,g2,g3⟩:=d8F (w:=w) (ox:=x) (oy:=y) (e x) (e y) hK
   simp only[execOp,h0z]at g1 ⊢
   rw[g1]
   exact b2k.here h g2 g3
 case makeInterface t x =>
  unfold vMkIface at hK
  split at hK
  ·exact hK.elim
  ·exact hK.elim
  ·rename_i h1 h2
   have hm:(Instr.makeInterface t (a.eval x)).run E.P w = .ok (.iface t (a.eval x)) w:=by
    cases hd:E.P.underlying t with
    | none=>exact absurd hd h2
    | some d =>
     cases d <;> first
      | exact absurd hd (h1 _)
      | simp only[Instr.makeInterface,h0z,b0y hd,h0y,h0A]
   simp only[execOp,h0z,hm,h0y,h0A]
   exact b2k.here h hK (.iface _ _ _ (e x))
 case panic x =>
  have hv:=e x
  generalize hev:a.eval x=vx at hv
  generalize hxx:ev E s.tmps x=x' at hv hK
  unfold d2x at hK
  split at hK
  ·obtain⟨t,v,rfl⟩:∃ t v,vx = .iface t v:=by cases hv;exact⟨_,_,rfl⟩
   have hp:(Instr.panic (.iface t v)).run E.P w = .halt (.panic (.iface t v)) w:=by
    simp[Instr.panic,goPanic,Sem.run]
   simp only[execOp,hev,h0z,hp]
   exact⟨⟨t,v,rfl⟩,_,_,G,hK,Ext.refl _ _,h⟩
  ·exact hK.elim
 case unOp op t x =>
  have hv:=e x
  generalize hev:a.eval x=vx at hv
  generalize hxx:ev E s.tmps x=x' at hv hK
  unfold vUn at hK
  split at hK
  ·cases hv
   simp only[execOp,hev,Op.unary,Op.intArith,h0z,h0A,h0y]
   exact b2k.here h hK (.int _ _)
  ·cases hv
   simp only[execOp,hev,Op.unary,h0z,h0A,h0y]
   exact b2k.here h hK (.bool _)
  ·exact hK.elim
 case convert src dst' x =>
  have hv:=e x
  generalize hev:a.eval x=vx at hv
  generalize hxx:ev E s.tmps x=x' at hv hK
  split at hK
  ·rename_i d k k' m hs hd
   cases hv
   have:(convert src dst' (.int k' m)).run E.P w = .ok (.int k (k.wrap m)) w:=by
    simp only[convert,h0z,b0y hs,b0y hd,h0y]
    cases d <;> rfl
   simp only[execOp,hev,h0z,this,h0y,h0A]
   exact b2k.here h hK (.int _ _)
  ·rename_i d b hs hd
   cases hv with
   | str _ hb =>
    have:(convert src dst' (.string b)).run E.P w = .ok (.string b) w:=by
     simp only[convert,h0z,b0y hs,b0y hd,h0y]
     cases d <;> rfl
    simp only[execOp,hev,h0z,this,h0y,h0A]
    exact b2k.here h hK (.str _ hb)
  ·rename_i e o e' es hs hd
   obtain⟨⟨h1,h2,h3⟩,hK⟩:=hK
   split at hK
   ·rename_i ns hn
    obtain⟨g1,g2⟩:=d0r h (d8q hv h1).2 h3 hn
    have:(convert src dst' vx).run E.P w = .ok (.string (b9e ns)) w:=by
     cases hv <;> simp only[convert,h0z,b0y hs,b0y hd,b0y h2,h0y,g1]
    simp only[execOp,hev,h0z,this,h0y,h0A]
    exact b2k.here h hK (.str _ g2)
   ·exact hK.elim
  ·rename_i e b hs hd
   obtain⟨⟨h1,h2,h3,h4⟩,hK⟩:=hK
   cases hv with
   | str _ hb =>
    obtain⟨v,w',G',g1,g2,g3,g4⟩:=d4q h hs hd h1 h2 h3 h4
    simp only[execOp,hev,h0z,g1,h0y,h0A]
    exact⟨_,_,_,_,hK,g2,g3,g4⟩
  ·exact hK.elim
 case makeFunc fn first caps =>
  split at hK
  ·rename_i f
   split at hK
   ·rename_i h1
    have hf:first = #[]:=by apply Array.ext';simpa using h1
    simp only[execOp,Instr.makeFunc,hf,h0z,h0A,h0y,List.map_toArray,g9P]
    obtain⟨g1,g2⟩:=b8H h ht caps
    exact b2k.here h hK (.func _ _ _ g1 g2)
   ·rename_i x r h1
    obtain⟨h2,h3⟩:=hK
    have hf:caps = #[]:=by apply Array.ext';simpa using h2
    have hff:first=(x::r).toArray:=by apply Array.ext';simpa using h1
    simp only[execOp,Instr.makeFunc,hf,h0z,h0A,h0y,List.map_toArray,g9P]
    have g:=b8H h ht first
    rw[h1]at g
    obtain⟨g1,g2⟩:=g
    exact b2k.here h h3 (.meth _ _ _ g1 g2)
  ·exact hK.elim
 case slice t x lo hi mx =>
  split at hK
  ·rename_i hts
   rw[g9g]at hts
   obtain⟨u,z,arr',G',g1,g2,g3,g4,g5⟩:=d4I (lo:=lo.map (ev E s.tmps)) (hi:=hi.map (ev E s.tmps)) (mx:=mx.map (ev E s.tmps)) (vlo:=lo.map a.eval) (vhi:=hi.map a.eval) (vmx:=mx.map a.eval) h (e x)
    (fun y hy=>by obtain⟨z,rfl,rfl⟩:=g9l.1 hy;exact⟨_,rfl,e z⟩) (fun hn=>by simpa using hn) (fun y hy=>by obtain⟨z,rfl,rfl⟩:=g9l.1 hy;exact⟨_,rfl,e z⟩) (fun hn=>by simpa using hn) (fun hn=>by simpa using hn) hts.2 hK
   simp only[execOp,h0z,g1,h0y,h0A]
   exact⟨z,_,_,G',g2,g3,g4,g5⟩
  obtain⟨u,z,g1,g2,g3⟩:=d2B (lo:=lo.map (ev E s.tmps)) (hi:=hi.map (ev E s.tmps)) (mx:=mx.map (ev E s.tmps)) (vlo:=lo.map a.eval) (vhi:=hi.map a.eval) (vmx:=mx.map a.eval) h (e x)
   (fun y hy=>by obtain⟨z,rfl,rfl⟩:=g9l.1 hy;exact⟨_,rfl,e z⟩) (fun hn=>by simpa using hn)
   (fun y hy=>by obtain⟨z,rfl,rfl⟩:=g9l.1 hy;exact⟨_,rfl,e z⟩) (fun hn=>by simpa using hn) (fun hn=>by simpa using hn) hK
  simp only[execOp,h0z,g1,h0y,h0A]
  exact b2k.here h g2 g3
 case fieldAddr t x f =>
  obtain⟨u,z,g1,g2,g3⟩:=c2G h (e x) hK
  simp only[execOp,h0z,g1,h0y,h0A]
  exact b2k.here h g2 g3
 case field t x f =>
  have hv:=e x
  generalize hev:a.eval x=vx at hv
  generalize hxx:ev E s.tmps x=x' at hv hK
  split at hK
  ·rename_i fs cs hd
   split at hK
   ·rename_i fd hf
    cases hv with
    | agg _ vs hl hr =>
     obtain⟨u,z,g1,g2,g3⟩:=c6t (w:=w) (⟨hl.symm,hr⟩:RL E.P G s.arr cs vs) hK
     simp only[execOp,hev,Instr.field,h0z,b0y hd,h0y,hf,asAgg,h0A,g1]
     exact b2k.here h g2 g3
   ·exact hK.elim
  ·exact hK.elim
 case indexAddr t x ix =>
  obtain⟨u,z,g1,g2,g3⟩:=c2Q h (e x) (e ix) hK
  simp only[execOp,h0z,g1,h0y,h0A]
  exact b2k.here h g2 g3
 case index t x ix =>
  obtain⟨u,z,g1,g2,g3⟩:=d0m h (e x) (e ix) hK
  simp only[execOp,h0z,g1,h0y,h0A]
  exact b2k.here h g2 g3
 case extract x ix =>
  have hv:=e x
  generalize hev:a.eval x=vx at hv
  generalize hxx:ev E s.tmps x=x' at hv hK
  split at hK
  ·rename_i vs
   split at hK
   ·rename_i y hy
    cases hv with
    | tuple _ us hl hr =>
     have hlt:ix<us.size:=by rw[←hl];exact(g8Y.1 hy).1
     simp only[execOp,hev,Instr.extract,g9p hlt,h0z,h0A,h0y]
     exact b2k.here h hK (hr ix y _ hy (g9p hlt))
   ·exact hK.elim
  ·exact hK.elim
 case lookup t m k ok =>
  obtain⟨u,z,g1,g2,g3⟩:=d2m h (e m) (e k) hK
  simp only[execOp,h0z,g1,h0y,h0A]
  exact b2k.here h g2 g3
 case mapUpdate t m k v =>
  obtain⟨w',heap',g1,g2,g3⟩:=b9a h (e m) (e k) (e v) hK
  simp only[execOp,h0z,g1,h0y,h0A]
  exact⟨heap',_,G,g2,Ext.refl _ _,g3⟩
 case insert t m k v =>
  obtain⟨w',heap',g1,g2,g3⟩:=b9a h (e m) (e k) (e v) hK
  simp only[execOp,h0z,g1,h0y,h0A]
  exact⟨heap',_,G,g2,Ext.refl _ _,g3⟩
 case makeMap t r =>
  obtain⟨rfl,hk⟩:=hK
  obtain⟨g1,g2,g3⟩:=c4G h (t:=t)
  simp only[execOp,h0z,h0m,g1,h0y,h0A]
  exact⟨_,_,_,_,hk,G.ext_newObj _ _,g2,g3⟩
 case makeSlice t l c =>
  obtain⟨u,y,heap',G',w',g1,g2,g3,g4,g5⟩:=c2c h (e l) (e c) hK
  simp only[execOp,h0z,g1,h0y,h0A]
  exact⟨_,_,_,_,g2,g3,g4,g5⟩
 case range t x =>
  obtain⟨u,y,heap',G',w',g1,g2,g3,g4,g5⟩:=c9x h (e x) hK
  simp only[execOp,h0z,g1,h0y,h0A]
  exact⟨_,_,_,_,g2,g3,g4,g5⟩
 case next x str =>
  obtain⟨rfl,hk⟩:=hK
  obtain⟨u,y,heap',w',g1,g2,g3,g4⟩:=d5B (ty:=ty) h (e x) hk
  simp only[execOp,h0z,g1,h0y,h0A]
  exact⟨_,_,_,_,g2,Ext.refl _ _,g3,g4⟩
 case call c=>exact d1T h ht hK
theorem Out.wp{o:Oper}{next:Act→World→Prop}{Q:Exit→Act→World→Prop}(h:Out E G s.arr w0 K ((execOp a.eval o).run E.P w))
  (hd:∀ ch w',d6p E G s.arr w0 ch w'→Q (.panic ch) a w')
  (hn:∀ v val heap' arr' G' w',K v heap' arr'→Ext G s.arr G' arr'→RelW E G' heap' arr' w0 w'→RV E.P G' arr' v val→next (a.put o.dst val) w'):o.wp E.P a w next Q:=by
 unfold Oper.wp
 generalize(execOp a.eval o).run E.P w=r at h
 cases r with
 | halt x w' =>
  cases x <;> try exact h.elim
  case panic v=>exact hd _ _ h
 | ok nx w' =>
  cases nx <;> try exact h.elim
  case value val =>
   obtain⟨v,heap',arr',G',g1,g2,g3,g4⟩:=h
   exact hn v val heap' arr' G' w' g1 g2 g3 g4
  case skip =>
   obtain⟨heap',arr',G',g1,g2,g3⟩:=h
   exact hn .junk undef heap' arr' G' w' g1 g2 g3 (.junk _)
  case enter f args =>
   refine Calls.mono h fun e w'' he=>?_
   rcases he with⟨val,rfl,v,heap',arr',G',g1,g2,g3,g4⟩ | ⟨ch,rfl,hh⟩
   ·exact hn v val heap' arr' G' w'' g1 g2 g3 g4
   ·exact hd _ _ hh
end
end Go.Vg
