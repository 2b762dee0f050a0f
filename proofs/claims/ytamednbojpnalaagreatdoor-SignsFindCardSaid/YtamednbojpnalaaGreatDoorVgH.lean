/- The machine's operations do what vop says. -/
import Derived.Test.YtamednbojpnalaaGreatDoorVgG
set_option linter.unusedVariables false
set_option linter.unusedSimpArgs false
namespace Go.Vg
open Go.RowKit
section
variable {E : Env} {G : Gh} {heap : List VObj} {arr : List Nat} {w0 : Base} {w : World}
theorem fieldAddr_out(h:RelW E G heap arr w0 w){s:TypeId}{x:V}{v:Value}{f:Nat}{K:V→Prop}(hx:RV E.P G arr x v)(hK:vFieldAddr E s x f K) :
  ∃ u z,(Instr.fieldAt s v f).run E.P w = .ok u w∧K z∧RV E.P G arr z u:=by
 unfold vFieldAddr at hK
 split at hK
 case h_2=>exact hK.elim
 rename_i fs hd
 split at hK
 case h_2=>exact hK.elim
 rename_i fd hf
 obtain⟨⟨h1,h2⟩,hk⟩:=hK
 obtain⟨i,hi⟩:=Option.isSome_iff_exists.1 h1
 split at hk
 ·cases hx with
  | fptr cs b o hdd hr =>
   refine⟨.pointer (some ⟨b,o+fd.offset,none⟩),_,?_,hk,.fptr _ _ _ (fun j hj=>?_) fun j c u hc hu=>?_⟩
   ·simp only[Instr.fieldAt,Sem.run_bind,run_und hd,Result.andThen_ok,hf,Instr.sureAddr,Sem.run_pure,fieldPlace,run_sizeOf hi,if_neg h2,Addr.add_mk]
   ·obtain⟨u,hu⟩:=hdd (fd.offset+j) (by simp at hj;omega)
    exact⟨u,by rw[←hu];congr 1;omega⟩
   ·rw[List.getElem?_drop]at hc
    exact hr _ c u hc (by rw[←hu];congr 1;omega)
 ·rename_i id off
  cases hx with
  | ptr _ _ b hb =>
   refine⟨.pointer (some ⟨b,off+fd.offset,none⟩),_,?_,hk,.ptr _ _ _ hb⟩
   simp only[Instr.fieldAt,Sem.run_bind,run_und hd,Result.andThen_ok,hf,Instr.sureAddr,Sem.run_pure,fieldPlace,run_sizeOf hi,if_neg h2,Addr.add_mk]
 ·rename_i id k gen off
  cases hx with
  | vptr _ _ _ _ b o hv =>
   refine⟨.pointer (some ⟨b,o+fd.offset,none⟩),_,?_,hk,.vptr _ _ _ _ _ _ ?_⟩
   ·simp only[Instr.fieldAt,Sem.run_bind,run_und hd,Result.andThen_ok,hf,Instr.sureAddr,Sem.run_pure,fieldPlace,run_sizeOf hi,if_neg h2,Addr.add_mk]
   ·obtain⟨n,g1,g2,g3⟩:=hv
    refine⟨n,g1,g2,fun e=>?_⟩
    obtain⟨b',hi',g4,g5,g6⟩:=g3 e
    exact⟨b',hi',g4,g5,by rw[g6]⟩
 ·exact hk.elim
theorem indexAddr_out(h:RelW E G heap arr w0 w){t:TypeId}{x ix:V}{v vi:Value}{K:V→Prop}(hx:RV E.P G arr x v)(hi':RV E.P G arr ix vi)(hK:vIndexAddr E t x ix K) :
  ∃ u z,(Instr.indexAt t v vi).run E.P w = .ok u w∧K z∧RV E.P G arr z u:=by
 unfold vIndexAddr at hK
 split at hK
 ·rename_i e o e' es k i hd
  obtain⟨⟨rfl,h1,h2,h3⟩,hk⟩:=hK
  obtain⟨ie,hie⟩:=Option.isSome_iff_exists.1 h1
  have hlt:i.toNat<es.length:=by omega
  cases hi'
  cases hx with
  | snil _ _ _=>simp at hlt
  | sodd _ _ _=>simp at hlt
  | slice _ _ _ b off cap ho g1 g2 g3 g4 g5 g6 =>
   refine⟨.pointer (some ⟨b,off+i.toNat * E.P.cellsOf e',none⟩),_,?_,hk,.fptr _ _ _ (fun j hj=>?_) fun j c u hc hu=>?_⟩
   ·simp only[Instr.indexAt,Sem.run_bind,asIntOf,Sem.run_pure,Result.andThen_ok,run_und hd]
    rw[if_pos ⟨h2,by omega⟩]
    simp only[Sem.run_bind,run_sizeOf hie,Result.andThen_ok,Sem.run_pure,Addr.add_mk]
   ·have hel:es[i.toNat]? = some (es.getD i.toNat []):=by simp[List.getD_eq_getElem?_getD,hlt]
    obtain⟨u,hu⟩:=g5 _ _ j hel hj
    exact⟨u,by rw[←hu];congr 1;omega⟩
   ·have hel:es[i.toNat]? = some (es.getD i.toNat []):=by simp[List.getD_eq_getElem?_getD,hlt]
    exact g6 _ _ j c u hel hc (by rw[←hu];congr 1;omega)
 ·rename_i e id off len cap e' k i hd
  obtain⟨⟨rfl,h1,h2,h3⟩,hk⟩:=hK
  obtain⟨ie,hie⟩:=Option.isSome_iff_exists.1 h1
  cases hi'
  cases hx with
  | mslice _ _ _ _ _ b hb g1 g2 =>
   refine⟨.pointer (some ⟨b,off+i.toNat * E.P.cellsOf e',none⟩),_,?_,hk,.ptr _ _ _ hb⟩
   simp only[Instr.indexAt,Sem.run_bind,asIntOf,Sem.run_pure,Result.andThen_ok,run_und hd]
   rw[if_pos ⟨h2,by omega⟩]
   simp only[Sem.run_bind,run_sizeOf hie,Result.andThen_ok,Sem.run_pure,Addr.add_mk]
 ·rename_i e id k' gen len e' k i hd
  obtain⟨⟨rfl,h1,h2,h3⟩,hk⟩:=hK
  obtain⟨ie,hie⟩:=Option.isSome_iff_exists.1 h1
  cases hi'
  cases hx with
  | vec _ _ _ _ _ b o cap hv g1 g2 =>
   refine⟨.pointer (some ⟨b,o+i.toNat * E.P.cellsOf e',none⟩),_,?_,hk,.vptr _ _ _ _ _ _ ?_⟩
   ·simp only[Instr.indexAt,Sem.run_bind,asIntOf,Sem.run_pure,Result.andThen_ok,run_und hd]
    rw[if_pos ⟨h2,by omega⟩]
    simp only[Sem.run_bind,run_sizeOf hie,Result.andThen_ok,Sem.run_pure,Addr.add_mk]
   ·obtain⟨n,q1,q2,q3⟩:=hv
    refine⟨n,q1,q2,fun e=>?_⟩
    obtain⟨b',hi',q4,q5,q6,q7,q8⟩:=q3 e
    exact⟨b',hi',q4,q7,by rw[q8,Nat.zero_add]⟩
 ·rename_i n e cs k i hd
  obtain⟨⟨h1,h2,h3⟩,hk⟩:=hK
  obtain⟨ie,hie⟩:=Option.isSome_iff_exists.1 h1
  cases hi'
  cases hx with
  | fptr _ b o hdd hr =>
   refine⟨.pointer (some ⟨b,o+i.toNat * E.P.cellsOf e,none⟩),_,?_,hk,.fptr _ _ _ (fun j hj=>?_) fun j c u hc hu=>?_⟩
   ·simp only[Instr.indexAt,Sem.run_bind,asIntOf,Sem.run_pure,Result.andThen_ok,run_und hd,Instr.sureAddr]
    rw[if_pos ⟨h2,by omega⟩]
    simp only[Sem.run_bind,run_sizeOf hie,Result.andThen_ok,Sem.run_pure,Addr.add_mk]
   ·obtain⟨u,hu⟩:=hdd (i.toNat * E.P.cellsOf e+j) (by simp at hj;omega)
    exact⟨u,by rw[←hu];congr 1;omega⟩
   ·rw[List.getElem?_drop]at hc
    exact hr _ c u hc (by rw[←hu];congr 1;omega)
 ·rename_i n e id off k i hd
  obtain⟨⟨h1,h2,h3⟩,hk⟩:=hK
  obtain⟨ie,hie⟩:=Option.isSome_iff_exists.1 h1
  cases hi'
  cases hx with
  | ptr _ _ b hb =>
   refine⟨.pointer (some ⟨b,off+i.toNat * E.P.cellsOf e,none⟩),_,?_,hk,.ptr _ _ _ hb⟩
   simp only[Instr.indexAt,Sem.run_bind,asIntOf,Sem.run_pure,Result.andThen_ok,run_und hd,Instr.sureAddr]
   rw[if_pos ⟨h2,by omega⟩]
   simp only[Sem.run_bind,run_sizeOf hie,Result.andThen_ok,Sem.run_pure,Addr.add_mk]
 ·exact hK.elim
theorem index_out(h:RelW E G heap arr w0 w){t:TypeId}{x ix:V}{v vi:Value}{K:V→Prop}(hx:RV E.P G arr x v)(hi':RV E.P G arr ix vi)(hK:vIndex E t x ix K) :
  ∃ u z,(Instr.index t v vi).run E.P w = .ok u w∧K z∧RV E.P G arr z u:=by
 unfold vIndex at hK
 split at hK
 ·rename_i s k i hd
  obtain⟨⟨h1,h2⟩,hk⟩:=hK
  cases hi';cases hx
  have hlt:i.toNat<s.size:=by omega
  have hget:s[i.toNat]? = some s[i.toNat]:=by simp[hlt]
  refine⟨.int .u8 (byteAt s i),_,?_,hk,.int _ _⟩
  simp only[Instr.index,Sem.run_bind,asIntOf,Sem.run_pure,Result.andThen_ok,run_und hd,if_pos h1,hget,byteAt]
 ·rename_i n e cs k i hd
  obtain⟨⟨h0,h1,h2⟩,hk⟩:=hK
  obtain⟨ie,hie⟩:=Option.isSome_iff_exists.1 h0
  cases hi'
  cases hx with
  | agg _ vs hl hr =>
   obtain⟨u,z,g1,g2,g3⟩:=part_out (w:=w) (⟨hl.symm,hr⟩:RL E.P G arr cs vs) hk
   refine⟨u,z,?_,g2,g3⟩
   simp only[Instr.index,Sem.run_bind,asIntOf,Sem.run_pure,Result.andThen_ok,run_und hd]
   rw[if_pos ⟨h1,by omega⟩]
   simp only[Sem.run_bind,run_sizeOf hie,Result.andThen_ok,g1]
 ·exact hK.elim
theorem len_out(h:RelW E G heap arr w0 w){ts:Array TypeId}{t ty:TypeId}{x:V}{v:Value}{K:V→Prop}(h0:ts[0]? = some t)(hx:RV E.P G arr x v)(hK:vLen E t x K) :
  ∃ u z,(Builtin.len_ ts ty #[v]).run E.P w = .ok u w∧K z∧RV E.P G arr z u:=by
 unfold vLen at hK
 split at hK
 ·rename_i s hd
  cases hx with
  | str _ hs=>exact⟨_,_,by simp[Builtin.len_,h0,run_und hd,goInt],hK hs,.int _ _⟩
 ·rename_i e o e' es hd
  cases hx with
  | snil _ _ _=>exact⟨_,_,by simp[Builtin.len_,h0,run_und hd,goInt],hK (by simp) (by simp),.int _ _⟩
  | sodd _ _ _=>exact⟨_,_,by simp[Builtin.len_,h0,run_und hd,goInt],hK (by simp) (by simp),.int _ _⟩
  | slice _ _ _ b off cap ho g1 g2 g3 g4 g5 g6=>exact⟨_,_,by simp[Builtin.len_,h0,run_und hd,goInt],hK g2 g3,.int _ _⟩
 ·rename_i e id off len cap e' hd
  cases hx with
  | mslice _ _ _ _ _ b hb g1 g2=>exact⟨_,_,by simp[Builtin.len_,h0,run_und hd,goInt],hK g1,.int _ _⟩
 ·rename_i e id k gen len e' hd
  cases hx with
  | vec _ _ _ _ _ b o cap hv g1 g2=>exact⟨_,_,by simp[Builtin.len_,h0,run_und hd,goInt],hK g1,.int _ _⟩
 ·exact hK.elim
theorem lenM_out(h:RelW E G heap arr w0 w){ts:Array TypeId}{t ty:TypeId}{x:V}{v:Value}{K:V→Prop}(h0:ts[0]? = some t)(hx:RV E.P G arr x v)(hK:vLenM E heap t x K) :
  ∃ u z,(Builtin.len_ ts ty #[v]).run E.P w = .ok u w∧K z∧RV E.P G arr z u:=by
 unfold vLenM at hK
 split at hK
 ·rename_i id
  split at hK
  case h_2=>exact hK.elim
  rename_i kt vt es hd ho
  cases hx with
  | map _ b hb =>
   obtain⟨b',hb',m,clk,hm,hsz,_⟩:=h.obj id _ ho
   rw[hb]at hb'
   cases hb'
   have hg:=MapKept.run_getObj_map (P:=E.P) hm
   exact⟨.int .i64 m.size,_,by simp[Builtin.len_,h0,run_und hd,goInt,hg],hK,by rw[←hsz];exact .int _ _⟩
 ·exact len_out h h0 hx hK
def bnd(v:Option Value)(d y:Nat)(code:BoundsCode):Sem Nat :=
 match v with
 | some v=>Instr.sliceBound v y code
 | none=>pure d
theorem bound_run{lo:Option V}{vlo:Option Value}{d y:Nat}{l:Int}{code:BoundsCode}(hl:∀ x,lo=some x→∃ v,vlo=some v∧RV E.P G arr x v)(hn:lo=none→vlo=none)
  (hb:vBound d lo=some l) (h0:0≤l) (hy:lo≠none→l≤y):(bnd vlo d y code).run E.P w = .ok l.toNat w:=by
 cases lo with
 | none =>
  have:=hn rfl
  subst this
  simp only[vBound,Option.some.injEq]at hb
  subst hb
  simp[bnd]
 | some x =>
  obtain⟨v,rfl,hv⟩:=hl x rfl
  cases x <;> simp only[vBound]at hb <;> try cases hb
  cases hv
  simp only[bnd,Instr.sliceBound,Sem.run_bind,asIntOf,Sem.run_pure,Result.andThen_ok]
  rw[if_pos ⟨h0,hy (by simp)⟩]
  rfl
theorem bounds_run{P:Program}{b:Bool}{len cap l h:Nat}{vlo vhi:Option Value}(r1:(bnd vhi len cap (if b then .sliceAcap else .sliceAlen)).run P w = .ok h w)
  (r2:(bnd vlo 0 h .sliceB).run P w = .ok l w):(Instr.sliceBounds b len cap vlo vhi none).run P w = .ok (l,h,cap) w:=by
 unfold Instr.sliceBounds
 cases vlo <;> cases vhi <;> simp only[bnd,Sem.run_pure,Result.ok.injEq,and_true]at r1 r2 <;>
  simp only[Sem.run_bind,Sem.run_pure,Result.andThen_ok,Option.isSome_none,Bool.false_eq_true,if_false] <;>
  (try subst r1) <;> (try subst r2) <;> (try rw[r1]) <;> (try simp only[Result.andThen_ok]) <;> (try rw[r2]) <;> rfl
theorem slice_out(h:RelW E G heap arr w0 w){t:TypeId}{x:V}{v:Value}{lo hi mx:Option V}{vlo vhi vmx:Option Value}{K:V→Prop}(hx:RV E.P G arr x v)
  (hlo:∀ x,lo=some x→∃ v,vlo=some v∧RV E.P G arr x v) (nlo:lo=none→vlo=none) (hhi:∀ x,hi=some x→∃ v,vhi=some v∧RV E.P G arr x v) (nhi:hi=none→vhi=none)
  (nmx:mx=none→vmx=none) (hK:vSlice E t x lo hi mx K):∃ u z,(Instr.sliceAt t v vlo vhi vmx).run E.P w = .ok u w∧K z∧RV E.P G arr z u:=by
 unfold vSlice at hK
 split at hK
 ·rename_i s hd
  split at hK
  case h_2=>exact hK.elim
  rename_i l hh hbl hbh
  obtain⟨⟨h1,h2,h3⟩,hk⟩:=hK
  rw[nmx rfl]
  cases hx with
  | str _ hs =>
   have r1:=bound_run (w:=w) (y:=s.size) (code := .sliceAlen) hhi nhi hbh (by omega) (fun _=>by omega)
   have r2:=bound_run (w:=w) (y:=hh.toNat) (code := .sliceB) hlo nlo hbl (by omega) (fun _=>by omega)
   have hsb:(Instr.sliceBounds false s.size s.size vlo vhi none).run E.P w = .ok (l.toNat,hh.toNat,s.size) w:=bounds_run r1 r2
   refine⟨.string (s.extract l.toNat hh.toNat),_,?_,hk,.str _ (by simp[ByteArray.size_extract];omega)⟩
   simp only[Instr.sliceAt,Sem.run_bind,run_und hd,Result.andThen_ok,Instr.slice,Option.isSome_none,Bool.false_eq_true,if_false,Sem.run_pure,hsb]
 ·rename_i e o e' es hd
  split at hK
  case h_2=>exact hK.elim
  rename_i l hh hbl hbh
  obtain⟨⟨he,h0,h1,h2,h3⟩,hk⟩:=hK
  obtain⟨ie,hie⟩:=Option.isSome_iff_exists.1 h0
  rw[nmx rfl]
  have hx:=(elen hx he).2
  have key:∀ (a:Option Addr) (cap:Nat),v = .slice a es.length cap→es.length≤cap →
    (Instr.sliceAt t v vlo vhi none).run E.P w = .ok (.slice (if cap=l.toNat then a else a.map (·.add (l.toNat * E.P.cellsOf e))) (hh.toNat - l.toNat) (cap - l.toNat)) w:=by
   rintro a cap rfl hcap
   have r1:=bound_run (w:=w) (y:=cap) (code := .sliceAcap) hhi nhi hbh (by omega) (fun _=>by omega)
   have r2:=bound_run (w:=w) (y:=hh.toNat) (code := .sliceB) hlo nlo hbl (by omega) (fun _=>by omega)
   have hsb:(Instr.sliceBounds true es.length cap vlo vhi none).run E.P w = .ok (l.toNat,hh.toNat,cap) w:=bounds_run r1 r2
   simp only[Instr.sliceAt,Sem.run_bind,run_und hd,Result.andThen_ok,Instr.slice,hsb,run_sizeOf hie,Sem.run_pure]
  cases hx with
  | snil _ _ ho =>
   simp only[List.length_nil]at h3
   have hl0:l=0:=by omega
   have hh0:hh=0:=by omega
   subst hl0 hh0
   refine⟨_,_,key none 0 rfl (Nat.le_refl _),hk,RV.sl (o := .shared) ?_⟩
   exact .snil _ _ trivial
  | sodd _ a c =>
   simp only[List.length_nil]at h3
   have hl0:l=0:=by omega
   have hh0:hh=0:=by omega
   subst hl0 hh0
   refine⟨_,_,key a c rfl (Nat.zero_le _),hk,RV.sl (o := .shared) ?_⟩
   exact .sodd _ _ _
  | slice _ _ _ b off cap ho g1 g2 g3 g4 g5 g6 =>
   refine⟨_,_,key _ cap rfl g4,hk,RV.sl (o := .shared) ?_⟩
   have hlen:((es.take hh.toNat).drop l.toNat).length=hh.toNat - l.toNat:=by simp;omega
   by_cases hc:cap=l.toNat
   ·rw[if_pos hc]
    have h00:(es.take hh.toNat).drop l.toNat=[]:=List.eq_nil_of_length_eq_zero (by rw[hlen];omega)
    rw[h00,show hh.toNat - l.toNat=([]:List (List V)).length by simp;omega]
    exact .slice _ _ _ _ _ _ trivial (by simp) (by simp) (by simp) (by simp) (by simp) (by simp)
   ·rw[if_neg hc]
    simp only[Option.map_some,Addr.add_mk]
    rw[←hlen]
    have hel:∀ (i:Nat) el,((es.take hh.toNat).drop l.toNat)[i]? = some el→es[l.toNat+i]? = some el:=by
     intro i el hi
     rw[List.getElem?_drop,List.getElem?_take]at hi
     split at hi
     ·exact hi
     ·cases hi
    refine .slice _ _ _ _ _ _ trivial (fun i el hi=>g1 _ el (hel i el hi)) ?_ (by omega) (by omega) (fun i el j hi hj=>?_) fun i el j c u hi hj hu=>?_
    ·refine Nat.le_trans (Nat.mul_le_mul_right _ ?_) g2
     omega
    ·obtain⟨u,hu⟩:=g5 _ el j (hel i el hi) hj
     exact⟨u,by rw[←hu,Nat.add_mul];congr 1;omega⟩
    ·exact g6 _ el j c u (hel i el hi) hj (by rw[←hu,Nat.add_mul];congr 1;omega)
 ·exact hK.elim
theorem tailS_spec{x:V}{lo hi mx:Option V}(h:tailS x lo hi mx=true):(hi=none∧mx=none∧∃ o e el es k l,x = .slice o e (el::es)∧lo=some (.int k l))∨(lo=none∧mx=none∧∃ id k gen len e kd l,x = .vec id k gen len e∧hi=some (.int kd l)):=by
 unfold tailS at h
 split at h
 ·exact .inl ⟨rfl,rfl,_,_,_,_,_,_,rfl,rfl⟩
 ·exact .inl ⟨rfl,rfl,_,_,_,_,_,_,rfl,rfl⟩
 ·exact .inr ⟨rfl,rfl,_,_,_,_,_,_,_,rfl,rfl⟩
 ·cases h
theorem tail_out1(h:RelW E G heap arr w0 w){t:TypeId}{x:V}{v:Value}{lo hi mx:Option V}{vlo vhi vmx:Option Value}{K:V→List Nat→Prop}(hx:RV E.P G arr x v)
  (hlo:∀ x,lo=some x→∃ v,vlo=some v∧RV E.P G arr x v) (nhi:hi=none→vhi=none) (nmx:mx=none→vmx=none) (ht:hi=none∧mx=none∧∃ o e el es k l,x = .slice o e (el::es)∧lo=some (.int k l)) (hK:vTail E arr t x lo hi K) :
  ∃ u z arr' G',(Instr.sliceAt t v vlo vhi vmx).run E.P w = .ok u w∧K z arr'∧Ext G arr G' arr'∧RelW E G' heap arr' w0 w∧RV E.P G' arr' z u:=by
 obtain⟨rfl,rfl,o,e',el0,es0,kd,l,rfl,rfl⟩:=ht
 rw[nhi rfl,nmx rfl]
 obtain⟨es,hes⟩:∃ es,es=el0::es0:=⟨_,rfl⟩
 have hne:es≠[]:=by rw[hes];simp
 rw[←hes]at hx hK
 clear hes
 have main:∀ (e:TypeId),E.P.underlying t=some (.slice e)→e'=e→infoOK E.P e=true→0≤l→l≤es.length→∃ b off cap off',OwnOK G arr o b off es.length cap (E.P.cellsOf e')∧es.length≤cap ∧
   (Instr.sliceAt t v vlo none none).run E.P w = .ok (.slice (some ⟨b,off',none⟩) (es.drop l.toNat).length (cap - l.toNat)) w ∧
   ((cap=l.toNat∧off'=off)∨(cap≠l.toNat∧off'=off+l.toNat * E.P.cellsOf e')) ∧
   ∀ (G':Gh) (arr':List Nat) (o':Own),Ext G arr G' arr'→OwnOK G' arr' o' b off' (es.drop l.toNat).length (cap - l.toNat) (E.P.cellsOf e')→RV E.P G' arr' (.slice o' e' (es.drop l.toNat)) (.slice (some ⟨b,off',none⟩) (es.drop l.toNat).length (cap - l.toNat)):=by
  intro e hd he h0 h1 h2
  subst he
  obtain⟨ie,hie⟩:=Option.isSome_iff_exists.1 h0
  cases hx with
  | snil=>exact absurd rfl hne
  | sodd=>exact absurd rfl hne
  | slice _ _ _ b off cap ho g1 g2 g3 g4 g5 g6 =>
   have r1:(bnd none es.length cap .sliceAcap).run E.P w = .ok es.length w:=by simp[bnd]
   have r2:=bound_run (w:=w) (d:=0) (y:=es.length) (code := .sliceB) hlo (fun h=>by cases h) (l:=l) rfl h1 (fun _=>by omega)
   have hsb:(Instr.sliceBounds true es.length cap vlo none none).run E.P w = .ok (l.toNat,es.length,cap) w:=bounds_run r1 r2
   have hdl:(es.drop l.toNat).length=es.length - l.toNat:=List.length_drop
   have hrun:(Instr.sliceAt t (.slice (some ⟨b,off,none⟩) es.length cap) vlo none none).run E.P w = .ok (.slice (if cap=l.toNat then some ⟨b,off,none⟩else(some (⟨b,off,none⟩:Addr)).map (·.add (l.toNat * E.P.cellsOf e'))) (es.length - l.toNat) (cap - l.toNat)) w:=by
    simp only[Instr.sliceAt,Sem.run_bind,run_und hd,Result.andThen_ok,Instr.slice,hsb,run_sizeOf hie,Sem.run_pure]
   by_cases hc:cap=l.toNat
   ·rw[if_pos hc,←hdl]at hrun
    have h00:es.drop l.toNat=[]:=List.eq_nil_of_length_eq_zero (by rw[hdl];omega)
    refine⟨b,off,cap,off,ho,g4,hrun,.inl ⟨hc,rfl⟩,fun G' arr' o' hx' ho'=>?_⟩
    rw[h00]at ho' ⊢
    exact .slice _ _ _ _ _ _ ho' (by simp) (by simp) (by simp) (by simp) (by simp) (by simp)
   ·rw[if_neg hc,←hdl]at hrun
    simp only[Option.map_some,Addr.add_mk]at hrun
    refine⟨b,off,cap,_,ho,g4,hrun,.inr ⟨hc,rfl⟩,fun G' arr' o' hx' ho'=>?_⟩
    have hel:∀ (i:Nat) el,(es.drop l.toNat)[i]? = some el→es[l.toNat+i]? = some el:=by
     intro i el hi
     rw[List.getElem?_drop]at hi
     exact hi
    refine .slice _ _ _ _ _ _ ho' (fun i el hi=>g1 _ el (hel i el hi)) ?_ (by omega) (by omega) (fun i el j hi hj=>?_) fun i el j c u hi hj hu=>?_
    ·refine Nat.le_trans (Nat.mul_le_mul_right _ ?_) g2
     omega
    ·obtain⟨u,hu⟩:=g5 _ el j (hel i el hi) hj
     exact⟨u,by rw[←hx'.F _ _ _ hu,Nat.add_mul];congr 1;omega⟩
    ·obtain⟨u',hu'⟩:=g5 _ el j (hel i el hi) (List.getElem?_eq_some_iff.1 hj).1
     have e3:off+l.toNat * E.P.cellsOf e'+(i * E.P.cellsOf e'+j)=off+((l.toNat+i) * E.P.cellsOf e'+j):=by rw[Nat.add_mul];omega
     rw[e3,hx'.F _ _ _ hu']at hu
     cases hu
     exact(g6 _ el j c _ (hel i el hi) hj hu').mono hx'
 unfold vTail at hK
 split at hK
 ·rename_i e k e1 es1 kd1 l1 hd hxe hle
  cases hxe;cases hle
  obtain⟨⟨h1,h2,h3,h4,h5⟩,hk⟩:=hK
  obtain⟨b,off,cap,off',ho,hcap,hrun,hoff,hrv⟩:=main e hd h1 h2 h3 h4
  obtain⟨n,q1,q2,q3⟩:=ho
  rw[h5]at q1
  cases q1
  have hρ:=q3 rfl
  have hlen:es.length≤140737488355328:=by
   cases hx with
   | snil=>exact absurd rfl hne
   | slice _ _ _ _ _ _ _ _ _ g3 _ _ _=>exact g3
  have hdl:(es.drop l.toNat).length=es.length - l.toNat:=List.length_drop
  have hkl:=(List.getElem?_eq_some_iff.1 h5).1
  have hlr:=h.lenρ
  obtain⟨hx',hr'⟩:=h.slotMove (m:=es.length - l.toNat) (lo:=off'+(es.drop l.toNat).length * E.P.cellsOf e') (hi:=off'+(cap - l.toNat) * E.P.cellsOf e') h5 (by omega) hρ (by
   rw[hdl]
   rcases hoff with⟨hc,rfl⟩ | ⟨hc,rfl⟩
   ·right
    have e1:es.length - l.toNat=0:=by omega
    have e2:cap - l.toNat=0:=by omega
    rw[e1,e2]
    simp
   ·left
    constructor
    ·rw[Nat.add_assoc,←Nat.add_mul];congr 2;omega
    ·rw[Nat.add_assoc,←Nat.add_mul];congr 2;omega)
  refine⟨_,_,_,_,hrun,hk,hx',hr',hrv _ _ _ hx' ?_⟩
  refine⟨es.length - l.toNat,?_,by omega,fun _=>?_⟩
  ·rw[List.getElem?_append_right (by simp)];simp
  ·show(G.ρ.set k (0,0,0)++_)[arr.length]? = _
   rw[List.getElem?_append_right (by simp;omega)];simp[hlr]
 ·rename_i e e1 es1 kd1 l1 hd hxe hle
  cases hxe;cases hle
  obtain⟨⟨h1,h2,h3,h4⟩,hk⟩:=hK
  obtain⟨b,off,cap,off',ho,hcap,hrun,hoff,hrv⟩:=main e hd h1 h2 h3 h4
  have hdl:(es.drop l.toNat).length=es.length - l.toNat:=List.length_drop
  have ho':cap=es.length:=ho
  refine⟨_,_,_,G,hrun,hk,Ext.refl _ _,h,hrv _ _ _ (Ext.refl _ _) ?_⟩
  show cap - l.toNat=_
  omega
 all_goals first | exact hK.elim | contradiction
theorem tail_out(h:RelW E G heap arr w0 w){t:TypeId}{x:V}{v:Value}{lo hi mx:Option V}{vlo vhi vmx:Option Value}{K:V→List Nat→Prop}(hx:RV E.P G arr x v)
  (hlo:∀ x,lo=some x→∃ v,vlo=some v∧RV E.P G arr x v) (nlo:lo=none→vlo=none) (hhi:∀ x,hi=some x→∃ v,vhi=some v∧RV E.P G arr x v) (nhi:hi=none→vhi=none) (nmx:mx=none→vmx=none) (ht:tailS x lo hi mx=true) (hK:vTail E arr t x lo hi K) :
  ∃ u z arr' G',(Instr.sliceAt t v vlo vhi vmx).run E.P w = .ok u w∧K z arr'∧Ext G arr G' arr'∧RelW E G' heap arr' w0 w∧RV E.P G' arr' z u:=by
 rcases tailS_spec ht with h1 | ⟨rfl,rfl,id,k,gen,len,e',kd,l,rfl,rfl⟩
 ·exact tail_out1 h hx hlo nhi nmx h1 hK
 rw[nmx rfl]
 have h0:=nlo rfl
 subst h0
 unfold vTail at hK
 split at hK
 case h_1=>contradiction
 case h_2=>contradiction
 case h_4=>exact hK.elim
 rename_i e a1 a2 a3 a4 a5 kd1 l1 hd hxe hlo0 hle
 cases hxe;cases hle
 obtain⟨⟨he,g0,g1,g2,g3⟩,hk⟩:=hK
 subst he
 obtain⟨ie,hie⟩:=Option.isSome_iff_exists.1 g0
 cases hx with
 | vec _ _ _ _ _ b o cap hv p1 p2 =>
 obtain⟨n,q1,q2,q3⟩:=hv
 rw[g3]at q1
 cases q1
 obtain⟨b1,hi1,q4,q5,q6,q7,q8⟩:=q3 rfl
 have r1:=bound_run (w:=w) (d:=len) (y:=cap) (code := .sliceAcap) hhi nhi (l:=l) rfl (by omega) (fun _=>by omega)
 have r2:(bnd none 0 l.toNat .sliceB).run E.P w = .ok 0 w:=by simp[bnd]
 have hsb:(Instr.sliceBounds true len cap none vhi none).run E.P w = .ok (0,l.toNat,cap) w:=bounds_run r1 r2
 refine⟨.slice (some ⟨b,o,none⟩) l.toNat cap,_,_,G,?_,hk,Ext.refl _ _,h,.vec _ _ _ _ _ _ _ _ ⟨_,g3,Nat.le_refl _,fun _=>⟨b1,hi1,q4,q5,by omega,q7,q8⟩⟩ (by omega) (Nat.le_trans (Nat.mul_le_mul_right _ (by omega)) p2)⟩
 simp only[Instr.sliceAt,Sem.run_bind,run_und hd,Result.andThen_ok,Instr.slice,hsb,run_sizeOf hie,Sem.run_pure]
 by_cases hc:cap=0
 ·rw[if_pos hc];simp
 ·rw[if_neg hc];simp[Addr.add_mk]
end
end Go.Vg
