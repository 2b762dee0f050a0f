/- The types of expressions: how the checker determines them. -/
import Derived.Test.YtamednbojpnalaaGreatDoorUcG
set_option linter.unusedVariables false
set_option linter.unusedSimpArgs false
set_option maxRecDepth 20000
namespace Go.Proofs.YtamednbojpnalaaGreatDoor
open Go Go.Vg Go.Proofs
section
variable (u : List Un) (tb : List (List Rw)) (ub : List Us) (n : Nat) {un i : Nat} {l : List Rw}
theorem Jrow(hu:tb[un]? = some l)(hi:i<l.length):VPureJ env 67 [.fptr (ckF u tb ub n),.agg [.int .i64 un,.int .i64 i]] (.agg (rwAt l i).enc) :=
 ⟨_,.inr (by simp only[List.map_cons,List.map_nil,jkA,ck_jk]),TrowG _ _ _ un i l (tab_some hu) hi (ck_jkp u tb ub)⟩
theorem Jkid{k:Nat}(hu:tb[un]? = some l)(hi:i<l.length)(hk:k<(rwAt l i).kids.length):VPureJ env 68 [.fptr (ckF u tb ub n),.agg [.int .i64 un,.int .i64 i],.int .i64 k] (.agg [.int .i64 un,.int .i64 (kdAt l i k)]) :=
 ⟨_,.inr (by simp only[List.map_cons,List.map_nil,jkA,ck_jk]),TkidG _ _ _ un i k l (tab_some hu) hi hk (ck_jkp u tb ub)⟩
theorem Jfunction(hu:tb[un]? = some l)(hi:i<l.length)(hr:rowsOK l):VPureJ env 109 [.fptr (ckF u tb ub n),.agg [.int .i64 un,.int .i64 i]] (.tuple [.agg [.int .i64 (if(funR l i).isSome then(un:Int)else 0),.int .i64 ((funR l i).getD 0:Nat)],.bool (funR l i).isSome]) :=
 ⟨_,.inr (by simp only[List.map_cons,List.map_nil,jkA,ck_jk]),TfunctionG _ _ _ un i l (tab_some hu) hi hr (ck_jkp u tb ub)⟩
theorem Jclass(hu:tb[un]? = some l)(hi:i<l.length)(hr:rowsOK l)(h0:0≤(rwAt l i).parent):VPureJ env 114 [.fptr (ckF u tb ub n),.agg [.int .i64 un,.int .i64 i]] (.str (clsR l i)) :=
 ⟨_,.inr (by simp only[List.map_cons,List.map_nil,jkA,ck_jk]),TclassG _ _ _ un i l (tab_some hu) hi hr h0 (ck_jkp u tb ub)⟩
theorem Jshown(hu:tb[un]? = some l)(hi:i<l.length)(hg:gramL l):VPureJ env 149 [.fptr (ckF u tb ub n),.agg [.int .i64 un,.int .i64 i]] (.str (shownR l l.length i)) :=
 ⟨_,.inr (by simp only[List.map_cons,List.map_nil,jkA,ck_jk]),TshownG _ _ _ un i l (tab_some hu) hi hg (ck_jkp u tb ub)⟩
theorem Jconstant(hu:tb[un]? = some l)(hi:i<l.length)(hg:gramL l):VPureJ env 115 [.fptr (ckF u tb ub n),.agg [.int .i64 un,.int .i64 i]] (.bool (constR l l.length i)) :=
 ⟨_,.inr (by simp only[List.map_cons,List.map_nil,jkA,ck_jk]),TconstantG _ _ _ un l (tab_some hu) hg (ck_jkp u tb ub) l.length i hi (by omega)⟩
end
structure Mems(u:List Un)(kn:KnM)(sg:SgM)(ab:AbM):Prop where
 kn:Memo (tyS u) kn
 sg:Memo (mtS u) sg
 ab:Memo (supU u) ab
def CkCall(u:List Un)(ub:List Us)(pre:List VObj)(f:FuncId)(args:List V)(v:V):Prop:=∀ (kn:KnM) (sg:SgM) (ab:AbM) (z:List VObj) (a:List Nat) (K:Cont),Mems u kn sg ab →
 (∀ kn' sg' ab',Mems u kn' sg' ab'→K v (pre++ck4 (dclU u) kn' sg' ab' z) a)→VCalls env f (.fptr (ckF u (tabsU u) ub pre.length)::args) (pre++ck4 (dclU u) kn sg ab z) a K
def encK(k:Int×Int):V := .agg [.int .i64 k.1,.int .i64 k.2]
def OfOK(u:List Un)(ub:List Us)(pre:List VObj)(k:Int×Int):Prop:=CkCall u ub pre 108 [encK k] (.str (tyS u k))
theorem rwK_at{tb:List (List Rw)}{un i:Nat}{l:List Rw}(h:tb[un]? = some l):rwK tb ((un:Int),(i:Int))=rwAt l i:=by
 simp[rwK,List.getD_eq_getElem?_getD,h]
theorem kdK_at{tb:List (List Rw)}{un i j:Nat}{l:List Rw}(h:tb[un]? = some l):kdK tb ((un:Int),(i:Int)) j=((un:Int),((kdAt l i j:Nat):Int)):=by
 simp[kdK,List.getD_eq_getElem?_getD,h]
theorem tb_at{tb:List (List Rw)}{un:Nat}{l:List Rw}(h:tb[un]? = some l):tb.getD ((un:Int)).toNat []=l:=by
 simp[List.getD_eq_getElem?_getD,h]
theorem funR_some{l:List Rw}(hg:gramL l){i p:Nat}(hi:i<l.length)(h:funR l i=some p):p<l.length∧(rwAt l p).kind=2∧0≤(rwAt l p).parent:=by
 have key:∀ (f:Nat) (k:Int),k<l.length→upF l f k=some p→p<l.length∧(rwAt l p).kind=2:=by
  intro f
  induction f with
  | zero=>intro k _ h;cases h
  | succ f ih =>
   intro k hk h
   rw[upF]at h
   split at h
   ·cases h
   rename_i h0
   have hkl:k.toNat<l.length:=by omega
   split at h
   ·rename_i h2
    cases h
    exact⟨hkl,h2⟩
   ·exact ih _ (by have:=(hg.ok.par _ hkl).1;omega) h
 have hp:=(hg.ok.par i hi).1
 obtain⟨h1,h2⟩:=key _ _ (by omega) h
 refine⟨h1,h2,?_⟩
 rcases Nat.eq_zero_or_pos p with h0 | h0
 ·subst h0
  rw[hg.root h1]at h2
  omega
 ·obtain⟨q,hq,_⟩:=hg.par p h1 h0
  omega
theorem Tvariable{u:List Un}(hT:CkT u)(ub:List Us)(pre:List VObj){d:Int×Int}(hd:Val (tabsU u) d)(hk:(rwK (tabsU u) d).kind=4∨(rwK (tabsU u) d).kind=9∨(rwK (tabsU u) d).kind=10)(ho:(rwK (tabsU u) d).kind=10→OfOK u ub pre (kdK (tabsU u) d 0)) :
  CkCall u ub pre 106 [encK d] (.str (varB (tabsU u) (tyS u) d)):=by
 obtain⟨un,i,l,rfl,hl,hi⟩:=hd
 have hg:=hT.gram l (List.mem_of_getElem? hl)
 have hle:=hg.least i hi
 rw[rwK_at hl]at hk ho
 intro kn sg ab z a K hm hK
 refine VCalls.tidyCk ?_
 refine vcalls_vc (fn:=Tryz.f106) Tryz.func106 rfl (by rw[Tryz.ntmps106];simp) ?_
 rw[varB,rwK_at hl,kdK_at hl,tb_at hl,Int.toNat_natCast]at hK
 rw[kdK_at hl]at ho
 rcases hk with hk | hk | hk
 ·rw[if_pos hk,rwK_at hl]at hK
  have hk1:0<(rwAt l i).kids.length:=by rw[hk]at hle;simp[leastK]at hle;omega
  have hkd:=hg.kid i hi 0 hk1
  simp -implicitDefEqProofs only[go_sem,Tryz.f106,encK,ck4,ap_get,ap_get0,ap_set,ap_set0,List.getElem?_cons_succ,List.set_cons_succ,List.cons_append]
  refine VPureJ.callsS (Jrow u (tabsU u) ub pre.length hl hi) (by simp -implicitDefEqProofs only[go_sem]) ?_
  simp -implicitDefEqProofs only[go_sem,ap_get,ap_get0,ap_set,ap_set0,List.getElem?_cons_succ,List.set_cons_succ,List.cons_append,hk]
  refine VPureJ.callsS (Jkid u (tabsU u) ub pre.length (k:=0) hl hi hk1) (by simp -implicitDefEqProofs only[go_sem];rfl) ?_
  simp -implicitDefEqProofs only[go_sem,ap_get,ap_get0,ap_set,ap_set0,List.getElem?_cons_succ,List.set_cons_succ,List.cons_append]
  refine VPureJ.callsS (Jrow u (tabsU u) ub pre.length hl hkd.2.1) (by simp -implicitDefEqProofs only[go_sem]) ?_
  simp -implicitDefEqProofs only[go_sem,ap_get,ap_get0,ap_set,ap_set0,List.getElem?_cons_succ,List.set_cons_succ,List.cons_append]
  exact⟨kn,sg,ab,_,[],rfl,by simp,hK _ _ _ hm⟩
 ·rw[if_neg (by omega),if_neg (by omega),if_pos hk]at hK
  have hk1:0<(rwAt l i).kids.length:=by rw[hk]at hle;simp[leastK]at hle;omega
  have hkd:=hg.kid i hi 0 hk1
  simp -implicitDefEqProofs only[go_sem,Tryz.f106,encK,ck4,ap_get,ap_get0,ap_set,ap_set0,List.getElem?_cons_succ,List.set_cons_succ,List.cons_append]
  refine VPureJ.callsS (Jrow u (tabsU u) ub pre.length hl hi) (by simp -implicitDefEqProofs only[go_sem]) ?_
  simp -implicitDefEqProofs only[go_sem,ap_get,ap_get0,ap_set,ap_set0,List.getElem?_cons_succ,List.set_cons_succ,List.cons_append,hk]
  refine VPureJ.callsS (Jkid u (tabsU u) ub pre.length (k:=0) hl hi hk1) (by simp -implicitDefEqProofs only[go_sem];rfl) ?_
  simp -implicitDefEqProofs only[go_sem,ap_get,ap_get0,ap_set,ap_set0,List.getElem?_cons_succ,List.set_cons_succ,List.cons_append]
  refine VPureJ.callsS (Jshown u (tabsU u) ub pre.length hl hkd.2.1 hg) (by simp -implicitDefEqProofs only[go_sem]) ?_
  simp -implicitDefEqProofs only[go_sem,ap_get,ap_get0,ap_set,ap_set0,List.getElem?_cons_succ,List.set_cons_succ,List.cons_append]
  exact⟨kn,sg,ab,_,[],rfl,by simp,hK _ _ _ hm⟩
 ·rw[if_neg (by omega),if_pos hk]at hK
  have hk1:0<(rwAt l i).kids.length:=by rw[hk]at hle;simp[leastK]at hle;omega
  have hkd:=hg.kid i hi 0 hk1
  simp -implicitDefEqProofs only[go_sem,Tryz.f106,encK,ck4,ap_get,ap_get0,ap_set,ap_set0,List.getElem?_cons_succ,List.set_cons_succ,List.cons_append]
  refine VPureJ.callsS (Jrow u (tabsU u) ub pre.length hl hi) (by simp -implicitDefEqProofs only[go_sem]) ?_
  simp -implicitDefEqProofs only[go_sem,ap_get,ap_get0,ap_set,ap_set0,List.getElem?_cons_succ,List.set_cons_succ,List.cons_append,hk]
  refine VPureJ.callsS (Jkid u (tabsU u) ub pre.length (k:=0) hl hi hk1) (by simp -implicitDefEqProofs only[go_sem];rfl) ?_
  simp -implicitDefEqProofs only[go_sem,ap_get,ap_get0,ap_set,ap_set0,List.getElem?_cons_succ,List.set_cons_succ,List.cons_append]
  refine ho hk kn sg ab _ _ _ hm ?_
  intro kn' sg' ab' hm'
  simp -implicitDefEqProofs only[go_sem,ck4,ap_get,ap_get0,ap_set,ap_set0,List.getElem?_cons_succ,List.set_cons_succ,List.cons_append]
  exact⟨kn',sg',ab',_,[],rfl,by simp,hK _ _ _ hm'⟩
theorem Treceiver{u:List Un}(ub:List Us)(pre:List VObj){un i:Nat}{l:List Rw}(hl:(tabsU u)[un]? = some l)(hi:i<l.length)(hk1:0<(rwAt l i).kids.length)(ho:OfOK u ub pre ((un:Int),((kdAt l i 0:Nat):Int))) :
  CkCall u ub pre 112 [.agg [.int .i64 un,.int .i64 i]] (.str (rcT (tyS u ((un:Int),((kdAt l i 0:Nat):Int))))):=by
 intro kn sg ab z a K hm hK
 refine VCalls.tidyCk ?_
 refine vcalls_vc (fn:=Tryz.f112) Tryz.func112 rfl (by rw[Tryz.ntmps112];simp) ?_
 simp -implicitDefEqProofs only[go_sem,Tryz.f112,ck4,ap_get,ap_get0,ap_set,ap_set0,List.getElem?_cons_succ,List.set_cons_succ,List.cons_append]
 refine VPureJ.callsS (Jkid u (tabsU u) ub pre.length (k:=0) hl hi hk1) (by simp -implicitDefEqProofs only[go_sem];rfl) ?_
 simp -implicitDefEqProofs only[go_sem,ap_get,ap_get0,ap_set,ap_set0,List.getElem?_cons_succ,List.set_cons_succ,List.cons_append]
 refine ho kn sg ab _ _ _ hm ?_
 intro kn' sg' ab' hm'
 simp -implicitDefEqProofs only[go_sem,ck4,ap_get,ap_get0,ap_set,ap_set0,List.getElem?_cons_succ,List.set_cons_succ,List.cons_append]
 have hfin:∀ s,rcT (tyS u ((un:Int),((kdAt l i 0:Nat):Int)))=s→K (.str s) (pre++ck4 (dclU u) kn' sg' ab' z) a:=fun s h=>h ▸ hK _ _ _ hm'
 generalize tyS u ((un:Int),((kdAt l i 0:Nat):Int))=s at hfin ⊢
 refine⟨fun h1=>⟨fun h2=>?_,fun h2=>?_⟩,fun h1=>?_⟩
 ·exact⟨kn',sg',ab',_,[],rfl,by simp,hfin _ (by rw[rcT,if_pos (.inr h2)])⟩
 ·exact⟨kn',sg',ab',_,[],rfl,by simp,hfin _ (by rw[rcT,if_neg (fun h=>h.elim h1 h2)])⟩
 ·exact⟨kn',sg',ab',_,[],rfl,by simp,hfin _ (by rw[rcT,if_pos (.inl h1)])⟩
theorem look_D{D:List ((Int×Int)×(Int×Int))}{a b:Int}{K:V→Prop}:vLookF env 50 (findA [1,1] [.int .i64 a,.int .i64 b] (encD D) 0) true K=K (.tuple [((getM D (a,b)).map encK).getD (.agg [.int .i64 0,.int .i64 0]),.bool (getM D (a,b)).isSome]) :=
 lookA_M (E:=env) (ve:=fun a => .agg (keyR a)) keyR_ok (k:=(a,b)) (by kernel_rfl) (by kernel_rfl)
theorem look_Kn{M:KnM}{a b:Int}{K:V→Prop}:vLookF env 9 (findA [1,1] [.int .i64 a,.int .i64 b] (encKn M) 0) true K=K (.tuple [((getM M (a,b)).map V.str).getD (.str ⟨#[]⟩),.bool (getM M (a,b)).isSome]) :=
 lookA_M (E:=env) (ve:=V.str) keyR_ok (k:=(a,b)) (by kernel_rfl) (by kernel_rfl)
theorem set_Kn{M:KnM}{a b:Int}{s:ByteArray}{h:List VObj}{id:Nat}{L:List VObj→Prop}:vSetF h id (encKn M) (.agg [.int .i64 a,.int .i64 b]) (.str s) (findA [1,1] [.int .i64 a,.int .i64 b] (encKn M) 0) L=L (h.set id (.map (encKn (setM M (a,b) s)))) :=
 setA_M (ve:=V.str) keyR_ok (k:=(a,b)) (v:=s)
theorem Tof_find{u:List Un}(ub:List Us)(pre:List VObj){k:Int×Int}(hf:CkCall u ub pre 151 [encK k] (.str (tyS u k))):OfOK u ub pre k:=by
 intro kn sg ab z a K hm hK
 obtain⟨un,i⟩:=k
 refine VCalls.tidyCk ?_
 refine vcalls_vc (fn:=Tryz.f108) Tryz.func108 rfl (by rw[Tryz.ntmps108];simp) ?_
 simp -implicitDefEqProofs only[go_sem,Tryz.f108,encK,ck4,ap_get,ap_get0,ap_set,ap_set0,List.getElem?_cons_succ,List.set_cons_succ,List.cons_append]
 refine snd_draw (cs:=[]) mixed (by kernel_rfl) ?_
 cases hg:getM kn (un,i)with
 | some s =>
  have hs:=hm.kn _ _ hg
  subst hs
  simp -implicitDefEqProofs only[go_sem,ap_get,ap_get0,ap_set,ap_set0,List.getElem?_cons_succ,List.set_cons_succ,List.cons_append,flat_Ref,look_Kn,hg,Option.map_some,Option.getD_some,Option.isSome_some]
  exact⟨kn,sg,ab,_,[],rfl,by simp,hK _ _ _ hm⟩
 | none =>
  simp -implicitDefEqProofs only[go_sem,ap_get,ap_get0,ap_set,ap_set0,List.getElem?_cons_succ,List.set_cons_succ,List.cons_append,flat_Ref,look_Kn,hg,Option.map_none,Option.getD_none,Option.isSome_none]
  refine hf kn sg ab _ _ _ hm ?_
  intro kn' sg' ab' hm'
  simp -implicitDefEqProofs only[go_sem,ck4,ap_get,ap_get0,ap_set,ap_set0,List.getElem?_cons_succ,List.set_cons_succ,List.cons_append,flat_Ref,set_Kn]
  refine snd_draw (cs:=[]) mixed (by kernel_rfl) ?_
  simp -implicitDefEqProofs only[go_sem,ap_get,ap_get0,ap_set,ap_set0,List.getElem?_cons_succ,List.set_cons_succ,List.cons_append,flat_Ref,set_Kn]
  exact⟨_,sg',ab',_,[],rfl,by simp,hK _ _ _ ⟨hm'.kn.set (un,i),hm'.sg,hm'.ab⟩⟩
def wkSend:Wk := .one 0 (.one 1 (.one 2 (.one 4 (.br 3 (.one 5 (.br 6 (.one 7 (.one 8 (.one 9 (.one 10 (.one 11 (.one 12 (.stop))))))) (.br 10 (.one 6 (.one 7 (.one 8 (.one 9 (.one 11 (.one 12 (.stop))))))) (.stop)))) (.br 5 (.br 3 (.br 6 (.one 7 (.one 8 (.one 9 (.one 10 (.one 11 (.one 12 (.stop))))))) (.br 10 (.one 6 (.one 7 (.one 8 (.one 9 (.one 11 (.one 12 (.stop))))))) (.stop))) (.br 10 (.one 3 (.one 6 (.one 7 (.one 8 (.one 9 (.one 11 (.one 12 (.stop)))))))) (.stop))) (.br 10 (.br 3 (.one 5 (.one 6 (.one 7 (.one 8 (.one 9 (.one 11 (.one 12 (.stop)))))))) (.br 5 (.one 3 (.one 6 (.one 7 (.one 8 (.one 9 (.one 11 (.one 12 (.stop)))))))) (.stop))) (.stop)))))))
theorem Tfind{u:List Un}(hT:CkT u)(ub:List Us)(pre:List VObj){k:Int×Int}(hk:Val (tabsU u) k)(ho:∀ q,tgt (tabsU u) (dclU u) k q→OfOK u ub pre q):CkCall u ub pre 151 [encK k] (.str (tyS u k)):=by
 intro kn sg ab z a K hm hK
 rw[tyS_eq hT hk]at hK
 have hd19:=hT.d19 k
 have hd20:=hT.d20 k
 obtain⟨un,i,l,rfl,hl,hi⟩:=hk
 have hvk:Val (tabsU u) ((un:Int),(i:Int)):=⟨un,i,l,rfl,hl,hi⟩
 have hg:=hT.gram l (List.mem_of_getElem? hl)
 have hle:=hg.least i hi
 have hro:=hg.ok
 unfold tgt at ho
 rw[tyB,rwK_at hl,tb_at hl,Int.toNat_natCast]at hK
 rw[rwK_at hl]at hd19 hd20 ho
 rw[kdK_at hl]at ho hK
 have hrr:=row_getDi hi
 refine VCalls.tidyCk ?_
 refine vcalls_vc (fn:=Tryz.f151) Tryz.func151 rfl (by rw[Tryz.ntmps151];simp) ?_
 have hdone:∀ s:ByteArray,(∀ kn' sg' ab',Mems u kn' sg' ab'→K (.str s) (pre++ck4 (dclU u) kn' sg' ab' z) a)→∀ kn' sg' ab' z' y,Mems u kn' sg' ab'→∃ kn'' sg'' ab'' z'' y',(pre++ck4 (dclU u) kn' sg' ab' (z++z'))=pre++ck4 (dclU u) kn'' sg'' ab'' (z++z'')∧a++y=a++y'∧K (.str s) (pre++ck4 (dclU u) kn'' sg'' ab'' z) a :=
  fun s h kn' sg' ab' z' y hm'=>⟨kn',sg',ab',z',y,rfl,rfl,h _ _ _ hm'⟩
 by_cases h17:(rwAt l i).kind=17
 ·simp only[h17,if_true]at hK
  simp -implicitDefEqProofs only[go_sem,Tryz.f151,encK,ck4,ap_get,ap_get0,ap_set,ap_set0,List.getElem?_cons_succ,List.set_cons_succ,List.cons_append]
  refine VPureJ.callsS (Jrow u (tabsU u) ub pre.length hl hi) (by simp -implicitDefEqProofs only[go_sem]) ?_
  simp -implicitDefEqProofs only[go_sem,ap_get,ap_get0,ap_set,ap_set0,List.getElem?_cons_succ,List.set_cons_succ,List.cons_append,h17]
  exact⟨kn,sg,ab,_,[],rfl,by simp,hK _ _ _ hm⟩
 by_cases h18:(rwAt l i).kind=18
 ·rw[if_neg h17,if_pos h18]at hK
  simp -implicitDefEqProofs only[go_sem,Tryz.f151,encK,ck4,ap_get,ap_get0,ap_set,ap_set0,List.getElem?_cons_succ,List.set_cons_succ,List.cons_append]
  refine VPureJ.callsS (Jrow u (tabsU u) ub pre.length hl hi) (by simp -implicitDefEqProofs only[go_sem]) ?_
  simp -implicitDefEqProofs only[go_sem,ap_get,ap_get0,ap_set,ap_set0,List.getElem?_cons_succ,List.set_cons_succ,List.cons_append,h18]
  exact⟨kn,sg,ab,_,[],rfl,by simp,hK _ _ _ hm⟩
 by_cases h19:(rwAt l i).kind=19
 ·rw[if_neg h17,if_neg h18,if_pos h19]at hK
  simp -implicitDefEqProofs only[go_sem,Tryz.f151,encK,ck4,ap_get,ap_get0,ap_set,ap_set0,List.getElem?_cons_succ,List.set_cons_succ,List.cons_append]
  refine VPureJ.callsS (Jrow u (tabsU u) ub pre.length hl hi) (by simp -implicitDefEqProofs only[go_sem]) ?_
  simp -implicitDefEqProofs only[go_sem,ap_get,ap_get0,ap_set,ap_set0,List.getElem?_cons_succ,List.set_cons_succ,List.cons_append,h19]
  refine snd_draw (cs:=[]) mixed (by kernel_rfl) ?_
  cases hd:getM (dclU u) ((un:Int),(i:Int))with
  | none =>
   simp -implicitDefEqProofs only[go_sem,ap_get,ap_get0,ap_set,ap_set0,List.getElem?_cons_succ,List.set_cons_succ,List.cons_append,flat_Ref,look_D,hd,Option.map_none,Option.getD_none,Option.isSome_none]
   rw[hd]at hK
   exact⟨kn,sg,ab,_,[],rfl,by simp,hK _ _ _ hm⟩
  | some d =>
   obtain⟨hdv,hdk⟩:=hd19 d hvk (.inl h19) hd
   have hV:=Tvariable hT ub pre hdv hdk fun h10=>ho _ (.inr ⟨h19,d,hd,h10,rfl⟩)
   rw[hd]at hK
   simp -implicitDefEqProofs only[go_sem,ap_get,ap_get0,ap_set,ap_set0,List.getElem?_cons_succ,List.set_cons_succ,List.cons_append,flat_Ref,look_D,hd,Option.map_some,Option.getD_some,Option.isSome_some,encK]
   refine hV kn sg ab _ _ _ hm ?_
   intro kn' sg' ab' hm'
   simp -implicitDefEqProofs only[go_sem,ck4,ap_get,ap_get0,ap_set,ap_set0,List.getElem?_cons_succ,List.set_cons_succ,List.cons_append]
   exact⟨kn',sg',ab',_,[],rfl,by simp,hK _ _ _ hm'⟩
 by_cases h20:(rwAt l i).kind=20
 ·rw[if_neg h17,if_neg h18,if_neg h19,if_pos h20]at hK
  simp -implicitDefEqProofs only[go_sem,Tryz.f151,encK,ck4,ap_get,ap_get0,ap_set,ap_set0,List.getElem?_cons_succ,List.set_cons_succ,List.cons_append]
  refine VPureJ.callsS (Jrow u (tabsU u) ub pre.length hl hi) (by simp -implicitDefEqProofs only[go_sem]) ?_
  simp -implicitDefEqProofs only[go_sem,ap_get,ap_get0,ap_set,ap_set0,List.getElem?_cons_succ,List.set_cons_succ,List.cons_append,h20]
  refine snd_draw (cs:=[]) mixed (by kernel_rfl) ?_
  cases hd:getM (dclU u) ((un:Int),(i:Int))with
  | none =>
   simp -implicitDefEqProofs only[go_sem,ap_get,ap_get0,ap_set,ap_set0,List.getElem?_cons_succ,List.set_cons_succ,List.cons_append,flat_Ref,look_D,hd,Option.map_none,Option.getD_none,Option.isSome_none]
   rw[hd]at hK
   exact⟨kn,sg,ab,_,[],rfl,by simp,hK _ _ _ hm⟩
  | some d =>
   obtain⟨⟨un',i',l',rfl,hl',hi'⟩,hdk⟩:=hd20 d hvk h20 hd
   rw[rwK_at hl']at hdk
   have hso:=(hT.gram l' (List.mem_of_getElem? hl')).sign i' hi' hdk
   rw[hd]at hK
   have hlx:=tb_at hl'
   simp only[hlx,Int.toNat_natCast]at hK
   rw[List.getD_eq_getElem?_getD,hl',Option.getD_some]at hK
   simp -implicitDefEqProofs only[go_sem,ap_get,ap_get0,ap_set,ap_set0,List.getElem?_cons_succ,List.set_cons_succ,List.cons_append,flat_Ref,look_D,hd,Option.map_some,Option.getD_some,Option.isSome_some,encK]
   refine VPureJ.callsS (Jsign u (tabsU u) ub pre.length hl' hso) (by simp -implicitDefEqProofs only[go_sem]) ?_
   simp -implicitDefEqProofs only[go_sem,ap_get,ap_get0,ap_set,ap_set0,List.getElem?_cons_succ,List.set_cons_succ,List.cons_append,Sg.enc]
   exact⟨kn,sg,ab,_,[],rfl,by simp,hK _ _ _ hm⟩
 by_cases h21:(rwAt l i).kind=21
 ·rw[if_neg h17,if_neg h18,if_neg h19,if_neg h20,if_pos h21]at hK
  have hk1:0<(rwAt l i).kids.length:=by rw[h21]at hle;simp[leastK]at hle;omega
  have hO:=ho _ (.inl ⟨.inl h21,rfl⟩)
  simp -implicitDefEqProofs only[go_sem,Tryz.f151,encK,ck4,ap_get,ap_get0,ap_set,ap_set0,List.getElem?_cons_succ,List.set_cons_succ,List.cons_append]
  refine VPureJ.callsS (Jrow u (tabsU u) ub pre.length hl hi) (by simp -implicitDefEqProofs only[go_sem]) ?_
  simp -implicitDefEqProofs only[go_sem,ap_get,ap_get0,ap_set,ap_set0,List.getElem?_cons_succ,List.set_cons_succ,List.cons_append,h21]
  have hRc:=Treceiver ub pre hl hi hk1 hO
  cases hms:mtS u (rcT (tyS u ((un:Int),((kdAt l i 0:Nat):Int))),(rwAt l i).text)with
  | none =>
   rw[hms]at hK
   refine snd_walk (cs:=[3,6]) wkSend mixed (by kernel_rfl) ?_
   simp -implicitDefEqProofs only[go_sem,ap_get,ap_get0,ap_set,ap_set0,List.getElem?_cons_succ,List.set_cons_succ,List.cons_append,wkSend]
   repeat' apply And.intro
   all_goals(
    refine hRc kn sg ab _ _ _ hm ?_
    intro kn1 sg1 ab1 hm1
    simp -implicitDefEqProofs only[go_sem,ck4,ap_get,ap_get0,ap_set,ap_set0,List.getElem?_cons_succ,List.set_cons_succ,List.cons_append])
   all_goals(repeat' apply And.intro)
   all_goals(
    refine Tmethod u hT.toCkW ub pre (dclU u) kn1 sg1 ab1 _ _ _ _ hm1.sg ?_
    intro sg2 hsg2
    rw[hms]
    simp -implicitDefEqProofs only[go_sem,ck4,ap_get,ap_get0,ap_set,ap_set0,List.getElem?_cons_succ,List.set_cons_succ,List.cons_append,encMt,Sg.enc]
    exact⟨kn1,sg2,ab1,_,[],rfl,by simp,hK _ _ _ ⟨hm1.kn,hsg2,hm1.ab⟩⟩)
  | some s =>
   rw[hms]at hK
   refine snd_walk (cs:=[3,6]) wkSend mixed (by kernel_rfl) ?_
   simp -implicitDefEqProofs only[go_sem,ap_get,ap_get0,ap_set,ap_set0,List.getElem?_cons_succ,List.set_cons_succ,List.cons_append,wkSend]
   repeat' apply And.intro
   all_goals(
    refine hRc kn sg ab _ _ _ hm ?_
    intro kn1 sg1 ab1 hm1
    simp -implicitDefEqProofs only[go_sem,ck4,ap_get,ap_get0,ap_set,ap_set0,List.getElem?_cons_succ,List.set_cons_succ,List.cons_append])
   all_goals(repeat' apply And.intro)
   all_goals(
    refine Tmethod u hT.toCkW ub pre (dclU u) kn1 sg1 ab1 _ _ _ _ hm1.sg ?_
    intro sg2 hsg2
    rw[hms]
    simp -implicitDefEqProofs only[go_sem,ck4,ap_get,ap_get0,ap_set,ap_set0,List.getElem?_cons_succ,List.set_cons_succ,List.cons_append,encMt,Sg.enc]
    exact⟨kn1,sg2,ab1,_,[],rfl,by simp,hK _ _ _ ⟨hm1.kn,hsg2,hm1.ab⟩⟩)
 by_cases h22:(rwAt l i).kind=22
 ·rw[if_neg h17,if_neg h18,if_neg h19,if_neg h20,if_neg h21,if_pos h22]at hK
  simp -implicitDefEqProofs only[go_sem,Tryz.f151,encK,ck4,ap_get,ap_get0,ap_set,ap_set0,List.getElem?_cons_succ,List.set_cons_succ,List.cons_append]
  refine VPureJ.callsS (Jrow u (tabsU u) ub pre.length hl hi) (by simp -implicitDefEqProofs only[go_sem]) ?_
  simp -implicitDefEqProofs only[go_sem,ap_get,ap_get0,ap_set,ap_set0,List.getElem?_cons_succ,List.set_cons_succ,List.cons_append,h22]
  exact⟨kn,sg,ab,_,[],rfl,by simp,hK _ _ _ hm⟩
 by_cases h23:(rwAt l i).kind=23
 ·rw[if_neg h17,if_neg h18,if_neg h19,if_neg h20,if_neg h21,if_neg h22,if_pos h23]at hK
  simp -implicitDefEqProofs only[go_sem,Tryz.f151,encK,ck4,ap_get,ap_get0,ap_set,ap_set0,List.getElem?_cons_succ,List.set_cons_succ,List.cons_append]
  refine VPureJ.callsS (Jrow u (tabsU u) ub pre.length hl hi) (by simp -implicitDefEqProofs only[go_sem]) ?_
  simp -implicitDefEqProofs only[go_sem,ap_get,ap_get0,ap_set,ap_set0,List.getElem?_cons_succ,List.set_cons_succ,List.cons_append,h23]
  have hJ:=Jfunction u (tabsU u) ub pre.length hl hi hro
  cases hfr:funR l i with
  | none =>
   rw[hfr]at hJ hK
   refine VPureJ.callsS hJ (by simp -implicitDefEqProofs only[go_sem]) ?_
   simp -implicitDefEqProofs only[go_sem,ap_get,ap_get0,ap_set,ap_set0,List.getElem?_cons_succ,List.set_cons_succ,List.cons_append,Option.isSome_none]
   exact⟨kn,sg,ab,_,[],rfl,by simp,hK _ _ _ hm⟩
  | some p =>
   rw[hfr]at hJ hK
   refine VPureJ.callsS hJ (by simp -implicitDefEqProofs only[go_sem]) ?_
   simp -implicitDefEqProofs only[go_sem,ap_get,ap_get0,ap_set,ap_set0,List.getElem?_cons_succ,List.set_cons_succ,List.cons_append,Option.isSome_some,Option.getD_some]
   obtain⟨hp1,hp2,hp3⟩:=funR_some hg hi hfr
   refine VPureJ.callsS (Jclass u (tabsU u) ub pre.length hl hp1 hro hp3) (by simp -implicitDefEqProofs only[go_sem]) ?_
   simp -implicitDefEqProofs only[go_sem,ap_get,ap_get0,ap_set,ap_set0,List.getElem?_cons_succ,List.set_cons_succ,List.cons_append]
   exact⟨kn,sg,ab,_,[],rfl,by simp,hK _ _ _ hm⟩
 by_cases h24:(rwAt l i).kind=24∨(rwAt l i).kind=25
 ·rw[if_neg h17,if_neg h18,if_neg h19,if_neg h20,if_neg h21,if_neg h22,if_neg h23,if_pos h24]at hK
  rcases h24 with h24 | h24
  ·simp -implicitDefEqProofs only[go_sem,Tryz.f151,encK,ck4,ap_get,ap_get0,ap_set,ap_set0,List.getElem?_cons_succ,List.set_cons_succ,List.cons_append]
   refine VPureJ.callsS (Jrow u (tabsU u) ub pre.length hl hi) (by simp -implicitDefEqProofs only[go_sem]) ?_
   simp -implicitDefEqProofs only[go_sem,ap_get,ap_get0,ap_set,ap_set0,List.getElem?_cons_succ,List.set_cons_succ,List.cons_append,h24]
   refine(Toperator (rwAt l i)).calls (show [V.agg ((rwAt l i).enc.map share1)]=_ by rw[rwe_share]) ?_
   simp -implicitDefEqProofs only[go_sem,ap_get,ap_get0,ap_set,ap_set0,List.getElem?_cons_succ,List.set_cons_succ,List.cons_append]
   exact⟨kn,sg,ab,_,[],rfl,by simp,hK _ _ _ hm⟩
  ·simp -implicitDefEqProofs only[go_sem,Tryz.f151,encK,ck4,ap_get,ap_get0,ap_set,ap_set0,List.getElem?_cons_succ,List.set_cons_succ,List.cons_append]
   refine VPureJ.callsS (Jrow u (tabsU u) ub pre.length hl hi) (by simp -implicitDefEqProofs only[go_sem]) ?_
   simp -implicitDefEqProofs only[go_sem,ap_get,ap_get0,ap_set,ap_set0,List.getElem?_cons_succ,List.set_cons_succ,List.cons_append,h24]
   refine(Toperator (rwAt l i)).calls (show [V.agg ((rwAt l i).enc.map share1)]=_ by rw[rwe_share]) ?_
   simp -implicitDefEqProofs only[go_sem,ap_get,ap_get0,ap_set,ap_set0,List.getElem?_cons_succ,List.set_cons_succ,List.cons_append]
   exact⟨kn,sg,ab,_,[],rfl,by simp,hK _ _ _ hm⟩
 by_cases h26:(rwAt l i).kind=26
 ·rw[if_neg h17,if_neg h18,if_neg h19,if_neg h20,if_neg h21,if_neg h22,if_neg h23,if_neg h24,if_pos h26]at hK
  have hk1:0<(rwAt l i).kids.length:=by rw[h26]at hle;simp[leastK]at hle;omega
  have hO:=ho _ (.inl ⟨.inr h26,rfl⟩)
  simp -implicitDefEqProofs only[go_sem,Tryz.f151,encK,ck4,ap_get,ap_get0,ap_set,ap_set0,List.getElem?_cons_succ,List.set_cons_succ,List.cons_append]
  refine VPureJ.callsS (Jrow u (tabsU u) ub pre.length hl hi) (by simp -implicitDefEqProofs only[go_sem]) ?_
  simp -implicitDefEqProofs only[go_sem,ap_get,ap_get0,ap_set,ap_set0,List.getElem?_cons_succ,List.set_cons_succ,List.cons_append,h26]
  refine VPureJ.callsS (Jkid u (tabsU u) ub pre.length (k:=0) hl hi hk1) (by simp -implicitDefEqProofs only[go_sem];rfl) ?_
  simp -implicitDefEqProofs only[go_sem,ap_get,ap_get0,ap_set,ap_set0,List.getElem?_cons_succ,List.set_cons_succ,List.cons_append]
  refine hO kn sg ab _ _ _ hm ?_
  intro kn' sg' ab' hm'
  simp -implicitDefEqProofs only[go_sem,ck4,ap_get,ap_get0,ap_set,ap_set0,List.getElem?_cons_succ,List.set_cons_succ,List.cons_append]
  exact⟨kn',sg',ab',_,[],rfl,by simp,hK _ _ _ hm'⟩
 rw[if_neg h17,if_neg h18,if_neg h19,if_neg h20,if_neg h21,if_neg h22,if_neg h23,if_neg h24,if_neg h26]at hK
 rw[not_or]at h24
 simp -implicitDefEqProofs only[go_sem,Tryz.f151,encK,ck4,ap_get,ap_get0,ap_set,ap_set0,List.getElem?_cons_succ,List.set_cons_succ,List.cons_append]
 refine VPureJ.callsS (Jrow u (tabsU u) ub pre.length hl hi) (by simp -implicitDefEqProofs only[go_sem]) ?_
 simp -implicitDefEqProofs only[go_sem,ap_get,ap_get0,ap_set,ap_set0,List.getElem?_cons_succ,List.set_cons_succ,List.cons_append,h17,h18,h19,h20,h21,h22,h23,h24.1,h24.2,h26]
 exact⟨kn,sg,ab,_,[],rfl,by simp,hK _ _ _ hm⟩
theorem Tof{u:List Un}(hT:CkT u)(ub:List Us)(pre:List VObj){k:Int×Int}(hk:Val (tabsU u) k):OfOK u ub pre k:=by
 obtain⟨μ,hμ⟩:=hT.mu
 have key:∀ (n:Nat) (k:Int×Int),Val (tabsU u) k→μ k<n→OfOK u ub pre k:=by
  intro n
  induction n with
  | zero=>intro k _ h;omega
  | succ n ih =>
   intro k hk h
   refine Tof_find ub pre (Tfind hT ub pre hk fun q hq=>?_)
   obtain⟨h1,h2,h3⟩:=(hμ k hk).2 q hq
   exact ih q h1 (by omega)
 exact key _ k hk (Nat.lt_succ_self _)
end Go.Proofs.YtamednbojpnalaaGreatDoor
set_option maxRecDepth 20000
namespace Go.Proofs.YtamednbojpnalaaGreatDoor
open Go Go.Vg Go.Proofs
def fitS(u:List Un)(s want:ByteArray):Bool:=decide (s=⟨#[]⟩) || (decide (s=want) || (supU u s).any fun x=>decide (x=want))
theorem Tfits{u:List Un}(hW:CkW u)(ub:List Us)(pre:List VObj)(s want:ByteArray):CkCall u ub pre 107 [.str s,.str want] (.bool (fitS u s want)):=by
 intro kn sg ab z a K hm hK
 refine VCalls.tidyCk ?_
 refine vcalls_vc (fn:=Tryz.f107) Tryz.func107 rfl (by rw[Tryz.ntmps107];simp) ?_
 simp -implicitDefEqProofs only[go_sem,Tryz.f107,ck4,ap_get,ap_get0,ap_set,ap_set0,List.getElem?_cons_succ,List.set_cons_succ,List.cons_append]
 refine⟨fun h1=>⟨fun h2=>?_,fun h2=>?_⟩,fun h1=>?_⟩
 ·refine Tsupers u hW ub pre (dclU u) kn sg ab _ _ _ hm.ab ?_
  intro ab' hab'
  simp -implicitDefEqProofs only[go_sem,ck4,ap_get,ap_get0,ap_set,ap_set0,List.getElem?_cons_succ,List.set_cons_succ,List.cons_append]
  refine(SContains (supU u s) want).calls (by simp -implicitDefEqProofs only[go_sem]) ?_
  simp -implicitDefEqProofs only[go_sem,ap_get,ap_get0,ap_set,ap_set0,List.getElem?_cons_succ,List.set_cons_succ,List.cons_append]
  have hf:fitS u s want=(supU u s).any fun x=>decide (x=want):=by rw[fitS,decide_eq_false h1,decide_eq_false h2,Bool.false_or,Bool.false_or]
  rw[hf]at hK
  exact⟨kn,sg,ab',[],[],by simp,by simp,hK _ _ _ ⟨hm.kn,hm.sg,hab'⟩⟩
 ·have hf:fitS u s want=true:=by rw[fitS,decide_eq_true h2,Bool.true_or,Bool.or_true]
  rw[hf]at hK
  exact⟨kn,sg,ab,[],[],by simp,by simp,hK _ _ _ hm⟩
 ·have hf:fitS u s want=true:=by rw[fitS,decide_eq_true h1,Bool.true_or]
  rw[hf]at hK
  exact⟨kn,sg,ab,[],[],by simp,by simp,hK _ _ _ hm⟩
def eqSg(s t:Sg):Bool:=decide (s.params=t.params) && decide (s.result=t.result)
def ovrS(u:List Un)(l:List Rw)(i:Nat):Bool:=if clsR l i=⟨#[]⟩then false else match supU u (clsR l i)with
 | []=>false
 | c::_=>match mtS u (c,(rwAt l i).text)with
  | some s => !eqSg s (signR l i)
  | none=>false
def wkOvr:Wk := .one 0 (.one 1 (.one 2 (.one 3 (.one 4 (.one 5 (.one 6 (.one 7 (.br 8 (.one 9 (.one 10 (.one 11 (.one 12 (.one 13 (.one 14 (.stop))))))) (.br 12 (.one 8 (.one 9 (.one 10 (.one 11 (.one 13 (.one 14 (.stop))))))) (.stop))))))))))
theorem Toverrides{u:List Un}(hT:CkT u)(ub:List Us)(pre:List VObj){un i:Nat}{l:List Rw}(hl:(tabsU u)[un]? = some l)(hi:i<l.length)(h2:(rwAt l i).kind=2):CkCall u ub pre 105 [.agg [.int .i64 un,.int .i64 i]] (.bool (ovrS u l i)):=by
 intro kn sg ab z a K hm hK
 refine VCalls.tidyCk ?_
 refine vcalls_vc (fn:=Tryz.f105) Tryz.func105 rfl (by rw[Tryz.ntmps105];simp) ?_
 simp -implicitDefEqProofs only[go_sem,Tryz.f105,ck4,ap_get,ap_get0,ap_set,ap_set0,List.getElem?_cons_succ,List.set_cons_succ,List.cons_append,encK]
 have hg:=hT.gram l (List.mem_of_getElem? hl)
 have hp3:0≤(rwAt l i).parent:=by
  rcases Nat.eq_zero_or_pos i with h0 | h0
  ·subst h0
   rw[hg.root hi]at h2
   omega
  ·obtain⟨q,hq,_⟩:=hg.par i hi h0
   omega
 refine VPureJ.callsS (Jclass u (tabsU u) ub pre.length hl hi hg.ok hp3) (by simp -implicitDefEqProofs only[go_sem]) ?_
 rw[ovrS]at hK
 simp -implicitDefEqProofs only[go_sem,ap_get,ap_get0,ap_set,ap_set0,List.getElem?_cons_succ,List.set_cons_succ,List.cons_append]
 refine⟨fun hc=>?_,fun hc=>?_⟩
 ·rw[if_pos hc]at hK
  exact⟨kn,sg,ab,_,[],rfl,by simp,hK _ _ _ hm⟩
 ·rw[if_neg hc]at hK
  refine Tsupers u hT.toCkW ub pre (dclU u) kn sg ab _ _ _ hm.ab ?_
  intro ab' hab'
  have hm':Mems u kn sg ab':=⟨hm.kn,hm.sg,hab'⟩
  cases hs:supU u (clsR l i)with
  | nil =>
   rw[hs]at hK
   simp -implicitDefEqProofs only[go_sem,ck4,ap_get,ap_get0,ap_set,ap_set0,List.getElem?_cons_succ,List.set_cons_succ,List.cons_append]
   exact⟨fun _=>⟨kn,sg,ab',_,[],rfl,by simp,hK _ _ _ hm'⟩,fun h=>absurd rfl h⟩
  | cons c r =>
   rw[hs]at hK
   simp only at hK
   simp -implicitDefEqProofs only[go_sem,ck4,ap_get,ap_get0,ap_set,ap_set0,List.getElem?_cons_succ,List.set_cons_succ,List.cons_append]
   intro _ _
   refine⟨fun h=>absurd h (by omega),fun _=>?_⟩
   have hJr:=Jrow u (tabsU u) ub pre.length hl hi
   cases hms:mtS u (c,(rwAt l i).text)with
   | none =>
    rw[hms]at hK
    refine snd_walk (cs:=[8]) wkOvr mixed (by kernel_rfl) ?_
    simp -implicitDefEqProofs only[go_sem,ap_get,ap_get0,ap_set,ap_set0,List.getElem?_cons_succ,List.set_cons_succ,List.cons_append,wkOvr,encTx]
    refine⟨by omega,vPC_ofS hJr (by simp -implicitDefEqProofs only[go_sem]) ?_⟩
    simp -implicitDefEqProofs only[go_sem,ap_get,ap_get0,ap_set,ap_set0,List.getElem?_cons_succ,List.set_cons_succ,List.cons_append,encTx]
    repeat' apply And.intro
    all_goals(
     refine Tmethod u hT.toCkW ub pre (dclU u) kn sg ab' _ _ _ _ hm.sg ?_
     intro sg2 hsg2
     rw[hms]
     simp -implicitDefEqProofs only[go_sem,ck4,ap_get,ap_get0,ap_set,ap_set0,List.getElem?_cons_succ,List.set_cons_succ,List.cons_append,encMt])
    all_goals(
     refine snd_draw (cs:=[]) mixed (by kernel_rfl) ?_
     simp -implicitDefEqProofs only[go_sem,ap_get,ap_get0,ap_set,ap_set0,List.getElem?_cons_succ,List.set_cons_succ,List.cons_append]
     exact⟨kn,sg2,ab',_,[],rfl,by simp,hK _ _ _ ⟨hm.kn,hsg2,hab'⟩⟩)
   | some s =>
    rw[hms]at hK
    refine snd_walk (cs:=[8]) wkOvr mixed (by kernel_rfl) ?_
    simp -implicitDefEqProofs only[go_sem,ap_get,ap_get0,ap_set,ap_set0,List.getElem?_cons_succ,List.set_cons_succ,List.cons_append,wkOvr,encTx]
    refine⟨by omega,vPC_ofS hJr (by simp -implicitDefEqProofs only[go_sem]) ?_⟩
    simp -implicitDefEqProofs only[go_sem,ap_get,ap_get0,ap_set,ap_set0,List.getElem?_cons_succ,List.set_cons_succ,List.cons_append,encTx]
    repeat' apply And.intro
    all_goals(
     refine Tmethod u hT.toCkW ub pre (dclU u) kn sg ab' _ _ _ _ hm.sg ?_
     intro sg2 hsg2
     rw[hms]
     simp -implicitDefEqProofs only[go_sem,ck4,ap_get,ap_get0,ap_set,ap_set0,List.getElem?_cons_succ,List.set_cons_succ,List.cons_append,encMt,Sg.enc])
    all_goals(
     refine snd_draw (cs:=[]) mixed (by kernel_rfl) ?_
     simp -implicitDefEqProofs only[go_sem,ap_get,ap_get0,ap_set,ap_set0,List.getElem?_cons_succ,List.set_cons_succ,List.cons_append]
     refine vPC_ofS (Jsign u (tabsU u) ub pre.length hl (hg.sign i hi h2)) (by simp -implicitDefEqProofs only[go_sem]) ?_
     generalize signR l i=t at hK ⊢
     simp -implicitDefEqProofs only[go_sem,ap_get,ap_get0,ap_set,ap_set0,List.getElem?_cons_succ,List.set_cons_succ,List.cons_append,Sg.enc]
     refine vPC_of (TsameSign s t) (by simp -implicitDefEqProofs only[go_sem,Sg.enc]) ?_
     simp -implicitDefEqProofs only[go_sem,ap_get,ap_get0,ap_set,ap_set0,List.getElem?_cons_succ,List.set_cons_succ,List.cons_append]
     exact⟨kn,sg2,ab',_,[],rfl,by simp,hK _ _ _ ⟨hm.kn,hsg2,hab'⟩⟩)
end Go.Proofs.YtamednbojpnalaaGreatDoor
