/- Type errors: arguments and operands. -/
import Derived.Test.YtamednbojpnalaaGreatDoorUcI
set_option linter.unusedVariables false
set_option linter.unusedSimpArgs false
set_option maxRecDepth 20000
namespace Go.Proofs.YtamednbojpnalaaGreatDoor
open Go Go.Vg Go.Proofs
def argL(u:List Un)(un:Nat)(l:List Rw)(i:Nat):Nat→List ByteArray→Bool
 | _,[]=>false
 | j,w::r=>if fitS u (tyS u ((un:Int),((kdAt l i j:Nat):Int))) w=true then argL u un l i (j+1) r else true
def argS(u:List Un)(un:Nat)(l:List Rw)(i:Nat)(from_:Nat)(params:List ByteArray):Bool:=if(rwAt l i).kids.length=from_+params.length then argL u un l i from_ params else true
theorem Targuments{u:List Un}(hT:CkT u)(ub:List Us)(pre:List VObj){un i:Nat}{l:List Rw}(hl:(tabsU u)[un]? = some l)(hi:i<l.length)(fr:Nat)(hfr:fr≤1)(s:Sg) :
  CkCall u ub pre 110 [.agg [.int .i64 un,.int .i64 i],.int .i64 fr,.agg s.enc] (.bool (argS u un l i fr s.params)):=by
 intro kn sg ab z a K hm hK
 have hg:=hT.gram l (List.mem_of_getElem? hl)
 have hkb:=(hg.ok.kids i hi).1
 refine VCalls.tidyCk ?_
 refine vcalls_vc (fn:=Tryz.f110) Tryz.func110 rfl (by rw[Tryz.ntmps110];simp) ?_
 simp -implicitDefEqProofs only[go_sem,Tryz.f110,ck4,ap_get,ap_get0,ap_set,ap_set0,List.getElem?_cons_succ,List.set_cons_succ,List.cons_append,Sg.enc]
 refine VPureJ.callsS (Jrow u (tabsU u) ub pre.length hl hi) (by simp -implicitDefEqProofs only[go_sem]) ?_
 have hks:=hg.kid i hi
 simp -implicitDefEqProofs only[go_sem,ap_get,ap_get0,ap_set,ap_set0,List.getElem?_cons_succ,List.set_cons_succ,List.cons_append]
 intro _ _ _ _
 have hwr:IntKind.i64.wrap (((rwAt l i).kids.length:Int) - fr)=((rwAt l i).kids.length:Int) - fr:=wrap_ok (by omega) (by omega)
 rw[hwr,argS]at *
 refine⟨fun hne=>?_,fun heq _ _=>?_⟩
 ·have hne':¬ ((rwAt l i).kids.length:Int) - fr=s.params.length:=by simpa using hne
  rw[if_neg (by omega)]at hK
  exact⟨kn,sg,ab,_,[],rfl,by simp,hK _ _ _ hm⟩
 ·have heq':((rwAt l i).kids.length:Int) - fr=s.params.length:=by simpa using heq
  rw[if_pos (by omega)]at hK
  refine snd_list (β:=KnM×SgM×AbM) s.params (fun q b=>⟨[(27,.int .i64 q.length),(26,.int .i64 s.params.length),(25,sl 9 (s.params.map encTx)),(5,.ptr (pre.length+(z.length+1+1+1+1)) 0),(0,.fptr (ckF u (tabsU u) ub pre.length)),(2,.int .i64 fr)],
    pre++ck4 (dclU u) b.1 b.2.1 b.2.2 (z++[.cells [.int .i64 un,.int .i64 i],.cells [sl 9 (s.params.map encTx),.str s.result]]),a⟩)
   (fun q r b=>Mems u b.1 b.2.1 b.2.2∧argL u un l i fr s.params=argL u un l i (fr+q.length) r) (kn,sg,ab) ?_ ⟨hm,rfl⟩ ?_ ?_
  ·simp -implicitDefEqProofs only[go_sem,ck4]
   exact⟨rfl,by omega⟩
  ·rintro⟨kn1,sg1,ab1⟩ ⟨hm1,he⟩
   simp -implicitDefEqProofs only[go_sem,ck4,ap_get,ap_get0,ap_set,ap_set0,List.getElem?_cons_succ,List.set_cons_succ,List.cons_append]
   rw[he]at hK
   exact⟨kn1,sg1,ab1,_,[],rfl,by simp,hK _ _ _ hm1⟩
  ·rintro q w r ⟨kn1,sg1,ab1⟩ hx ⟨hm1,he⟩
   simp only at hm1 ⊢
   have hpl:s.params.length=q.length+1+r.length:=by rw[hx];simp;omega
   have hgx:(s.params.map encTx).getD (q.length:Int).toNat []=encTx w:=by rw[hx];simp[List.getD_eq_getElem?_getD]
   have hlt:((q.length:Int)<s.params.length)=True:=by simp;omega
   have hw:IntKind.i64.wrap (↑q.length+1)=↑(q.length+1):=wrap_next (by omega)
   have hjl:fr+q.length<(rwAt l i).kids.length:=by omega
   have hkd:=hks _ hjl
   have hwk:IntKind.i64.wrap ((fr:Int)+q.length)=((fr+q.length:Nat):Int):=by rw[wrap_ok (by omega) (by omega)];omega
   rw[argL]at he
   simp -implicitDefEqProofs only[go_sem,hgx,hlt,encTx,ck4,ap_get,ap_get0,ap_set,ap_set0,List.getElem?_cons_succ,List.set_cons_succ,List.cons_append,hwk]
   refine VPureJ.callsS (Jkid u (tabsU u) ub pre.length hl hi hjl) (by simp -implicitDefEqProofs only[go_sem]) ?_
   simp -implicitDefEqProofs only[go_sem,ap_get,ap_get0,ap_set,ap_set0,List.getElem?_cons_succ,List.set_cons_succ,List.cons_append]
   refine Tof hT ub pre (k:=((un:Int),((kdAt l i (fr+q.length):Nat):Int))) ⟨un,_,l,rfl,hl,hkd.2.1⟩ kn1 sg1 ab1 _ _ _ hm1 ?_
   intro kn2 sg2 ab2 hm2
   simp -implicitDefEqProofs only[go_sem,ck4,ap_get,ap_get0,ap_set,ap_set0,List.getElem?_cons_succ,List.set_cons_succ,List.cons_append]
   refine Tfits hT.toCkW ub pre _ w kn2 sg2 ab2 _ _ _ hm2 ?_
   intro kn3 sg3 ab3 hm3
   simp -implicitDefEqProofs only[go_sem,ck4,ap_get,ap_get0,ap_set,ap_set0,List.getElem?_cons_succ,List.set_cons_succ,List.cons_append]
   cases hf:fitS u (tyS u ((un:Int),((kdAt l i (fr+q.length):Nat):Int))) w with
   | true =>
    rw[hf,if_pos rfl]at he
    exact⟨fun h=>(by cases h),fun _=>⟨(kn3,sg3,ab3),⟨hm3,by rw[he,Nat.add_assoc]⟩,hw,⟨rfl,rfl,rfl⟩,by omega⟩⟩
   | false =>
    rw[hf,if_neg (by simp)]at he
    rw[he]at hK
    exact⟨fun _=>⟨kn3,sg3,ab3,_,[],rfl,by simp,hK _ _ _ hm3⟩,fun h=>(by cases h)⟩
def plT(s:ByteArray):Bool:=decide (s=⟨#[]⟩) || (decide (s=tI) || decide (s=tB))
theorem Tplain(s:ByteArray):VPure env 153 [.str s] (.bool (plT s)):=by
 refine vpure_vc (fn:=Tryz.f153) Tryz.func153 rfl (by rw[Tryz.ntmps153];simp) rfl rfl ?_
 simp -implicitDefEqProofs only[go_sem,Tryz.f153,plT,tI,tB]
 by_cases h1:s=⟨#[]⟩
 ·simp[h1]
 by_cases h2:s=⟨#[105,110,116]⟩
 ·simp[h1,h2]
 simp[h1,h2]
 rfl
def opnT(u:List Un)(tx a b:ByteArray):Bool :=
 if tx=⟨#[61,61]⟩then !plT a || (!plT b || (!decide (a=⟨#[]⟩) && (!decide (b=⟨#[]⟩) && !decide (a=b))))
 else if tx=⟨#[38]⟩∨tx=⟨#[124]⟩then !fitS u a tB || !fitS u b tB
 else !fitS u a tI || !fitS u b tI
def opnS(u:List Un)(un:Nat)(l:List Rw)(i:Nat):Bool:=opnT u (rwAt l i).text (tyS u ((un:Int),((kdAt l i 0:Nat):Int))) (tyS u ((un:Int),((kdAt l i 1:Nat):Int)))
def wkOpn:Wk := .one 0 (.one 1 (.one 2 (.one 3 (.one 5 (.one 6 (.br 4 (.one 7 (.one 8 (.one 9 (.one 10 (.one 11 (.stop)))))) (.br 7 (.one 4 (.one 8 (.one 9 (.one 10 (.one 11 (.stop)))))) (.stop))))))))
theorem Toperands{u:List Un}(hT:CkT u)(ub:List Us)(pre:List VObj){un i:Nat}{l:List Rw}(hl:(tabsU u)[un]? = some l)(hi:i<l.length)(h24:(rwAt l i).kind=24) :
  CkCall u ub pre 113 [.agg [.int .i64 un,.int .i64 i]] (.bool (opnS u un l i)):=by
 intro kn sg ab z a K hm hK
 rw[opnS]at hK
 have hg:=hT.gram l (List.mem_of_getElem? hl)
 have hle:=hg.least i hi
 have hk2:2≤(rwAt l i).kids.length:=by rw[h24]at hle;simp[leastK]at hle;omega
 have hkd0:=hg.kid i hi 0 (by omega)
 have hkd1:=hg.kid i hi 1 (by omega)
 refine VCalls.tidyCk ?_
 refine vcalls_vc (fn:=Tryz.f113) Tryz.func113 rfl (by rw[Tryz.ntmps113];simp) ?_
 simp -implicitDefEqProofs only[go_sem,Tryz.f113,ck4,ap_get,ap_get0,ap_set,ap_set0,List.getElem?_cons_succ,List.set_cons_succ,List.cons_append]
 have hJ0:=Jkid u (tabsU u) ub pre.length (k:=0) hl hi (by omega)
 have hJ1:=Jkid u (tabsU u) ub pre.length (k:=1) hl hi (by omega)
 have hO0:=Tof hT ub pre (k:=((un:Int),((kdAt l i 0:Nat):Int))) ⟨un,_,l,rfl,hl,hkd0.2.1⟩
 have hO1:=Tof hT ub pre (k:=((un:Int),((kdAt l i 1:Nat):Int))) ⟨un,_,l,rfl,hl,hkd1.2.1⟩
 refine snd_walk (cs:=[4,9]) wkOpn mixed (by kernel_rfl) ?_
 simp -implicitDefEqProofs only[go_sem,ap_get,ap_get0,ap_set,ap_set0,List.getElem?_cons_succ,List.set_cons_succ,List.cons_append,wkOpn]
 refine vPC_ofS hJ0 (by simp -implicitDefEqProofs only[go_sem];rfl) ?_
 simp -implicitDefEqProofs only[go_sem,ap_get,ap_get0,ap_set,ap_set0,List.getElem?_cons_succ,List.set_cons_succ,List.cons_append]
 refine⟨?_,?_⟩
 ·refine hO0 kn sg ab _ _ _ hm ?_
  intro kn1 sg1 ab1 hm1
  simp -implicitDefEqProofs only[go_sem,ck4,ap_get,ap_get0,ap_set,ap_set0,List.getElem?_cons_succ,List.set_cons_succ,List.cons_append]
  refine vPC_ofS hJ1 (by simp -implicitDefEqProofs only[go_sem];rfl) ?_
  simp -implicitDefEqProofs only[go_sem,ap_get,ap_get0,ap_set,ap_set0,List.getElem?_cons_succ,List.set_cons_succ,List.cons_append]
  refine hO1 kn1 sg1 ab1 _ _ _ hm1 ?_
  intro kn2 sg2 ab2 hm2
  simp -implicitDefEqProofs only[go_sem,ck4,ap_get,ap_get0,ap_set,ap_set0,List.getElem?_cons_succ,List.set_cons_succ,List.cons_append]
  generalize tyS u ((un:Int),((kdAt l i 0:Nat):Int))=A at hK ⊢
  generalize tyS u ((un:Int),((kdAt l i 1:Nat):Int))=B at hK ⊢
  have hfin:∀ (q:Bool) kn' sg' ab',Mems u kn' sg' ab'→opnT u (rwAt l i).text A B=q→K (.bool q) (pre++ck4 (dclU u) kn' sg' ab' z) a:=fun q kn' sg' ab' hm' h=>h ▸ hK kn' sg' ab' hm'
  refine VPureJ.callsS (Jrow u (tabsU u) ub pre.length hl hi) (by simp -implicitDefEqProofs only[go_sem]) ?_
  by_cases t1:(rwAt l i).text=⟨#[61,61]⟩
  ·have hop:opnT u (rwAt l i).text A B=(!plT A || (!plT B || (!decide (A=⟨#[]⟩) && (!decide (B=⟨#[]⟩) && !decide (A=B))))):=by rw[opnT,if_pos t1]
   simp -implicitDefEqProofs only[go_sem,ap_get,ap_get0,ap_set,ap_set0,List.getElem?_cons_succ,List.set_cons_succ,List.cons_append,t1]
   refine(Tplain A).calls (by simp -implicitDefEqProofs only[go_sem]) ?_
   simp -implicitDefEqProofs only[go_sem,ap_get,ap_get0,ap_set,ap_set0,List.getElem?_cons_succ,List.set_cons_succ,List.cons_append]
   cases hpa:plT A with
   | false =>
    rw[hpa]at hop
    simp -implicitDefEqProofs only[go_sem]
    exact⟨kn2,sg2,ab2,_,[],rfl,by simp,hfin _ _ _ _ hm2 hop⟩
   | true =>
    rw[hpa,Bool.not_true,Bool.false_or]at hop
    simp -implicitDefEqProofs only[go_sem]
    refine(Tplain B).calls (by simp -implicitDefEqProofs only[go_sem]) ?_
    simp -implicitDefEqProofs only[go_sem,ap_get,ap_get0,ap_set,ap_set0,List.getElem?_cons_succ,List.set_cons_succ,List.cons_append]
    cases hpb:plT B with
    | false =>
     rw[hpb]at hop
     simp -implicitDefEqProofs only[go_sem]
     exact⟨kn2,sg2,ab2,_,[],rfl,by simp,hfin _ _ _ _ hm2 hop⟩
    | true =>
     rw[hpb,Bool.not_true,Bool.false_or]at hop
     simp -implicitDefEqProofs only[go_sem]
     refine⟨fun ha=>⟨fun hb=>?_,fun hb=>?_⟩,fun ha=>?_⟩
     ·rw[ha,hb,Bool.true_and,Bool.true_and]at hop
      exact⟨kn2,sg2,ab2,_,[],rfl,by simp,hfin _ _ _ _ hm2 hop⟩
     ·rw[hb,Bool.false_and,Bool.and_false]at hop
      exact⟨kn2,sg2,ab2,_,[],rfl,by simp,hfin _ _ _ _ hm2 hop⟩
     ·rw[ha,Bool.false_and]at hop
      exact⟨kn2,sg2,ab2,_,[],rfl,by simp,hfin _ _ _ _ hm2 hop⟩
  ·by_cases t2:(rwAt l i).text=⟨#[38]⟩∨(rwAt l i).text=⟨#[124]⟩
   ·have hop:opnT u (rwAt l i).text A B=(!fitS u A tB || !fitS u B tB):=by rw[opnT,if_neg t1,if_pos t2]
    rcases t2 with t2 | t2
    rotate_left
    have hn38:¬ (rwAt l i).text=⟨#[38]⟩:=by rw[t2];decide
    rotate_left
    ·simp -implicitDefEqProofs only[go_sem,ap_get,ap_get0,ap_set,ap_set0,List.getElem?_cons_succ,List.set_cons_succ,List.cons_append,t1,eq_true t2]
     refine Tfits hT.toCkW ub pre A tB kn2 sg2 ab2 _ _ _ hm2 ?_
     intro kn3 sg3 ab3 hm3
     simp -implicitDefEqProofs only[go_sem,ck4,ap_get,ap_get0,ap_set,ap_set0,List.getElem?_cons_succ,List.set_cons_succ,List.cons_append]
     cases hfa:fitS u A tB with
     | false =>
      rw[hfa]at hop
      simp -implicitDefEqProofs only[go_sem]
      exact⟨kn3,sg3,ab3,_,[],rfl,by simp,hfin _ _ _ _ hm3 hop⟩
     | true =>
      rw[hfa,Bool.not_true,Bool.false_or]at hop
      simp -implicitDefEqProofs only[go_sem]
      refine Tfits hT.toCkW ub pre B tB kn3 sg3 ab3 _ _ _ hm3 ?_
      intro kn4 sg4 ab4 hm4
      simp -implicitDefEqProofs only[go_sem,ck4,ap_get,ap_get0,ap_set,ap_set0,List.getElem?_cons_succ,List.set_cons_succ,List.cons_append]
      exact⟨kn4,sg4,ab4,_,[],rfl,by simp,hfin _ _ _ _ hm4 hop⟩
    ·simp -implicitDefEqProofs only[go_sem,ap_get,ap_get0,ap_set,ap_set0,List.getElem?_cons_succ,List.set_cons_succ,List.cons_append,t1,hn38,eq_true t2]
     refine Tfits hT.toCkW ub pre A tB kn2 sg2 ab2 _ _ _ hm2 ?_
     intro kn3 sg3 ab3 hm3
     simp -implicitDefEqProofs only[go_sem,ck4,ap_get,ap_get0,ap_set,ap_set0,List.getElem?_cons_succ,List.set_cons_succ,List.cons_append]
     cases hfa:fitS u A tB with
     | false =>
      rw[hfa]at hop
      simp -implicitDefEqProofs only[go_sem]
      exact⟨kn3,sg3,ab3,_,[],rfl,by simp,hfin _ _ _ _ hm3 hop⟩
     | true =>
      rw[hfa,Bool.not_true,Bool.false_or]at hop
      simp -implicitDefEqProofs only[go_sem]
      refine Tfits hT.toCkW ub pre B tB kn3 sg3 ab3 _ _ _ hm3 ?_
      intro kn4 sg4 ab4 hm4
      simp -implicitDefEqProofs only[go_sem,ck4,ap_get,ap_get0,ap_set,ap_set0,List.getElem?_cons_succ,List.set_cons_succ,List.cons_append]
      exact⟨kn4,sg4,ab4,_,[],rfl,by simp,hfin _ _ _ _ hm4 hop⟩
   ·have hop:opnT u (rwAt l i).text A B=(!fitS u A tI || !fitS u B tI):=by rw[opnT,if_neg t1,if_neg t2]
    rw[not_or]at t2
    simp -implicitDefEqProofs only[go_sem,ap_get,ap_get0,ap_set,ap_set0,List.getElem?_cons_succ,List.set_cons_succ,List.cons_append,t1,t2.1,t2.2]
    refine Tfits hT.toCkW ub pre A tI kn2 sg2 ab2 _ _ _ hm2 ?_
    intro kn3 sg3 ab3 hm3
    simp -implicitDefEqProofs only[go_sem,ck4,ap_get,ap_get0,ap_set,ap_set0,List.getElem?_cons_succ,List.set_cons_succ,List.cons_append]
    cases hfa:fitS u A tI with
    | false =>
     rw[hfa]at hop
     simp -implicitDefEqProofs only[go_sem]
     exact⟨kn3,sg3,ab3,_,[],rfl,by simp,hfin _ _ _ _ hm3 hop⟩
    | true =>
     rw[hfa,Bool.not_true,Bool.false_or]at hop
     simp -implicitDefEqProofs only[go_sem]
     refine Tfits hT.toCkW ub pre B tI kn3 sg3 ab3 _ _ _ hm3 ?_
     intro kn4 sg4 ab4 hm4
     simp -implicitDefEqProofs only[go_sem,ck4,ap_get,ap_get0,ap_set,ap_set0,List.getElem?_cons_succ,List.set_cons_succ,List.cons_append]
     exact⟨kn4,sg4,ab4,_,[],rfl,by simp,hfin _ _ _ _ hm4 hop⟩
 ·refine hO0 kn sg ab _ _ _ hm ?_
  intro kn1 sg1 ab1 hm1
  simp -implicitDefEqProofs only[go_sem,ck4,ap_get,ap_get0,ap_set,ap_set0,List.getElem?_cons_succ,List.set_cons_succ,List.cons_append]
  refine vPC_ofS hJ1 (by simp -implicitDefEqProofs only[go_sem];rfl) ?_
  simp -implicitDefEqProofs only[go_sem,ap_get,ap_get0,ap_set,ap_set0,List.getElem?_cons_succ,List.set_cons_succ,List.cons_append]
  refine hO1 kn1 sg1 ab1 _ _ _ hm1 ?_
  intro kn2 sg2 ab2 hm2
  simp -implicitDefEqProofs only[go_sem,ck4,ap_get,ap_get0,ap_set,ap_set0,List.getElem?_cons_succ,List.set_cons_succ,List.cons_append]
  generalize tyS u ((un:Int),((kdAt l i 0:Nat):Int))=A at hK ⊢
  generalize tyS u ((un:Int),((kdAt l i 1:Nat):Int))=B at hK ⊢
  have hfin:∀ (q:Bool) kn' sg' ab',Mems u kn' sg' ab'→opnT u (rwAt l i).text A B=q→K (.bool q) (pre++ck4 (dclU u) kn' sg' ab' z) a:=fun q kn' sg' ab' hm' h=>h ▸ hK kn' sg' ab' hm'
  refine VPureJ.callsS (Jrow u (tabsU u) ub pre.length hl hi) (by simp -implicitDefEqProofs only[go_sem]) ?_
  by_cases t1:(rwAt l i).text=⟨#[61,61]⟩
  ·have hop:opnT u (rwAt l i).text A B=(!plT A || (!plT B || (!decide (A=⟨#[]⟩) && (!decide (B=⟨#[]⟩) && !decide (A=B))))):=by rw[opnT,if_pos t1]
   simp -implicitDefEqProofs only[go_sem,ap_get,ap_get0,ap_set,ap_set0,List.getElem?_cons_succ,List.set_cons_succ,List.cons_append,t1]
   refine(Tplain A).calls (by simp -implicitDefEqProofs only[go_sem]) ?_
   simp -implicitDefEqProofs only[go_sem,ap_get,ap_get0,ap_set,ap_set0,List.getElem?_cons_succ,List.set_cons_succ,List.cons_append]
   cases hpa:plT A with
   | false =>
    rw[hpa]at hop
    simp -implicitDefEqProofs only[go_sem]
    exact⟨kn2,sg2,ab2,_,[],rfl,by simp,hfin _ _ _ _ hm2 hop⟩
   | true =>
    rw[hpa,Bool.not_true,Bool.false_or]at hop
    simp -implicitDefEqProofs only[go_sem]
    refine(Tplain B).calls (by simp -implicitDefEqProofs only[go_sem]) ?_
    simp -implicitDefEqProofs only[go_sem,ap_get,ap_get0,ap_set,ap_set0,List.getElem?_cons_succ,List.set_cons_succ,List.cons_append]
    cases hpb:plT B with
    | false =>
     rw[hpb]at hop
     simp -implicitDefEqProofs only[go_sem]
     exact⟨kn2,sg2,ab2,_,[],rfl,by simp,hfin _ _ _ _ hm2 hop⟩
    | true =>
     rw[hpb,Bool.not_true,Bool.false_or]at hop
     simp -implicitDefEqProofs only[go_sem]
     refine⟨fun ha=>⟨fun hb=>?_,fun hb=>?_⟩,fun ha=>?_⟩
     ·rw[ha,hb,Bool.true_and,Bool.true_and]at hop
      exact⟨kn2,sg2,ab2,_,[],rfl,by simp,hfin _ _ _ _ hm2 hop⟩
     ·rw[hb,Bool.false_and,Bool.and_false]at hop
      exact⟨kn2,sg2,ab2,_,[],rfl,by simp,hfin _ _ _ _ hm2 hop⟩
     ·rw[ha,Bool.false_and]at hop
      exact⟨kn2,sg2,ab2,_,[],rfl,by simp,hfin _ _ _ _ hm2 hop⟩
  ·by_cases t2:(rwAt l i).text=⟨#[38]⟩∨(rwAt l i).text=⟨#[124]⟩
   ·have hop:opnT u (rwAt l i).text A B=(!fitS u A tB || !fitS u B tB):=by rw[opnT,if_neg t1,if_pos t2]
    rcases t2 with t2 | t2
    rotate_left
    have hn38:¬ (rwAt l i).text=⟨#[38]⟩:=by rw[t2];decide
    rotate_left
    ·simp -implicitDefEqProofs only[go_sem,ap_get,ap_get0,ap_set,ap_set0,List.getElem?_cons_succ,List.set_cons_succ,List.cons_append,t1,eq_true t2]
     refine Tfits hT.toCkW ub pre A tB kn2 sg2 ab2 _ _ _ hm2 ?_
     intro kn3 sg3 ab3 hm3
     simp -implicitDefEqProofs only[go_sem,ck4,ap_get,ap_get0,ap_set,ap_set0,List.getElem?_cons_succ,List.set_cons_succ,List.cons_append]
     cases hfa:fitS u A tB with
     | false =>
      rw[hfa]at hop
      simp -implicitDefEqProofs only[go_sem]
      exact⟨kn3,sg3,ab3,_,[],rfl,by simp,hfin _ _ _ _ hm3 hop⟩
     | true =>
      rw[hfa,Bool.not_true,Bool.false_or]at hop
      simp -implicitDefEqProofs only[go_sem]
      refine Tfits hT.toCkW ub pre B tB kn3 sg3 ab3 _ _ _ hm3 ?_
      intro kn4 sg4 ab4 hm4
      simp -implicitDefEqProofs only[go_sem,ck4,ap_get,ap_get0,ap_set,ap_set0,List.getElem?_cons_succ,List.set_cons_succ,List.cons_append]
      exact⟨kn4,sg4,ab4,_,[],rfl,by simp,hfin _ _ _ _ hm4 hop⟩
    ·simp -implicitDefEqProofs only[go_sem,ap_get,ap_get0,ap_set,ap_set0,List.getElem?_cons_succ,List.set_cons_succ,List.cons_append,t1,hn38,eq_true t2]
     refine Tfits hT.toCkW ub pre A tB kn2 sg2 ab2 _ _ _ hm2 ?_
     intro kn3 sg3 ab3 hm3
     simp -implicitDefEqProofs only[go_sem,ck4,ap_get,ap_get0,ap_set,ap_set0,List.getElem?_cons_succ,List.set_cons_succ,List.cons_append]
     cases hfa:fitS u A tB with
     | false =>
      rw[hfa]at hop
      simp -implicitDefEqProofs only[go_sem]
      exact⟨kn3,sg3,ab3,_,[],rfl,by simp,hfin _ _ _ _ hm3 hop⟩
     | true =>
      rw[hfa,Bool.not_true,Bool.false_or]at hop
      simp -implicitDefEqProofs only[go_sem]
      refine Tfits hT.toCkW ub pre B tB kn3 sg3 ab3 _ _ _ hm3 ?_
      intro kn4 sg4 ab4 hm4
      simp -implicitDefEqProofs only[go_sem,ck4,ap_get,ap_get0,ap_set,ap_set0,List.getElem?_cons_succ,List.set_cons_succ,List.cons_append]
      exact⟨kn4,sg4,ab4,_,[],rfl,by simp,hfin _ _ _ _ hm4 hop⟩
   ·have hop:opnT u (rwAt l i).text A B=(!fitS u A tI || !fitS u B tI):=by rw[opnT,if_neg t1,if_neg t2]
    rw[not_or]at t2
    simp -implicitDefEqProofs only[go_sem,ap_get,ap_get0,ap_set,ap_set0,List.getElem?_cons_succ,List.set_cons_succ,List.cons_append,t1,t2.1,t2.2]
    refine Tfits hT.toCkW ub pre A tI kn2 sg2 ab2 _ _ _ hm2 ?_
    intro kn3 sg3 ab3 hm3
    simp -implicitDefEqProofs only[go_sem,ck4,ap_get,ap_get0,ap_set,ap_set0,List.getElem?_cons_succ,List.set_cons_succ,List.cons_append]
    cases hfa:fitS u A tI with
    | false =>
     rw[hfa]at hop
     simp -implicitDefEqProofs only[go_sem]
     exact⟨kn3,sg3,ab3,_,[],rfl,by simp,hfin _ _ _ _ hm3 hop⟩
    | true =>
     rw[hfa,Bool.not_true,Bool.false_or]at hop
     simp -implicitDefEqProofs only[go_sem]
     refine Tfits hT.toCkW ub pre B tI kn3 sg3 ab3 _ _ _ hm3 ?_
     intro kn4 sg4 ab4 hm4
     simp -implicitDefEqProofs only[go_sem,ck4,ap_get,ap_get0,ap_set,ap_set0,List.getElem?_cons_succ,List.set_cons_succ,List.cons_append]
     exact⟨kn4,sg4,ab4,_,[],rfl,by simp,hfin _ _ _ _ hm4 hop⟩
end Go.Proofs.YtamednbojpnalaaGreatDoor
set_option maxRecDepth 20000
namespace Go.Proofs.YtamednbojpnalaaGreatDoor
open Go Go.Vg Go.Proofs
def wrS(u:List Un)(un:Nat)(l:List Rw)(i:Nat):Bool :=
 let k0:=tyS u ((un:Int),((kdAt l i 0:Nat):Int))
 if(rwAt l i).kind=2 then ovrS u l i
 else if(rwAt l i).kind=11 then(match getM (dclU u) ((un:Int),(i:Int))with
  | some d=>if(rwK (tabsU u) d).kind=9 then false else !decide (varB (tabsU u) (tyS u) d=⟨#[]⟩) && !fitS u k0 (varB (tabsU u) (tyS u) d)
  | none=>false)
 else if(rwAt l i).kind=12 then(match funR l i with
  | some f => !fitS u k0 (signR l f).result
  | none=>false)
 else if(rwAt l i).kind=13∨(rwAt l i).kind=15 then !fitS u k0 tB
 else if(rwAt l i).kind=20 then(match getM (dclU u) ((un:Int),(i:Int))with
  | some d=>argS u un l i 0 (signR ((tabsU u).getD d.1.toNat []) d.2.toNat).params
  | none=>false)
 else if(rwAt l i).kind=21 then(if k0=⟨#[]⟩then false else match mtS u (rcT k0,(rwAt l i).text)with
  | some m=>argS u un l i 1 m.params
  | none=>true)
 else if(rwAt l i).kind=24 then opnS u un l i
 else if(rwAt l i).kind=25 then !fitS u k0 (if(rwAt l i).text=⟨#[33]⟩then tB else tI)
 else false
def wkRet:Wk := .one 0 (.one 1 (.one 2 (.one 3 (.one 4 (.one 5 (.one 6 (.one 8 (.br 7 (.one 9 (.one 10 (.one 11 (.one 12 (.one 13 (.one 14 (.one 15 (.stop)))))))) (.br 9 (.one 7 (.one 10 (.one 11 (.one 12 (.one 13 (.one 14 (.one 15 (.stop)))))))) (.stop))))))))))
def wkCal:Wk := .one 0 (.one 1 (.one 2 (.one 3 (.one 4 (.one 5 (.one 6 (.one 7 (.one 8 (.one 9 (.stop))))))))))
theorem Twrong{u:List Un}(hT:CkT u)(ub:List Us)(pre:List VObj){un i:Nat}{l:List Rw}(hl:(tabsU u)[un]? = some l)(hi:i<l.length) :
  CkCall u ub pre 79 [.agg [.int .i64 un,.int .i64 i]] (.bool (wrS u un l i)):=by
 intro kn sg ab z a K hm hK
 simp only[wrS]at hK
 have hvk:Val (tabsU u) ((un:Int),(i:Int)):=⟨un,i,l,rfl,hl,hi⟩
 have hd19:=hT.d19 ((un:Int),(i:Int))
 have hd20:=hT.d20 ((un:Int),(i:Int))
 rw[rwK_at hl]at hd19 hd20
 have hg:=hT.gram l (List.mem_of_getElem? hl)
 have hle:=hg.least i hi
 have hkd:=hg.kid i hi
 have hJ0:=fun h=>Jkid u (tabsU u) ub pre.length (k:=0) hl hi h
 have hO0:0<(rwAt l i).kids.length→OfOK u ub pre ((un:Int),((kdAt l i 0:Nat):Int)):=fun h=>Tof hT ub pre ⟨un,_,l,rfl,hl,(hkd 0 h).2.1⟩
 refine VCalls.tidyCk ?_
 refine vcalls_vc (fn:=Tryz.f79) Tryz.func79 rfl (by rw[Tryz.ntmps79];simp) ?_
 by_cases h2:(rwAt l i).kind=2
 ·rw[if_pos h2]at hK
  simp -implicitDefEqProofs only[go_sem,Tryz.f79,ck4,ap_get,ap_get0,ap_set,ap_set0,List.getElem?_cons_succ,List.set_cons_succ,List.cons_append]
  refine VPureJ.callsS (Jrow u (tabsU u) ub pre.length hl hi) (by simp -implicitDefEqProofs only[go_sem]) ?_
  simp -implicitDefEqProofs only[go_sem,ap_get,ap_get0,ap_set,ap_set0,List.getElem?_cons_succ,List.set_cons_succ,List.cons_append,h2]
  refine Toverrides hT ub pre hl hi h2 kn sg ab _ _ _ hm ?_
  intro kn1 sg1 ab1 hm1
  simp -implicitDefEqProofs only[go_sem,ck4,ap_get,ap_get0,ap_set,ap_set0,List.getElem?_cons_succ,List.set_cons_succ,List.cons_append]
  exact⟨kn1,sg1,ab1,_,[],rfl,by simp,hK _ _ _ hm1⟩
 rw[if_neg h2]at hK
 by_cases h11:(rwAt l i).kind=11
 ·rw[if_pos h11]at hK
  have hk1:0<(rwAt l i).kids.length:=by rw[h11]at hle;simp[leastK]at hle;omega
  simp -implicitDefEqProofs only[go_sem,Tryz.f79,ck4,ap_get,ap_get0,ap_set,ap_set0,List.getElem?_cons_succ,List.set_cons_succ,List.cons_append]
  refine VPureJ.callsS (Jrow u (tabsU u) ub pre.length hl hi) (by simp -implicitDefEqProofs only[go_sem]) ?_
  simp -implicitDefEqProofs only[go_sem,ap_get,ap_get0,ap_set,ap_set0,List.getElem?_cons_succ,List.set_cons_succ,List.cons_append,h11]
  refine snd_draw (cs:=[]) mixed (by kernel_rfl) ?_
  cases hd:getM (dclU u) ((un:Int),(i:Int))with
  | none =>
   rw[hd]at hK
   simp -implicitDefEqProofs only[go_sem,ap_get,ap_get0,ap_set,ap_set0,List.getElem?_cons_succ,List.set_cons_succ,List.cons_append,flat_Ref,look_D,hd,Option.map_none,Option.getD_none,Option.isSome_none]
   exact⟨kn,sg,ab,_,[],rfl,by simp,hK _ _ _ hm⟩
  | some d =>
   obtain⟨hdv,hdk⟩:=hd19 d hvk (.inr h11) hd
   rw[hd]at hK
   simp -implicitDefEqProofs only[go_sem,ap_get,ap_get0,ap_set,ap_set0,List.getElem?_cons_succ,List.set_cons_succ,List.cons_append,flat_Ref,look_D,hd,Option.map_some,Option.getD_some,Option.isSome_some,encK]
   obtain⟨un',i',l',rfl,hl',hi'⟩:=id hdv
   simp only at hK
   rw[rwK_at hl']at hdk hK
   refine VPureJ.callsS (Jrow u (tabsU u) ub pre.length hl' hi') (by simp -implicitDefEqProofs only[go_sem]) ?_
   by_cases h9:(rwAt l' i').kind=9
   ·simp only[h9,if_true]at hK
    simp -implicitDefEqProofs only[go_sem,ap_get,ap_get0,ap_set,ap_set0,List.getElem?_cons_succ,List.set_cons_succ,List.cons_append,h9]
    exact⟨kn,sg,ab,_,[],rfl,by simp,hK _ _ _ hm⟩
   ·simp only[if_neg h9]at hK
    simp -implicitDefEqProofs only[go_sem,ap_get,ap_get0,ap_set,ap_set0,List.getElem?_cons_succ,List.set_cons_succ,List.cons_append,h9]
    refine Tvariable hT ub pre hdv (by rw[rwK_at hl'];exact hdk) (fun h10=>?_) kn sg ab _ _ _ hm ?_
    ·rw[kdK_at hl']
     have hg':=hT.gram l' (List.mem_of_getElem? hl')
     have hle':=hg'.least i' hi'
     rw[rwK_at hl']at h10
     exact Tof hT ub pre ⟨un',_,l',rfl,hl',(hg'.kid i' hi' 0 (by rw[h10]at hle';simp[leastK]at hle';omega)).2.1⟩
    intro kn1 sg1 ab1 hm1
    generalize varB (tabsU u) (tyS u) ((un':Int),(i':Int))=wt at hK ⊢
    simp -implicitDefEqProofs only[go_sem,ck4,ap_get,ap_get0,ap_set,ap_set0,List.getElem?_cons_succ,List.set_cons_succ,List.cons_append]
    refine⟨fun hne=>?_,fun hne=>?_⟩
    ·rw[hne,Bool.true_and]at hK
     refine VPureJ.callsS (hJ0 hk1) (by simp -implicitDefEqProofs only[go_sem];rfl) ?_
     simp -implicitDefEqProofs only[go_sem,ap_get,ap_get0,ap_set,ap_set0,List.getElem?_cons_succ,List.set_cons_succ,List.cons_append]
     refine hO0 hk1 kn1 sg1 ab1 _ _ _ hm1 ?_
     intro kn2 sg2 ab2 hm2
     simp -implicitDefEqProofs only[go_sem,ck4,ap_get,ap_get0,ap_set,ap_set0,List.getElem?_cons_succ,List.set_cons_succ,List.cons_append]
     refine Tfits hT.toCkW ub pre _ wt kn2 sg2 ab2 _ _ _ hm2 ?_
     intro kn3 sg3 ab3 hm3
     simp -implicitDefEqProofs only[go_sem,ck4,ap_get,ap_get0,ap_set,ap_set0,List.getElem?_cons_succ,List.set_cons_succ,List.cons_append]
     exact⟨kn3,sg3,ab3,_,[],rfl,by simp,hK _ _ _ hm3⟩
    ·rw[hne,Bool.false_and]at hK
     exact⟨kn1,sg1,ab1,_,[],rfl,by simp,hK _ _ _ hm1⟩
 rw[if_neg h11]at hK
 by_cases h12:(rwAt l i).kind=12
 ·rw[if_pos h12]at hK
  have hk1:0<(rwAt l i).kids.length:=by rw[h12]at hle;simp[leastK]at hle;omega
  simp -implicitDefEqProofs only[go_sem,Tryz.f79,ck4,ap_get,ap_get0,ap_set,ap_set0,List.getElem?_cons_succ,List.set_cons_succ,List.cons_append]
  refine VPureJ.callsS (Jrow u (tabsU u) ub pre.length hl hi) (by simp -implicitDefEqProofs only[go_sem]) ?_
  simp -implicitDefEqProofs only[go_sem,ap_get,ap_get0,ap_set,ap_set0,List.getElem?_cons_succ,List.set_cons_succ,List.cons_append,h12]
  have hJ:=Jfunction u (tabsU u) ub pre.length hl hi hg.ok
  cases hfr:funR l i with
  | none =>
   rw[hfr]at hJ hK
   refine VPureJ.callsS hJ (by simp -implicitDefEqProofs only[go_sem]) ?_
   simp -implicitDefEqProofs only[go_sem,ap_get,ap_get0,ap_set,ap_set0,List.getElem?_cons_succ,List.set_cons_succ,List.cons_append,Option.isSome_none]
   refine snd_walk (cs:=[7,12]) wkRet mixed (by kernel_rfl) ?_
   simp -implicitDefEqProofs only[go_sem,ap_get,ap_get0,ap_set,ap_set0,List.getElem?_cons_succ,List.set_cons_succ,List.cons_append,wkRet]
   exact⟨kn,sg,ab,_,[],rfl,by simp,hK _ _ _ hm⟩
  | some p =>
   obtain⟨hp1,hp2,hp3⟩:=funR_some hg hi hfr
   rw[hfr]at hJ hK
   refine VPureJ.callsS hJ (by simp -implicitDefEqProofs only[go_sem]) ?_
   simp -implicitDefEqProofs only[go_sem,ap_get,ap_get0,ap_set,ap_set0,List.getElem?_cons_succ,List.set_cons_succ,List.cons_append,Option.isSome_some,Option.getD_some]
   refine snd_walk (cs:=[7,12]) wkRet mixed (by kernel_rfl) ?_
   simp -implicitDefEqProofs only[go_sem,ap_get,ap_get0,ap_set,ap_set0,List.getElem?_cons_succ,List.set_cons_succ,List.cons_append,wkRet]
   refine vPC_ofS (hJ0 hk1) (by simp -implicitDefEqProofs only[go_sem];rfl) ?_
   simp -implicitDefEqProofs only[go_sem,ap_get,ap_get0,ap_set,ap_set0,List.getElem?_cons_succ,List.set_cons_succ,List.cons_append]
   repeat' apply And.intro
   all_goals(
    refine hO0 hk1 kn sg ab _ _ _ hm ?_
    intro kn1 sg1 ab1 hm1
    simp -implicitDefEqProofs only[go_sem,ck4,ap_get,ap_get0,ap_set,ap_set0,List.getElem?_cons_succ,List.set_cons_succ,List.cons_append])
   all_goals(repeat' apply And.intro)
   all_goals(
    refine vPC_ofS (Jsign u (tabsU u) ub pre.length hl (hg.sign p hp1 hp2)) (by simp -implicitDefEqProofs only[go_sem]) ?_
    simp -implicitDefEqProofs only[go_sem,ck4,ap_get,ap_get0,ap_set,ap_set0,List.getElem?_cons_succ,List.set_cons_succ,List.cons_append,Sg.enc]
    refine Tfits hT.toCkW ub pre _ (signR l p).result kn1 sg1 ab1 _ _ _ hm1 ?_
    intro kn2 sg2 ab2 hm2
    simp -implicitDefEqProofs only[go_sem,ck4,ap_get,ap_get0,ap_set,ap_set0,List.getElem?_cons_succ,List.set_cons_succ,List.cons_append]
    exact⟨kn2,sg2,ab2,_,[],rfl,by simp,hK _ _ _ hm2⟩)
 rw[if_neg h12]at hK
 by_cases h13:(rwAt l i).kind=13∨(rwAt l i).kind=15
 ·rw[if_pos h13]at hK
  have hk1:0<(rwAt l i).kids.length:=by rcases h13 with h13 | h13 <;> (rw[h13]at hle;simp[leastK]at hle;omega)
  rcases h13 with h13 | h13
  ·simp -implicitDefEqProofs only[go_sem,Tryz.f79,ck4,ap_get,ap_get0,ap_set,ap_set0,List.getElem?_cons_succ,List.set_cons_succ,List.cons_append]
   refine VPureJ.callsS (Jrow u (tabsU u) ub pre.length hl hi) (by simp -implicitDefEqProofs only[go_sem]) ?_
   simp -implicitDefEqProofs only[go_sem,ap_get,ap_get0,ap_set,ap_set0,List.getElem?_cons_succ,List.set_cons_succ,List.cons_append,h13]
   refine VPureJ.callsS (hJ0 hk1) (by simp -implicitDefEqProofs only[go_sem];rfl) ?_
   simp -implicitDefEqProofs only[go_sem,ap_get,ap_get0,ap_set,ap_set0,List.getElem?_cons_succ,List.set_cons_succ,List.cons_append]
   refine hO0 hk1 kn sg ab _ _ _ hm ?_
   intro kn1 sg1 ab1 hm1
   simp -implicitDefEqProofs only[go_sem,ck4,ap_get,ap_get0,ap_set,ap_set0,List.getElem?_cons_succ,List.set_cons_succ,List.cons_append]
   refine Tfits hT.toCkW ub pre _ tB kn1 sg1 ab1 _ _ _ hm1 ?_
   intro kn2 sg2 ab2 hm2
   simp -implicitDefEqProofs only[go_sem,ck4,ap_get,ap_get0,ap_set,ap_set0,List.getElem?_cons_succ,List.set_cons_succ,List.cons_append]
   exact⟨kn2,sg2,ab2,_,[],rfl,by simp,hK _ _ _ hm2⟩
  ·simp -implicitDefEqProofs only[go_sem,Tryz.f79,ck4,ap_get,ap_get0,ap_set,ap_set0,List.getElem?_cons_succ,List.set_cons_succ,List.cons_append]
   refine VPureJ.callsS (Jrow u (tabsU u) ub pre.length hl hi) (by simp -implicitDefEqProofs only[go_sem]) ?_
   simp -implicitDefEqProofs only[go_sem,ap_get,ap_get0,ap_set,ap_set0,List.getElem?_cons_succ,List.set_cons_succ,List.cons_append,h13]
   refine VPureJ.callsS (hJ0 hk1) (by simp -implicitDefEqProofs only[go_sem];rfl) ?_
   simp -implicitDefEqProofs only[go_sem,ap_get,ap_get0,ap_set,ap_set0,List.getElem?_cons_succ,List.set_cons_succ,List.cons_append]
   refine hO0 hk1 kn sg ab _ _ _ hm ?_
   intro kn1 sg1 ab1 hm1
   simp -implicitDefEqProofs only[go_sem,ck4,ap_get,ap_get0,ap_set,ap_set0,List.getElem?_cons_succ,List.set_cons_succ,List.cons_append]
   refine Tfits hT.toCkW ub pre _ tB kn1 sg1 ab1 _ _ _ hm1 ?_
   intro kn2 sg2 ab2 hm2
   simp -implicitDefEqProofs only[go_sem,ck4,ap_get,ap_get0,ap_set,ap_set0,List.getElem?_cons_succ,List.set_cons_succ,List.cons_append]
   exact⟨kn2,sg2,ab2,_,[],rfl,by simp,hK _ _ _ hm2⟩
 rw[if_neg h13]at hK
 rw[not_or]at h13
 by_cases h20:(rwAt l i).kind=20
 ·rw[if_pos h20]at hK
  simp -implicitDefEqProofs only[go_sem,Tryz.f79,ck4,ap_get,ap_get0,ap_set,ap_set0,List.getElem?_cons_succ,List.set_cons_succ,List.cons_append]
  refine VPureJ.callsS (Jrow u (tabsU u) ub pre.length hl hi) (by simp -implicitDefEqProofs only[go_sem]) ?_
  simp -implicitDefEqProofs only[go_sem,ap_get,ap_get0,ap_set,ap_set0,List.getElem?_cons_succ,List.set_cons_succ,List.cons_append,h20]
  refine snd_draw (cs:=[]) mixed (by kernel_rfl) ?_
  cases hd:getM (dclU u) ((un:Int),(i:Int))with
  | none =>
   rw[hd]at hK
   simp -implicitDefEqProofs only[go_sem,ap_get,ap_get0,ap_set,ap_set0,List.getElem?_cons_succ,List.set_cons_succ,List.cons_append,flat_Ref,look_D,hd,Option.map_none,Option.getD_none,Option.isSome_none]
   refine snd_walk (cs:=[7]) wkCal mixed (by kernel_rfl) ?_
   simp -implicitDefEqProofs only[go_sem,ap_get,ap_get0,ap_set,ap_set0,List.getElem?_cons_succ,List.set_cons_succ,List.cons_append,wkCal]
   exact⟨kn,sg,ab,_,[],rfl,by simp,hK _ _ _ hm⟩
  | some d =>
   obtain⟨⟨un',i',l',rfl,hl',hi'⟩,hdk⟩:=hd20 d hvk h20 hd
   rw[rwK_at hl']at hdk
   have hso:=(hT.gram l' (List.mem_of_getElem? hl')).sign i' hi' hdk
   rw[hd]at hK
   simp only[tb_at hl',Int.toNat_natCast]at hK
   simp -implicitDefEqProofs only[go_sem,ap_get,ap_get0,ap_set,ap_set0,List.getElem?_cons_succ,List.set_cons_succ,List.cons_append,flat_Ref,look_D,hd,Option.map_some,Option.getD_some,Option.isSome_some,encK]
   have hlx:(tabsU u).getD un' []=l':=by rw[List.getD_eq_getElem?_getD,hl'];rfl
   rw[hlx]at hK
   refine snd_walk (cs:=[7]) wkCal mixed (by kernel_rfl) ?_
   simp -implicitDefEqProofs only[go_sem,ap_get,ap_get0,ap_set,ap_set0,List.getElem?_cons_succ,List.set_cons_succ,List.cons_append,wkCal]
   refine vPC_ofS (Jsign u (tabsU u) ub pre.length hl' hso) (by simp -implicitDefEqProofs only[go_sem]) ?_
   simp -implicitDefEqProofs only[go_sem,ap_get,ap_get0,ap_set,ap_set0,List.getElem?_cons_succ,List.set_cons_succ,List.cons_append]
   refine Targuments hT ub pre hl hi 0 (by omega) (signR l' i') kn sg ab _ _ _ hm ?_
   intro kn1 sg1 ab1 hm1
   simp -implicitDefEqProofs only[go_sem,ck4,ap_get,ap_get0,ap_set,ap_set0,List.getElem?_cons_succ,List.set_cons_succ,List.cons_append]
   exact⟨kn1,sg1,ab1,_,[],rfl,by simp,hK _ _ _ hm1⟩
 rw[if_neg h20]at hK
 by_cases h21:(rwAt l i).kind=21
 ·rw[if_pos h21]at hK
  have hk1:0<(rwAt l i).kids.length:=by rw[h21]at hle;simp[leastK]at hle;omega
  simp -implicitDefEqProofs only[go_sem,Tryz.f79,ck4,ap_get,ap_get0,ap_set,ap_set0,List.getElem?_cons_succ,List.set_cons_succ,List.cons_append]
  refine VPureJ.callsS (Jrow u (tabsU u) ub pre.length hl hi) (by simp -implicitDefEqProofs only[go_sem]) ?_
  simp -implicitDefEqProofs only[go_sem,ap_get,ap_get0,ap_set,ap_set0,List.getElem?_cons_succ,List.set_cons_succ,List.cons_append,h21]
  refine VPureJ.callsS (hJ0 hk1) (by simp -implicitDefEqProofs only[go_sem];rfl) ?_
  simp -implicitDefEqProofs only[go_sem,ap_get,ap_get0,ap_set,ap_set0,List.getElem?_cons_succ,List.set_cons_succ,List.cons_append]
  refine hO0 hk1 kn sg ab _ _ _ hm ?_
  intro kn1 sg1 ab1 hm1
  have hRc:=Treceiver ub pre hl hi hk1 (hO0 hk1)
  generalize hA:tyS u ((un:Int),((kdAt l i 0:Nat):Int))=A at hK hRc ⊢
  simp -implicitDefEqProofs only[go_sem,ck4,ap_get,ap_get0,ap_set,ap_set0,List.getElem?_cons_succ,List.set_cons_succ,List.cons_append]
  refine⟨fun h0=>?_,fun h0=>?_⟩
  ·rw[if_pos h0]at hK
   exact⟨kn1,sg1,ab1,_,[],rfl,by simp,hK _ _ _ hm1⟩
  ·rw[if_neg h0]at hK
   cases hms:mtS u (rcT A,(rwAt l i).text)with
   | none =>
    rw[hms]at hK
    refine snd_walk (cs:=[3,6]) wkSend mixed (by kernel_rfl) ?_
    simp -implicitDefEqProofs only[go_sem,ap_get,ap_get0,ap_set,ap_set0,List.getElem?_cons_succ,List.set_cons_succ,List.cons_append,wkSend]
    repeat' apply And.intro
    all_goals(
     refine hRc kn1 sg1 ab1 _ _ _ hm1 ?_
     intro kn2 sg2 ab2 hm2
     simp -implicitDefEqProofs only[go_sem,ck4,ap_get,ap_get0,ap_set,ap_set0,List.getElem?_cons_succ,List.set_cons_succ,List.cons_append])
    all_goals(repeat' apply And.intro)
    all_goals(
     refine Tmethod u hT.toCkW ub pre (dclU u) kn2 sg2 ab2 _ _ _ _ hm2.sg ?_
     intro sg3 hsg3
     rw[hms]
     simp -implicitDefEqProofs only[go_sem,ck4,ap_get,ap_get0,ap_set,ap_set0,List.getElem?_cons_succ,List.set_cons_succ,List.cons_append,encMt,Sg.enc])
    all_goals exact⟨kn2,sg3,ab2,_,[],rfl,by simp,hK _ _ _ ⟨hm2.kn,hsg3,hm2.ab⟩⟩
   | some s =>
    rw[hms]at hK
    refine snd_walk (cs:=[3,6]) wkSend mixed (by kernel_rfl) ?_
    simp -implicitDefEqProofs only[go_sem,ap_get,ap_get0,ap_set,ap_set0,List.getElem?_cons_succ,List.set_cons_succ,List.cons_append,wkSend]
    repeat' apply And.intro
    all_goals(
     refine hRc kn1 sg1 ab1 _ _ _ hm1 ?_
     intro kn2 sg2 ab2 hm2
     simp -implicitDefEqProofs only[go_sem,ck4,ap_get,ap_get0,ap_set,ap_set0,List.getElem?_cons_succ,List.set_cons_succ,List.cons_append])
    all_goals(repeat' apply And.intro)
    all_goals(
     refine Tmethod u hT.toCkW ub pre (dclU u) kn2 sg2 ab2 _ _ _ _ hm2.sg ?_
     intro sg3 hsg3
     rw[hms]
     simp -implicitDefEqProofs only[go_sem,ck4,ap_get,ap_get0,ap_set,ap_set0,List.getElem?_cons_succ,List.set_cons_succ,List.cons_append,encMt,Sg.enc])
    all_goals(
     refine Targuments hT ub pre hl hi 1 (by omega) s kn2 sg3 ab2 _ _ _ ⟨hm2.kn,hsg3,hm2.ab⟩ ?_
     intro kn4 sg4 ab4 hm4
     simp -implicitDefEqProofs only[go_sem,ck4,ap_get,ap_get0,ap_set,ap_set0,List.getElem?_cons_succ,List.set_cons_succ,List.cons_append]
     exact⟨kn4,sg4,ab4,_,[],rfl,by simp,hK _ _ _ hm4⟩)
 rw[if_neg h21]at hK
 by_cases h24:(rwAt l i).kind=24
 ·rw[if_pos h24]at hK
  simp -implicitDefEqProofs only[go_sem,Tryz.f79,ck4,ap_get,ap_get0,ap_set,ap_set0,List.getElem?_cons_succ,List.set_cons_succ,List.cons_append]
  refine VPureJ.callsS (Jrow u (tabsU u) ub pre.length hl hi) (by simp -implicitDefEqProofs only[go_sem]) ?_
  simp -implicitDefEqProofs only[go_sem,ap_get,ap_get0,ap_set,ap_set0,List.getElem?_cons_succ,List.set_cons_succ,List.cons_append,h24]
  refine Toperands hT ub pre hl hi h24 kn sg ab _ _ _ hm ?_
  intro kn1 sg1 ab1 hm1
  simp -implicitDefEqProofs only[go_sem,ck4,ap_get,ap_get0,ap_set,ap_set0,List.getElem?_cons_succ,List.set_cons_succ,List.cons_append]
  exact⟨kn1,sg1,ab1,_,[],rfl,by simp,hK _ _ _ hm1⟩
 rw[if_neg h24]at hK
 by_cases h25:(rwAt l i).kind=25
 ·rw[if_pos h25]at hK
  have hk1:0<(rwAt l i).kids.length:=by rw[h25]at hle;simp[leastK]at hle;omega
  simp -implicitDefEqProofs only[go_sem,Tryz.f79,ck4,ap_get,ap_get0,ap_set,ap_set0,List.getElem?_cons_succ,List.set_cons_succ,List.cons_append]
  refine VPureJ.callsS (Jrow u (tabsU u) ub pre.length hl hi) (by simp -implicitDefEqProofs only[go_sem]) ?_
  simp -implicitDefEqProofs only[go_sem,ap_get,ap_get0,ap_set,ap_set0,List.getElem?_cons_succ,List.set_cons_succ,List.cons_append,h25]
  refine⟨fun ht=>?_,fun ht=>?_⟩
  ·rw[if_pos ht]at hK
   refine VPureJ.callsS (hJ0 hk1) (by simp -implicitDefEqProofs only[go_sem];rfl) ?_
   simp -implicitDefEqProofs only[go_sem,ap_get,ap_get0,ap_set,ap_set0,List.getElem?_cons_succ,List.set_cons_succ,List.cons_append]
   refine hO0 hk1 kn sg ab _ _ _ hm ?_
   intro kn1 sg1 ab1 hm1
   simp -implicitDefEqProofs only[go_sem,ck4,ap_get,ap_get0,ap_set,ap_set0,List.getElem?_cons_succ,List.set_cons_succ,List.cons_append]
   refine Tfits hT.toCkW ub pre _ tB kn1 sg1 ab1 _ _ _ hm1 ?_
   intro kn2 sg2 ab2 hm2
   simp -implicitDefEqProofs only[go_sem,ck4,ap_get,ap_get0,ap_set,ap_set0,List.getElem?_cons_succ,List.set_cons_succ,List.cons_append]
   exact⟨kn2,sg2,ab2,_,[],rfl,by simp,hK _ _ _ hm2⟩
  ·rw[if_neg ht]at hK
   refine VPureJ.callsS (hJ0 hk1) (by simp -implicitDefEqProofs only[go_sem];rfl) ?_
   simp -implicitDefEqProofs only[go_sem,ap_get,ap_get0,ap_set,ap_set0,List.getElem?_cons_succ,List.set_cons_succ,List.cons_append]
   refine hO0 hk1 kn sg ab _ _ _ hm ?_
   intro kn1 sg1 ab1 hm1
   simp -implicitDefEqProofs only[go_sem,ck4,ap_get,ap_get0,ap_set,ap_set0,List.getElem?_cons_succ,List.set_cons_succ,List.cons_append]
   refine Tfits hT.toCkW ub pre _ tI kn1 sg1 ab1 _ _ _ hm1 ?_
   intro kn2 sg2 ab2 hm2
   simp -implicitDefEqProofs only[go_sem,ck4,ap_get,ap_get0,ap_set,ap_set0,List.getElem?_cons_succ,List.set_cons_succ,List.cons_append]
   exact⟨kn2,sg2,ab2,_,[],rfl,by simp,hK _ _ _ hm2⟩
 rw[if_neg h25]at hK
 simp -implicitDefEqProofs only[go_sem,Tryz.f79,ck4,ap_get,ap_get0,ap_set,ap_set0,List.getElem?_cons_succ,List.set_cons_succ,List.cons_append]
 refine VPureJ.callsS (Jrow u (tabsU u) ub pre.length hl hi) (by simp -implicitDefEqProofs only[go_sem]) ?_
 simp -implicitDefEqProofs only[go_sem,ap_get,ap_get0,ap_set,ap_set0,List.getElem?_cons_succ,List.set_cons_succ,List.cons_append,h2,h11,h12,h13.1,h13.2,h20,h21,h24,h25]
 exact⟨kn,sg,ab,_,[],rfl,by simp,hK _ _ _ hm⟩
end Go.Proofs.YtamednbojpnalaaGreatDoor
