/- Resolving names. -/
import Derived.Test.YtamednbojpnalaaGreatDoorUbB
set_option linter.unusedVariables false
set_option linter.unusedSimpArgs false
set_option maxRecDepth 20000
namespace Go.Proofs.YtamednbojpnalaaGreatDoor
open Go Go.Vg Go.Proofs
theorem Sres1(l:List Rw)(t:ByteArray)(f:Int)(n A B C:Nat)(h:List VObj)(a:List Nat)(hA:h[A]? = some (.cells [sl 100 (l.map Rw.enc)]))(hB:h[B]? = some (.cells [.str t]))(hC:h[C]? = some (.cells [.int .i64 f]))(hn:n<l.length) :
  VCalls env 201 [.int .i64 n,.ptr A 0,.ptr B 0,.ptr C 0] h a fun v h' a'=>v = .bool (decide ((if(rwAt l n).text=t then(n:Int)else f)<0))∧(∃ z,h'=h.set C (.cells [.int .i64 (if(rwAt l n).text=t then(n:Int)else f)])++z)∧a'=a:=by
 have hlC:C<h.length:=(List.getElem?_eq_some_iff.1 hC).1
 have hrg:=row_getDi hn
 have hil:((n:Int)<l.length)=True:=by simp;omega
 refine vcalls_vc (fn:=Tryz.f201) Tryz.func201 rfl (by rw[Tryz.ntmps201];simp) ?_
 simp -implicitDefEqProofs only[go_sem,Tryz.f201]
 try refine snd_draw (cs:=[]) mixed (by kernel_rfl) ?_
 simp -implicitDefEqProofs only[go_sem,hA,hB,hC,hrg,hil,Rw.enc]
 refine⟨fun he=>?_,fun he=>?_⟩
 ·have hg:(h.set C (.cells [.int .i64 (n:Int)]))[C]? = some (.cells [.int .i64 (n:Int)]):=List.getElem?_set_self hlC
  simp -implicitDefEqProofs only[go_sem,hg]
  rw[if_pos he]
  exact⟨rfl,[],by simp⟩
 ·rw[if_neg he]
  exact⟨rfl,[],by rw[set_same hC];simp⟩
end Go.Proofs.YtamednbojpnalaaGreatDoor
namespace Go.Vg
def before(k:Nat)(ks:List Nat):List Nat:=ks.takeWhile fun c => !decide (c=k)
def levelAt(l:List Rw)(p k c:Nat):List Nat:=(if(rwAt l p).kind=6∧(rwAt l c).kind=10 then [c]else [])++(if(rwAt l p).kind=2∧(rwAt l k).kind=6∧(rwAt l c).kind=3 then(rwAt l c).kids.filter fun q=>decide ((rwAt l q).kind=4)else [])
def levelL(l:List Rw)(p k:Nat):List Nat:=(before k (rwAt l p).kids).flatMap (levelAt l p k)
def visL(l:List Rw):Nat→Nat→List Nat
 | 0,_=>[]
 | f+1,k=>if(rwAt l k).parent<0 then []else levelL l (rwAt l k).parent.toNat k++(if(rwAt l (rwAt l k).parent.toNat).kind=2 then []else visL l f (rwAt l k).parent.toNat)
structure rowsOK(l:List Rw):Prop where
 len:l.length≤1000000
 kids:∀ i<l.length,(rwAt l i).kids.length≤1000000∧∀ c∈(rwAt l i).kids,c<l.length
 par:∀ i<l.length,(rwAt l i).parent<i ∧ -1≤(rwAt l i).parent
def foundL(l:List Rw)(t:ByteArray)(vs:List Nat):Int:=match vs.find? fun n=>decide ((rwAt l n).text=t)with | some n=>n | none => -1
end Go.Vg
namespace Go.Proofs.YtamednbojpnalaaGreatDoor
open Go Go.Vg Go.Proofs
theorem visL_fuel{l:List Rw}(hr:rowsOK l):∀ (f g k:Nat),k<l.length→k<f→k<g→visL l f k=visL l g k:=by
 intro f
 induction f with
 | zero=>intro g k _ h;omega
 | succ f ih =>
  intro g k hk hf hg
  have hp:=hr.par k hk
  cases g with
  | zero=>omega
  | succ g =>
   rw[visL,visL]
   by_cases h0:(rwAt l k).parent<0
   ·rw[if_pos h0,if_pos h0]
   ·rw[if_neg h0,if_neg h0,ih g _ (by omega) (by omega) (by omega)]
theorem foundL_cons{l:List Rw}{t:ByteArray}{n:Nat}{r:List Nat}:foundL l t (n::r)=if(rwAt l n).text=t then(n:Int)else foundL l t r:=by
 unfold foundL
 rw[List.find?_cons]
 by_cases h:(rwAt l n).text=t
 ·rw[if_pos h,decide_eq_true h]
 ·rw[if_neg h,decide_eq_false h]
theorem SFvariables(tb:List (List Rw))(ds:V)(h:List VObj)(a:List Nat)(un i A B C:Nat)(l:List Rw)(t:ByteArray)(hh:h[1]? = some (.cells [.slice (.arr 0) 80 (tb.map encTab),.map 0,ds]))(hl:tb[un]? = some l)(hi:i<l.length)(hds:ds.some? = true)
  (hA:h[A]? = some (.cells [sl 100 (l.map Rw.enc)])) (hB:h[B]? = some (.cells [.str t])) (hC:h[C]? = some (.cells [.int .i64 (-1)])) (hne:C≠1∧C≠A∧C≠B) (hr:rowsOK l) :
  VCalls env 200 [.ptr 1 0,.agg [.int .i64 un,.int .i64 i],.func 201 [.ptr A 0,.ptr B 0,.ptr C 0]] h a fun v h' a' =>
   v = .tuple []∧(∃ z,h'=h.set C (.cells [.int .i64 (foundL l t (visL l (i+1) i))])++z)∧a'=a:=by
 have hlt1:1<h.length:=(List.getElem?_eq_some_iff.1 hh).1
 have hlC:C<h.length:=(List.getElem?_eq_some_iff.1 hC).1
 have htu:(tb.map encTab).getD (un:Int).toNat []=encTab l:=by simp[List.getD_eq_getElem?_getD,hl]
 have hul:((un:Int)<tb.length)=True:=by
  have:=(List.getElem?_eq_some_iff.1 hl).1
  simp;omega
 have hrg:=row_getDi hi
 have hil:((i:Int)<l.length)=True:=by simp;omega
 refine vcalls_vc (fn:=Tryz.f200) Tryz.func200 rfl (by rw[Tryz.ntmps200];simp) ?_
 simp -implicitDefEqProofs only[go_sem,Tryz.f200]
 refine snd_draw (cs:=[]) mixed (by kernel_rfl) ?_
 simp -implicitDefEqProofs only[go_sem,hp_get hh,hp_set hlt1,hp_at,hp_at',hp_st,hp_st',hp_len,htu,hul,encTab,hrg,hil,Rw.enc]
 refine snd_draw (cs:=[]) mixed (by kernel_rfl) ?_
 simp -implicitDefEqProofs only[go_sem,hp_get hh,hp_set hlt1,hp_at,hp_at',hp_st,hp_st',hp_len,htu,hul,encTab,hrg,hil,Rw.enc]
 refine snd_for (α:=Nat×List VObj) (fun b=>⟨[(8,.int .i64 (rwAt l b.1).parent),(7,.int .i64 b.1),(6,sl 100 (l.map Rw.enc)),(4,.ptr h.length 0),(2,.func 201 [.ptr A 0,.ptr B 0,.ptr C 0])],h ++ .cells [.int .i64 un,.int .i64 i]::b.2,a⟩) (fun b=>b.1<l.length∧foundL l t (visL l (i+1) i)=foundL l t (visL l (b.1+1) b.1)) (fun b=>b.1) (i,[]) ?_ ⟨hi,rfl⟩ ?_
 ·simp -implicitDefEqProofs only[go_sem]
  try rfl
 ·rintro⟨k,zz⟩ ⟨hk,hf⟩
  simp only at hk hf ⊢
  have hkr:=row_getDi hk
  have hpar:=hr.par k hk
  simp -implicitDefEqProofs only[go_sem]
  refine⟨fun hp=>?_,fun hp=>?_⟩
  ·obtain⟨p,hpe⟩:=Int.eq_ofNat_of_zero_le hp
   have hpk:p<k:=by omega
   have hpl:p<l.length:=by omega
   have hgp:=row_getDi hpl
   have hplt:((p:Int)<l.length)=True:=by simp;omega
   have hp0:(0≤(p:Int))=True:=by simp
   have hvis:visL l (k+1) k=levelL l p k++(if(rwAt l p).kind=2 then []else visL l (p+1) p):=by
    rw[visL,if_neg (by omega),hpe]
    simp only[Int.ofNat_eq_natCast,Int.toNat_natCast]
    rw[visL_fuel hr k (p+1) p hpl hpk (by omega)]
   rw[hpe]
   simp -implicitDefEqProofs only[go_sem,hgp,hplt,hp0,Rw.enc]
   intro _ _
   obtain⟨hkl,hkc⟩:=hr.kids p hpl
   rw[hvis,levelL]at hf
   generalize hRE:(if(rwAt l p).kind=2 then []else visL l (p+1) p)=RE at hf
   generalize hks:(rwAt l p).kids=ks at hf hkl hkc ⊢
   refine snd_list (β:=List VObj) ks (fun pre zz=>⟨[(43,.int .i64 pre.length),(42,.int .i64 ks.length),(41,sl 3 (ks.map encIx)),(8,.int .i64 p),(7,.int .i64 k),(6,sl 100 (l.map Rw.enc)),(4,.ptr h.length 0),(2,.func 201 [.ptr A 0,.ptr B 0,.ptr C 0])],h ++ .cells [.int .i64 un,.int .i64 i]::zz,a⟩)
    (fun pre post _=>foundL l t (visL l (i+1) i)=foundL l t ((before k post).flatMap (levelAt l p k)++RE)) zz ?_ hf ?_ ?_
   ·simp -implicitDefEqProofs only[go_sem]
    try rfl
   ·intro z1 hi1
    rw[show before k []=[]from rfl,List.flatMap_nil,List.nil_append]at hi1
    simp -implicitDefEqProofs only[go_sem,hgp,hplt,hp0,Rw.enc]
    refine⟨fun h2=>?_,fun h2=>?_⟩
    ·rw[if_pos h2]at hRE
     rw[hi1,←hRE,show foundL l t [] = -1 from rfl,set_same hC]
     exact⟨_,rfl⟩
    ·rw[if_neg h2]at hRE
     rw[←hRE]at hi1
     refine snd_draw (cs:=[]) mixed (by kernel_rfl) ?_
     simp -implicitDefEqProofs only[go_sem,hgp,hplt,hp0,Rw.enc]
     exact⟨(p,z1),by simp;omega,⟨hpl,hi1⟩,⟨rfl,rfl⟩,tellH_refl,.inl (Nat.le_refl _)⟩
   ·rintro pre c post z1 hx hi1
    have hpl2:ks.length=pre.length+1+post.length:=by rw[hx];simp;omega
    have hgc:(ks.map encIx).getD (pre.length:Int).toNat []=encIx c:=by rw[hx];simp[List.getD_eq_getElem?_getD]
    have hw:IntKind.i64.wrap (↑pre.length+1)=↑(pre.length+1):=wrap_next (by omega)
    have hlt:((pre.length:Int)<ks.length)=True:=by simp;omega
    have hcl:=hkc c (by rw[hx];simp)
    have hcr:=row_getDi hcl
    have hclt:((c:Int)<l.length)=True:=by simp;omega
    have hc0:(0≤(c:Int))=True:=by simp
    by_cases hck:c=k
    ·have hb0:before k (c::post)=[]:=by simp[before,hck]
     rw[hb0,List.flatMap_nil,List.nil_append]at hi1
     subst hck
     simp -implicitDefEqProofs only[go_sem,hgc,hlt,hcr,hclt,hc0,Rw.enc,encIx,hgp,hplt,hp0]
     refine⟨fun h2=>?_,fun h2=>?_⟩
     ·rw[if_pos h2]at hRE
      rw[hi1,←hRE,show foundL l t [] = -1 from rfl,set_same hC]
      exact⟨_,rfl⟩
     ·rw[if_neg h2]at hRE
      rw[←hRE]at hi1
      refine snd_draw (cs:=[]) mixed (by kernel_rfl) ?_
      simp -implicitDefEqProofs only[go_sem,hgp,hplt,hp0,Rw.enc]
      exact⟨(p,z1),by simp;omega,⟨hpl,hi1⟩,⟨rfl,rfl⟩,tellH_refl,.inl (Nat.le_refl _)⟩
    ·have hb1:before k (c::post)=c::before k post:=by simp[before,hck]
     have hckI:((c:Int)=k)=False:=by simp;omega
     rw[hb1,List.flatMap_cons,List.append_assoc]at hi1
     have hzlen:h.length≤(h++VObj.cells [.int .i64 un,.int .i64 i]::z1).length:=by simp
     have gA:(h++VObj.cells [.int .i64 un,.int .i64 i]::z1)[A]? = some (.cells [sl 100 (l.map Rw.enc)]):=hp_get hA
     have gB:(h++VObj.cells [.int .i64 un,.int .i64 i]::z1)[B]? = some (.cells [.str t]):=hp_get hB
     have gC:(h++VObj.cells [.int .i64 un,.int .i64 i]::z1)[C]? = some (.cells [.int .i64 (-1)]):=hp_get hC
     have hcall:=Sres1 l t (-1) c A B C _ a gA gB gC hcl
     have hgk:=row_getDi hk
     have hklt:((k:Int)<l.length)=True:=by simp;omega
     by_cases hp6:(rwAt l p).kind=6
     ·by_cases hc10:(rwAt l c).kind=10
      ·have hla:levelAt l p k c=[c]:=by simp[levelAt,hp6,hc10]
       rw[hla,List.singleton_append,foundL_cons]at hi1
       simp -implicitDefEqProofs only[go_sem,hgc,hlt,hcr,hclt,hc0,Rw.enc,encIx,hgp,hplt,hp0,hckI,hp6,hc10]
       refine VCalls.mono hcall ?_
       rintro v h' a' ⟨rfl,⟨z2,rfl⟩,rfl⟩
       by_cases ht:(rwAt l c).text=t
       ·rw[if_pos ht]at hi1
        have hneg:decide ((c:Int)<0)=false:=by simp
        rw[if_pos ht,hneg]
        simp -implicitDefEqProofs only[go_sem]
        rw[hi1,hp_set hlC,List.append_assoc]
        exact⟨_,rfl⟩
       ·rw[if_neg ht]at hi1
        rw[if_neg ht,set_same gC]
        have hneg:decide ((-1:Int)<0)=true:=rfl
        rw[hneg]
        simp -implicitDefEqProofs only[go_sem,hgp,hplt,hp0,hp6,Rw.enc]
        exact⟨z1++z2,hi1,hw,tellH_refl,.inl (by simp)⟩
      ·have hla:levelAt l p k c=[]:=by simp[levelAt,hp6,hc10]
       rw[hla,List.nil_append]at hi1
       simp -implicitDefEqProofs only[go_sem,hgc,hlt,hcr,hclt,hc0,Rw.enc,encIx,hgp,hplt,hp0,hckI,hp6,hc10]
       exact⟨z1,hi1,hw,tellH_refl,.inl (Nat.le_refl _)⟩
     ·by_cases hp2:(rwAt l p).kind=2∧(rwAt l k).kind=6∧(rwAt l c).kind=3
      ·obtain⟨h2,hk6,hc3⟩:=hp2
       have hla:levelAt l p k c=(rwAt l c).kids.filter fun q=>decide ((rwAt l q).kind=4):=by simp[levelAt,h2,hk6,hc3]
       rw[hla]at hi1
       simp -implicitDefEqProofs only[go_sem,hgc,hlt,hcr,hclt,hc0,Rw.enc,encIx,hgp,hplt,hp0,hckI,h2,hk6,hc3,hgk,hklt]
       intro _ _
       obtain⟨hql,hqc⟩:=hr.kids c hcl
       generalize hRS:(before k post).flatMap (levelAt l p k)++RE=RS at hi1
       generalize(rwAt l c).kids=qs at hi1 hql hqc ⊢
       refine snd_list (β:=List VObj) qs (fun qp zz=>⟨[(98,.int .i64 qp.length),(97,.int .i64 qs.length),(96,sl 3 (qs.map encIx)),(43,.int .i64 pre.length),(42,.int .i64 ks.length),(41,sl 3 (ks.map encIx)),(8,.int .i64 p),(7,.int .i64 k),(6,sl 100 (l.map Rw.enc)),(4,.ptr h.length 0),(2,.func 201 [.ptr A 0,.ptr B 0,.ptr C 0])],h ++ .cells [.int .i64 un,.int .i64 i]::zz,a⟩)
        (fun qp qo _=>foundL l t (visL l (i+1) i)=foundL l t ((qo.filter fun q=>decide ((rwAt l q).kind=4))++RS)) z1 ?_ hi1 ?_ ?_
       ·simp -implicitDefEqProofs only[go_sem]
        try rfl
       ·intro z3 hi3
        rw[List.filter_nil,List.nil_append,←hRS]at hi3
        simp -implicitDefEqProofs only[go_sem,hgp,hplt,hp0,Rw.enc]
        exact⟨z3,hi3,hw,tellH_refl,.inl (Nat.le_refl _)⟩
       ·rintro qp q qo z3 hq hi3
        have hqpl:qs.length=qp.length+1+qo.length:=by rw[hq];simp;omega
        have hgq:(qs.map encIx).getD (qp.length:Int).toNat []=encIx q:=by rw[hq];simp[List.getD_eq_getElem?_getD]
        have hwq:IntKind.i64.wrap (↑qp.length+1)=↑(qp.length+1):=wrap_next (by omega)
        have hltq:((qp.length:Int)<qs.length)=True:=by simp;omega
        have hqll:=hqc q (by rw[hq];simp)
        have hqr:=row_getDi hqll
        have hqlt:((q:Int)<l.length)=True:=by simp;omega
        have hq0:(0≤(q:Int))=True:=by simp
        have gA:(h++VObj.cells [.int .i64 un,.int .i64 i]::z3)[A]? = some (.cells [sl 100 (l.map Rw.enc)]):=hp_get hA
        have gB:(h++VObj.cells [.int .i64 un,.int .i64 i]::z3)[B]? = some (.cells [.str t]):=hp_get hB
        have gC:(h++VObj.cells [.int .i64 un,.int .i64 i]::z3)[C]? = some (.cells [.int .i64 (-1)]):=hp_get hC
        have hcall:=Sres1 l t (-1) q A B C _ a gA gB gC hqll
        by_cases hq4:(rwAt l q).kind=4
        ·have hfl:((q::qo).filter fun q=>decide ((rwAt l q).kind=4))=q::(qo.filter fun q=>decide ((rwAt l q).kind=4)):=by simp[hq4]
         rw[hfl,List.cons_append,foundL_cons]at hi3
         simp -implicitDefEqProofs only[go_sem,hgq,hltq,hqr,hqlt,hq0,Rw.enc,encIx,hq4]
         refine VCalls.mono hcall ?_
         rintro v h' a' ⟨rfl,⟨z4,rfl⟩,rfl⟩
         by_cases ht:(rwAt l q).text=t
         ·rw[if_pos ht]at hi3
          have hneg:decide ((q:Int)<0)=false:=by simp
          rw[if_pos ht,hneg]
          simp -implicitDefEqProofs only[go_sem]
          rw[hi3,hp_set hlC,List.append_assoc]
          exact⟨_,rfl⟩
         ·rw[if_neg ht]at hi3
          rw[if_neg ht,set_same gC]
          have hneg:decide ((-1:Int)<0)=true:=rfl
          rw[hneg]
          simp -implicitDefEqProofs only[go_sem]
          exact⟨z3++z4,hi3,hwq,tellH_refl,.inl (by simp)⟩
        ·have hfl:((q::qo).filter fun q=>decide ((rwAt l q).kind=4))=(qo.filter fun q=>decide ((rwAt l q).kind=4)):=by simp[hq4]
         rw[hfl]at hi3
         simp -implicitDefEqProofs only[go_sem,hgq,hltq,hqr,hqlt,hq0,Rw.enc,encIx,hq4]
         exact⟨z3,hi3,hwq,tellH_refl,.inl (Nat.le_refl _)⟩
      ·have hla:levelAt l p k c=[]:=by
        unfold levelAt
        rw[if_neg (fun h=>hp6 h.1),if_neg hp2];rfl
       rw[hla,List.nil_append]at hi1
       by_cases h2:(rwAt l p).kind=2
       ·by_cases hk6:(rwAt l k).kind=6
        ·have hc3:¬ (rwAt l c).kind=3:=fun h=>hp2 ⟨h2,hk6,h⟩
         simp -implicitDefEqProofs only[go_sem,hgc,hlt,hcr,hclt,hc0,Rw.enc,encIx,hgp,hplt,hp0,hckI,hp6,h2,hk6,hc3,hgk,hklt]
         exact⟨z1,hi1,hw,tellH_refl,.inl (Nat.le_refl _)⟩
        ·simp -implicitDefEqProofs only[go_sem,hgc,hlt,hcr,hclt,hc0,Rw.enc,encIx,hgp,hplt,hp0,hckI,hp6,h2,hk6,hgk,hklt]
         exact⟨z1,hi1,hw,tellH_refl,.inl (Nat.le_refl _)⟩
       ·simp -implicitDefEqProofs only[go_sem,hgc,hlt,hcr,hclt,hc0,Rw.enc,encIx,hgp,hplt,hp0,hckI,hp6,h2,hgk,hklt]
        exact⟨z1,hi1,hw,tellH_refl,.inl (Nat.le_refl _)⟩
  ·have:visL l (k+1) k=[]:=by rw[visL,if_pos (by omega)]
   rw[hf,this]
   refine⟨.cells [.int .i64 un,.int .i64 i]::zz,?_⟩
   rw[show foundL l t [] = -1 from rfl,set_same hC]
def resK(l:List Rw)(M:List Dl)(un i:Nat)(k:Int):Option (Int×Int):=if k=3∧0≤foundL l (rwAt l i).text (visL l (i+1) i)then some (un,foundL l (rwAt l i).text (visL l (i+1) i))else(M.find? (keyG k (rwAt l i).text)).map fun d=>(d.unit,d.node)
def encO(o:Option (Int×Int)):V := .tuple [.agg [.int .i64 ((o.map (·.1)).getD 0),.int .i64 ((o.map (·.2)).getD 0)],.bool o.isSome]
theorem foundL_ge(l:List Rw)(t:ByteArray)(vs:List Nat) : -1≤foundL l t vs:=by
 unfold foundL
 split <;> omega
theorem look_G2{M:List Dl}{k:Int}{n:ByteArray}{K:V→Prop}:vLookF env 50 (findA [1,0] [.int .i64 k,.str n] (mapG M) 0) true K=K (.tuple [.agg [.int .i64 (((M.find? (keyG k n)).map (·.unit)).getD 0),.int .i64 (((M.find? (keyG k n)).map (·.node)).getD 0)],.bool (M.find? (keyG k n)).isSome]):=by
 rcases findG k n M 0 with⟨j,v,h1,h2⟩ | ⟨h1,h2⟩
 ·rw[h1,h2];simp -implicitDefEqProofs only[go_sem];rfl
 ·rw[h1,h2];simp -implicitDefEqProofs only[go_sem,zero_Ref];rfl
theorem SFresolve(tb:List (List Rw))(M:List Dl)(ds:V)(h:List VObj)(a:List Nat)(un i:Nat)(l:List Rw)(hm:h[0]? = some (.map (mapG M)))(hh:h[1]? = some (.cells [.slice (.arr 0) 80 (tb.map encTab),.map 0,ds]))(hl:tb[un]? = some l)(hi:i<l.length)(hds:ds.some? = true)(hr:rowsOK l)(k:Int) :
  VCalls env 146 [.ptr 1 0,.agg [.int .i64 un,.int .i64 i],.int .i64 k] h a fun v h' a'=>v=encO (resK l M un i k)∧(∃ z,h'=h++z)∧a'=a:=by
 have hlt1:1<h.length:=(List.getElem?_eq_some_iff.1 hh).1
 have hlt0:0<h.length:=by omega
 have htu:(tb.map encTab).getD (un:Int).toNat []=encTab l:=by simp[List.getD_eq_getElem?_getD,hl]
 have hul:((un:Int)<tb.length)=True:=by
  have:=(List.getElem?_eq_some_iff.1 hl).1
  simp;omega
 have hrg:=row_getDi hi
 have hil:((i:Int)<l.length)=True:=by simp;omega
 refine vcalls_vc (fn:=Tryz.f146) Tryz.func146 rfl (by rw[Tryz.ntmps146];simp) ?_
 simp -implicitDefEqProofs only[go_sem,Tryz.f146]
 refine snd_draw (cs:=[]) mixed (by kernel_rfl) ?_
 by_cases hk:k=3
 ·subst hk
  simp -implicitDefEqProofs only[go_sem,hp_get hh,hp_set hlt1,hp_at,hp_at',hp_st,hp_st',hp_len,htu,hul,encTab,hrg,hil,Rw.enc]
  refine VCalls.mono (SFvariables tb ds _ a un i (h.length+2) (h.length+3) (h.length+4) l (rwAt l i).text (hp_get hh) hl hi hds ?_ ?_ ?_ ?_ hr) ?_
  ·rw[List.getElem?_append_right (by omega)];simp
  ·rw[List.getElem?_append_right (by omega)];simp
  ·rw[List.getElem?_append_right (by omega)];simp
  ·omega
  ·rintro v h' a' ⟨rfl,⟨z,rfl⟩,rfl⟩
   have hF:=foundL_ge l (rwAt l i).text (visL l (i+1) i)
   have hset:∀ y,(h++[VObj.cells [.int .i64 (un:Int),.int .i64 (i:Int)],.cells [.int .i64 0,.int .i64 0],.cells [sl 100 (l.map Rw.enc)],.cells [.str (rwAt l i).text],.cells [.int .i64 (-1)]]).set (h.length+4) y=h++[VObj.cells [.int .i64 (un:Int),.int .i64 (i:Int)],.cells [.int .i64 0,.int .i64 0],.cells [sl 100 (l.map Rw.enc)],.cells [.str (rwAt l i).text],y]:=fun y=>by
    rw[List.set_append_right (s:=h) _ _ (by omega)];simp
   rw[hset,List.append_assoc]
   have hres:resK l M un i 3=if 0≤foundL l (rwAt l i).text (visL l (i+1) i)then some ((un:Int),foundL l (rwAt l i).text (visL l (i+1) i))else(M.find? (keyG 3 (rwAt l i).text)).map fun d=>(d.unit,d.node):=by simp[resK]
   rw[hres]
   generalize foundL l (rwAt l i).text (visL l (i+1) i)=F at hF ⊢
   simp -implicitDefEqProofs only[go_sem,hp_get hm,hp_get hh,hp_set hlt1,hp_at,hp_at',hp_st,hp_st',hp_len,List.cons_append,List.nil_append]
   refine⟨fun h0=>⟨by rw[if_pos h0];rfl,_,rfl⟩,fun h0=>?_⟩
   rw[if_neg h0]
   have hcz:∀ x y:VObj,(z++[x]).set z.length y=z++[y]:=fun x y=>by rw[List.set_append_right _ _ (Nat.le_refl _)];simp
   refine snd_draw (cs:=[]) mixed (by kernel_rfl) ?_
   simp -implicitDefEqProofs only[go_sem,hp_get hm,hp_get hh,hp_set hlt1,hp_at,hp_at',hp_st,hp_st',hp_len,flat_global,look_G2,List.getElem?_cons_succ,List.getElem?_concat_length,List.set_cons_succ,hcz,List.cons_append]
   refine⟨?_,_,rfl⟩
   cases M.find? (keyG 3 (rwAt l i).text) <;> rfl
 ·have hres:resK l M un i k=(M.find? (keyG k (rwAt l i).text)).map fun d=>(d.unit,d.node):=by simp[resK,hk]
  rw[hres]
  simp -implicitDefEqProofs only[go_sem,hp_get hh,hp_set hlt1,hp_at,hp_at',hp_st,hp_st',hp_len,htu,hul,encTab,hrg,hil,Rw.enc,hk]
  refine snd_draw (cs:=[]) mixed (by kernel_rfl) ?_
  simp -implicitDefEqProofs only[go_sem,hp_get hm,hp_get hh,hp_set hlt1,hp_at,hp_at',hp_st,hp_st',hp_len,flat_global,look_G2]
  refine⟨?_,_,rfl⟩
  cases M.find? (keyG k (rwAt l i).text) <;> rfl
end Go.Proofs.YtamednbojpnalaaGreatDoor
set_option maxRecDepth 20000
namespace Go.Proofs.YtamednbojpnalaaGreatDoor
open Go Go.Vg Go.Proofs
structure Us where
 un:Nat
 nd:Nat
 to:Option (Int×Int)
def Us.enc(x:Us):List V:=[.int .i64 x.un,.int .i64 x.nd,.int .i64 ((x.to.map (·.1)).getD 0),.int .i64 ((x.to.map (·.2)).getD 0),.bool x.to.isSome]
def useAt(l:List Rw)(M:List Dl)(un i:Nat):List Us:=if(useK (rwAt l i).kind (rwAt l i).text).2=true then [⟨un,i,resK l M un i (useK (rwAt l i).kind (rwAt l i).text).1⟩]else []
def usesT(l:List Rw)(M:List Dl)(un:Nat):List Us:=(List.range l.length).flatMap (useAt l M un)
def usesL(M:List Dl):List (List Rw)→Nat→List Us
 | [],_=>[]
 | l::r,un=>usesT l M un++usesL M r (un+1)
theorem usesL_snoc{M:List Dl}{x:List Rw}:∀ (l:List (List Rw)) (n:Nat),usesL M (l++[x]) n=usesL M l n++usesT x M (n+l.length)
 | [],n=>by simp[usesL]
 | y::r,n=>by
  rw[List.cons_append,usesL,usesL,usesL_snoc r,List.append_assoc,List.length_cons]
  congr 3;omega
theorem uss_pure:∀ l:List Us,pureLL (l.map Us.enc)=true
 | []=>rfl
 | n::r=>by show(pureL _ && pureLL (r.map Us.enc))=true;rw[uss_pure r];rfl
theorem uses_len(l:List Rw)(M:List Dl)(un:Nat):∀ q:List Nat,(q.flatMap (useAt l M un)).length≤q.length
 | []=>by simp
 | x::r=>by
  have h1:=uses_len l M un r
  have h2:(useAt l M un x).length≤1:=by unfold useAt;split <;> simp
  rw[List.flatMap_cons,List.length_append,List.length_cons];omega
theorem usesL_len{M:List Dl}:∀ (tb:List (List Rw)) (n:Nat),(∀ l∈tb,l.length≤1000000)→(usesL M tb n).length≤tb.length * 1000000
 | [],n,_=>by simp[usesL]
 | x::r,n,h=>by
  have h1:=usesL_len (M:=M) r (n+1) fun y hy=>h y (by simp[hy])
  have h2:=uses_len x M n (List.range x.length)
  rw[List.length_range]at h2
  have h3:=h x (by simp)
  have h4:(usesT x M n).length=_:=rfl
  rw[usesL,List.length_append,List.length_cons]
  unfold usesT
  omega
theorem SUses(u:List Un)(hu:fitU u)(hr:∀ l∈tabsU u,rowsOK l):VPure env 103 [sl 34 (u.map Un.enc)] (sl 155 ((usesL (globL (declsU u 0)) (tabsU u) 0).map Us.enc)):=by
 refine vpure_vc (fn:=Tryz.f103) Tryz.func103 rfl (by rw[Tryz.ntmps103];simp) (by simp -implicitDefEqProofs only[go_sem];exact uns_pure _) (by simp -implicitDefEqProofs only[go_sem];exact uss_pure _) ?_
 simp -implicitDefEqProofs only[go_sem,Tryz.f103]
 refine VCalls.mono (SFnew u hu) ?_
 rintro v h' a' ⟨rfl,rfl,rfl⟩
 simp -implicitDefEqProofs only[go_sem]
 intro _ _
 generalize declsU u 0=dl
 have htl0:(tabsU u).length≤1000:=by unfold tabsU;rw[List.length_map];exact hu.1
 generalize tabsU u=tb at hr htl0 ⊢
 generalize globL dl=M
 refine snd_list (β:=Unit) tb (fun pre _=>⟨[(19,.int .i64 pre.length),(18,.int .i64 tb.length),(17,.slice (.arr 0) 80 (tb.map encTab)),(4,.slice (.arr 1) 155 ((usesL M pre 0).map Us.enc)),(3,.ptr 1 0),(2,.slice .nil 0 [])],
   [.map (mapG M),.cells [.slice (.arr 0) 80 (tb.map encTab),.map 0,sl 61 (dl.map Dl.enc)]],[u.length,(usesL M pre 0).length]⟩) (fun _ _ _=>True) () ?_ trivial ?_ ?_
 ·simp -implicitDefEqProofs only[go_sem]
  exact⟨rfl,rfl⟩
 ·intro _ _
  simp -implicitDefEqProofs only[go_sem]
 ·rintro pre l post _ hx _
  have hpl:tb.length=pre.length+1+post.length:=by rw[hx];simp;omega
  have hgx:(tb.map encTab).getD (pre.length:Int).toNat []=encTab l:=by rw[hx];simp[List.getD_eq_getElem?_getD]
  have hlt:((pre.length:Int)<tb.length)=True:=by simp;omega
  have hlm:l∈tb:=by rw[hx];simp
  have hro:=hr l hlm
  have hll:=hro.len
  have htl:tb[pre.length]? = some l:=by rw[hx];simp
  have hsn:=usesL_snoc (M:=M) (x:=l) pre 0
  rw[Nat.zero_add,usesT]at hsn
  have hw:IntKind.i64.wrap (↑pre.length+1)=↑(pre.length+1):=wrap_next (by omega)
  have hAl:=usesL_len (M:=M) pre 0 fun y hy=>(hr y (by rw[hx];simp[hy])).len
  generalize usesL M pre 0=A at hsn hAl ⊢
  have hrl:(List.range l.length).length=l.length:=List.length_range
  simp -implicitDefEqProofs only[go_sem,hgx,hlt,encTab]
  intro _ _
  refine snd_list (β:=Unit) (List.range l.length) (fun q _=>⟨[(26,.int .i64 q.length),(25,.int .i64 l.length),(5,.int .i64 pre.length),(19,.int .i64 pre.length),(18,.int .i64 tb.length),(17,.slice (.arr 0) 80 (tb.map encTab)),(4,.slice (.arr 1) 155 ((A++q.flatMap (useAt l M pre.length)).map Us.enc)),(3,.ptr 1 0),(2,.slice .nil 0 [])],
   [.map (mapG M),.cells [.slice (.arr 0) 80 (tb.map encTab),.map 0,sl 61 (dl.map Dl.enc)]],[u.length,(A++q.flatMap (useAt l M pre.length)).length]⟩) (fun _ _ _=>True) () ?_ trivial ?_ ?_
  ·simp only[List.flatMap_nil,List.append_nil]
   simp -implicitDefEqProofs only[go_sem]
   try rfl
  ·intro _ _
   simp -implicitDefEqProofs only[go_sem,hrl]
   rw[hsn]
   exact⟨(),⟨hw,rfl⟩,rfl⟩
  ·rintro q k r _ hq _
   have hpq:l.length=q.length+1+r.length:=by rw[←hrl,hq];simp;omega
   have hk:k=q.length:=by
    have h1:(List.range l.length)[q.length]? = some k:=by rw[hq];simp
    rw[List.getElem?_range (by omega)]at h1
    simpa using h1.symm
   subst hk
   have hwq:IntKind.i64.wrap (↑q.length+1)=↑(q.length+1):=wrap_next (by omega)
   have hltq:((q.length:Int)<l.length)=True:=by simp;omega
   have hal:(q.flatMap (useAt l M pre.length)).length≤q.length:=uses_len l M pre.length q
   have haq:(q++[q.length]).flatMap (useAt l M pre.length)=q.flatMap (useAt l M pre.length)++useAt l M pre.length q.length:=by simp
   generalize hQ:q.flatMap (useAt l M pre.length)=Q at hal haq ⊢
   have hqi:q.length<l.length:=by omega
   simp -implicitDefEqProofs only[go_sem,hltq]
   refine VCalls.mono (SFuse tb (sl 61 (dl.map Dl.enc)) _ _ pre.length q.length l rfl htl hqi (by simp -implicitDefEqProofs only[go_sem])) ?_
   rintro v h' a' ⟨rfl,⟨z1,rfl⟩,rfl⟩
   have hua:useAt l M pre.length q.length=if(useK (rwAt l q.length).kind (rwAt l q.length).text).2=true then [⟨pre.length,q.length,resK l M pre.length q.length (useK (rwAt l q.length).kind (rwAt l q.length).text).1⟩]else []:=rfl
   generalize useK (rwAt l q.length).kind (rwAt l q.length).text=kb at hua ⊢
   obtain⟨kk,b⟩:=kb
   have htp:=ltLL_pure 2 2 _ (tabs_pure tb)
   have hdp:=ltLL_pure 2 2 _ (dls_pure dl)
   cases b with
   | false =>
    rw[if_neg (by simp)]at hua
    rw[hua,List.append_nil]at haq
    simp -implicitDefEqProofs only[go_sem]
    rw[haq,ltP_G,htp,hdp,ltLL_pure _ _ _ (uss_pure _)]
    exact⟨(),⟨hwq,rfl⟩,rfl,.inr ⟨rfl,rfl⟩⟩
   | true =>
    rw[if_pos rfl]at hua
    rw[hua]at haq
    have hcz:∀ x y:VObj,(z1++[x]).set z1.length y=z1++[y]:=fun x y=>by rw[List.set_append_right _ _ (Nat.le_refl _)];simp
    simp -implicitDefEqProofs only[go_sem,List.getElem?_cons_succ,List.getElem?_concat_length,List.set_cons_succ,hcz]
    refine VCalls.mono (SFresolve tb M (sl 61 (dl.map Dl.enc)) _ _ pre.length q.length l rfl rfl htl hqi (by simp -implicitDefEqProofs only[go_sem]) hro kk) ?_
    rintro v h' a' ⟨rfl,⟨z2,rfl⟩,rfl⟩
    generalize resK l M pre.length q.length kk=ro at haq ⊢
    simp -implicitDefEqProofs only[go_sem,encO,List.getElem?_cons_succ,List.getElem?_concat_length,List.set_cons_succ,hcz]
    rw[haq,←List.append_assoc,ltP_G,htp,hdp,ltLL_pure _ _ _ (uss_pure _)]
    refine⟨by rw[List.length_append];omega,(),⟨hwq,?_⟩,by simp;omega,.inr ⟨rfl,rfl⟩⟩
    rw[List.map_append (l₁:=A++Q)]
    rfl
end Go.Proofs.YtamednbojpnalaaGreatDoor
set_option maxRecDepth 20000
namespace Go.Vg
def parR(rs:List Rw)(p:Int)(b:Nat):Prop:=∀ (j:Nat) r,rs[j]? = some r→r.parent=p∨((b:Int)≤r.parent∧r.parent<b+j)
theorem rows_par:∀ (n:Nd) (p:Int) (b:Nat),parR (rowsN n p b) p b:=by
 refine Nd.all fun k t g ks ih p b=>?_
 have hs:∀ l:List Nd,(∀ x∈l,∀ (p:Int) (b:Nat),parR (rowsN x p b) p b)→∀ (p b:Nat),parR (rowsL l p b) p b:=by
  intro l
  induction l with
  | nil=>intro _ p b j r h;simp[rowsL]at h
  | cons x r ihr =>
   intro hx p b j rr hj
   rw[rowsL]at hj
   rcases Nat.lt_or_ge j (rowsN x p b).length with hl | hl
   ·rw[List.getElem?_append_left hl]at hj
    exact hx x (by simp) p b j rr hj
   ·rw[List.getElem?_append_right hl]at hj
    rcases ihr (fun y hy=>hx y (by simp[hy])) p _ _ rr hj with h | ⟨h1,h2⟩
    ·exact .inl h
    ·right
     rw[rowsN_len]at hl h2
     constructor <;> omega
 intro j r hj
 rw[rowsN]at hj
 cases j with
 | zero=>simp at hj;subst hj;exact .inl rfl
 | succ j =>
  rw[List.getElem?_cons_succ]at hj
  rcases hs ks ih b (b+1) j r hj with h | ⟨h1,h2⟩
  ·right;rw[h];constructor <;> omega
  ·right;constructor <;> omega
theorem rowsOK_of{n:Nd}(hl:(nodes n).length≤1000000):rowsOK (rowsN n (-1) 0):=by
 have hlen:(rowsN n (-1) 0).length=(nodes n).length:=rowsN_len ..
 refine⟨by omega,fun i hi=>?_,fun i hi=>?_⟩
 ·have hn:(nodes n)[i]? = some (nodes n)[i]:=List.getElem?_eq_getElem (by omega)
  generalize(nodes n)[i]=y at hn
  obtain⟨k,t,g,ks⟩:=y
  obtain⟨_,_,h3⟩:=rwAt_at hn
  rw[h3]
  refine⟨?_,fun c hc=>?_⟩
  ·rw[kidsAt_len]
   have h1:=kids_nodes ks
   have h2:=nodes_le _ _ (List.mem_of_getElem? hn)
   rw[nodes_mk]at h2;omega
  ·obtain⟨j,z,j1,j2⟩:=kidsAt_mem hc
   obtain⟨c',j3,j4⟩:=kid_at hn j2
   have:c'=c:=by rw[j1]at j3;simpa using j3.symm
   subst this
   have:=(List.getElem?_eq_some_iff.1 j4).1
   omega
 ·have hg:(rowsN n (-1) 0)[i]? = some (rwAt (rowsN n (-1) 0) i):=by
   rw[rwAt,List.getD_eq_getElem?_getD,List.getElem?_eq_getElem hi];rfl
  rcases rows_par n (-1) 0 i _ hg with h | ⟨h1,h2⟩
  ·rw[h];constructor <;> omega
  ·constructor <;> omega
end Go.Vg
namespace Go.Proofs.YtamednbojpnalaaGreatDoor
open Go Go.Vg Go.Proofs
theorem tabs_ok{u:List Un}(hu:fitU u):∀ l∈tabsU u,rowsOK l:=by
 intro l hl
 obtain⟨x,hx,rfl⟩:=List.mem_map.1 hl
 split
 ·exact⟨by simp,fun i hi=>by simp at hi,fun i hi=>by simp at hi⟩
 ·exact rowsOK_of (by have:=(hu.2 x hx).1;omega)
end Go.Proofs.YtamednbojpnalaaGreatDoor
