/- The law CallsEdges. -/
import Derived.Test.YtighfcpaplmaiaaGreatDoorUeM
import Derived.Test.YtighfcpaplmaiaaGreatDoorUbB
set_option linter.unusedVariables false
set_option linter.unusedSimpArgs false
set_option maxRecDepth 20000
namespace Go.Proofs.YtighfcpaplmaiaaGreatDoor
open Go Go.Vg Go.Proofs
def seenR(u:List Un)(un:Nat)(l:List Rw)(k:Nat):List Ed:=if(rwAt l k).kind=20∨(rwAt l k).kind=21 then(tgsU u un k).map (Ed.mk ((arnd l k).getD ⟨#[]⟩))else []
def seenRs(u:List Un)(un:Nat)(l:List Rw):Nat→List Ed
 | 0=>[]
 | k+1=>seenRs u un l k++seenR u un l k
def seenA(u:List Un)(tb:List (List Rw)):Nat→List Ed
 | 0=>[]
 | n+1=>seenA u tb n++seenRs u n (tb.getD n []) (tb.getD n []).length
theorem tgs_row{u:List Un}(hu:fitU u)(h0:(chkU u).1=0){un i:Nat}{l:List Rw}(hl:(tabsU u)[un]? = some l)(hi:i<l.length):tgsU u un i=tgtU u un i (rwAt l i).kind (rwAt l i).text:=by
 obtain⟨x,hx,rfl⟩:=tab_unit (chkU_snd hu h0).br hl
 have hlt:=(List.getElem?_eq_some_iff.1 hx).1
 obtain⟨k,t,g,ks,e1,e2,e3,e4⟩:=row_node hi
 rw[tgsU,if_neg (by rintro(h | h | h) <;> first | exact h h0 | omega),if_pos (by omega),Int.toNat_natCast,Int.toNat_natCast,hx,Option.map_some,Option.getD_some,e1]
 simp only
 rw[e2,e3];rfl
theorem tgs_none{u:List Un}(h0:¬ (chkU u).1=0)(un nd:Int):tgsU u un nd=[]:=by rw[tgsU,if_pos (.inl h0)]
theorem seenR_graph{u:List Un}(hu:fitU u){un i:Nat}{l:List Rw}(hl:(tabsU u)[un]? = some l)(hi:i<l.length){e:Ed}:e∈seenR u un l i↔(chkU u).1=0∧e∈edRow u un l i:=by
 unfold seenR
 by_cases h0:(chkU u).1=0
 ·rw[tgs_row hu h0 hl hi,edRow_mem]
  split
  ·rename_i hk
   obtain⟨f,hf⟩:=Option.isSome_iff_exists.1 (call_arnd hu h0 hl hi hk)
   rw[hf]
   simp only[Option.getD_some,List.mem_map,Option.some.injEq]
   constructor
   ·rintro⟨t,ht,rfl⟩
    exact⟨h0,hk,rfl,ht⟩
   ·rintro⟨_,_,rfl,ht⟩
    exact⟨_,ht,rfl⟩
  ·rename_i hk
   exact⟨fun h=>(by cases h),fun h=>absurd h.2.1 hk⟩
 ·rw[tgs_none h0]
  constructor
  ·intro h
   split at h <;> simp at h
  ·intro h;exact absurd h.1 h0
theorem seenRs_mem{u:List Un}{un:Nat}{l:List Rw}{e:Ed}:∀ k,e∈seenRs u un l k↔∃ i,i<k∧e∈seenR u un l i
 | 0=>by simp[seenRs]
 | k+1=>by
  rw[seenRs,List.mem_append,seenRs_mem k]
  constructor
  ·rintro(⟨i,h1,h2⟩ | h)
   ·exact⟨i,by omega,h2⟩
   ·exact⟨k,by omega,h⟩
  ·rintro⟨i,h1,h2⟩
   by_cases h:i=k
   ·subst h;exact .inr h2
   ·exact .inl ⟨i,by omega,h2⟩
theorem seenA_mem{u:List Un}{tb:List (List Rw)}{e:Ed}:∀ n,e∈seenA u tb n↔∃ un,un<n∧∃ i,i<(tb.getD un []).length∧e∈seenR u un (tb.getD un []) i
 | 0=>by simp[seenA]
 | n+1=>by
  rw[seenA,List.mem_append,seenA_mem n,seenRs_mem]
  constructor
  ·rintro(⟨i,h1,h2⟩ | h)
   ·exact⟨i,by omega,h2⟩
   ·exact⟨n,by omega,h⟩
  ·rintro⟨i,h1,h2⟩
   by_cases h:i=n
   ·subst h;exact .inr h2
   ·exact .inl ⟨i,by omega,h2⟩
theorem row_graph{u:List Un}(hu:fitU u){un i:Nat}{l:List Rw}(hl:(tabsU u)[un]? = some l)(hi:i<l.length){e:Ed}(h:e∈seenR u un l i):e∈graphU u:=by
 obtain⟨h0,he⟩:=(seenR_graph hu hl hi).1 h
 obtain⟨x,hx,rfl⟩:=tab_unit (chkU_snd hu h0).br hl
 exact graph_mem.2 ⟨h0,un,x,i,hx,hi,he⟩
theorem graph_seen{u:List Un}(hu:fitU u){e:Ed}(h:e∈graphU u):e∈seenA u (tabsU u) (tabsU u).length:=by
 obtain⟨h0,un,x,i,hx,hi,he⟩:=graph_mem.1 h
 have hl:=unit_tab (chkU_snd hu h0).br hx
 have hg:(tabsU u).getD un []=rowsN x.tree (-1) 0:=by rw[List.getD_eq_getElem?_getD,hl];rfl
 refine(seenA_mem _).2 ⟨un,(List.getElem?_eq_some_iff.1 hl).1,i,by rw[hg];exact hi,?_⟩
 rw[hg]
 exact(seenR_graph hu hl hi).2 ⟨h0,he⟩
theorem tgs_len(u:List Un)(un nd:Int):(tgsU u un nd).length≤(declsU u 0).length+1:=by
 unfold tgsU
 split
 ·simp
 ·split
  ·exact tgtU_len ..
  ·simp
theorem seenR_len{u:List Un}(hD:(declsU u 0).length≤480)(un:Nat)(l:List Rw)(k:Nat):(seenR u un l k).length≤481:=by
 unfold seenR
 split
 ·rw[List.length_map];have:=tgs_len u un k;omega
 ·simp
theorem seenRs_len{u:List Un}(hD:(declsU u 0).length≤480)(un:Nat)(l:List Rw):∀ k,(seenRs u un l k).length≤k * 481
 | 0=>by simp[seenRs]
 | k+1=>by
  have h1:=seenRs_len hD un l k
  have h2:=seenR_len hD un l k
  rw[seenRs,List.length_append];omega
theorem seenA_len{u:List Un}(hD:(declsU u 0).length≤480){tb:List (List Rw)}(hT:∀ l∈tb,l.length≤160):∀ n,(seenA u tb n).length≤n * 76960
 | 0=>by simp[seenA]
 | n+1=>by
  have h1:=seenA_len hD hT n
  have h2:=seenRs_len hD n (tb.getD n []) (tb.getD n []).length
  have h3:(tb.getD n []).length≤160:=by
   rw[List.getD_eq_getElem?_getD]
   cases hx:tb[n]? with
   | none=>simp
   | some x=>exact hT x (List.mem_of_getElem? hx)
  rw[seenA,List.length_append];omega
theorem tab_short{u:List Un}(hu:fitU u){l:List Rw}(hl:l∈tabsU u):rowsOK l∧∀ r∈l,r.text.size≤1000000:=by
 obtain⟨x,hx,rfl⟩:=List.mem_map.1 hl
 obtain⟨hxn,hxs⟩:=hu.2 x hx
 split
 ·exact⟨⟨by simp,by simp,by simp⟩,by simp⟩
 ·refine⟨rowsOK_of (by omega),fun r hr=>?_⟩
  obtain⟨i,hi,rfl⟩:=List.getElem_of_mem hr
  obtain⟨k,t,g,ks,e1,_,e3,_⟩:=row_node (n:=x.tree) (i:=i) hi
  have e4:rwAt (rowsN x.tree (-1) 0) i=(rowsN x.tree (-1) 0)[i]:=by simp[rwAt,List.getD_eq_getElem?_getD,hi]
  rw[e4]at e3
  rw[e3]
  exact hxs _ (List.mem_of_getElem? e1)
theorem Ledges(hAw:VPure env 9 [] (.bool true))(u:List Un):VPure env 7 [sl 70 (u.map Un.enc)] (.bool true):=by
 refine vpure_vc (fn:=Tryz.f7) Tryz.func7 rfl (by rw[Tryz.ntmps7];simp) (by simp -implicitDefEqProofs only[go_sem];exact uns_pure _) rfl ?_
 simp -implicitDefEqProofs only[go_sem,Tryz.f7]
 refine(R12Fits u 3 100 6000 (by omega) (by omega)).calls (by simp -implicitDefEqProofs only[go_sem]) ?_
 cases hf:fitsU u 3 100 6000 with
 | false =>
  simp -implicitDefEqProofs only[go_sem]
  refine hAw.calls (by simp -implicitDefEqProofs only[go_sem]) ?_
  simp -implicitDefEqProofs only[go_sem]
  try rfl
 | true =>
  have hfo:=fit_ok (m:=100) (by omega) hf
  have hG:=KGraphF (m:=100) (by omega) hf
  have hGl:=graph_len (m:=100) (by omega) hf
  simp -implicitDefEqProofs only[go_sem]
  refine(R13Few u hfo.1 20 (by omega) (by omega)).calls (by simp -implicitDefEqProofs only[go_sem]) ?_
  simp -implicitDefEqProofs only[go_sem]
  refine⟨fun hn=>?_,fun hn=>?_⟩
  ·refine hAw.calls (by simp -implicitDefEqProofs only[go_sem]) ?_
   simp -implicitDefEqProofs only[go_sem]
   try rfl
  refine hG.calls (by simp -implicitDefEqProofs only[go_sem]) ?_
  simp -implicitDefEqProofs only[go_sem]
  refine(R12Tables u hfo.1).calls (by simp -implicitDefEqProofs only[go_sem]) ?_
  simp -implicitDefEqProofs only[go_sem]
  obtain⟨hu3,hnl⟩:=fit_small (m:=100) (by omega) hf
  have hul:=hfo.1.1
  have hD:(declsU u 0).length≤480:=by have:=declsU_small u 0 fun x hx=>Nat.le_trans (hnl x hx) (by omega);omega
  have htl:(tabsU u).length=u.length:=by simp[tabsU]
  have hT:∀ l∈tabsU u,l.length≤160:=fun l hl=>by
   obtain⟨x,hx,rfl⟩:=List.mem_map.1 hl
   split
   ·simp
   ·rw[rowsN_len];have:=hnl x hx;omega
  have hrow:=fun(un i:Nat) (l:List Rw) hl hi e=>@row_graph u hfo.1 un i l hl hi e
  have hseen:=fun e=>@graph_seen u hfo.1 e
  have hfr:=fun e=>@graph_from u hfo.1 e
  have hto:=fun e=>@graph_to u hfo.1 e
  have hasc:=graph_asc u
  generalize graphU u=g at *
  refine snd_list (β:=Unit) (tabsU u) (fun pre _=>⟨[(6,.int .i64 pre.length),(5,.slice (.arr 0) 38 ((seenA u (tabsU u) pre.length).map Ed.enc)),(4,sl 45 ((tabsU u).map encTab)),(3,sl 38 (g.map Ed.enc)),(0,sl 70 (u.map Un.enc))],[],[(seenA u (tabsU u) pre.length).length]⟩)
   (fun _ _ _=>True) () ?_ trivial ?_ ?_
  ·simp -implicitDefEqProofs only[go_sem]
   exact⟨rfl,rfl⟩
  ·intro _ _
   have hse:∀ e∈g,e∈seenA u (tabsU u) (tabsU u).length:=hseen
   have hA:=seenA_len hD hT (tabsU u).length
   generalize seenA u (tabsU u) (tabsU u).length=sn at hse hA
   have hDe:=PDecls u hfo.1
   rw[declsPU_eq]at hDe
   simp -implicitDefEqProofs only[go_sem]
   intro _ _
   refine hDe.calls (by simp -implicitDefEqProofs only[go_sem]) ?_
   have hfr':∀ e∈g,e.fr∈(declsU u 0).filterMap callN:=hfr
   have hto':∀ e∈g,e.to∈(declsU u 0).filterMap callN:=hto
   have hDs:=shortD_of hfo.1
   unfold shortD at hDs
   generalize declsU u 0=dl at *
   simp -implicitDefEqProofs only[go_sem]
   refine snd_list (β:=Unit) dl (fun pre _=>⟨[(13,.int .i64 pre.length),(12,sl 54 (dl.map Dl.enc)),(11,.slice (.arr 1) 9 ((pre.filterMap callN).map encTx)),(5,.slice (.arr 0) 38 (sn.map Ed.enc)),(3,sl 38 (g.map Ed.enc)),(0,sl 70 (u.map Un.enc))],[],[sn.length,(pre.filterMap callN).length]⟩)
    (fun _ _ _=>True) () ?_ trivial ?_ ?_
   ·simp -implicitDefEqProofs only[go_sem]
    try exact⟨rfl,rfl⟩
   ·intro _ _
    simp -implicitDefEqProofs only[go_sem]
    intro _ _
    generalize dl.filterMap callN=nm at hfr' hto' ⊢
    refine snd_list (β:=Unit) g (fun pre _=>⟨[(14,.int .i64 pre.length),(11,.slice (.arr 1) 9 (nm.map encTx)),(5,.slice (.arr 0) 38 (sn.map Ed.enc)),(3,sl 38 (g.map Ed.enc)),(0,sl 70 (u.map Un.enc))],[],[sn.length,nm.length]⟩)
     (fun _ _ _=>True) () ?_ trivial ?_ ?_
    ·simp -implicitDefEqProofs only[go_sem]
     rfl
    ·intro _ _
     simp -implicitDefEqProofs only[go_sem]
     intro _ _
     refine hAw.calls (by simp -implicitDefEqProofs only[go_sem]) ?_
     simp -implicitDefEqProofs only[go_sem]
     try rfl
    ·rintro pre e post _ hx _
     have hpl:g.length=pre.length+1+post.length:=by rw[hx];simp;omega
     have hgx:(g.map Ed.enc).getD (pre.length:Int).toNat []=e.enc:=by rw[hx];simp[List.getD_eq_getElem?_getD]
     have hlt:((pre.length:Int)<g.length)=True:=by simp;omega
     have hw:IntKind.i64.wrap (↑pre.length+1)=↑(pre.length+1):=wrap_next (by omega)
     have heg:e∈g:=by rw[hx];simp
     have h1:(sn.any fun x=>decide (x=e))=true:=by
      rw[List.any_eq_true]
      exact⟨e,hse e heg,by simp⟩
     have h2:(nm.any fun x=>decide (x=e.fr))=true:=by
      rw[List.any_eq_true]
      exact⟨_,hfr' e heg,by simp⟩
     have h3:(nm.any fun x=>decide (x=e.to))=true:=by
      rw[List.any_eq_true]
      exact⟨_,hto' e heg,by simp⟩
     simp -implicitDefEqProofs only[go_sem,hgx,hlt,Ed.enc]
     intro _ _
     refine(LhasEdge sn e).calls (by simp -implicitDefEqProofs only[go_sem,Ed.enc]) ?_
     rw[h1]
     simp -implicitDefEqProofs only[go_sem,hgx,hlt,Ed.enc]
     refine(R03Has nm e.fr).calls (by simp -implicitDefEqProofs only[go_sem]) ?_
     rw[h2]
     simp -implicitDefEqProofs only[go_sem,hgx,hlt,Ed.enc]
     refine(R03Has nm e.to).calls (by simp -implicitDefEqProofs only[go_sem]) ?_
     rw[h3]
     simp -implicitDefEqProofs only[go_sem,hgx,hlt,Ed.enc]
     have hcs:pre=[]∨∃ pq la,pre=pq++[la]:=by
      rcases List.eq_nil_or_concat pre with h | ⟨a,b,h⟩
      ·exact .inl h
      ·exact .inr ⟨a,b,by rw[h,List.concat_eq_append]⟩
     rcases hcs with rfl | ⟨pq,la,rfl⟩
     ·refine snd_draw (cs:=[]) mixed (by kernel_rfl) ?_
      simp -implicitDefEqProofs only[go_sem,hgx,hlt,Ed.enc,List.length_nil]
      exact⟨fun h=>absurd h (by simp),fun _=>⟨(),trivial⟩⟩
     ·have hql:(pq++[la]).length=pq.length+1:=by simp
      have hgl:(g.map Ed.enc).getD (pq.length:Int).toNat []=la.enc:=by rw[hx];simp[List.getD_eq_getElem?_getD]
      have hltl:((pq.length:Int)<g.length)=True:=by simp;omega
      have hwm:IntKind.i64.wrap (((pq.length+1:Nat):Int) - 1)=pq.length:=by rw[wrap_ok] <;> omega
      have hq0:(((pq.length+1:Nat):Int)=0)=False:=by simp;omega
      have hpos:(0<((pq.length+1:Nat):Int))=True:=by simp
      rw[hql]at hgx hlt hw ⊢
      have hlte:ltEd la e=true:=by
       rw[hx]at hasc
       exact(List.pairwise_append.1 hasc).2.2 la (by simp) e (by simp)
      refine snd_draw (cs:=[]) mixed (by kernel_rfl) ?_
      simp -implicitDefEqProofs only[go_sem,hgx,hlt,hgl,hltl,hwm,hq0,hpos,Ed.enc]
      have asy:∀ a b:ByteArray,ltB a b=true→ltB b a=true→False:=fun a b h1 h2=>by
       have:=ltB_trans h1 h2
       rw[ltB_irrefl]at this;cases this
      refine⟨fun _=>⟨fun he=>⟨fun h=>?_,fun _=>⟨(),hw⟩⟩,fun _=>⟨(),hw⟩⟩,fun h=>?_⟩
      ·exfalso
       rcases ltEd_iff.1 hlte with h1 | ⟨_,h1⟩
       ·rw[he]at h1;rw[ltB_irrefl]at h1;cases h1
       ·rw[Bool.or_eq_true,decide_eq_true_eq]at h
        rcases h with h | h
        ·exact asy _ _ h1 h
        ·rw[h]at h1;rw[ltB_irrefl]at h1;cases h1
      ·exfalso
       rcases ltEd_iff.1 hlte with h1 | ⟨h0,_⟩
       ·exact asy _ _ h1 h
       ·rw[h0]at h
        have:ltB e.fr e.fr=true:=h
        rw[ltB_irrefl]at this;cases this
   ·rintro pre d post _ hx _
    have hpl:dl.length=pre.length+1+post.length:=by rw[hx];simp;omega
    have hgx:(dl.map Dl.enc).getD (pre.length:Int).toNat []=d.enc:=by rw[hx];simp[List.getD_eq_getElem?_getD]
    have hlt:((pre.length:Int)<dl.length)=True:=by simp;omega
    have hw:IntKind.i64.wrap (↑pre.length+1)=↑(pre.length+1):=wrap_next (by omega)
    have hfl:=List.length_filterMap_le callN pre
    obtain⟨ds1,ds2⟩:=hDs d (by rw[hx];simp)
    have hsn:(pre++[d]).filterMap callN=pre.filterMap callN++(callN d).toList:=by
     rw[List.filterMap_append]
     cases hc:callN d <;> simp[hc]
    simp -implicitDefEqProofs only[go_sem,hgx,hlt,Dl.enc]
    intro _ _
    refine⟨fun h1=>⟨by omega,fun h4=>absurd h4 (by omega),fun _=>?_⟩,fun h1=>⟨fun h4=>?_,fun h4=>?_⟩⟩
    ·have hc:callN d=some d.name:=by rw[callN,if_pos h1]
     rw[hsn,hc]
     exact⟨(),⟨hw,by simp[encTx]⟩,by simp⟩
    ·have hc:callN d=some (d.owner++⟨#[46]⟩++d.name):=by rw[callN,if_neg h1,if_pos h4]
     refine snd_draw (cs:=[]) mixed (by kernel_rfl) ?_
     simp -implicitDefEqProofs only[go_sem,hgx,hlt,Dl.enc]
     have h46:(#[46]:Array UInt8).size=1:=rfl
     rw[h46,hsn,hc]
     exact⟨by omega,by omega,by omega,(),⟨hw,by simp[encTx]⟩,by simp⟩
    ·have hc:callN d=none:=by rw[callN,if_neg h1,if_neg h4]
     rw[hsn,hc]
     exact⟨(),⟨hw,by simp⟩,by simp⟩
  ·rintro pre l post _ hx _
   have hpl:(tabsU u).length=pre.length+1+post.length:=by rw[hx];simp;omega
   have hgx:((tabsU u).map encTab).getD (pre.length:Int).toNat []=encTab l:=by rw[hx];simp[List.getD_eq_getElem?_getD]
   have hlt:((pre.length:Int)<(tabsU u).length)=True:=by simp;omega
   have hw:IntKind.i64.wrap (↑pre.length+1)=↑(pre.length+1):=wrap_next (by omega)
   have hlx:(tabsU u)[pre.length]? = some l:=by rw[hx];simp
   have hll:=hT l (by rw[hx];simp)
   obtain⟨hro,hls⟩:=tab_short hfo.1 (l:=l) (by rw[hx];simp)
   have hmid:seenA u (tabsU u) (pre.length+1)=seenA u (tabsU u) pre.length++seenRs u pre.length l l.length:=by rw[seenA,List.getD_eq_getElem?_getD,hlx];rfl
   have hA:=seenA_len hD hT pre.length
   simp -implicitDefEqProofs only[go_sem,hgx,hlt,encTab]
   intro _ _
   refine snd_list (β:=Unit) l (fun q _=>⟨[(7,.int .i64 q.length),(6,.int .i64 pre.length),(5,.slice (.arr 0) 38 ((seenA u (tabsU u) pre.length++seenRs u pre.length l q.length).map Ed.enc)),(4,sl 45 ((tabsU u).map encTab)),(3,sl 38 (g.map Ed.enc)),(0,sl 70 (u.map Un.enc))],[],[(seenA u (tabsU u) pre.length++seenRs u pre.length l q.length).length]⟩)
    (fun _ _ _=>True) () ?_ trivial ?_ ?_
   ·simp -implicitDefEqProofs only[go_sem,seenRs,List.append_nil]
    rfl
   ·intro _ _
    simp -implicitDefEqProofs only[go_sem,hgx,hlt,encTab]
    intro _ _
    rw[hmid]
    exact⟨(),⟨hw,rfl⟩,rfl⟩
   ·rintro q r post2 _ hx2 _
    have hpl2:l.length=q.length+1+post2.length:=by rw[hx2];simp;omega
    have hgx2:(l.map Rw.enc).getD (q.length:Int).toNat []=r.enc:=by rw[hx2];simp[List.getD_eq_getElem?_getD]
    have hlt2:((q.length:Int)<l.length)=True:=by simp;omega
    have hw2:IntKind.i64.wrap (↑q.length+1)=↑(q.length+1):=wrap_next (by omega)
    have hrq:rwAt l q.length=r:=by rw[hx2];simp[rwAt,List.getD_eq_getElem?_getD]
    have hmid2:seenRs u pre.length l (q.length+1)=seenRs u pre.length l q.length++seenR u pre.length l q.length:=rfl
    have hR:=seenRs_len hD pre.length l q.length
    simp -implicitDefEqProofs only[go_sem,hgx,hlt,hgx2,hlt2,encTab,Rw.enc]
    intro _ _
    refine⟨fun h20=>⟨fun h21=>?_,fun h21=>?_⟩,fun h20=>?_⟩
    ·have he:seenR u pre.length l q.length=[]:=by
      rw[seenR,hrq,if_neg]
      simp at h20 h21
      rintro(h | h) <;> contradiction
     rw[hmid2,he,List.append_nil]
     exact⟨(),⟨hw2,rfl⟩,rfl⟩
    all_goals
     have hkk:r.kind=20∨r.kind=21:=by first | exact .inr (by simpa using h21) | exact .inl (by simpa using h20)
     have he:seenR u pre.length l q.length=(tgsU u pre.length q.length).map (Ed.mk ((arnd l q.length).getD ⟨#[]⟩)):=by rw[seenR,hrq,if_pos hkk]
     have hgr:=fun e=>hrow pre.length q.length l hlx (by omega) e
     rw[he]at hgr
     refine(KTargets u hfo.1 hfo.2 pre.length q.length (by omega)).calls (by simp -implicitDefEqProofs only[go_sem]) ?_
     have htl2:=tgs_len u pre.length q.length
     generalize tgsU u pre.length q.length=ts at he hgr htl2
     have hAr:=R15Around l hro q.length (by omega) hls
     generalize(arnd l q.length).getD ⟨#[]⟩=ar at he hgr hAr
     simp -implicitDefEqProofs only[go_sem,hgx,hlt,hgx2,hlt2,encTab,Rw.enc]
     refine snd_list (β:=Unit) ts (fun s _=>⟨[(9,.int .i64 s.length),(8,sl 9 (ts.map encTx)),(7,.int .i64 q.length),(6,.int .i64 pre.length),(5,.slice (.arr 0) 38 ((seenA u (tabsU u) pre.length++seenRs u pre.length l q.length++s.map (Ed.mk ar)).map Ed.enc)),(4,sl 45 ((tabsU u).map encTab)),(3,sl 38 (g.map Ed.enc)),(0,sl 70 (u.map Un.enc))],[],[(seenA u (tabsU u) pre.length++seenRs u pre.length l q.length++s.map (Ed.mk ar)).length]⟩)
      (fun _ _ _=>True) () ?_ trivial ?_ ?_
     ·simp -implicitDefEqProofs only[go_sem,List.append_nil,List.map_nil]
      try rfl
     ·intro _ _
      simp -implicitDefEqProofs only[go_sem,hgx,hlt,encTab]
      intro _ _
      rw[hmid2,he,←List.append_assoc]
      exact⟨(),⟨hw2,rfl⟩,rfl⟩
     ·rintro s t0 post3 _ hx3 _
      have hpl3:ts.length=s.length+1+post3.length:=by rw[hx3];simp;omega
      have hgx3:(ts.map encTx).getD (s.length:Int).toNat []=encTx t0:=by rw[hx3];simp[List.getD_eq_getElem?_getD]
      have hlt3:((s.length:Int)<ts.length)=True:=by simp;omega
      have hw3:IntKind.i64.wrap (↑s.length+1)=↑(s.length+1):=wrap_next (by omega)
      simp -implicitDefEqProofs only[go_sem,hgx,hlt,hgx2,hlt2,hgx3,hlt3,encTab,encTx,Rw.enc]
      intro _ _
      refine snd_draw (cs:=[]) mixed (by kernel_rfl) ?_
      simp -implicitDefEqProofs only[go_sem,hgx,hlt,hgx2,hlt2,hgx3,hlt3,encTab,encTx,Rw.enc]
      refine vPC_of hAr (by simp -implicitDefEqProofs only[go_sem]) ?_
      simp -implicitDefEqProofs only[go_sem,hgx,hlt,hgx2,hlt2,hgx3,hlt3,encTab,encTx,Rw.enc]
      have hin:(g.any fun x=>decide (x=(⟨ar,t0⟩:Ed)))=true:=by
       rw[List.any_eq_true]
       exact⟨⟨ar,t0⟩,hgr _ (List.mem_map.2 ⟨t0,by rw[hx3];simp,rfl⟩),by simp⟩
      refine(LhasEdge g ⟨ar,t0⟩).calls (by simp -implicitDefEqProofs only[go_sem,Ed.enc]) ?_
      rw[hin]
      simp -implicitDefEqProofs only[go_sem,hgx,hlt,hgx2,hlt2,hgx3,hlt3,encTab,encTx,Rw.enc]
      refine⟨by simp only[List.length_append,List.length_map];omega,(),⟨hw3,by simp[Ed.enc]⟩,by simp;omega,.inr ?_⟩
      rw[ltLL_pure _ _ _ (eds_pure _),ltLL_pure _ _ _ (tabs_pure _),ltLL_pure _ _ _ (eds_pure _),ltLL_pure _ _ _ (uns_pure _)]
      try rfl
theorem CallsEdges_law(u:List Un):VPure env 7 [sl 70 (u.map Un.enc)] (.bool true):=Ledges Lawake u
end Go.Proofs.YtighfcpaplmaiaaGreatDoor
set_option maxRecDepth 20000
namespace Go.Vg
def pthB(B:List (ByteArray×ByteArray)):ByteArray→List ByteArray→Prop
 | _,[]=>True
 | n,x::r=>x=n∧x≠⟨#[]⟩∧(getB B x).isSome=true∧pthB B ((getB B x).getD ⟨#[]⟩) r
theorem supB_out{B:List (ByteArray×ByteArray)}{s:ByteArray}:∀ (f:Nat) (out:List ByteArray) (n:ByteArray),∀ x∈out,x∈(supB B s f out n).1
 | 0,out,n,x,h=>h
 | f+1,out,n,x,h=>by
  rw[supB]
  split
  ·exact h
  ·exact supB_out f _ _ x (List.mem_append_left _ h)
theorem supB_pth{B:List (ByteArray×ByteArray)}{s:ByteArray}:∀ (f:Nat) (out:List ByteArray) (n:ByteArray) (p:List ByteArray),pthB B n p→p.length≤f→p.Nodup→(∀ x∈p,x ∉ s::out)→∀ x∈p,x∈(supB B s f out n).1
 | _,out,n,[],_,_,_,_,x,hx=>by cases hx
 | 0,out,n,y::r,_,h,_,_,x,hx=>by simp at h
 | f+1,out,n,y::r,hp,hl,hn,hd,x,hx=>by
  obtain⟨rfl,h1,h2,h3⟩:=hp
  have hy:=hd y (by simp)
  have hc:(decide (y=⟨#[]⟩) || !(getB B y).isSome || (s::out).any fun x=>decide (x=y))=false:=by
   simp only[h1,h2,decide_false,Bool.not_true,Bool.or_false,Bool.false_or,List.any_eq_false,decide_eq_true_eq]
   rintro z hz rfl
   exact hy hz
  rw[supB,if_neg (by rw[hc];simp)]
  obtain⟨hn1,hn2⟩:=List.nodup_cons.1 hn
  rcases List.mem_cons.1 hx with rfl | hx
  ·exact supB_out f _ _ _ (by simp)
  ·refine supB_pth f (out++[y]) _ r h3 (by simpa using hl) hn2 (fun z hz h=>?_) x hx
   have:=hd z (by simp[hz])
   simp only[List.mem_cons,List.mem_append,List.not_mem_nil,or_false]at h this
   rcases h with h | h | h
   ·exact this (.inl h)
   ·exact this (.inr h)
   ·subst h;exact hn1 hz
theorem supB_is{B:List (ByteArray×ByteArray)}{s:ByteArray}:∀ (f:Nat) (out:List ByteArray) (n:ByteArray),(s::out).Nodup→∃ p,(supB B s f out n).1=out++p∧pthB B n p∧(s::(out++p)).Nodup
 | 0,out,n,h=>⟨[],by simp[supB],trivial,by simpa using h⟩
 | f+1,out,n,h=>by
  rw[supB]
  split
  ·exact⟨[],by simp,trivial,by simpa using h⟩
  ·rename_i hc
   simp only[Bool.or_eq_true,not_or,decide_eq_true_eq,Bool.not_eq_true',Bool.not_eq_false,List.any_eq_true,not_exists,not_and]at hc
   obtain⟨⟨h1,h2⟩,h3⟩:=hc
   have hn:(s::(out++[n])).Nodup:=by
    have hno:n ∉ s::out:=fun hm=>h3 n hm rfl
    rw[←List.cons_append]
    refine List.nodup_append.2 ⟨h,by simp,fun a ha b hb=>?_⟩
    simp only[List.mem_singleton]at hb
    subst hb
    rintro rfl
    exact hno ha
   obtain⟨p,g1,g2,g3⟩:=supB_is f (out++[n]) ((getB B n).getD ⟨#[]⟩) hn
   exact⟨n::p,by rw[g1];simp,⟨rfl,h1,h2,g2⟩,by simpa using g3⟩
theorem pthB_tail{B:List (ByteArray×ByteArray)}:∀ (p:List ByteArray) {n x:ByteArray} {r:List ByteArray},pthB B n (p++x::r)→pthB B ((getB B x).getD ⟨#[]⟩) r∧(getB B x).isSome=true
 | [],n,x,r,h=>⟨h.2.2.2,h.2.2.1⟩
 | y::p,n,x,r,h=>pthB_tail p h.2.2.2
theorem pthB_head{B:List (ByteArray×ByteArray)}:∀ (p:List ByteArray) {n:ByteArray} {r:List ByteArray},pthB B n (p++r)→pthB B n p
 | [],n,r,h=>trivial
 | y::p,n,r,h=>⟨h.1,h.2.1,h.2.2.1,pthB_head p h.2.2.2⟩
theorem supP_pth{B:List (ByteArray×ByteArray)}{s:ByteArray}{p:List ByteArray}(hp:pthB B ((getB B s).getD ⟨#[]⟩) p)(hl:p.length≤B.length+1)(hn:(s::p).Nodup):∀ x∈p,x∈(supP B s).1:=by
 obtain⟨h1,h2⟩:=List.nodup_cons.1 hn
 refine supB_pth _ _ _ p hp hl h2 fun x hx h=>?_
 simp only[List.mem_singleton]at h
 subst h
 exact h1 hx
theorem getB_pair{B:List (ByteArray×ByteArray)}{n:ByteArray}(h:(getB B n).isSome=true):∃ b,(n,b)∈B:=by
 unfold getB at h
 rw[Option.isSome_map]at h
 obtain⟨p,hp⟩:=Option.isSome_iff_exists.1 h
 have h1:=List.find?_some hp
 simp only[decide_eq_true_eq]at h1
 obtain⟨a,b⟩:=p
 simp only at h1
 subst h1
 exact⟨b,List.mem_of_find?_eq_some hp⟩
theorem subL_mem{B:List (ByteArray×ByteArray)}{c y:ByteArray}:y∈subL B c↔∃ b,(y,b)∈B∧c∈(supP B y).1:=by
 unfold subL
 rw[(sortS_perm _).mem_iff]
 simp only[List.mem_map,List.mem_filter,subB,List.any_eq_true,decide_eq_true_eq]
 constructor
 ·rintro⟨⟨a,b⟩,⟨h1,x,h2,rfl⟩,rfl⟩
  exact⟨b,h1,h2⟩
 ·rintro⟨b,h1,h2⟩
  exact⟨(y,b),⟨h1,c,h2,rfl⟩,rfl⟩
theorem family{B:List (ByteArray×ByteArray)}{y c z:ByteArray}(hc:c∈(supP B y).1)(hz:z∈(supP B y).1):z=c∨z∈(supP B c).1∨z∈subL B c:=by
 obtain⟨p,h1,h2,h3⟩:=supB_is (B:=B) (s:=y) (B.length+1) [] ((getB B y).getD ⟨#[]⟩) (by simp)
 have hl:=supP_len B y
 have hP:(supP B y).1=p:=by unfold supP;rw[h1];rfl
 rw[hP]at hc hz hl
 rw[List.nil_append]at h3
 obtain⟨_,h4⟩:=List.nodup_cons.1 h3
 obtain⟨p1,p2,rfl⟩:=List.append_of_mem hc
 obtain⟨n1,n2,n3⟩:=List.nodup_append.1 h4
 rcases List.mem_append.1 hz with hz | hz
 ·obtain⟨a,b,rfl⟩:=List.append_of_mem hz
  rw[List.append_assoc,List.cons_append]at h2 h4
  obtain⟨g1,g2⟩:=pthB_tail a h2
  obtain⟨bb,hb⟩:=getB_pair g2
  obtain⟨_,m2,_⟩:=List.nodup_append.1 h4
  have e:b++c::p2=(b++[c])++p2:=by simp
  rw[e]at g1 m2
  refine .inr (.inr (subL_mem.2 ⟨bb,hb,supP_pth (pthB_head _ g1) ?_ ?_ c (by simp)⟩))
  ·simp only[List.length_append,List.length_cons,List.length_nil]at hl ⊢;omega
  ·rw[←List.cons_append]at m2
   exact(List.nodup_append.1 m2).1
 ·rcases List.mem_cons.1 hz with rfl | hz
  ·exact .inl rfl
  ·obtain⟨g1,_⟩:=pthB_tail p1 h2
   refine .inr (.inl (supP_pth g1 ?_ n2 z hz))
   simp only[List.length_append,List.length_cons]at hl ⊢;omega
end Go.Vg
namespace Go.Proofs.YtighfcpaplmaiaaGreatDoor
open Go Go.Vg Go.Proofs
end Go.Proofs.YtighfcpaplmaiaaGreatDoor
