/- The law CallsClasses. -/
import Derived.Test.YtighfcpaplmaiaaGreatDoorUeO
import Derived.Test.YtighfcpaplmaiaaGreatDoorUbB
import Derived.Test.YtighfcpaplmaiaaGreatDoorVgOrd
import Derived.Test.YtighfcpaplmaiaaGreatDoorRows
set_option linter.unusedVariables false
set_option linter.unusedSimpArgs false
set_option maxRecDepth 20000
namespace Go.Proofs.YtighfcpaplmaiaaGreatDoor
open Go Go.Vg Go.Proofs
theorem kid0{n:Nd}{i:Nat}(hi:i<(rowsN n (-1) 0).length)(hk:0<(rwAt (rowsN n (-1) 0) i).kids.length):kdAt (rowsN n (-1) 0) i 0=i+1:=by
 obtain⟨k,t,g,ks,e1,e2,e3,e4⟩:=row_node hi
 have h1:=kdAt_get hk
 rw[e4]at h1 hk
 cases ks with
 | nil=>simp[kidsAt]at hk
 | cons x r =>
  have h2:=kidsAt_get (x::r) (i+1) 0 (by simp)
  rw[h2]at h1
  simpa[nodesL]using h1.symm
theorem tof_row{u:List Un}(hu:fitU u)(h0:(chkU u).1=0){un i:Nat}{l:List Rw}(hl:(tabsU u)[un]? = some l)(hi:i<l.length)(h17:17≤(rwAt l i).kind):tofU u un i=(tyS u ((un:Int),(i:Int)),0):=by
 have hS:=chkU_snd hu h0
 obtain⟨r1,r2⟩:=(hS.gram l (List.mem_of_getElem? hl)).rng i hi
 obtain⟨x,hx,rfl⟩:=tab_unit hS.br hl
 have hlt:=(List.getElem?_eq_some_iff.1 hx).1
 obtain⟨k,t,g,ks,e1,e2,e3,e4⟩:=row_node hi
 rw[tofU,if_neg (by simpa using h0),if_neg (by omega),if_pos (by omega),Int.toNat_natCast,Int.toNat_natCast,hx,Option.map_some,Option.getD_some,e1]
 simp only
 rw[if_pos]
 show groupK k=3
 rw[e2]at h17 r2
 unfold groupK
 rw[if_neg (by omega),if_neg (by omega),if_pos (by omega)]
theorem basesL_sub(bt:Dl→ByteArray):∀ (l:List Dl) (B:List (ByteArray×ByteArray)) (p:ByteArray×ByteArray),p∈l.foldl (addB bt) B→p∈B∨∃ d∈l,d.kind=2∧d.name=p.1
 | [],B,p,h => .inl h
 | x::r,B,p,h=>by
  rw[List.foldl_cons]at h
  rcases basesL_sub bt r _ p h with h | ⟨d,h1,h2⟩
  ·unfold addB at h
   split at h
   ·rename_i hc
    rcases List.mem_append.1 h with h | h
    ·exact .inl h
    ·simp only[List.mem_singleton]at h
     subst h
     exact .inr ⟨x,by simp,hc.1,rfl⟩
   ·exact .inl h
  ·exact .inr ⟨d,by simp[h1],h2⟩
theorem look_none{u:List Un}(hS:SndU u)(n:ByteArray):lookU u ⟨#[]⟩ n=none:=by
 cases hl:lookU u ⟨#[]⟩ n with
 | none=>rfl
 | some d =>
  exfalso
  obtain⟨h1,h2,h3,_⟩:=lookU_some hl
  have hg:getB (basesL (btU u) (declsU u 0)) ⟨#[]⟩=none:=by
   cases hb:getB (basesL (btU u) (declsU u 0)) ⟨#[]⟩with
   | none=>rfl
   | some b =>
    exfalso
    obtain⟨b',hm⟩:=getB_pair (n:=⟨#[]⟩) (by rw[hb];rfl)
    rcases basesL_sub _ _ _ _ hm with h | ⟨e,g1,g2,g3⟩
    ·cases h
    ·obtain⟨un,nd,l,q1,q2,q3,q4,q5,q6⟩:=hS.decl g1
     have:=name_at hS q3 q4 (by omega)
     rw[←q5,g3]at this
     exact this rfl
  have hp:(supP (basesL (btU u) (declsU u 0)) ⟨#[]⟩).1=[]:=by
   unfold supP
   rw[hg]
   show(supB _ _ (_+1) _ ⟨#[]⟩).1=[]
   rw[supB,if_pos (by simp)]
  rw[hp]at h3
  have ho:d.owner=⟨#[]⟩:=by
   rcases h3 with h | h
   ·exact h
   ·cases h
  obtain⟨x,hx,hb,j,hj⟩:=declsU_walk u 0 d h1
  have hs:=hS.snd x hx
  have hck:checkN x.tree=0:=by simp[soundB]at hs;exact hs.2
  unfold checkN at hck
  split at hck
  ·cases hck
  have hf:=walk_facts x.tree j 0 Ar.none (fun y hy=>firstN_zero _ hck y hy) (fun h=>by cases h) d hj
  exact valid_ne (hf.2 h2).1 ho
theorem pthB_all{B:List (ByteArray×ByteArray)}:∀ (p:List ByteArray) {n:ByteArray},pthB B n p→∀ x∈p,(getB B x).isSome=true
 | [],_,_,x,h=>by cases h
 | y::r,n,h,x,hx=>by
  rcases List.mem_cons.1 hx with rfl | hx
  ·exact h.2.2.1
  ·exact pthB_all r h.2.2.2 x hx
theorem pair_short{u:List Un}(hu:fitU u){n b:ByteArray}(h:(n,b)∈basesL (btU u) (declsU u 0)):n.size≤1000000:=by
 rcases basesL_sub _ _ _ _ h with h | ⟨d,g1,_,g3⟩
 ·cases h
 ·have:=(shortD_of hu d g1).2
  rw[g3]at this
  exact this
theorem sup_short{u:List Un}(hu:fitU u){c y:ByteArray}(h:y∈supU u c):y.size≤1000000:=by
 obtain⟨p,h1,h2,h3⟩:=supB_is (B:=basesL (btU u) (declsU u 0)) (s:=c) ((basesL (btU u) (declsU u 0)).length+1) [] ((getB (basesL (btU u) (declsU u 0)) c).getD ⟨#[]⟩) (by simp)
 unfold supU at h
 rw[h1,List.nil_append]at h
 obtain⟨b,hb⟩:=getB_pair (pthB_all p h2 y h)
 exact pair_short hu hb
theorem fam_short{u:List Un}(hu:fitU u){c n:ByteArray}{d:Dl}(hd:lookU u c n=some d):∀ y∈c::(supU u c++subU u c),y.size≤3000000:=by
 intro y hy
 rcases List.mem_cons.1 hy with rfl | hy
 ·obtain⟨g1,_,g3,_⟩:=lookU_some hd
  rcases g3 with g3 | g3
  ·rw[←g3];exact(shortD_of hu d g1).1
  ·obtain⟨p,h1,h2,h3⟩:=supB_is (B:=basesL (btU u) (declsU u 0)) (s:=y) ((basesL (btU u) (declsU u 0)).length+1) [] ((getB (basesL (btU u) (declsU u 0)) y).getD ⟨#[]⟩) (by simp)
   unfold supP at g3
   rw[h1,List.nil_append]at g3
   cases p with
   | nil=>cases g3
   | cons x r =>
    obtain⟨e1,e2,_⟩:=h2
    have hs:(getB (basesL (btU u) (declsU u 0)) y).isSome=true:=by
     cases hg:getB (basesL (btU u) (declsU u 0)) y with
     | some b=>rfl
     | none=>rw[hg]at e1;exact absurd e1 e2
    obtain⟨b,hb⟩:=getB_pair hs
    have:=pair_short hu hb
    omega
 ·rcases List.mem_append.1 hy with hy | hy
  ·have:=sup_short hu hy;omega
  ·obtain⟨b,hb,_⟩:=subL_mem.1 hy
   have:=pair_short hu hb;omega
theorem send_facts{u:List Un}(hu:fitU u)(h0:(chkU u).1=0){un i:Nat}{l:List Rw}(hl:(tabsU u)[un]? = some l)(hi:i<l.length)(hk:(rwAt l i).kind=21) :
  0<(rwAt l i).kids.length∧kdAt l i 0<l.length∧tofU u un (kdAt l i 0:Nat)=(tyS u ((un:Int),((kdAt l i 0:Nat):Int)),0) ∧
  ∃ d,lookU u (tyS u ((un:Int),((kdAt l i 0:Nat):Int))) (rwAt l i).text=some d∧qualM d∈tgsU u un i ∧
  ∀ t∈tgsU u un i,∃ y∈tyS u ((un:Int),((kdAt l i 0:Nat):Int))::(supU u (tyS u ((un:Int),((kdAt l i 0:Nat):Int)))++subU u (tyS u ((un:Int),((kdAt l i 0:Nat):Int)))),t=y++⟨#[46]⟩++(rwAt l i).text:=by
 have hS:=chkU_snd hu h0
 have hC:=chk_facts h0
 have hg:=hS.gram l (List.mem_of_getElem? hl)
 have hle:=hg.least i hi
 rw[hk]at hle
 have hk1:0<(rwAt l i).kids.length:=by simp[leastK]at hle;omega
 have hkd:=hg.kid i hi 0 hk1
 have hf:=hg.fit i hi 0 hk1
 rw[hk]at hf
 have g3:∀ k:Int,groupK k=3→17≤k:=fun k h=>by
  unfold groupK at h
  repeat' split at h
  all_goals omega
 have h17:17≤(rwAt l (kdAt l i 0)).kind:=by
  simp[fitsK]at hf;exact g3 _ hf
 have hne:=ty_ne hu h0 hl hkd.2.1 h17
 have htof:=tof_row hu h0 hl hkd.2.1 h17
 have hw:=hC.wrong hl hi
 unfold wrS at hw
 simp only at hw
 rw[if_neg (by omega),if_neg (by omega),if_neg (by omega),if_neg (by omega),if_neg (by omega),if_pos hk,if_neg hne]at hw
 have hk0:kdAt l i 0=i+1:=by
  obtain⟨x,hx,rfl⟩:=tab_unit hS.br hl
  exact kid0 hi hk1
 refine⟨hk1,hkd.2.1,htof,?_⟩
 rw[tgs_row hu h0 hl hi,tgtU,if_neg (by omega),if_pos hk,show((i:Int)+1)=((kdAt l i 0:Nat):Int)by omega,htof]
 generalize tyS u ((un:Int),((kdAt l i 0:Nat):Int))=c at hw hne
 simp only[if_true]
 have hrc:rcT c=c:=by
  unfold rcT at hw ⊢
  split
  ·rename_i hc
   rw[if_pos hc]at hw
   unfold mtS at hw
   simp only at hw
   rw[look_none hS]at hw
   cases hw
  ·rfl
 rw[hrc]at hw
 unfold mtS at hw
 simp only at hw
 cases hd:lookU u c (rwAt l i).text with
 | none=>rw[hd]at hw;cases hw
 | some d =>
  have hm:∀ t,t∈sortS (dedU (tgL u c (rwAt l i).text))↔t∈tgL u c (rwAt l i).text:=fun t=>by
   rw[(sortS_perm _).mem_iff,dedU,(dedU_facts _ [] (by simp)).2];simp
  refine⟨d,rfl,(hm _).2 (tgL_mem.2 ⟨c,by simp,d,hd,rfl⟩),fun t ht=>?_⟩
  obtain⟨y,hy,e,he,rfl⟩:=tgL_mem.1 ((hm _).1 ht)
  obtain⟨_,_,q3,q4⟩:=lookU_some he
  refine⟨e.owner,?_,by rw[qualM,q4]⟩
  have hsu:∀ z,z∈(supP (basesL (btU u) (declsU u 0)) c).1→z∈supU u c:=fun z h=>h
  rcases List.mem_cons.1 hy with rfl | hy
  ·rcases q3 with q3 | q3
   ·rw[q3];simp
   ·exact List.mem_cons_of_mem _ (List.mem_append_left _ q3)
  ·rcases q3 with q3 | q3
   ·rw[q3]
    exact List.mem_cons_of_mem _ (List.mem_append_right _ hy)
   ·obtain⟨b,_,hcm⟩:=subL_mem.1 hy
    rcases family hcm q3 with h | h | h
    ·rw[h];simp
    ·exact List.mem_cons_of_mem _ (List.mem_append_left _ h)
    ·exact List.mem_cons_of_mem _ (List.mem_append_right _ h)
theorem R12Exists(tb:List (List Rw))(un nd:Int):VPure env 30 [sl 45 (tb.map encTab),.agg [.int .i64 un,.int .i64 nd]] (.bool (decide (0≤un∧un<tb.length∧0≤nd∧nd<(tb.getD un.toNat []).length))):=by
 refine vpure_vc (fn:=Tryz.f30) Tryz.func30 rfl (by rw[Tryz.ntmps30];simp) (by simp -implicitDefEqProofs only[go_sem];exact tabs_pure _) rfl ?_
 simp -implicitDefEqProofs only[go_sem,Tryz.f30]
 refine snd_draw (cs:=[]) mixed (by kernel_rfl) ?_
 by_cases h1:0≤un∧un<tb.length
 ·obtain⟨n,rfl⟩:=Int.eq_ofNat_of_zero_le h1.1
  have hn:n<tb.length:=by omega
  have hg:(tb.map encTab).getD ((n:Int)).toNat []=encTab (tb.getD n []):=by simp[List.getD_eq_getElem?_getD,hn]
  have hlt:((n:Int)<tb.length)=True:=by simp;omega
  have h0:(0≤(n:Int))=True:=by simp
  simp -implicitDefEqProofs only[go_sem,hg,hlt,h0,encTab]
  rw[Int.toNat_natCast]
  exact⟨fun h=>by simp[h],fun h=>by simp[h]⟩
 ·rw[decide_eq_false (by rintro⟨a,b,_⟩;exact h1 ⟨a,b⟩)]
  simp -implicitDefEqProofs only[go_sem]
  exact fun a b=>absurd ⟨a,b⟩ h1
def famV(l:List ByteArray)(v:V)(a:List Nat):Prop:=(v = .slice .full 9 (l.map encTx)∧a=[])∨(v = .slice (.arr 0) 9 (l.map encTx)∧a=[l.length])
theorem Lclasses(hAw:VPure env 9 [] (.bool true))(u:List Un)(un nd:Int)(hnd:nd≤9223372036854775807):VPure env 8 [sl 70 (u.map Un.enc),.agg [.int .i64 un,.int .i64 nd]] (.bool true):=by
 refine vpure_vc (fn:=Tryz.f8) Tryz.func8 rfl (by rw[Tryz.ntmps8];simp) (by simp -implicitDefEqProofs only[go_sem];exact uns_pure _) rfl ?_
 simp -implicitDefEqProofs only[go_sem,Tryz.f8]
 refine(Lfit u).calls (by simp -implicitDefEqProofs only[go_sem]) ?_
 cases hf:fitL u with
 | false =>
  simp -implicitDefEqProofs only[go_sem]
  refine hAw.calls (by simp -implicitDefEqProofs only[go_sem]) ?_
  simp -implicitDefEqProofs only[go_sem]
  try rfl
 | true =>
  have hfs:fitsU u 3 160 6000=true:=by
   unfold fitL at hf
   rw[Bool.and_eq_true]at hf
   exact hf.1
  have hfo:=(fit_ok (m:=160) (Nat.le_refl _) hfs)
  simp -implicitDefEqProofs only[go_sem]
  refine(R12Tables u hfo.1).calls (by simp -implicitDefEqProofs only[go_sem]) ?_
  simp -implicitDefEqProofs only[go_sem]
  refine(TCheck u hfo.1 hfo.2).calls (by simp -implicitDefEqProofs only[go_sem]) ?_
  simp -implicitDefEqProofs only[go_sem,encE]
  refine snd_draw (cs:=[]) mixed (by kernel_rfl) ?_
  by_cases h0:(chkU u).1=0
  ·by_cases hx:0≤un∧un<(tabsU u).length∧0≤nd∧nd<((tabsU u).getD un.toNat []).length
   ·obtain⟨n,rfl⟩:=Int.eq_ofNat_of_zero_le hx.1
    obtain⟨i,rfl⟩:=Int.eq_ofNat_of_zero_le hx.2.2.1
    obtain⟨l,hl⟩:∃ l,(tabsU u)[n]? = some l:=⟨_,List.getElem?_eq_getElem (by omega)⟩
    have hgd:(tabsU u).getD ((n:Int)).toNat []=l:=by rw[List.getD_eq_getElem?_getD,Int.toNat_natCast,hl];rfl
    have hil:i<l.length:=by rw[hgd]at hx;omega
    have hgx:((tabsU u).map encTab).getD ((n:Int)).toNat []=encTab l:=by rw[List.getD_eq_getElem?_getD,List.getElem?_map,Int.toNat_natCast,hl];rfl
    have hlt:((n:Int)<(tabsU u).length)=True:=by simp;omega
    have hn0:(0≤(n:Int))=True:=by simp
    have hgi:=row_getDi hil
    have hlti:((i:Int)<l.length)=True:=by simp;omega
    have hi0:(0≤(i:Int))=True:=by simp
    have hE:=R12Exists (tabsU u) n i
    rw[decide_eq_true hx]at hE
    simp -implicitDefEqProofs only[go_sem,h0,encTab]
    refine vPC_of hE (by simp -implicitDefEqProofs only[go_sem]) ?_
    simp -implicitDefEqProofs only[go_sem,hgx,hlt,hn0,hgi,hlti,hi0,encTab,Rw.enc]
    refine⟨fun hk=>?_,fun hk=>?_⟩
    ·refine hAw.calls (by simp -implicitDefEqProofs only[go_sem]) ?_
     simp -implicitDefEqProofs only[go_sem]
     try rfl
    have hk21:(rwAt l i).kind=21:=by simpa using hk
    obtain⟨hk1,hkl,htof,d,hd,hdm,hall⟩:=send_facts hfo.1 h0 hl hil hk21
    have hgk:=kid_getD hk1
    have hll:=(tabs_ok hfo.1 l (List.mem_of_getElem? hl)).len
    have hTO:=TTypeOf u hfo.1 hfo.2 n (kdAt l i 0:Nat) (by omega)
    rw[htof]at hTO
    generalize tyS u ((n:Int),((kdAt l i 0:Nat):Int))=c at hTO hd hall
    refine snd_draw (cs:=[]) mixed (by kernel_rfl) ?_
    simp -implicitDefEqProofs only[go_sem,hgx,hlt,hn0,hgi,hlti,hi0,encTab,Rw.enc]
    refine snd_draw (cs:=[]) mixed (by kernel_rfl) ?_
    simp -implicitDefEqProofs only[go_sem,hgx,hlt,hn0,hgi,hlti,hi0,hgk,encTab,encIx,Rw.enc]
    refine⟨by omega,?_⟩
    refine vPC_of hTO (by simp -implicitDefEqProofs only[go_sem]) ?_
    simp -implicitDefEqProofs only[go_sem]
    have hL:=CLookup u hfo.1 c (rwAt l i).text
    rw[hd]at hL
    have hds:=shortD_of hfo.1 d (lookU_some hd).1
    obtain⟨ds1,ds2⟩:=hds
    refine hL.calls (by simp -implicitDefEqProofs only[go_sem]) ?_
    simp -implicitDefEqProofs only[go_sem,encDO,Option.getD_some,Option.isSome_some]
    have hKT:=KTargets u hfo.1 hfo.2 n i (by omega)
    generalize tgsU u n i=ts at hdm hall hKT
    refine hKT.calls (by simp -implicitDefEqProofs only[go_sem]) ?_
    simp -implicitDefEqProofs only[go_sem,Dl.enc]
    have h46:(#[46]:Array UInt8).size=1:=rfl
    have hH:=R03Has ts (qualM d)
    have hany:(ts.any fun x=>decide (x=qualM d))=true:=by
     rw[List.any_eq_true]
     exact⟨_,hdm,by simp⟩
    rw[hany]at hH
    refine⟨by omega,by omega,?_⟩
    refine hH.calls (by simp -implicitDefEqProofs only[go_sem,qualM]) ?_
    simp -implicitDefEqProofs only[go_sem]
    have hshort:=fam_short hfo.1 hd
    have htx:(rwAt l i).text.size≤1000000:=(tab_short hfo.1 (List.mem_of_getElem? hl)).2 _ (by simp[rwAt,List.getD_eq_getElem?_getD,hil])
    have hSp:=CSupers u hfo.1 c
    have hSb:=CSubs u hfo.1 c
    have hpl:=supP_len (basesL (btU u) (declsU u 0)) c
    have hsl:(supU u c).length≤1000000:=by
     have h1:=basesL_len (btU u) (declsU u 0)
     have h2:=declsU_small u 0 (fit_small (m:=160) (Nat.le_refl _) hfs).2
     have h3:=(fit_small (m:=160) (Nat.le_refl _) hfs).1
     have h4:(supU u c).length=(supP (basesL (btU u) (declsU u 0)) c).1.length:=rfl
     omega
    have hbl:=subU_len hfo.1 c
    generalize supU u c=sp at hSp hall hsl hshort
    generalize subU u c=sb at hSb hall hbl hshort
    refine hSp.calls (by simp -implicitDefEqProofs only[go_sem]) ?_
    simp -implicitDefEqProofs only[go_sem]
    refine snd_list (β:=V×List Nat) sp (fun pre b=>⟨[(16,.int .i64 pre.length),(15,sl 9 (sp.map encTx)),(14,b.1),(13,sl 9 (ts.map encTx)),(9,.str c),(8,.ptr 2 0),(0,sl 70 (u.map Un.enc))],[.dead,.dead,.cells (rwAt l i).enc,.dead],b.2⟩)
     (fun pre post b=>famV (c::pre) b.1 b.2) (.slice .full 9 [[.str c]],[]) ?_ (.inl ⟨rfl,rfl⟩) ?_ ?_
    ·simp -implicitDefEqProofs only[go_sem,Rw.enc]
     rfl
    ·rintro⟨v,a⟩ hfam
     simp only at hfam ⊢
     simp -implicitDefEqProofs only[go_sem]
     intro _ _
     refine hSb.calls (by simp -implicitDefEqProofs only[go_sem]) ?_
     simp -implicitDefEqProofs only[go_sem]
     refine snd_list (β:=V×List Nat) sb (fun pre b=>⟨[(17,.int .i64 pre.length),(15,sl 9 (sb.map encTx)),(14,b.1),(13,sl 9 (ts.map encTx)),(8,.ptr 2 0),(0,sl 70 (u.map Un.enc))],[.dead,.dead,.cells (rwAt l i).enc,.dead],b.2⟩)
      (fun pre post b=>famV (c::(sp++pre)) b.1 b.2) (v,a) ?_ (by simpa using hfam) ?_ ?_
     ·simp -implicitDefEqProofs only[go_sem,Rw.enc]
      rfl
     ·rintro⟨v,a⟩ hfam
      simp only at hfam ⊢
      have htv:∀ N,tell N v (sl 9 ((c::(sp++sb)).map encTx)):=fun N=>by
       rcases hfam with⟨rfl,_⟩ | ⟨rfl,_⟩ <;> (rw[tell_sl];exact⟨rfl,.inr rfl⟩)
      have hfl:(c::(sp++sb)).length≤3000000:=by simp only[List.length_cons,List.length_append];omega
      generalize c::(sp++sb)=fam at htv hall hfl hshort
      simp -implicitDefEqProofs only[go_sem]
      intro _ _
      refine snd_list (β:=Unit) ts (fun q _=>⟨[(18,.int .i64 q.length),(14,sl 9 (fam.map encTx)),(13,sl 9 (ts.map encTx)),(8,.ptr 2 0),(0,sl 70 (u.map Un.enc))],[.dead,.dead,.cells (rwAt l i).enc,.dead],a⟩)
       (fun _ _ _=>True) () ?_ trivial ?_ ?_
      ·simp -implicitDefEqProofs only[go_sem,Rw.enc]
       exact⟨rfl,htv _⟩
      ·intro _ _
       simp -implicitDefEqProofs only[go_sem]
       intro _ _
       refine hAw.calls (by simp -implicitDefEqProofs only[go_sem]) ?_
       simp -implicitDefEqProofs only[go_sem]
       try rfl
      ·rintro q t0 post _ hx _
       have hpl:ts.length=q.length+1+post.length:=by rw[hx];simp;omega
       have hgs:(ts.map encTx).getD (q.length:Int).toNat []=encTx t0:=by rw[hx];simp[List.getD_eq_getElem?_getD]
       have hlts:((q.length:Int)<ts.length)=True:=by simp;omega
       obtain⟨y,hy,hyt⟩:=hall t0 (by rw[hx];simp)
       simp -implicitDefEqProofs only[go_sem,hgs,hlts,encTx]
       intro _ _
       have hw:IntKind.i64.wrap (↑q.length+1)=↑(q.length+1):=wrap_next (by omega)
       refine snd_list (β:=Bool) fam (fun p b=>⟨[(20,.int .i64 p.length),(19,.bool b),(18,.int .i64 q.length),(14,sl 9 (fam.map encTx)),(13,sl 9 (ts.map encTx)),(8,.ptr 2 0),(0,sl 70 (u.map Un.enc))],[.dead,.dead,.cells (rwAt l i).enc,.dead],a⟩)
        (fun p post b=>b=p.any fun y=>decide (t0=y++⟨#[46]⟩++(rwAt l i).text)) false ?_ rfl ?_ ?_
       ·simp -implicitDefEqProofs only[go_sem]
        rfl
       ·rintro b hb
        have hbt:b=true:=by
         rw[hb,List.any_eq_true]
         exact⟨y,hy,by rw[hyt];simp⟩
        rw[hbt]
        simp -implicitDefEqProofs only[go_sem]
        intro _ _
        exact⟨(),hw⟩
       ·rintro p y2 post2 b hx2 hb
        have hpl2:fam.length=p.length+1+post2.length:=by rw[hx2];simp;omega
        have hgs2:(fam.map encTx).getD (p.length:Int).toNat []=encTx y2:=by rw[hx2];simp[List.getD_eq_getElem?_getD]
        have hlts2:((p.length:Int)<fam.length)=True:=by simp;omega
        have hw2:IntKind.i64.wrap (↑p.length+1)=↑(p.length+1):=wrap_next (by omega)
        have hsy:=hshort y2 (by rw[hx2];simp)
        simp -implicitDefEqProofs only[go_sem,hgs,hlts,hgs2,hlts2,encTx]
        intro _ _
        refine snd_draw (cs:=[]) mixed (by kernel_rfl) ?_
        simp -implicitDefEqProofs only[go_sem,hgs,hlts,hgs2,hlts2,encTx,Rw.enc]
        have h46:(#[46]:Array UInt8).size=1:=rfl
        refine⟨fun h=>⟨by omega,by omega,_,?_,hw2,rfl⟩,fun h=>⟨true,?_,hw2,rfl⟩⟩
        ·rw[List.any_append,←hb,h];simp
        ·rw[List.any_append,←hb,h];simp
     ·rintro pre s post ⟨v,a⟩ hx hfam
      have hpl:sb.length=pre.length+1+post.length:=by rw[hx];simp;omega
      have hgs:(sb.map encTx).getD (pre.length:Int).toNat []=encTx s:=by rw[hx];simp[List.getD_eq_getElem?_getD]
      have hlts:((pre.length:Int)<sb.length)=True:=by simp;omega
      have hw:IntKind.i64.wrap (↑pre.length+1)=↑(pre.length+1):=wrap_next (by omega)
      simp only at hfam ⊢
      rcases hfam with⟨rfl,rfl⟩ | ⟨rfl,rfl⟩
      ·simp -implicitDefEqProofs only[go_sem,hgs,hlts,encTx]
       intro _ _
       refine⟨by simp only[List.length_append];omega,(.slice (.arr 0) 9 ((c::(sp++(pre++[s]))).map encTx),[(c::(sp++(pre++[s]))).length]),.inr ⟨rfl,rfl⟩,⟨hw,by rw[tell_arr];exact⟨rfl,rfl,by simp[encTx]⟩⟩,⟨by simp;omega,trivial⟩,.inl (by simp)⟩
      ·simp -implicitDefEqProofs only[go_sem,hgs,hlts,encTx]
       intro _ _
       refine⟨by simp only[List.length_append];omega,(.slice (.arr 0) 9 ((c::(sp++(pre++[s]))).map encTx),[(c::(sp++(pre++[s]))).length]),.inr ⟨rfl,rfl⟩,⟨hw,by rw[tell_arr];exact⟨rfl,rfl,by simp[encTx]⟩⟩,⟨by simp;omega,trivial⟩,.inl (by simp)⟩
    ·rintro pre s post ⟨v,a⟩ hx hfam
     have hpl:sp.length=pre.length+1+post.length:=by rw[hx];simp;omega
     have hgs:(sp.map encTx).getD (pre.length:Int).toNat []=encTx s:=by rw[hx];simp[List.getD_eq_getElem?_getD]
     have hlts:((pre.length:Int)<sp.length)=True:=by simp;omega
     have hw:IntKind.i64.wrap (↑pre.length+1)=↑(pre.length+1):=wrap_next (by omega)
     simp only at hfam ⊢
     rcases hfam with⟨rfl,rfl⟩ | ⟨rfl,rfl⟩
     ·simp -implicitDefEqProofs only[go_sem,hgs,hlts,encTx]
      intro _ _
      refine⟨by omega,(.slice (.arr 0) 9 ((c::(pre++[s])).map encTx),[(c::(pre++[s])).length]),.inr ⟨rfl,rfl⟩,⟨hw,by rw[tell_arr];exact⟨rfl,rfl,by simp[encTx]⟩⟩,⟨by simp,trivial⟩,.inl (by simp)⟩
     ·simp -implicitDefEqProofs only[go_sem,hgs,hlts,encTx]
      intro _ _
      refine⟨by omega,(.slice (.arr 0) 9 ((c::(pre++[s])).map encTx),[(c::(pre++[s])).length]),.inr ⟨rfl,rfl⟩,⟨hw,by rw[tell_arr];exact⟨rfl,rfl,by simp[encTx]⟩⟩,⟨by simp,trivial⟩,.inl (by simp)⟩
   ·have hE:=R12Exists (tabsU u) un nd
    rw[decide_eq_false hx]at hE
    simp -implicitDefEqProofs only[go_sem,h0,encTab]
    refine vPC_of hE (by simp -implicitDefEqProofs only[go_sem]) ?_
    simp -implicitDefEqProofs only[go_sem]
    refine hAw.calls (by simp -implicitDefEqProofs only[go_sem]) ?_
    simp -implicitDefEqProofs only[go_sem]
    try rfl
  ·have hE:=R12Exists (tabsU u) un nd
   simp -implicitDefEqProofs only[go_sem,h0]
   refine hAw.calls (by simp -implicitDefEqProofs only[go_sem]) ?_
   simp -implicitDefEqProofs only[go_sem]
   try rfl
theorem CallsClasses_law(u:List Un)(un nd:Int)(hnd:nd≤9223372036854775807):VPure env 8 [sl 70 (u.map Un.enc),.agg [.int .i64 un,.int .i64 nd]] (.bool true):=Lclasses Lawake u un nd hnd
end Go.Proofs.YtighfcpaplmaiaaGreatDoor
namespace Go.Vg
open Go.RowKit
theorem relW_startZ{E:Env}{W:World}(hg:∀ g cs,E.gl g=some cs→pureL cs=true∧RV E.P (startG W) [] (.fptr cs) (.pointer (some ⟨g,0,none⟩)))(hi:E.ini W):RelW E (startG W) [] [] ⟨W,allF W,[]⟩ W where
 newF:=fun b o v h _=>h
 glob:=hg
 below:=Below.refl _ _
 frz:=fun b o v h=>(allF_some h).1
 one:=fun b o v h=>(allF_some h).2
 obj:=fun id ob h=>by simp at h
 lenφ:=rfl
 vs:=Vecs.nil
 nod:=fun i j b h=>by simp[startG]at h
 sep:=fun id b o h=>by simp[startG]at h
 geφ:=fun id b h=>by simp[startG]at h
 lenρ:=rfl
 reg:=fun k b lo hi h=>by simp[startG]at h
 regd:=fun k k' b lo hi lo' hi' _ h=>by simp[startG]at h
 fre:=fun k b lo hi h=>by simp[startG]at h
 bld:=fun id t s b h=>by simp at h
 ini:=hi
theorem calls_trueZ{E:Env}{f:FuncId}{args:List V}{vals:Array Value}{W:World}(h:VPure E f args (.bool true))(hg:∀ g cs,E.gl g=some cs→pureL cs=true∧RV E.P (startG W) [] (.fptr cs) (.pointer (some ⟨g,0,none⟩)))(hi:E.ini W)(ha:Args E.P (startG W) [] args vals) :
  Calls E.P f vals W fun e W'=>e = .returned (.bool true)∧Below W.heap.size W W':=by
 have h3:=h.2.2 (startG W) ⟨W,allF W,[]⟩ W vals (relW_startZ (E:=E.alive) hg hi) ha
 refine h3.mono fun e W' hgo=>?_
 obtain⟨val,rfl,v,heap',arr',G',rfl,hx,hr,hv⟩:=hgo.alive
 cases hv
 exact⟨rfl,hr.below⟩
theorem startG_F{W:World}(b o:Nat)(v:Value)(hc:W.cell? ⟨b,o,none⟩=some v)(h1:v.oneCell'=true):(startG W).F b o=some v:=by
 simp only[startG,allF,hc,h1,if_true]
theorem glob_of_reads{P:Program}{W:World}{name:String}{d:DataW Unit}{g:Nat}{t:TypeId}(ty:Tz)(hcl:ty.closed=true)(hlv:∀ (G:Gh) F,ty.lv (fun _=>()) P W G false F)(hok:ty.ok P (.inl t)=true)
  (hg:P.globalNamed name=some g) (hty:(P.globals[g]?).map (·.type)=some t) (hw:(d.weights P t).all (· ≤ reachBytes)=true)
  (h:Lib.VarReads P W name d):RV P (startG W) [] (.fptr (ty.val d)) (.pointer (some ⟨g,0,none⟩)):=by
 obtain⟨g',t',cs,fuel,p,hg',ht',hvar,hd⟩:=h
 obtain rfl:=Option.some.inj (hg.symm.trans hg')
 obtain rfl:=Option.some.inj (hty.symm.trans ht')
 obtain⟨xs,h1,h2,h3,h4⟩:=(Tz.read (G:=startG W) startG_F ty (fuel+1) (hlv _ _)).1 t fuel cs.toList d p (by omega) hok hd hw
 have hx:=ty.val_of d xs hcl h1
 subst hx
 have hcell:∀ j:Nat,W.cell? ⟨g,j,none⟩=cs.toList[j]?:=by
  intro j
  unfold World.var? at hvar
  rw[hg,Option.bind_some]at hvar
  split at hvar
  ·rename_i cs' _ _ hh
   cases hvar
   simp only[World.cell?,hh]
   simp
  ·cases hvar
 refine .fptr _ g 0 (fun j hj=>?_) (fun j c v hc hv=>?_)
 ·have hj':j<cs.toList.length:=by omega
  have hv:=hcell j
  rw[List.getElem?_eq_getElem hj']at hv
  exact⟨_,startG_F _ _ _ (by rw[Nat.zero_add];exact hv) (h4 j _ _ (List.getElem?_eq_getElem hj) (List.getElem?_eq_getElem hj')).2⟩
 ·have:=(allF_some hv).1
  rw[Nat.zero_add,hcell]at this
  exact(h4 j c v hc this).1
theorem arg_slice{H:Type}{enc:TypeId×Value→H}{P:Program}{W:World}{T e:TypeId}{v:Value}{d:DataW H}{p:List MemPlace}{b:Nat}(ty:Tz)(hlv:∀ F,ty.lv enc P W (startG W) true F)(ht:P.underlying T=some (.slice e))(hok:(Tz.sl e ty).ok P (.inl T)=true)
  (hval:Value.okWide P W .any b T v) (h:DataW.Trod enc P W 0 (fun _=>true) true T v d p) (hw:(d.weights P T).all (· ≤ reachBytes)=true) :
  ∃ es:List (List V),(∀ el∈es,∃ di:DataW H,ty.sem di el)∧RV P (startG W) [] (sl e es) v:=by
 obtain⟨a0,len,cap,rfl⟩:=Go.WideShapes.okWide_slice ht hval
 obtain⟨fuel,h⟩:=h
 obtain⟨xs,⟨es,rfl,he1,he2⟩,h3,h4,h5⟩:=(Tz.read (G:=startG W) startG_F (.sl e ty) (fuel+1) (hlv _)).1 T fuel _ d p (by omega) hok h hw
 refine⟨es,fun el hel=>?_,(h5 0 _ _ rfl rfl).1⟩
 obtain⟨i,hi,rfl⟩:=List.getElem_of_mem hel
 exact⟨_,he2 i _ (List.getElem?_eq_getElem hi)⟩
end Go.Vg
set_option maxRecDepth 20000
namespace Go.Proofs.YtighfcpaplmaiaaGreatDoor
open Go Go.Vg Go.Proofs Go.RowKit
def isNd(xs:List V):Prop:=∃ n:Nd,xs=n.enc
def tyNd:Tz := .cons 3 (.int .i64) (.cons 9 .str (.cons 28 (.sl 9 .str) (.cons 64 (.sl 66 (.leaf 66 4 isNd)) .unit)))
def tyUn:Tz := .cons 9 .str (.cons 9 .str (.cons 66 (.leaf 66 4 isNd) (.cons 4 .bool .unit)))
def tyPt:Tz := .cons 3 (.int .i64) (.cons 3 (.int .i64) .unit)
def tyShp:Tz := .cons 254 (.sl 256 tyPt) (.cons 256 tyPt (.cons 3 (.int .i64) (.cons 28 (.sl 9 .str) (.cons 3 (.int .i64) .unit))))
def tyShps:Tz := .arr 258 27 tyShp
theorem tyNd_ok:tyNd.ok Tryz.prog (.inl 66)=true:=by kernel_rfl
theorem tyUns_ok:(Tz.sl 70 tyUn).ok Tryz.prog (.inl 22)=true:=by kernel_rfl
theorem tyShps_ok:tyShps.ok Tryz.prog (.inl 259)=true:=by kernel_rfl
theorem list_as{α β:Type}{f:α→β}{es:List β}(h:∀ el∈es,∃ a,el=f a):∃ l:List α,es=l.map f:=by
 induction es with
 | nil=>exact⟨[],rfl⟩
 | cons x r ih =>
  obtain⟨a,rfl⟩:=h x (by simp)
  obtain⟨l,rfl⟩:=ih fun el hel=>h el (by simp[hel])
  exact⟨a::l,rfl⟩
section
variable {H : Type} {d : DataW H} {xs : List V}
theorem semStrs{e:TypeId}(h:(Tz.sl e .str).sem d xs):∃ g:List ByteArray,xs=[sl e (g.map encTx)]:=by
 obtain⟨es,rfl,h1,h2⟩:=h
 obtain⟨l,rfl⟩:=list_as (f:=encTx) (es:=es) fun el hel=>by
  obtain⟨i,hi,rfl⟩:=List.getElem_of_mem hel
  obtain⟨s,hs,_⟩:=h2 i _ (List.getElem?_eq_getElem hi)
  exact⟨s,hs⟩
 exact⟨l,rfl⟩
theorem semNd(h:tyNd.sem d xs):isNd xs:=by
 obtain⟨_,_,rfl,⟨k,rfl,_⟩,_,_,rfl,⟨t,rfl,_⟩,_,_,rfl,hg,_,_,rfl,⟨es,rfl,h1,h2⟩,rfl⟩:=h
 obtain⟨g,rfl⟩:=semStrs hg
 obtain⟨l,rfl⟩:=list_as (f:=Nd.enc) (es:=es) fun el hel=>by
  obtain⟨i,hi,rfl⟩:=List.getElem_of_mem hel
  exact h2 i _ (List.getElem?_eq_getElem hi)
 exact⟨.mk k t g l,by rw[enc_mk];rfl⟩
theorem semUn(h:tyUn.sem d xs):∃ u:Un,xs=u.enc:=by
 obtain⟨_,_,rfl,⟨p,rfl,_⟩,_,_,rfl,⟨t,rfl,_⟩,_,_,rfl,⟨n,rfl⟩,_,_,rfl,⟨b,rfl,_⟩,rfl⟩:=h
 exact⟨⟨p,t,n,b⟩,by simp[Un.enc]⟩
end
theorem leafNd{H:Type}{enc:TypeId×Value→H}{w:World}{G:Gh}{held:Bool}(hG:∀ b o v,w.cell? ⟨b,o,none⟩=some v→v.oneCell'=true→G.F b o=some v):∀ F,LeafR enc Tryz.prog w G held F 66 4 isNd
 | 0=>fun fuel hF=>absurd hF (Nat.not_lt_zero _)
 | F+1=>fun fuel hF cs d ps ht hw=>by
  have ih:=leafNd (enc:=enc) (held:=held) hG F
  have hlv:tyNd.lv enc Tryz.prog w G held (F+1):=⟨trivial,trivial,trivial,fun f hf=>ih f (by omega),trivial⟩
  obtain⟨xs,h1,h2,h3,h4⟩:=(Tz.read hG tyNd (F+1) hlv).1 66 fuel cs d ps hF tyNd_ok ht hw
  exact⟨xs,semNd h1,h2,h3,h4⟩
theorem arg_units{H:Type}{enc:TypeId×Value→H}{W:World}{v:Value}{d:DataW H}{p:List MemPlace}{b:Nat}(ht:Tryz.prog.underlying 22=some (.slice 70))
  (hval:Value.okWide Tryz.prog W .any b 22 v) (h:DataW.Trod enc Tryz.prog W 0 (fun _=>true) true 22 v d p) (hw:(d.weights Tryz.prog 22).all (· ≤ reachBytes)=true) :
  ∃ u:List Un,RV Tryz.prog (startG W) [] (sl 70 (u.map Un.enc)) v:=by
 obtain⟨es,h1,h2⟩:=arg_slice tyUn (fun F=>⟨trivial,trivial,leafNd startG_F _,trivial,trivial⟩) ht tyUns_ok hval h hw
 obtain⟨l,rfl⟩:=list_as (f:=Un.enc) fun el hel=>by
  obtain⟨di,hdi⟩:=h1 el hel
  exact semUn hdi
 exact⟨l,h2⟩
theorem shapes_val:tyShps.val Rows.laid_treemerge_grammar_shapes (H:=Unit)=shapesC:=by kernel_rfl
theorem glob_shapes{W:World}(h:Lib.VarReads Tryz.prog W "treemerge/grammar.shapes" Rows.laid_treemerge_grammar_shapes):∀ g cs,env.gl g=some cs→pureL cs=true∧RV env.P (startG W) [] (.fptr cs) (.pointer (some ⟨g,0,none⟩)):=by
 intro g cs hg
 by_cases e:g=0
 ·subst e
  rw[env_shapes]at hg
  cases hg
  refine⟨by kernel_rfl,?_⟩
  have:=glob_of_reads (g:=0) (t:=259) tyShps rfl (fun G F=>⟨⟨trivial,trivial,trivial⟩,⟨trivial,trivial,trivial⟩,trivial,trivial,trivial,trivial⟩) tyShps_ok (by kernel_rfl) (by kernel_rfl) (by kernel_rfl) h
  rw[shapes_val]at this
  exact this
 ·simp[env,envD,e]at hg
end Go.Proofs.YtighfcpaplmaiaaGreatDoor
set_option maxRecDepth 20000
namespace Go.Proofs.YtighfcpaplmaiaaGreatDoor
open Go Go.Vg Go.Proofs Go.RowKit
def tyRef:Ty := .cons 3 (.int .i64) (.cons 3 (.int .i64) .unit)
theorem tyRef_ok:tyRef.ok Tryz.prog (.inl 24)=true:=by kernel_rfl
theorem semRef{xs:List V}(h:tyRef.sem xs):∃ un nd:Int,nd≤9223372036854775807∧xs=[.int .i64 un,.int .i64 nd]:=by
 obtain⟨_,_,rfl,⟨a,rfl,_⟩,_,_,rfl,⟨b,rfl,_,hb⟩,rfl⟩:=h
 exact⟨a,b,hb,rfl⟩
end Go.Proofs.YtighfcpaplmaiaaGreatDoor
