/- What is known of a project that passes the check: its uses are bound, every expression has a type. -/
import Derived.Test.YtighfcpaplmaiaaGreatDoorUdG
import Derived.Test.YtighfcpaplmaiaaGreatDoorUbB
import Derived.Test.YtighfcpaplmaiaaGreatDoorUdL
import Derived.ProofKit
import Derived.Deep.QuietTactic
import Derived.Test.YtighfcpaplmaiaaGreatDoorVgY
import Derived.Test.YtighfcpaplmaiaaGreatDoorVgOrd
import Derived.Shelf.SlSortFuncK.WholeK
set_option linter.unusedVariables false
set_option linter.unusedSimpArgs false
set_option maxRecDepth 20000
namespace Go.Vg
theorem firstI_none{q:Nat→Bool}:∀ (n i:Nat),firstI q n i=none→∀ j,j<n→q (i+j)=false
 | 0,_,_,j,h=>by omega
 | n+1,i,h,j,hj=>by
  rw[firstI]at h
  split at h
  ·cases h
  ·rename_i h0
   cases j with
   | zero=>simpa using h0
   | succ j =>
    have:=firstI_none n (i+1) h j (by omega)
    rwa [show i+(j+1)=i+1+j by omega]
theorem firstTb_none{p:Nat→Nat→Bool}:∀ (tb:List (List Rw)) (n:Nat),firstTb p tb n=none→∀ (un i:Nat) (l:List Rw),tb[un]? = some l→i<l.length→p (n+un) i=false
 | [],_,_,un,i,l,h,_=>by simp at h
 | t::r,n,h0,un,i,l,h,hi=>by
  rw[firstTb]at h0
  split at h0
  ·cases h0
  ·rename_i h1
   cases un with
   | zero =>
    simp at h
    subst h
    have:=firstI_none _ 0 h1 i hi
    simpa using this
   | succ un =>
    rw[List.getElem?_cons_succ]at h
    have:=firstTb_none r (n+1) h0 un i l h hi
    rwa [show n+(un+1)=n+1+un by omega]
theorem node_nm{y:Nd}(h:y.node=0)(hk:y.kind=2∨y.kind=4∨y.kind=5∨y.kind=7∨y.kind=22):validName y.text=true:=by
 unfold Nd.node at h
 have h17:y.kind≠17:=by omega
 have hn:namedK y.kind y.text=true:=by
  unfold namedK
  rw[if_neg (by omega)]
  simp only[decide_eq_true_eq]
  omega
 split at h
 ·cases h
 ·split at h
  ·cases h
  ·rename_i hv
   simp only[h17,decide_false,Bool.false_and,Bool.not_false,Bool.true_and,Bool.false_or,hn,Bool.not_eq_true,Bool.not_eq_false']at hv
   exact hv
theorem shown_ne{l:List Rw}(hg:gramL l):∀ (f i:Nat),i<l.length→constR l f i=true→shownR l f i≠⟨#[]⟩
 | 0,_,_,h=>by cases h
 | f+1,i,hi,h=>by
  rw[constR,Bool.and_eq_true,decide_eq_true_eq,List.all_eq_true]at h
  obtain⟨hk,ha⟩:=h
  rw[shownR]
  by_cases h26:(rwAt l i).kind=26
  ·rw[if_pos h26]
   have hle:=hg.least i hi
   rw[h26]at hle
   have hk1:0<(rwAt l i).kids.length:=by simp[leastK]at hle;omega
   have hkd:=hg.kid i hi 0 hk1
   exact shown_ne hg f _ hkd.2.1 (ha _ (List.mem_of_getElem? (kdAt_get hk1)))
  ·rw[if_neg h26]
   split
   ·decide
   split
   ·decide
   split
   ·unfold opT;split <;> decide
   ·omega
end Go.Vg
namespace Go.Proofs.YtighfcpaplmaiaaGreatDoor
open Go Go.Vg Go.Proofs
structure ChkF(u:List Un):Prop where
 cls:(clsChk u (declsU u 0)).1=0
 nm:firstTb (nmP u) (tabsU u) 0=none
 dbl:(dblL (tabsU u) (declsU u 0)).2=[]
 unb:unbL (usesU u)=[]
 wr:firstTb (wrP u) (tabsU u) 0=none
 mi:firstTb (miP u) (tabsU u) 0=none
theorem chk_facts{u:List Un}(h:(chkU u).1=0):ChkF u:=by
 unfold chkU at h
 split at h
 ·cases h
 unfold chk1 at h
 split at h
 ·rename_i h1
  exact absurd h h1
 rename_i h1
 split at h
 ·cases h
 rename_i h2
 unfold chk2 at h
 split at h
 ·cases h
 rename_i h3
 split at h
 ·cases h
 rename_i h4
 unfold chk3 at h
 split at h
 ·cases h
 rename_i h5
 split at h
 ·cases h
 rename_i h6
 exact⟨by simpa using h1,h2,h3,h4,h5,h6⟩
theorem ChkF.wrong{u:List Un}(h:ChkF u){un i:Nat}{l:List Rw}(hl:(tabsU u)[un]? = some l)(hi:i<l.length):wrS u un l i=false:=by
 have:=firstTb_none _ 0 h.wr un i l hl hi
 rw[Nat.zero_add]at this
 rwa [wrP,tbO_at hl]at this
theorem ChkF.placed{u:List Un}(h:ChkF u){un i:Nat}{l:List Rw}(hl:(tabsU u)[un]? = some l)(hi:i<l.length):misS u un l i=false:=by
 have:=firstTb_none _ 0 h.mi un i l hl hi
 rw[Nat.zero_add]at this
 rwa [miP,tbO_at hl]at this
theorem ChkF.const{u:List Un}(h:ChkF u){un:Nat}{l:List Rw}(hl:(tabsU u)[un]? = some l):∀ i<l.length,(rwAt l i).kind=9→∃ f,constR l f (kdAt l i 0)=true:=fun i hi hk=>by
 have:=h.placed hl hi
 rw[misS,if_neg (by omega),if_pos hk]at this
 exact⟨l.length,by simpa using this⟩
theorem usesL_all{M:List Dl}:∀ (tb:List (List Rw)) (n un i:Nat) (l:List Rw),tb[un]? = some l→i<l.length→(useK (rwAt l i).kind (rwAt l i).text).2=true→(⟨n+un,i,resK l M (n+un) i (useK (rwAt l i).kind (rwAt l i).text).1⟩:Us)∈usesL M tb n
 | [],n,un,i,l,h,_,_=>by simp at h
 | t::r,n,un,i,l,h,hi,hu=>by
  rw[usesL]
  cases un with
  | zero =>
   simp at h
   subst h
   refine List.mem_append_left _ (List.mem_flatMap.2 ⟨i,by simpa using hi,?_⟩)
   unfold useAt
   rw[if_pos hu]
   exact List.mem_singleton.2 rfl
  | succ un =>
   rw[List.getElem?_cons_succ]at h
   have:=usesL_all (M:=M) r (n+1) un i l h hi hu
   rw[show n+1+un=n+(un+1)by omega]at this
   exact List.mem_append_right _ this
theorem ChkF.bound{u:List Un}(h:ChkF u){un i:Nat}{l:List Rw}(hl:(tabsU u)[un]? = some l)(hi:i<l.length)(hk:(useK (rwAt l i).kind (rwAt l i).text).2=true):(resK l (globL (declsU u 0)) un i (useK (rwAt l i).kind (rwAt l i).text).1).isSome=true:=by
 have hm:=usesL_all (M:=globL (declsU u 0)) (tabsU u) 0 un i l hl hi hk
 rw[Nat.zero_add]at hm
 cases hr:(resK l (globL (declsU u 0)) un i (useK (rwAt l i).kind (rwAt l i).text).1)with
 | some d=>rfl
 | none =>
  rw[hr]at hm
  have:(⟨un,i,none⟩:Us)∈unbL (usesU u):=List.mem_filter.2 ⟨hm,rfl⟩
  rw[h.unb]at this
  cases this
theorem call_decl{u:List Un}(h:ChkF u){un i:Nat}{l:List Rw}(hl:(tabsU u)[un]? = some l)(hi:i<l.length)(hk:(rwAt l i).kind=20):∃ d,(declsU u 0).find? (keyG 1 (rwAt l i).text)=some d:=by
 have hb:=h.bound hl hi (by rw[hk,useK_fn])
 rw[hk,useK_fn]at hb
 unfold resK at hb
 rw[if_neg (by simp),glob_find,Option.isSome_map]at hb
 exact Option.isSome_iff_exists.1 hb
theorem lookL_some{B:List (ByteArray×ByteArray)}{M:List Dl}{c n:ByteArray}{d:Dl}(h:lookL B M c n=some d):d∈M∧(d.owner=c∨d.owner∈(supP B c).1)∧d.name=n:=by
 unfold lookL at h
 obtain⟨s,hs,hf⟩:=List.exists_of_findSome?_eq_some h
 have h1:=List.find?_some hf
 simp only[Bool.and_eq_true,decide_eq_true_eq]at h1
 refine⟨List.mem_of_find?_eq_some hf,?_,h1.2.symm⟩
 rw[←h1.1]
 exact List.mem_cons.1 hs
theorem lookU_some{u:List Un}{c n:ByteArray}{d:Dl}(h:lookU u c n=some d):d∈declsU u 0∧d.kind=4∧(d.owner=c∨d.owner∈(supP (basesL (btU u) (declsU u 0)) c).1)∧d.name=n:=by
 obtain⟨h1,h2,h3⟩:=lookL_some h
 obtain⟨h4,h5⟩:=lookU_mem h
 exact⟨h4,h5,h2,h3⟩
theorem name_at{u:List Un}(h:SndU u){un i:Nat}{l:List Rw}(hl:(tabsU u)[un]? = some l)(hi:i<l.length)(hk:(rwAt l i).kind=2∨(rwAt l i).kind=4∨(rwAt l i).kind=5∨(rwAt l i).kind=7∨(rwAt l i).kind=22):(rwAt l i).text≠⟨#[]⟩:=by
 obtain⟨x,hx,rfl⟩:=tab_unit h.br hl
 have hs:=h.snd x (List.mem_of_getElem? hx)
 obtain⟨k,t,g,ks,e1,e2,e3,e4⟩:=row_node hi
 have hck:checkN x.tree=0:=by simp[soundB]at hs;exact hs.2
 unfold checkN at hck
 split at hck
 ·cases hck
 rw[e3]
 rw[e2]at hk
 exact valid_ne (node_nm (y := .mk k t g ks) (firstN_zero _ hck _ (List.mem_of_getElem? e1)) hk)
theorem getM_some{k:Int×Int}:∀ (us:List Us) (M:List ((Int×Int)×(Int×Int))),(∃ x∈us,k=((x.un:Int),(x.nd:Int))∧x.to.isSome=true)∨(getM M k).isSome=true→(getM (us.foldl addD M) k).isSome=true
 | [],M,h=>by
  rcases h with⟨x,hx,_⟩ | h
  ·cases hx
  ·exact h
 | x::r,M,h=>by
  rw[List.foldl_cons]
  refine getM_some r _ ?_
  have keep:(getM M k).isSome=true→(getM (addD M x) k).isSome=true:=fun h=>by
   unfold addD
   split
   ·rw[get_set]
    split
    ·rfl
    ·exact h
   ·exact h
  rcases h with⟨y,hy,hk,ht⟩ | h
  ·rcases List.mem_cons.1 hy with rfl | hy
   ·obtain⟨d,hd⟩:=Option.isSome_iff_exists.1 ht
    right
    unfold addD
    rw[hd]
    simp only
    rw[get_set,if_pos hk];rfl
   ·exact .inl ⟨y,hy,hk,ht⟩
  ·exact .inr (keep h)
theorem ChkF.dcl{u:List Un}(h:ChkF u){un i:Nat}{l:List Rw}(hl:(tabsU u)[un]? = some l)(hi:i<l.length)(hk:(useK (rwAt l i).kind (rwAt l i).text).2=true):∃ d,getM (dclU u) ((un:Int),(i:Int))=some d:=by
 have hm:=usesL_all (M:=globL (declsU u 0)) (tabsU u) 0 un i l hl hi hk
 rw[Nat.zero_add]at hm
 exact Option.isSome_iff_exists.1 (getM_some _ _ (.inl ⟨_,hm,rfl,h.bound hl hi hk⟩))
theorem result_ne{u:List Un}(h:SndU u){un i:Nat}{l:List Rw}(hl:(tabsU u)[un]? = some l)(hi:i<l.length)(hk:(rwAt l i).kind=2):(signR l i).result≠⟨#[]⟩:=by
 have hg:=h.gram l (List.mem_of_getElem? hl)
 have hle:=hg.least i hi
 rw[hk]at hle
 have hk1:1<(rwAt l i).kids.length:=by simp[leastK]at hle;omega
 have hkd:=hg.kid i hi 1 hk1
 have hf:=hg.fit i hi 1 hk1
 rw[hk]at hf
 simp[fitsK]at hf
 exact name_at h hl hkd.2.1 (.inr (.inr (.inl hf)))
theorem mt_ne{u:List Un}(h:SndU u){c n:ByteArray}{s:Sg}(hs:mtS u (c,n)=some s):s.result≠⟨#[]⟩:=by
 unfold mtS at hs
 obtain⟨d,hd,rfl⟩:=Option.map_eq_some_iff.1 hs
 obtain⟨h1,h2⟩:=lookU_mem hd
 obtain⟨un,nd,l,q1,q2,q3,q4,q5,q6⟩:=h.decl h1
 rw[q1,q2,tb_at q3,Int.toNat_natCast]
 exact result_ne h q3 q4 (by omega)
theorem ty_ne{u:List Un}(hu:fitU u)(h0:(chkU u).1=0){un i:Nat}{l:List Rw}(hl:(tabsU u)[un]? = some l)(hi:i<l.length)(hg3:17≤(rwAt l i).kind):tyS u ((un:Int),(i:Int))≠⟨#[]⟩:=by
 have hS:=chkU_snd hu h0
 have hT:=hS.ckT
 have hC:=chk_facts h0
 obtain⟨μ,hμ⟩:=hT.mu
 have key:∀ (n un i:Nat) (l:List Rw),μ ((un:Int),(i:Int))<n→(tabsU u)[un]? = some l→i<l.length→17≤(rwAt l i).kind→tyS u ((un:Int),(i:Int))≠⟨#[]⟩:=by
  intro n
  induction n with
  | zero=>intro _ _ _ h;omega
  | succ n ih =>
   intro un i l hn hl hi hk
   have hV:Val (tabsU u) ((un:Int),(i:Int)):=⟨un,i,l,rfl,hl,hi⟩
   have hg:=hS.gram l (List.mem_of_getElem? hl)
   obtain⟨r1,r2⟩:=hg.rng i hi
   have ihq:∀ q,tgt (tabsU u) (dclU u) ((un:Int),(i:Int)) q→17≤(rwK (tabsU u) q).kind→tyS u q≠⟨#[]⟩:=fun q hq h17=>by
    obtain⟨⟨un',i',l',rfl,g1,g2⟩,g3,g4⟩:=(hμ _ hV).2 q hq
    rw[rwK_at g1]at h17
    exact ih un' i' l' (by omega) g1 g2 h17
   have kid3:∀ {p:Nat},p<l.length→((rwAt l p).kind=10∨(rwAt l p).kind=21∨(rwAt l p).kind=26)→kdAt l p 0<l.length∧17≤(rwAt l (kdAt l p 0)).kind:=fun {p} hp hk=>by
    have hle:=hg.least p hp
    have hk1:0<(rwAt l p).kids.length:=by
     rcases hk with hk | hk | hk <;> (rw[hk]at hle;simp[leastK]at hle;omega)
    have hkd:=hg.kid p hp 0 hk1
    have hf:=hg.fit p hp 0 hk1
    refine⟨hkd.2.1,?_⟩
    have g3:∀ k:Int,groupK k=3→17≤k:=fun k h=>by
     unfold groupK at h
     repeat' split at h
     all_goals omega
    rcases hk with hk | hk | hk <;> (rw[hk]at hf;simp[fitsK]at hf;exact g3 _ hf)
   rw[tyS_eq hT hV]
   unfold tyB
   rw[rwK_at hl,kdK_at hl,tb_at hl,Int.toNat_natCast]
   by_cases h17:(rwAt l i).kind=17
   ·rw[if_pos h17];decide
   rw[if_neg h17]
   by_cases h18:(rwAt l i).kind=18
   ·rw[if_pos h18];decide
   rw[if_neg h18]
   by_cases h19:(rwAt l i).kind=19
   ·rw[if_pos h19]
    obtain⟨d,hd⟩:=hC.dcl hl hi (by rw[useK_var (.inl h19)])
    rw[hd]
    simp only
    obtain⟨⟨un',i',l',rfl,g1,g2⟩,g3⟩:=hT.d19 _ _ hV (by rw[rwK_at hl];exact .inl h19) hd
    have hg':=hS.gram l' (List.mem_of_getElem? g1)
    rw[rwK_at g1]at g3
    unfold varB
    rw[rwK_at g1,kdK_at g1,rwK_at g1,tb_at g1,Int.toNat_natCast]
    have hle:=hg'.least i' g2
    have hk1:0<(rwAt l' i').kids.length:=by
     rcases g3 with hk | hk | hk <;> (rw[hk]at hle;simp[leastK]at hle;omega)
    have hkd:=hg'.kid i' g2 0 hk1
    have hf:=hg'.fit i' g2 0 hk1
    rcases g3 with g3 | g3 | g3
    ·rw[if_pos g3]
     rw[g3]at hf
     simp[fitsK]at hf
     exact name_at hS g1 hkd.2.1 (.inr (.inr (.inl hf)))
    ·rw[if_neg (by omega),if_neg (by omega),if_pos g3]
     have hp:=hC.placed g1 g2
     rw[misS,if_neg (by omega),if_pos g3]at hp
     exact shown_ne hg' _ _ hkd.2.1 (by simpa using hp)
    ·rw[if_neg (by omega),if_pos g3]
     refine ihq _ (.inr ⟨by rw[rwK_at hl];exact h19,_,hd,by rw[rwK_at g1];exact g3,(kdK_at g1).symm⟩) ?_
     rw[rwK_at g1]
     rw[g3]at hf
     simp[fitsK,groupK]at hf
     omega
   rw[if_neg h19]
   by_cases h20:(rwAt l i).kind=20
   ·rw[if_pos h20]
    obtain⟨d,hd⟩:=hC.dcl hl hi (by rw[h20,useK_fn])
    rw[hd]
    simp only
    obtain⟨⟨un',i',l',rfl,g1,g2⟩,g3,_⟩:=hS.fnc hl h20 hd
    rw[rwK_at g1]at g3
    rw[tb_at g1,Int.toNat_natCast]
    exact result_ne hS g1 g2 g3
   rw[if_neg h20]
   by_cases h21:(rwAt l i).kind=21
   ·rw[if_pos h21]
    obtain⟨k1,k2⟩:=kid3 hi (.inr (.inl h21))
    have hne:=ihq _ (.inl ⟨by rw[rwK_at hl];exact .inl h21,(kdK_at hl).symm⟩) (by rw[rwK_at hl];exact k2)
    have hw:=hC.wrong hl hi
    unfold wrS at hw
    simp only at hw
    rw[if_neg (by omega),if_neg (by omega),if_neg (by omega),if_neg (by omega),if_neg (by omega),if_pos h21,if_neg hne]at hw
    cases hm:mtS u (rcT (tyS u ((un:Int),((kdAt l i 0:Nat):Int))),(rwAt l i).text)with
    | none=>rw[hm]at hw;cases hw
    | some s=>exact mt_ne hS hm
   rw[if_neg h21]
   by_cases h22:(rwAt l i).kind=22
   ·rw[if_pos h22]
    exact name_at hS hl hi (.inr (.inr (.inr (.inr h22))))
   rw[if_neg h22]
   by_cases h23:(rwAt l i).kind=23
   ·rw[if_pos h23]
    have hp:=hC.placed hl hi
    rw[misS,if_pos h23]at hp
    cases hf:funR l i with
    | none=>rw[hf]at hp;cases hp
    | some p=>rw[hf]at hp;simpa using hp
   rw[if_neg h23]
   by_cases h24:(rwAt l i).kind=24∨(rwAt l i).kind=25
   ·rw[if_pos h24];unfold opT;split <;> decide
   rw[if_neg h24]
   have h26:(rwAt l i).kind=26:=by omega
   rw[if_pos h26]
   obtain⟨k1,k2⟩:=kid3 hi (.inr (.inr h26))
   exact ihq _ (.inl ⟨by rw[rwK_at hl];exact .inr h26,(kdK_at hl).symm⟩) (by rw[rwK_at hl];exact k2)
 exact key _ un i l (Nat.lt_succ_self _) hl hi hg3
end Go.Proofs.YtighfcpaplmaiaaGreatDoor
set_option maxRecDepth 20000
namespace Go.Proofs.YtighfcpaplmaiaaGreatDoor
open Go Go.Vg Go.Proofs Go.RowKit
instance:Inhabited Ed:=⟨⟨⟨#[]⟩,⟨#[]⟩⟩⟩
structure Hid(p:Prop):Prop where
 h:p
structure Wq(P:Program)(ops:Array Oper)(C:World→Prop)(Q:Act→Prop)(l:List Oper)(a:Act):Prop where
 h:wpQuiet P ops C Q l a
theorem Wq.nil{P:Program}{ops:Array Oper}{C:World→Prop}{Q:Act→Prop}{a:Act}(h:Q a):Wq P ops C Q [] a:=⟨wpQuiet_nil h⟩
theorem Wq.skip{P:Program}{ops:Array Oper}{C:World→Prop}{Q:Act→Prop}{o:Oper}{rest:List Oper}{a:Act}(hw:Region.wanted o (yielded ops a.tmps)=false)(h:∀ K:Act→Prop,(∀ a,Wq P ops C Q rest a→K a)→K (a.put o.dst undef)):Wq P ops C Q (o::rest) a :=
 ⟨wpQuiet_step fun K hK=>by rw[if_neg (by rw[hw];simp)];exact h K fun a ha=>hK a ha.h⟩
theorem Wq.take{P:Program}{ops:Array Oper}{C:World→Prop}{Q:Act→Prop}{o:Oper}{rest:List Oper}{a:Act}(hw:Region.wanted o (yielded ops a.tmps)=true)(h:∀ K:Act→Prop,(∀ a,Wq P ops C Q rest a→K a)→o.quiet P a C K):Wq P ops C Q (o::rest) a :=
 ⟨wpQuiet_step fun K hK=>by rw[if_pos hw];exact h K fun a ha=>hK a ha.h⟩
set_option maxHeartbeats 2000000 in
theorem Eless1(blk off c Bs size:Nat)(W:World)(g:Nat→Ed)(hs:W.cell? ⟨Bs,0,none⟩=some (.slice (some ⟨blk,off,none⟩) size c))
    (i j:Nat) (hi:i<size) (hj:j<size) (_hsz:size<4611686018427387904)
    (ci:W.cell? ⟨blk,off+i * 2,none⟩=some (.string (g i).fr)) (cj:W.cell? ⟨blk,off+j * 2,none⟩=some (.string (g j).fr))
    (ci':W.cell? ⟨blk,off+i * 2+1,none⟩=some (.string (g i).to)) (cj':W.cell? ⟨blk,off+j * 2+1,none⟩=some (.string (g j).to))
    (hb:Hid (Op.bytesLess (g i).fr.toList (g j).fr.toList=true)) :
    Calls Tryz.prog 44 #[.int .i64 i,.int .i64 j,.pointer (some ⟨Bs,0,none⟩)] W fun e w'=>e = .returned (.bool true)∧∃ q,w'=W.drewN q:=by
  go_enter Tryz.func44,Tryz.ntmps44
  go_wp2
  refine wp_region_quiet_lit (by kernel_rfl) (by kernel_rfl) ?_
  refine Wq.h ?_
  iterate 12
    (refine Wq.take rfl (fun K hK=>?_)
     go_simp
     refine hK _ ?_
     clear hK K)
  iterate 12
    (refine Wq.skip ?_ (fun K hK=>?_)
     · go_simp
       exact hb.h
     go_simp
     refine hK _ ?_
     clear hK K)
  iterate 11
    (refine Wq.skip rfl (fun K hK=>?_)
     go_simp
     refine hK _ ?_
     clear hK K)
  iterate 1
    (refine Wq.skip ?_ (fun K hK=>?_)
     · go_simp
       exact hb.h
     go_simp
     refine hK _ ?_
     clear hK K)
  iterate 2
    (refine Wq.take rfl (fun K hK=>?_)
     go_simp
     refine hK _ ?_
     clear hK K)
  refine Wq.nil ?_
  intro _ hw'
  obtain⟨nq,hw''⟩:=hw'
  subst hw''
  simp only[hb.h,if_true]
  go_wp2
  go_ret
  exact⟨rfl,nq,rfl⟩
set_option maxHeartbeats 2000000 in
theorem Eless2(blk off c Bs size:Nat)(W:World)(g:Nat→Ed)(hs:W.cell? ⟨Bs,0,none⟩=some (.slice (some ⟨blk,off,none⟩) size c))
    (i j:Nat) (hi:i<size) (hj:j<size) (_hsz:size<4611686018427387904)
    (ci:W.cell? ⟨blk,off+i * 2,none⟩=some (.string (g i).fr)) (cj:W.cell? ⟨blk,off+j * 2,none⟩=some (.string (g j).fr))
    (ci':W.cell? ⟨blk,off+i * 2+1,none⟩=some (.string (g i).to)) (cj':W.cell? ⟨blk,off+j * 2+1,none⟩=some (.string (g j).to))
    (hb:Hid (Op.bytesLess (g i).fr.toList (g j).fr.toList=false)) (hb2:Hid (¬ (g i).fr.toList=(g j).fr.toList)) :
    Calls Tryz.prog 44 #[.int .i64 i,.int .i64 j,.pointer (some ⟨Bs,0,none⟩)] W fun e w'=>e = .returned (.bool false)∧∃ q,w'=W.drewN q:=by
  go_enter Tryz.func44,Tryz.ntmps44
  go_wp2
  refine wp_region_quiet_lit (by kernel_rfl) (by kernel_rfl) ?_
  refine Wq.h ?_
  iterate 12
    (refine Wq.take rfl (fun K hK=>?_)
     go_simp
     refine hK _ ?_
     clear hK K)
  iterate 12
    (refine Wq.take ?_ (fun K hK=>?_)
     · go_simp
       exact hb.h
     go_simp
     refine hK _ ?_
     clear hK K)
  iterate 11
    (refine Wq.skip ?_ (fun K hK=>?_)
     · go_simp
       exact hb2.h
     go_simp
     refine hK _ ?_
     clear hK K)
  iterate 1
    (refine Wq.take ?_ (fun K hK=>?_)
     · go_simp
       exact hb.h
     go_simp
     refine hK _ ?_
     clear hK K)
  iterate 2
    (refine Wq.take rfl (fun K hK=>?_)
     go_simp
     refine hK _ ?_
     clear hK K)
  refine Wq.nil ?_
  intro _ hw'
  obtain⟨nq,hw''⟩:=hw'
  subst hw''
  simp only[hb.h,eq_false hb2.h,Bool.false_eq_true,if_false,if_true,decide_false]
  go_wp2
  go_ret
  exact⟨rfl,nq,rfl⟩
set_option maxHeartbeats 2000000 in
theorem Eless3(blk off c Bs size:Nat)(W:World)(g:Nat→Ed)(hs:W.cell? ⟨Bs,0,none⟩=some (.slice (some ⟨blk,off,none⟩) size c))
    (i j:Nat) (hi:i<size) (hj:j<size) (_hsz:size<4611686018427387904)
    (ci:W.cell? ⟨blk,off+i * 2,none⟩=some (.string (g i).fr)) (cj:W.cell? ⟨blk,off+j * 2,none⟩=some (.string (g j).fr))
    (ci':W.cell? ⟨blk,off+i * 2+1,none⟩=some (.string (g i).to)) (cj':W.cell? ⟨blk,off+j * 2+1,none⟩=some (.string (g j).to))
    (hb:Hid (Op.bytesLess (g i).fr.toList (g j).fr.toList=false)) (hb2:Hid ((g i).fr.toList=(g j).fr.toList)) :
    Calls Tryz.prog 44 #[.int .i64 i,.int .i64 j,.pointer (some ⟨Bs,0,none⟩)] W fun e w'=>e = .returned (.bool (Op.bytesLess (g i).to.toList (g j).to.toList))∧∃ q,w'=W.drewN q:=by
  go_enter Tryz.func44,Tryz.ntmps44
  go_wp2
  refine wp_region_quiet_lit (by kernel_rfl) (by kernel_rfl) ?_
  refine Wq.h ?_
  iterate 12
    (refine Wq.take rfl (fun K hK=>?_)
     go_simp
     refine hK _ ?_
     clear hK K)
  iterate 12
    (refine Wq.take ?_ (fun K hK=>?_)
     · go_simp
       exact hb.h
     go_simp
     refine hK _ ?_
     clear hK K)
  iterate 11
    (refine Wq.take ?_ (fun K hK=>?_)
     · go_simp
       exact hb2.h
     go_simp
     refine hK _ ?_
     clear hK K)
  iterate 1
    (refine Wq.take ?_ (fun K hK=>?_)
     · go_simp
       exact hb.h
     go_simp
     refine hK _ ?_
     clear hK K)
  iterate 2
    (refine Wq.take rfl (fun K hK=>?_)
     go_simp
     refine hK _ ?_
     clear hK K)
  refine Wq.nil ?_
  intro _ hw'
  obtain⟨nq,hw''⟩:=hw'
  subst hw''
  have hbe:((g i).fr.toList == (g j).fr.toList)=true:=beq_iff_eq.2 hb2.h
  simp only[hb.h,hbe,Bool.false_or,Bool.true_and]
  go_wp2
  go_ret
  exact⟨rfl,nq,rfl⟩
def ltEd(a b:Ed):Bool:=ltB a.fr b.fr || (decide (a.fr=b.fr) && ltB a.to b.to)
theorem Eless(blk off c Bs size:Nat)(W:World)(g:Nat→Ed)(hs:W.cell? ⟨Bs,0,none⟩=some (.slice (some ⟨blk,off,none⟩) size c))
  (hc:∀ t,t<size→W.cell? ⟨blk,off+t * 2,none⟩=some (.string (g t).fr)∧W.cell? ⟨blk,off+t * 2+1,none⟩=some (.string (g t).to)) (i j:Nat) (hi:i<size) (hj:j<size) (hsz:size<4611686018427387904) :
  Calls Tryz.prog 44 #[.int .i64 i,.int .i64 j,.pointer (some ⟨Bs,0,none⟩)] W fun e w'=>e = .returned (.bool (ltEd (g i) (g j)))∧∃ q,w'=W.drewN q:=by
 obtain⟨ci,ci'⟩:=hc i hi
 obtain⟨cj,cj'⟩:=hc j hj
 cases h1:Op.bytesLess (g i).fr.toList (g j).fr.toList with
 | true =>
  have e:ltEd (g i) (g j)=true:=by unfold ltEd ltB;rw[h1];rfl
  rw[e]
  exact Eless1 blk off c Bs size W g hs i j hi hj hsz ci cj ci' cj' ⟨h1⟩
 | false =>
  by_cases h2:(g i).fr.toList=(g j).fr.toList
  ·have e:ltEd (g i) (g j)=Op.bytesLess (g i).to.toList (g j).to.toList:=by unfold ltEd ltB;rw[h1,decide_eq_true (toList_inj h2)];rfl
   rw[e]
   exact Eless3 blk off c Bs size W g hs i j hi hj hsz ci cj ci' cj' ⟨h1⟩ ⟨h2⟩
  ·have e:ltEd (g i) (g j)=false:=by unfold ltEd ltB;rw[h1,decide_eq_false fun h=>h2 (by rw[h])];rfl
   rw[e]
   exact Eless2 blk off c Bs size W g hs i j hi hj hsz ci cj ci' cj' ⟨h1⟩ ⟨h2⟩
end Go.Proofs.YtighfcpaplmaiaaGreatDoor
set_option maxRecDepth 20000
namespace Go.Proofs.YtighfcpaplmaiaaGreatDoor
open Go Go.Vg Go.Proofs Go.Shelf Go.RowKit Go.Sort
theorem ltEd_iff{a b:Ed}:ltEd a b=true↔ltB a.fr b.fr=true∨(a.fr=b.fr∧ltB a.to b.to=true):=by simp[ltEd]
theorem ltEd_irrefl(a:Ed):ltEd a a=false:=by simp[ltEd,ltB_irrefl]
theorem ltEd_trans{a b c:Ed}(h1:ltEd a b=true)(h2:ltEd b c=true):ltEd a c=true:=by
 rw[ltEd_iff]at h1 h2 ⊢
 rcases h1 with h1 | ⟨e1,h1⟩ <;> rcases h2 with h2 | ⟨e2,h2⟩
 ·exact .inl (ltB_trans h1 h2)
 ·exact .inl (e2 ▸ h1)
 ·exact .inl (e1 ▸ h2)
 ·exact .inr ⟨e1.trans e2,ltB_trans h1 h2⟩
theorem ltEd_tri{a b:Ed}(h1:ltEd a b=false)(h2:ltEd b a=false):a=b:=by
 simp only[ltEd,Bool.or_eq_false_iff,Bool.and_eq_false_iff,decide_eq_false_iff_not]at h1 h2
 have e1:=ltB_tri h1.1 h2.1
 have e2:a.to=b.to:=by
  refine ltB_tri ?_ ?_
  ·rcases h1.2 with h | h
   ·exact absurd e1 h
   ·exact h
  ·rcases h2.2 with h | h
   ·exact absurd e1.symm h
   ·exact h
 obtain⟨a1,a2⟩:=a
 obtain⟨b1,b2⟩:=b
 simp only at e1 e2
 rw[e1,e2]
theorem ltEd_ntrans{a b c:Ed}(h1:ltEd a b=false)(h2:ltEd b c=false):ltEd a c=false:=by
 cases h:ltEd a c with
 | false=>rfl
 | true =>
  cases hb:ltEd b a with
  | true=>have:=ltEd_trans hb h;rw[h2]at this;cases this
  | false =>
   have e:=ltEd_tri h1 hb
   subst e
   rw[h2]at h;cases h
theorem swoEd:SWO ltEd:=⟨fun _=>ltEd_irrefl _,fun _ _ _ h1 h2=>ltEd_trans h1 h2,fun _ _ _ h1 h2=>ltEd_ntrans h1 h2⟩
def encEd(c:Ed):List Value:=[.string c.fr,.string c.to]
def sortEd(l:List Ed):List Ed:=l.mergeSort fun a b => !ltEd b a
theorem sortEd_perm(l:List Ed):(sortEd l).Perm l:=List.mergeSort_perm l _
theorem sortEd_pair(l:List Ed):(sortEd l).Pairwise fun a b=>ltEd b a=false:=by
 have:=List.pairwise_mergeSort (le:=fun a b => !ltEd b a) (fun a b c h1 h2=>by
  simp only[Bool.not_eq_true']at h1 h2 ⊢
  exact swoEd.ntrans _ _ _ h2 h1) (fun a b=>by
  show(!ltEd b a || !ltEd a b)=true
  cases h1:ltEd b a with
  | false=>rfl
  | true =>
   cases h2:ltEd a b with
   | false=>rfl
   | true=>have:=swoEd.trans _ _ _ h1 h2;rw[swoEd.irrefl]at this;cases this) l
 exact this.imp fun h=>by simpa using h
theorem uniqEd:∀ {l1 l2:List Ed},l1.Perm l2→(l1.Pairwise fun a b=>ltEd b a=false)→(l2.Pairwise fun a b=>ltEd b a=false)→l1=l2:=by
 intro l1
 induction l1 with
 | nil=>intro l2 h _ _;exact(h.symm.eq_nil).symm
 | cons a r ih =>
  intro l2 h h1 h2
  cases l2 with
  | nil=>exact absurd h.eq_nil (by simp)
  | cons b s =>
   have hab:a=b:=by
    have ha:a∈b::s:=h.mem_iff.1 (by simp)
    have hb:b∈a::r:=h.mem_iff.2 (by simp)
    rcases List.mem_cons.1 ha with e | ha
    ·exact e
    ·rcases List.mem_cons.1 hb with e | hb
     ·exact e.symm
     ·have x1:=(List.pairwise_cons.1 h1).1 b hb
      have x2:=(List.pairwise_cons.1 h2).1 a ha
      exact ltEd_tri x2 x1
   subst hab
   rw[ih (List.perm_cons a |>.1 h) (List.pairwise_cons.1 h1).2 (List.pairwise_cons.1 h2).2]
theorem ed_cells{l:List Ed}{j:Nat}(hj:j<l.length * 2):∃ c x v,l[j / 2]? = some c∧c.enc[j % 2]? = some x∧((l.map Ed.enc).flatten)[j]? = some x∧(encEd c)[j % 2]? = some v∧∀ (P:Program) (G:Gh) (a:List Nat) u,RV P G a x u→u=v:=by
 have hi:j / 2<l.length:=by omega
 have hk:j % 2<2:=by omega
 refine⟨l[j / 2],(l[j / 2]).enc[j % 2]'(by rw[ed_len];exact hk),(encEd l[j / 2])[j % 2]'(by simpa[encEd]using hk),List.getElem?_eq_getElem hi,List.getElem?_eq_getElem _,?_,List.getElem?_eq_getElem _,fun P G a u hu=>?_⟩
 ·have key:∀ (l:List Ed) (i k:Nat) (hi:i<l.length) (hk:k<2),((l.map Ed.enc).flatten)[i * 2+k]? = some ((l[i]).enc[k]'(by rw[ed_len];exact hk)):=by
   intro l
   induction l with
   | nil=>intro i k hi;simp at hi
   | cons c r ih =>
    intro i k hi hk
    rw[List.map_cons,List.flatten_cons]
    cases i with
    | zero =>
     rw[List.getElem?_append_left (by rw[ed_len];omega),Nat.zero_mul,Nat.zero_add]
     exact List.getElem?_eq_getElem _
    | succ i =>
     rw[List.getElem?_append_right (by rw[ed_len];omega),ed_len,show(i+1) * 2+k - 2=i * 2+k by omega]
     exact ih i k (by simpa using hi) hk
  have e:j=j / 2 * 2+j % 2:=by omega
  have:=key l (j / 2) (j % 2) hi hk
  rw[←e]at this
  exact this
 ·generalize hc:l[j / 2]=c at hu ⊢
  have key:∀ (m:Nat) (x:V) (v:Value),c.enc[m]? = some x→(encEd c)[m]? = some v→RV P G a x u→u=v:=by
   intro m x v hx hv hr
   match m with
   | 0=>simp[Ed.enc]at hx;simp[encEd]at hv;subst hx hv;cases hr;rfl
   | 1=>simp[Ed.enc]at hx;simp[encEd]at hv;subst hx hv;cases hr;rfl
   | m+2=>simp[Ed.enc]at hx
  exact key (j % 2) _ _ (List.getElem?_eq_getElem _) (List.getElem?_eq_getElem _) hu
theorem get!_list{l:List Ed}{i:Nat}{c:Ed}(h:l[i]? = some c):l.toArray[i]! = c:=by
 obtain⟨hi,e⟩:=List.getElem?_eq_some_iff.1 h
 rw[getElem!_pos l.toArray i (by simpa using hi)]
 simpa using e
theorem getV!{l:List Value}{i:Nat}{c:Value}(h:l[i]? = some c):l[i]! = c:=by
 obtain⟨hi,e⟩:=List.getElem?_eq_some_iff.1 h
 rw[getElem!_pos l i hi,e]
theorem flatEd{l:List Ed}{j:Nat}{c:Ed}{v:Value}(hj:j<l.length * 2)(h1:l[j / 2]? = some c)(h2:(encEd c)[j % 2]? = some v):(flatK encEd 2 l.toArray)[j]! = v:=by
 rw[get_flatK encEd 2 l.toArray j (by simpa using hj),get!_list h1,getV! h2]
noncomputable def sdT:TypeInfo:=(Tryz.prog.info? 32).get (by kernel_rfl)
noncomputable def sdE:TypeInfo:=(Tryz.prog.info? 38).get (by kernel_rfl)
theorem kindEd:∀ n,2≤n→Lib.swapperK n sdE 25=Lib.swapperK 2 sdE 25:=by
 intro n hn
 unfold Lib.swapperK
 have h0:(n == 0)=false:=by simp;omega
 have h1:(n == 1)=false:=by simp;omega
 rw[h0,h1]
 rfl
theorem SortEdges{h:List VObj}{a:List Nat}{id k gen o:Nat}{l:List Ed}{K:Cont}(hid:h[id]? = some (.vec k gen 38 (l.map Ed.enc).flatten))(ho:h[o]? = some (.cells [.vec id k gen l.length 38]))(hl:1≤l.length)
  (hK:K (.tuple []) (h.set id (.vec k gen 38 ((sortEd l).map Ed.enc).flatten)) a) :
  VCalls (envV 32) 43 [.iface 32 (.vec id k gen l.length 38),.func 44 [.ptr o 0]] h a K:=by
 intro G w0 w vals hr ha
 obtain⟨v,vs,rfl,hv,ha⟩:=ha.cons
 obtain⟨v2,vs,rfl,hv2,ha⟩:=ha.cons
 rw[ha.nil]
 have hce:Tryz.prog.cellsOf 38=2:=by kernel_rfl
 obtain⟨hak,hgg,b,hi,hρ,hch,hcells⟩:=hr.vs.at_ _ _ _ _ _ hid
 cases hv with
 | iface _ _ x hx =>
 cases hx with
 | vec _ _ _ _ _ b' off cap hvv h1 h2 =>
 cases hv2 with
 | func _ _ cs f1 f2 =>
 obtain⟨n,q1,q2,q3⟩:=hvv
 rw[hak]at q1
 cases q1
 obtain⟨b1,hi1,q4,q5,q6,q7,q8⟩:=q3 rfl
 rw[hρ]at q4
 cases q4
 subst q7 q8
 rw[show(envV 32).P=Tryz.prog from rfl,hce]at q5
 have hcsl:((l.map Ed.enc).flatten).length=l.length * 2:=by
  rw[flatten_len (c:=2)]
  ·rw[List.length_map]
  ·intro i el hi
   rw[List.getElem?_map]at hi
   cases hl:l[i]? with
   | none=>rw[hl]at hi;cases hi
   | some c=>rw[hl]at hi;cases hi;rfl
 have hhi:0<hi:=by omega
 obtain⟨⟨c,t,hb,hcz⟩,hloose,hFn,hw0⟩:=hr.reg k b 0 hi hρ hhi
 have hblk:b<w.heap.size:=(Array.getElem?_eq_some_iff.1 hb).1
 obtain⟨Bs,hφ,ce,te,hB,hBz,hBv⟩:=hr.obj o _ ho
 obtain⟨sv,hsv,hsr⟩:=hBv 0 _ rfl
 have hcs1:cs.size=1:=by simpa using f1.symm
 obtain⟨cp,rfl⟩:∃ cp,cs = #[cp]:=by
  obtain⟨l'⟩:=cs
  obtain⟨cp,rfl⟩:=List.length_eq_one_iff.1 (show l'.length=1 by simpa using hcs1)
  exact⟨cp,rfl⟩
 have hptr:=f2 0 _ cp rfl rfl
 cases hptr with
 | ptr _ _ B' hB' =>
 rw[hφ]at hB'
 cases hB'
 have hBne:Bs≠b:=by
  rintro rfl
  have:=hloose o hφ _ ho
  simp[VObj.looseAt]at this
 have hBlt:Bs<w.heap.size:=(Array.getElem?_eq_some_iff.1 hB).1
 have hsve:sv = .slice (some ⟨b,0,none⟩) l.length cap:=by
  cases hsr with
  | vec _ _ _ _ _ b2 off2 cap2 hv2 _ _ =>
  obtain⟨n2,r1,r2,r3⟩:=hv2
  rw[hak]at r1
  cases r1
  obtain⟨b3,hi3,r4,r5,r6,r7,r8⟩:=r3 rfl
  rw[hρ]at r4
  cases r4
  subst r7 r8
  rw[show(envV 32).P=Tryz.prog from rfl,hce]at r5
  have:cap2=cap:=by omega
  rw[this]
 subst hsve
 have hBs:w.cell? ⟨Bs,0,none⟩=some (.slice (some ⟨b,0,none⟩) l.length cap):=by
  simp only[World.cell?,hB]
  simpa using hsv
 have hH:HoldsK encEd 2 w b 0 l.toArray:=by
  intro j hj
  rw[size_flatK]at hj
  have hj':j<l.length * 2:=by simpa using hj
  obtain⟨c1,x1,v1,e1,e2,e3,e4,e5⟩:=ed_cells hj'
  obtain⟨u,u1,u2,u3⟩:=hcells j x1 e3
  rw[flatEd hj' e1 e4,Nat.zero_add]
  refine⟨by rw[u1,e5 _ _ _ _ u2];rfl,?_⟩
  simp[World.frozen?,hb]
 have hlen:(l.toArray:Array Ed).size=l.length:=by simp
 by_cases h1l:l.length=1
 ·have hso:sortEd l=l:=by
   obtain⟨c0,hc0⟩:=List.length_eq_one_iff.1 h1l
   have:=sortEd_perm l
   rw[hc0]at this ⊢
   exact List.perm_singleton.1 this
  have hset:h.set id (.vec k gen 38 ((sortEd l).map Ed.enc).flatten)=h:=by rw[hso];exact set_same hid
  rw[hset]at hK
  have hf:∃ g,Tryz.prog.funcs.findIdx? (·.name == "internal/reflectlite" ++ ".Swapper$" ++ toString (Lib.swapperK l.length sdE 25))=some g:=by
   rw[h1l]
   exact Option.isSome_iff_exists.1 (by kernel_rfl)
  obtain⟨g,hf⟩:=hf
  refine(Any.sort_Slice_tiny Tryz.laysGg6 32 38 sdT sdE (by kernel_rfl) (by kernel_rfl) (by kernel_rfl) (by kernel_rfl) 25 (fun _=>by kernel_rfl) (some ⟨b,0,none⟩) l.length cap (by omega) g hf (.func 44) #[] #[.pointer (some ⟨Bs,0,none⟩)] w).mono ?_
  rintro e w' ⟨rfl,os,rfl⟩
  refine .inl ⟨_,rfl,_,_,_,G,hK,Ext.refl _ _,hr.belowW ⟨rfl,rfl,rfl,?_,fun i hi=>?_⟩,.tuple _ _ rfl (by simp)⟩
  ·show w.heap.size≤(w.heap++os).size
   simp
  ·show(w.heap++os)[i]? = w.heap[i]?
   rw[Array.getElem?_append_left hi]
 ·have hless:LessReadsK Tryz.prog 44 #[.pointer (some ⟨Bs,0,none⟩)] encEd 2 ltEd b 0 l.toArray.size w:=by
   intro m os dk hs i j hi hj
   have e:sortWorldK encEd 2 w b 0 m dk os=putRowK encEd 2 (grow (Sort.ahead w m) os) b 0 dk:=by
    unfold sortWorldK;rw[putRowK_grow _ _ (Sort.ahead w m) _ b 0 _ hblk]
   have hHg:HoldsK encEd 2 (grow (Sort.ahead w m) os) b 0 l.toArray:=holdsK_grow _ _ _ _ b 0 _ hblk (holdsK_ahead _ _ _ _ _ _ _ hH)
   refine Eless b 0 cap Bs l.length _ (fun t=>dk[t]!) ?_ (fun t ht=>?_) i j (by omega) (by omega) (by omega)
   ·rw[e,cell?_putRowK_other _ _ _ b 0 dk _ (by exact hBne),cell?_grow _ _ _ (by exact hBlt)];exact hBs
   ·rw[e]
    have hq:=holdsK_putRowK _ _ _ b 0 l.toArray dk hHg hs
    exact⟨(hq.cell (i:=t) (c:=0) (by omega) (by omega)).1,(hq.cell (i:=t) (c:=1) (by omega) (by omega)).1⟩
  refine(Any.sort_Slice_cells_sorted Tryz.laysGg6 32 38 sdT sdE (by kernel_rfl) (by kernel_rfl) (by kernel_rfl) (by kernel_rfl) 25 (fun _=>by kernel_rfl) encEd 2 (fun _=>rfl) (by kernel_rfl) (fun _=>by kernel_rfl)
   (fun x v hv=>by simp[encEd]at hv;rcases hv with rfl | rfl <;> rfl) ltEd swoEd 44 _
   (enters_of Tryz.func44 (by kernel_rfl) rfl) b 0 cap l.toArray (by omega) (by omega) 126 (by rw[kindEd _ (by omega)];kernel_rfl) false
   (fun args W=>run_callFunc_extern Tryz.func126 (by kernel_rfl) (by kernel_rfl) (by kernel_rfl) (e:=Extern.ReflectliteSwapper.swap false) (by kernel_rfl) args W) w hless hH hblk).mono ?_
  rintro e w' ⟨rfl,d',n,os,hpm,hso,rfl⟩
  obtain⟨p1,p2,p3⟩:=hpm
  have hd':d'.toList=sortEd l:=by
   refine(uniqEd (sortEd_perm l |>.trans ?_) (sortEd_pair l) ?_).symm
   ·have t1:List.take d'.size l=l:=List.take_of_length_le (by omega)
    have:=p3.symm
    simp only[hlen]at this p1
    rw[←p1]at this
    simpa[t1]using this
   ·rw[List.pairwise_iff_getElem]
    intro i j hi hj hij
    have:=hso i j (Nat.zero_le _) hij (by simp at hj;omega)
    rw[getElem!_pos d' i (by simpa using hi),getElem!_pos d' j (by simpa using hj)]at this
    simpa using this
  have hsl:(sortEd l).length=l.length:=(sortEd_perm l).length_eq
  have hdd:d'=(sortEd l).toArray:=by rw[←hd']
  subst hdd
  have hel:∀ c1∈l,∀ (m:Nat) (x:V) (v:Value),m<2→c1.enc[m]? = some x→(encEd c1)[m]? = some v→RV Tryz.prog G a x v:=by
   intro c1 hc1 m x v hm hx hv
   obtain⟨i,hi,rfl⟩:=List.getElem_of_mem hc1
   have hj:i * 2+m<l.length * 2:=by omega
   obtain⟨c2,x1,v1,e1,e2,e3,e4,e5⟩:=ed_cells hj
   have hd1:(i * 2+m) / 2=i:=by omega
   have hd2:(i * 2+m) % 2=m:=by omega
   rw[hd1,List.getElem?_eq_getElem hi]at e1
   cases e1
   rw[hd2]at e2 e4
   rw[hx]at e2;cases e2
   rw[hv]at e4;cases e4
   obtain⟨u,u1,u2,u3⟩:=hcells _ _ e3
   have:=e5 _ _ _ _ u2
   subst this
   exact u2
  have hcl':(((sortEd l).map Ed.enc).flatten).length=l.length * 2:=by
   rw[flatten_len (c:=2),List.length_map,hsl]
   intro i el hi
   rw[List.getElem?_map]at hi
   cases hl:(sortEd l)[i]? with
   | none=>rw[hl]at hi;cases hi
   | some c=>rw[hl]at hi;cases hi;rfl
  obtain⟨hx,hr'⟩:=hr.vecStep2 (gen':=gen) (cs':=((sortEd l).map Ed.enc).flatten) (w':=putRowK encEd 2 (Sort.ahead w n) b 0 (sortEd l).toArray) (c':=putCells _root_.id 0 (flatK encEd 2 (sortEd l).toArray) c) hid hρ hhi (Nat.le_refl _) hb (by rw[hcl'];omega) (fun j x hj=>by
   have hjl:j<(sortEd l).length * 2:=by
    have:=(List.getElem?_eq_some_iff.1 hj).1
    rw[hcl']at this;rw[hsl];exact this
   obtain⟨c2,x1,v1,e1,e2,e3,e4,e5⟩:=ed_cells hjl
   rw[hj]at e3;cases e3
   have hm2:c2∈l:=(sortEd_perm l).mem_iff.1 (List.mem_of_getElem? e1)
   refine⟨v1,?_,hel c2 hm2 _ _ _ (by omega) e2 e4,?_⟩
   ·have hjc:j<c.size:=by rw[hsl]at hjl;omega
    simp only[putCells,Array.getElem?_mapIdx,Array.getElem?_eq_getElem hjc,Option.map_some]
    rw[if_pos ⟨Nat.zero_le _,by simpa using hjl⟩,Nat.sub_zero,flatEd hjl e1 e4]
    rfl
   ·have:∀ v∈encEd c2,v.oneCell'=true:=fun v hv=>by simp[encEd]at hv;rcases hv with rfl | rfl <;> rfl
    exact this _ (List.mem_of_getElem? e4)) rfl rfl rfl (by simp[putRowK]) (fun k' hk'=>by
    simp only[putRowK,putRow,mapBlock,Array.getElem?_modify]
    rw[if_neg (Ne.symm hk')];rfl) (by
    simp only[putRowK,putRow,mapBlock,Array.getElem?_modify]
    rw[if_pos trivial,show(Sort.ahead w n).heap=w.heap from rfl,hb];rfl) (by simp[putCells]) (fun j hj=>by
    simp only[putCells,Array.getElem?_mapIdx]
    cases hcj:c[j]? with
    | none=>rfl
    | some y =>
     simp only[Option.map_some]
     rw[if_neg]
     intro h
     have:=h.2
     simp only[size_flatK,List.size_toArray,hsl]at this
     omega)
  have hset:a.set k gen=a:=set_same hak
  rw[hset]at hx hr'
  refine .inl ⟨_,rfl,_,_,_,G,hK,hx,hr'.belowW ⟨rfl,rfl,rfl,?_,fun i hi=>?_⟩,.tuple _ _ rfl (by simp)⟩
  ·simp
  ·exact heap_grow_old _ _ hi
end Go.Proofs.YtighfcpaplmaiaaGreatDoor
