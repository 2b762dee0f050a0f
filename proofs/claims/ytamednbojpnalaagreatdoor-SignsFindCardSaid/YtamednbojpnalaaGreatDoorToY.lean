/- A project that passes the check has no mismatches; what each finding is about. -/
import Derived.Test.YtamednbojpnalaaGreatDoorUdM
import Derived.Test.YtamednbojpnalaaGreatDoorVgEw
import Derived.Test.YtamednbojpnalaaGreatDoorUbB
import Derived.Test.YtamednbojpnalaaGreatDoorToL
import Derived.Test.YtamednbojpnalaaGreatDoorRows
set_option linter.unusedVariables false
set_option linter.unusedSimpArgs false
set_option maxRecDepth 20000
namespace Go.Vg
theorem find_congr{α:Type}{p q:α→Bool}:∀ {l:List α},(∀ x∈l,p x=q x)→l.find? p=l.find? q
 | [],_=>rfl
 | x::r,h=>by
  rw[List.find?_cons,List.find?_cons,h x (by simp),find_congr fun y hy=>h y (by simp[hy])]
def keyM(s n:ByteArray)(d:Dl):Bool:=decide (s=d.owner) && decide (n=d.name)
theorem methL_find(s n:ByteArray):∀ (l M:List Dl),(l.foldl addM M).find? (keyM s n)=(M.find? (keyM s n)).or (l.find? fun d=>decide (d.kind=4) && keyM s n d)
 | [],M=>by simp
 | d::r,M=>by
  rw[List.foldl_cons,methL_find s n r,List.find?_cons]
  unfold addM
  by_cases h4:d.kind=4
  ·by_cases h:M.any (sameM d)=false
   ·rw[if_pos ⟨h4,h⟩,List.find?_append,List.find?_cons,List.find?_nil,Option.or_assoc,decide_eq_true h4,Bool.true_and]
    cases keyM s n d <;> simp
   ·rw[if_neg (fun hc=>h hc.2),decide_eq_true h4,Bool.true_and]
    cases hk:keyM s n d with
    | false=>rfl
    | true =>
     have h':M.any (sameM d)=true:=by simpa using h
     have e:s=d.owner∧n=d.name:=by simpa[keyM]using hk
     obtain⟨rfl,rfl⟩:=e
     have:(M.find? (keyM d.owner d.name)).isSome=true:=by
      rw[List.find?_isSome]
      obtain⟨x,hx,hp⟩:=List.any_eq_true.1 h'
      exact⟨x,hx,hp⟩
     obtain⟨y,hy⟩:=Option.isSome_iff_exists.1 this
     rw[hy];rfl
  ·rw[if_neg (fun hc=>h4 hc.1),decide_eq_false h4,Bool.false_and]
end Go.Vg
namespace Go.Proofs.YtamednbojpnalaaGreatDoor
open Go Go.Vg Go.Proofs
theorem plain_ty{u:List Un}(hu:fitU u)(h0:(chkU u).1=0){un:Nat}{x:Un}(hx:u[un]? = some x):∀ (k:Nd) (c:Nat),(nodes x.tree)[c]? = some k→plainT k≠⟨#[]⟩→tyS u ((un:Int),(c:Int))=plainT k:=by
 have hS:=chkU_snd hu h0
 have hT:=hS.ckT
 have hl:=unit_tab hS.br hx
 have hlen:(rowsN x.tree (-1) 0).length=(nodes x.tree).length:=rowsN_len ..
 refine Nd.all fun k t g ks ih c hc hne=>?_
 have hcl:=(List.getElem?_eq_some_iff.1 hc).1
 have hV:Val (tabsU u) ((un:Int),(c:Int)):=⟨un,c,_,rfl,hl,by omega⟩
 obtain⟨e1,e2,e3⟩:=rwAt_at hc
 rw[tyS_eq hT hV]
 unfold tyB
 rw[rwK_at hl,kdK_at hl,e1,e2]
 unfold plainT at hne ⊢
 by_cases h17:k=17
 ·rw[if_pos h17,if_pos h17];rfl
 rw[if_neg h17,if_neg h17]
 rw[if_neg h17]at hne
 by_cases h18:k=18
 ·rw[if_pos h18,if_pos h18];rfl
 rw[if_neg h18,if_neg h18]
 rw[if_neg h18]at hne
 by_cases h22:k=22
 ·rw[if_neg (by omega),if_neg (by omega),if_neg (by omega),if_pos h22,if_pos h22]
 rw[if_neg h22]
 rw[if_neg h22]at hne
 by_cases h26:k=26
 ·rw[if_neg (by omega),if_neg (by omega),if_neg (by omega),if_neg h22,if_neg (by omega),if_neg (by omega),if_pos h26,if_pos h26]
  rw[if_pos h26]at hne
  cases ks with
  | nil=>exact absurd rfl hne
  | cons y r =>
   have hk0:(kidsAt (y::r) (c+1))[0]? = some (c+1):=by
    rw[kidsAt_get (y::r) (c+1) 0 (by simp)];simp[nodesL]
   obtain⟨z,g1,g2,_⟩:=kid_end hc hk0
   simp only[List.getElem?_cons_zero,Option.some.injEq]at g1
   subst g1
   have hkd:kdAt (rowsN x.tree (-1) 0) c 0=c+1:=by
    show(rwAt (rowsN x.tree (-1) 0) c).kids.getD 0 0=c+1
    rw[e3,List.getD_eq_getElem?_getD,hk0];rfl
   rw[hkd]
   exact ih y (by simp) (c+1) g2 hne
 rw[if_neg h26,if_neg h26]
 rw[if_neg h26]at hne
 by_cases h24:k=24
 ·rw[if_neg (by omega),if_neg (by omega),if_neg (by omega),if_neg h22,if_neg (by omega),if_pos (.inl h24),if_pos h24]
  rfl
 rw[if_neg h24]
 rw[if_neg h24]at hne
 by_cases h25:k=25
 ·rw[if_neg (by omega),if_neg (by omega),if_neg (by omega),if_neg h22,if_neg (by omega),if_pos (.inr h25),if_pos h25]
  have hw:=(hS.gram _ (List.mem_of_getElem? hl)).word c (by omega)
  rw[e1,e2,h25]at hw
  have ht:t=⟨#[45]⟩∨t=⟨#[33]⟩:=by
   simpa[namedK,wordK]using hw
  rcases ht with rfl | rfl <;> rfl
 rw[if_neg h25]at hne
 exact absurd rfl hne
theorem arg_nil{u:List Un}{un i:Nat}{l:List Rw}:∀ (ks:List Nd) (ps:List ByteArray) (j q:Nat),argL u un l i j ps=false →
  (∀ m k,ks[m]? = some k→tyS u ((un:Int),((kdAt l i (j+m):Nat):Int))≠⟨#[]⟩∧(plainT k≠⟨#[]⟩→tyS u ((un:Int),((kdAt l i (j+m):Nat):Int))=plainT k))→argT u q ks ps=⟨#[]⟩
 | [],ps,j,q,_,_=>by cases ps <;> rfl
 | k::ks,[],j,q,_,_=>rfl
 | k::ks,w::ps,j,q,h,hk=>by
  obtain⟨h1,h2⟩:=hk 0 k rfl
  rw[argL]at h
  split at h
  ·rename_i hf
   rw[argT,if_neg]
   ·exact arg_nil ks ps (j+1) (q+1) h fun m y hm=>by
     have:=hk (m+1) y (by simpa using hm)
     rwa [show j+(m+1)=j+1+m by omega]at this
   ·rintro⟨g1,g2⟩
    rw[Nat.add_zero]at h1 h2
    rw[h2 g1]at hf h1
    unfold fitS at hf
    unfold fitsT at g2
    rw[g2,decide_eq_false h1]at hf
    cases hf
  ·cases h
theorem fact_at{u:List Un}(hS:SndU u){d:Dl}(hd:d∈declsU u 0):factD d:=by
 obtain⟨x,hx,hb,j,hj⟩:=declsU_walk u 0 d hd
 have hs:=hS.snd x hx
 have hck:checkN x.tree=0:=by simp[soundB]at hs;exact hs.2
 unfold checkN at hck
 split at hck
 ·cases hck
 exact walk_facts x.tree j 0 Ar.none (fun y hy=>firstN_zero _ hck y hy) (fun h=>by cases h) d hj
theorem map_sound{u:List Un}(hS:SndU u):u.map Un.sound=u:=by
 have:∀ l:List Un,(∀ x∈l,soundB x=true)→l.map Un.sound=l:=by
  intro l
  induction l with
  | nil=>intro _;rfl
  | cons x r ih=>intro h;rw[List.map_cons,sound_fix (h x (by simp)),ih fun y hy=>h y (by simp[hy])]
 exact this u hS.snd
theorem sig_at{u:List Un}(hS:SndU u){o n:ByteArray}{d:Dl}(hd:findD (declsU u 0) (kindOf o) o n=some d):sigU u o n=some (signR ((tabsU u).getD d.unit.toNat []) d.node.toNat):=by
 rw[sigU,map_sound hS,ofU,hd]
 obtain⟨un,nd,l,q1,q2,q3,q4,_⟩:=hS.decl (List.mem_of_find?_eq_some hd)
 obtain⟨x,hx,rfl⟩:=tab_unit hS.br q3
 rw[Option.bind_some,q1,tb_at q3,Int.toNat_natCast,hx]
 rfl
theorem call_none{u:List Un}(hu:fitU u)(h0:(chkU u).1=0){un i:Nat}{x:Un}(hx:u[un]? = some x){n:Nd}(hn:(nodes x.tree)[i]? = some n)(hk:n.kind=20):callT u n=⟨#[]⟩:=by
 have hS:=chkU_snd hu h0
 have hC:=chk_facts h0
 have hl:=unit_tab hS.br hx
 have hlen:(rowsN x.tree (-1) 0).length=(nodes x.tree).length:=rowsN_len ..
 have hil:=(List.getElem?_eq_some_iff.1 hn).1
 obtain⟨k,t,g,ks⟩:=n
 obtain⟨e1,e2,e3⟩:=rwAt_at hn
 replace hk:k=20:=hk
 subst hk
 have hk20:(rwAt (rowsN x.tree (-1) 0) i).kind=20:=e1
 obtain⟨d,hd⟩:=hC.dcl (i:=i) hl (by omega) (by rw[hk20,useK_fn])
 obtain⟨_,_,dd,hdd,rfl⟩:=hS.fnc hl hk20 hd
 have hw:=hC.wrong hl (by omega:i<_)
 unfold wrS at hw
 simp only at hw
 rw[if_neg (by omega),if_neg (by omega),if_neg (by omega),if_neg (by omega),if_pos hk20,hd]at hw
 simp only at hw
 rw[e2]at hdd
 have hf:findD (declsU u 0) (kindOf ⟨#[]⟩) ⟨#[]⟩ t=some dd:=by
  rw[←hdd]
  refine find_congr fun y hy=>?_
  have hfy:=fact_at hS hy
  rw[Bool.eq_iff_iff]
  simp only[keyG,kindOf,if_true,Bool.and_eq_true,decide_eq_true_eq]
  constructor
  ·rintro⟨⟨a,b⟩,c⟩
   exact⟨a.symm,c.symm⟩
  ·rintro⟨a,b⟩
   exact⟨⟨a.symm,(hfy.1 a.symm).1⟩,b.symm⟩
 have hsg:=sig_at hS hf
 unfold callT
 simp only[Nd.text,Nd.kids]
 rw[hsg]
 simp only
 generalize(signR ((tabsU u).getD dd.unit.toNat []) dd.node.toNat)=s at hw
 unfold argS at hw
 have hkl:(rwAt (rowsN x.tree (-1) 0) i).kids.length=ks.length:=by rw[e3,kidsAt_len]
 split at hw
 ·rename_i hlen2
  refine(if_pos (by omega)).trans ?_
  refine arg_nil ks s.params 0 0 hw fun m y hm=>?_
  have hml:=(List.getElem?_eq_some_iff.1 hm).1
  have hg:=hS.gram _ (List.mem_of_getElem? hl)
  have hkm:m<(rwAt (rowsN x.tree (-1) 0) i).kids.length:=by omega
  have hkd:=hg.kid i (by omega) m hkm
  have hf:=hg.fit i (by omega) m hkm
  rw[hk20]at hf
  have h17:17≤(rwAt (rowsN x.tree (-1) 0) (kdAt (rowsN x.tree (-1) 0) i m)).kind:=by
   have g3:∀ k:Int,groupK k=3→17≤k:=fun k h=>by
    unfold groupK at h
    repeat' split at h
    all_goals omega
   simp[fitsK]at hf
   exact g3 _ hf
  rw[Nat.zero_add]
  refine⟨ty_ne hu h0 hl hkd.2.1 h17,fun hp=>?_⟩
  have hgk:=kdAt_get hkm
  rw[e3]at hgk
  obtain⟨z,g1,g2,_⟩:=kid_end hn hgk
  rw[hm]at g1
  cases g1
  exact plain_ty hu h0 hx y _ g2 hp
 ·cases hw
theorem send_none{u:List Un}(hu:fitU u)(h0:(chkU u).1=0){un i:Nat}{x:Un}(hx:u[un]? = some x){n:Nd}(hn:(nodes x.tree)[i]? = some n)(hk:n.kind=21):sendT u (methU u) n=⟨#[]⟩:=by
 have hS:=chkU_snd hu h0
 have hC:=chk_facts h0
 have hl:=unit_tab hS.br hx
 have hlen:(rowsN x.tree (-1) 0).length=(nodes x.tree).length:=rowsN_len ..
 have hil:=(List.getElem?_eq_some_iff.1 hn).1
 obtain⟨k,t,g,ks⟩:=n
 obtain⟨e1,e2,e3⟩:=rwAt_at hn
 replace hk:k=21:=hk
 subst hk
 have hk21:(rwAt (rowsN x.tree (-1) 0) i).kind=21:=e1
 have hg:=hS.gram _ (List.mem_of_getElem? hl)
 have hle:=hg.least i (by omega)
 rw[hk21]at hle
 have hk1:0<(rwAt (rowsN x.tree (-1) 0) i).kids.length:=by simp[leastK]at hle;omega
 have hkd:=hg.kid i (by omega) 0 hk1
 have hf:=hg.fit i (by omega) 0 hk1
 rw[hk21]at hf
 have h17:17≤(rwAt (rowsN x.tree (-1) 0) (kdAt (rowsN x.tree (-1) 0) i 0)).kind:=by
  have g3:∀ k:Int,groupK k=3→17≤k:=fun k h=>by
   unfold groupK at h
   repeat' split at h
   all_goals omega
  simp[fitsK]at hf
  exact g3 _ hf
 have hne:=ty_ne hu h0 hl hkd.2.1 h17
 have hw:=hC.wrong hl (by omega:i<_)
 unfold wrS at hw
 simp only at hw
 rw[if_neg (by omega),if_neg (by omega),if_neg (by omega),if_neg (by omega),if_neg (by omega),if_pos hk21,if_neg hne]at hw
 cases hm:mtS u (rcT (tyS u ((un:Int),((kdAt (rowsN x.tree (-1) 0) i 0:Nat):Int))),(rwAt (rowsN x.tree (-1) 0) i).text)with
 | none=>rw[hm]at hw;cases hw
 | some s =>
  rw[hm]at hw
  simp only at hw
  rw[e2]at hm
  unfold mtS at hm
  simp only at hm
  obtain⟨d,hd,rfl⟩:=Option.map_eq_some_iff.1 hm
  obtain⟨g1,g2,g3,g4⟩:=lookU_some hd
  have hfd:=(fact_at hS g1).2 g2
  have hdf:findD (declsU u 0) (kindOf d.owner) d.owner d.name=some d:=by
   unfold lookU lookL at hd
   obtain⟨s',_,hs'⟩:=List.exists_of_findSome?_eq_some hd
   have hp:=List.find?_some hs'
   simp only[Bool.and_eq_true,decide_eq_true_eq]at hp
   have hs2:(methL (declsU u 0)).find? (keyM d.owner d.name)=some d:=by
    rw[←hs',hp.1,←hp.2];rfl
   unfold methL at hs2
   rw[methL_find,List.find?_nil,Option.none_or]at hs2
   rw[←hs2]
   refine find_congr fun y _=>?_
   rw[Bool.eq_iff_iff]
   simp only[keyM,kindOf,if_neg (valid_ne hfd.1),Bool.and_eq_true,decide_eq_true_eq]
   constructor
   ·rintro⟨⟨a,b⟩,c⟩
    exact⟨a,b.symm,c.symm⟩
   ·rintro⟨a,b,c⟩
    exact⟨⟨a,b.symm⟩,c.symm⟩
  have hsg:=sig_at hS hdf
  have hkl:(rwAt (rowsN x.tree (-1) 0) i).kids.length=ks.length:=by rw[e3,kidsAt_len]
  unfold argS at hw
  split at hw
  ·rename_i hlen2
   unfold sendT sendK
   simp only[Nd.text,Nd.kids]
   refine if_pos ?_
   rw[List.any_eq_true]
   refine⟨d,List.mem_filter.2 ⟨g1,by simpa using g2⟩,?_⟩
   simp only[g4,decide_true,Bool.true_and,sentK]
   rw[show d.name=t from g4]at hsg
   rw[hsg]
   simp only[decide_eq_true_eq]
   omega
  ·cases hw
theorem text_none{u:List Un}(hu:fitU u)(h0:(chkU u).1=0){un i:Nat}{x:Un}(hx:u[un]? = some x){n:Nd}(hn:(nodes x.tree)[i]? = some n):textT u (methU u) n=⟨#[]⟩:=by
 unfold textT
 split
 ·rename_i hk;exact call_none hu h0 hx hn hk
 split
 ·rename_i hk;exact send_none hu h0 hx hn hk
 ·rfl
theorem misR_is{s:List Un}{ms:List Dl}{f:Fi}:∀ l:List Un,f∈misR s ms l→∃ x∈l,∃ n∈nodes x.tree,textT s ms n≠⟨#[]⟩∧f=⟨4,x.path,n.text,textT s ms n⟩
 | [],h=>by cases h
 | y::r,h=>by
  rw[misR]at h
  rcases List.mem_append.1 h with h | h
  ·obtain⟨n,hn,hf⟩:=List.mem_flatMap.1 h
   unfold fiN at hf
   split at hf
   ·cases hf
   ·rename_i hne
    exact⟨y,by simp,n,hn,hne,List.mem_singleton.1 hf⟩
  ·obtain⟨x,hx,n,hn,h1⟩:=misR_is r h
   exact⟨x,by simp[hx],n,hn,h1⟩
theorem mis_none{u:List Un}(hu:fitU u)(h0:(chkU u).1=0):misR (u.filter soundB) (methU (u.filter soundB)) (u.filter soundB)=[]:=by
 have hS:=chkU_snd hu h0
 have hfl:u.filter soundB=u:=List.filter_eq_self.2 hS.snd
 rw[hfl]
 refine List.eq_nil_iff_forall_not_mem.2 fun f hf=>?_
 obtain⟨x,hx,n,hn,hne,_⟩:=misR_is u hf
 obtain⟨un,hun⟩:=List.mem_iff_getElem?.1 hx
 obtain⟨i,hi⟩:=List.mem_iff_getElem?.1 hn
 exact hne (text_none hu h0 hun hi)
end Go.Proofs.YtamednbojpnalaaGreatDoor
set_option maxRecDepth 20000
namespace Go.Proofs.YtamednbojpnalaaGreatDoor
open Go Go.Vg Go.Proofs
def calB(n:Nd)(s:ByteArray):Bool:=(nodes n).any fun y=>decide (y.kind=20∨y.kind=21) && decide (y.text=s)
theorem Lcalls(n:Nd)(hn:(nodes n).length≤1000000)(s:ByteArray):VPure env 24 [.agg n.enc,.str s] (.bool (calB n s)):=by
 refine vpure_vc (fn:=Tryz.f24) Tryz.func24 rfl (by rw[Tryz.ntmps24];simp) (by simp -implicitDefEqProofs only[go_sem]) rfl ?_
 simp -implicitDefEqProofs only[go_sem,Tryz.f24]
 refine(R06List n hn).calls (by simp -implicitDefEqProofs only[go_sem]) ?_
 unfold calB
 generalize nodes n=ns at hn ⊢
 simp -implicitDefEqProofs only[go_sem]
 refine snd_list (β:=Unit) ns (fun pre _=>⟨[(6,.int .i64 pre.length),(5,sl 32 (ns.map Nd.enc)),(4,.bool false),(1,.str s)],[.dead],[]⟩)
  (fun pre post _=>(ns.any fun y=>decide (y.kind=20∨y.kind=21) && decide (y.text=s))=post.any fun y=>decide (y.kind=20∨y.kind=21) && decide (y.text=s)) () ?_ rfl ?_ ?_
 ·simp -implicitDefEqProofs only[go_sem]
  rfl
 ·intro _ h
  rw[h]
  simp -implicitDefEqProofs only[go_sem]
  exact fun _ _=>rfl
 ·rintro pre y post _ hx h
  have hpl:ns.length=pre.length+1+post.length:=by rw[hx];simp;omega
  have hgx:(ns.map Nd.enc).getD (pre.length:Int).toNat []=y.enc:=by rw[hx];simp[List.getD_eq_getElem?_getD]
  have hlt:((pre.length:Int)<ns.length)=True:=by simp;omega
  have hw:IntKind.i64.wrap (↑pre.length+1)=↑(pre.length+1):=wrap_next (by omega)
  rw[List.any_cons]at h
  obtain⟨k,t,g,ks⟩:=y
  simp only[enc_mk]at hgx
  replace h:(ns.any fun y=>decide (y.kind=20∨y.kind=21) && decide (y.text=s))=((decide (k=20∨k=21) && decide (t=s)) || post.any fun y=>decide (y.kind=20∨y.kind=21) && decide (y.text=s)):=h
  simp -implicitDefEqProofs only[go_sem,hgx,hlt]
  refine fun _ _=>⟨fun h20=>⟨fun h21=>⟨fun ht=>?_,fun ht=>⟨(),?_,hw⟩⟩,fun h21=>⟨(),?_,hw⟩⟩,fun h20=>⟨fun ht=>?_,fun ht=>⟨(),?_,hw⟩⟩⟩
  ·rw[h];simp[h21,ht]
  ·rw[h];simp[ht]
  ·rw[h];simp[h20,h21]
  ·rw[h];simp[h20,ht]
  ·rw[h];simp[ht]
theorem SignsFind_law(u:List Un):VPure env 7 [sl 34 (u.map Un.enc)] (.bool true):=by
 refine vpure_vc (fn:=Tryz.f7) Tryz.func7 rfl (by rw[Tryz.ntmps7];simp) (by simp -implicitDefEqProofs only[go_sem];exact uns_pure _) rfl ?_
 simp -implicitDefEqProofs only[go_sem,Tryz.f7]
 refine(Lfit u).calls (by simp -implicitDefEqProofs only[go_sem]) ?_
 cases hf:fitB u with
 | false =>
  simp -implicitDefEqProofs only[go_sem]
  refine Lawake.calls (by simp -implicitDefEqProofs only[go_sem]) ?_
  simp -implicitDefEqProofs only[go_sem]
 | true =>
  have hfu:fitsU u 3 160 6000=true:=by
   unfold fitB at hf
   exact(Bool.and_eq_true_iff.1 hf).1
  obtain⟨hu,hg⟩:=fits_of hfu
  simp -implicitDefEqProofs only[go_sem]
  refine(Smismatches u hu hg).calls (by simp -implicitDefEqProofs only[go_sem]) ?_
  simp -implicitDefEqProofs only[go_sem]
  refine(TCheck u hu hg).calls (by simp -implicitDefEqProofs only[go_sem]) ?_
  simp -implicitDefEqProofs only[go_sem,encE]
  have hnone:=@mis_none u hu
  have hmem:=fun f=>@misR_is (u.filter soundB) (methU (u.filter soundB)) f (u.filter soundB)
  generalize misR (u.filter soundB) (methU (u.filter soundB)) (u.filter soundB)=fs at hnone hmem ⊢
  refine⟨fun h0 _ _=>⟨fun hl=>?_,fun hl=>?_⟩,fun h0=>?_⟩
  ·rw[hnone h0]at hl
   exact absurd hl (by simp)
  all_goals
   refine snd_list (β:=Unit) fs (fun pre _=>⟨[(6,.int .i64 pre.length),(3,sl 42 (fs.map Fi.enc)),(2,.bool false),(0,sl 34 (u.map Un.enc))],[.dead],[]⟩) (fun _ _ _=>True) () ?_ trivial ?_ ?_
   ·simp -implicitDefEqProofs only[go_sem]
    rfl
   ·intro _ _
    simp -implicitDefEqProofs only[go_sem]
    intro _ _
    refine Lawake.calls (by simp -implicitDefEqProofs only[go_sem]) ?_
    simp -implicitDefEqProofs only[go_sem]
   ·rintro pre f post _ hx _
    have hpl:fs.length=pre.length+1+post.length:=by rw[hx];simp;omega
    have hgx:(fs.map Fi.enc).getD (pre.length:Int).toNat []=f.enc:=by rw[hx];simp[List.getD_eq_getElem?_getD]
    have hlt:((pre.length:Int)<fs.length)=True:=by simp;omega
    obtain⟨x,hxf,n,hn,hne,rfl⟩:=hmem f (by rw[hx];simp)
    have hkk:n.kind=20∨n.kind=21:=by
     unfold textT at hne
     split at hne
     ·rename_i h;exact .inl h
     split at hne
     ·rename_i h;exact .inr h
     ·exact absurd rfl hne
    obtain⟨hxu,hxs⟩:=List.mem_filter.1 hxf
    generalize textT (u.filter soundB) (methU (u.filter soundB)) n=tt at hne hgx
    simp -implicitDefEqProofs only[go_sem,hgx,hlt,Fi.enc]
    intro _ _
    have hw:IntKind.i64.wrap (↑pre.length+1)=↑(pre.length+1):=wrap_next (by omega)
    refine snd_list (β:=Bool) u (fun q b=>⟨[(8,.int .i64 q.length),(7,.bool b),(6,.int .i64 pre.length),(3,sl 42 (fs.map Fi.enc)),(2,.bool false),(0,sl 34 (u.map Un.enc))],[.dead],[]⟩)
     (fun q _ b=>b=q.any fun y=>decide (y.path=x.path) && (soundB y && calB y.tree n.text)) false ?_ rfl ?_ ?_
    ·simp -implicitDefEqProofs only[go_sem]
     rfl
    ·intro b hb
     have hbt:b=true:=by
      rw[hb,List.any_eq_true]
      refine⟨x,hxu,?_⟩
      simp only[decide_true,Bool.true_and,hxs]
      unfold calB
      rw[List.any_eq_true]
      exact⟨n,hn,by simp[hkk]⟩
     rw[hbt]
     simp -implicitDefEqProofs only[go_sem,hgx,hlt,Fi.enc]
     exact fun _ _=>⟨fun h=>absurd h hne,fun _=>⟨(),hw⟩⟩
    ·rintro q y post2 b hx2 hb
     have hpl2:u.length=q.length+1+post2.length:=by rw[hx2];simp;omega
     have hgx2:(u.map Un.enc).getD (q.length:Int).toNat []=y.enc:=by rw[hx2];simp[List.getD_eq_getElem?_getD]
     have hlt2:((q.length:Int)<u.length)=True:=by simp;omega
     have hul:=hu.1
     have hw2:IntKind.i64.wrap (↑q.length+1)=↑(q.length+1):=wrap_next (by omega)
     have hym:y∈u:=by rw[hx2];simp
     have hyn:=(hu.2 y hym).1
     have hSo:=R14Sound y (hg y hym)
     have hCa:=Lcalls y.tree (by omega) n.text
     have hany:((q++[y]).any fun y=>decide (y.path=x.path) && (soundB y && calB y.tree n.text))=(b || (decide (y.path=x.path) && (soundB y && calB y.tree n.text))):=by rw[List.any_append,hb];simp
     generalize calB y.tree n.text=cc at hCa hany
     generalize soundB y=ss at hSo hany
     simp -implicitDefEqProofs only[go_sem,hgx,hlt,hgx2,hlt2,Fi.enc,Un.enc]
     intro _ _
     refine snd_draw (cs:=[]) mixed (by kernel_rfl) ?_
     obtain⟨yp,yt,yn,yb⟩:=y
     obtain⟨k,t,g,ks⟩:=yn
     simp only[Un.enc,enc_mk]at hgx2 hSo hCa
     simp only at hany
     by_cases hp:yp=x.path
     ·simp -implicitDefEqProofs only[go_sem,hgx,hlt,hgx2,hlt2,Fi.enc,hp]
      refine vPC_of hSo (by simp -implicitDefEqProofs only[go_sem,hp]) ?_
      cases ss with
      | false =>
       simp -implicitDefEqProofs only[go_sem,hgx,hlt,hgx2,hlt2,Fi.enc,hp]
       rw[hp]at hany
       exact⟨b,by rw[hany];simp,hw2,rfl⟩
      | true =>
       simp -implicitDefEqProofs only[go_sem,hgx,hlt,hgx2,hlt2,Fi.enc,hp]
       rw[hp]at hany hgx2
       refine snd_draw (cs:=[]) mixed (by kernel_rfl) ?_
       cases b with
       | true =>
        simp -implicitDefEqProofs only[go_sem,hgx,hlt,hgx2,hlt2,Fi.enc,hp]
        exact⟨true,by rw[hany];simp,hw2,rfl⟩
       | false =>
        simp -implicitDefEqProofs only[go_sem,hgx,hlt,hgx2,hlt2,Fi.enc,hp]
        refine vPC_of hCa (by simp -implicitDefEqProofs only[go_sem]) ?_
        simp -implicitDefEqProofs only[go_sem,hgx,hlt,hgx2,hlt2,Fi.enc,hp]
        exact⟨cc,by rw[hany];simp,hw2,rfl⟩
     ·simp -implicitDefEqProofs only[go_sem,hgx,hlt,hgx2,hlt2,Fi.enc,hp]
      exact⟨b,by rw[hany,decide_eq_false hp];simp,hw2,rfl⟩
end Go.Proofs.YtamednbojpnalaaGreatDoor
namespace Go.Vg
open Go.RowKit
theorem relW_startZ{E:Env}{W:World}(hg:∀ g cs,E.gl g=some cs→pureL cs=true∧RV E.P (startG W) [] (.fptr cs) (.pointer (some ⟨g,0,none⟩)))(hi:E.ini W):RelW E (startG W) [] [] ⟨W,allF W,[]⟩ W where
 newF:=fun b o v h _=>h
 glob:=hg
 below:=Below.refl _ _
 frz:=fun b o v h=>(allF_some h).1
 one:=fun b o v h=>(allF_some h).2
 obj:=fun id ob h=>by simp at h
 lenφ:=rfl
 vs:=Vecs.nil
 nod:=fun i j b h=>by simp[startG]at h
 sep:=fun id b o h=>by simp[startG]at h
 geφ:=fun id b h=>by simp[startG]at h
 lenρ:=rfl
 reg:=fun k b lo hi h=>by simp[startG]at h
 regd:=fun k k' b lo hi lo' hi' _ h=>by simp[startG]at h
 fre:=fun k b lo hi h=>by simp[startG]at h
 bld:=fun id t s b h=>by simp at h
 ini:=hi
theorem calls_trueZ{E:Env}{f:FuncId}{args:List V}{vals:Array Value}{W:World}(h:VPure E f args (.bool true))(hg:∀ g cs,E.gl g=some cs→pureL cs=true∧RV E.P (startG W) [] (.fptr cs) (.pointer (some ⟨g,0,none⟩)))(hi:E.ini W)(ha:Args E.P (startG W) [] args vals) :
  Calls E.P f vals W fun e W'=>e = .returned (.bool true)∧Below W.heap.size W W':=by
 have h3:=h.2.2 (startG W) ⟨W,allF W,[]⟩ W vals (relW_startZ (E:=E.alive) hg hi) ha
 refine h3.mono fun e W' hgo=>?_
 obtain⟨val,rfl,v,heap',arr',G',rfl,hx,hr,hv⟩:=hgo.alive
 cases hv
 exact⟨rfl,hr.below⟩
theorem startG_F{W:World}(b o:Nat)(v:Value)(hc:W.cell? ⟨b,o,none⟩=some v)(h1:v.oneCell'=true):(startG W).F b o=some v:=by
 simp only[startG,allF,hc,h1,if_true]
theorem glob_of_reads{P:Program}{W:World}{name:String}{d:DataW Unit}{g:Nat}{t:TypeId}(ty:Tz)(hcl:ty.closed=true)(hlv:∀ (G:Gh) F,ty.lv (fun _=>()) P W G false F)(hok:ty.ok P (.inl t)=true)
  (hg:P.globalNamed name=some g) (hty:(P.globals[g]?).map (·.type)=some t) (hw:(d.weights P t).all (· ≤ reachBytes)=true)
  (h:Lib.VarReads P W name d):RV P (startG W) [] (.fptr (ty.val d)) (.pointer (some ⟨g,0,none⟩)):=by
 obtain⟨g',t',cs,fuel,p,hg',ht',hvar,hd⟩:=h
 obtain rfl:=Option.some.inj (hg.symm.trans hg')
 obtain rfl:=Option.some.inj (hty.symm.trans ht')
 obtain⟨xs,h1,h2,h3,h4⟩:=(Tz.read (G:=startG W) startG_F ty (fuel+1) (hlv _ _)).1 t fuel cs.toList d p (by omega) hok hd hw
 have hx:=ty.val_of d xs hcl h1
 subst hx
 have hcell:∀ j:Nat,W.cell? ⟨g,j,none⟩=cs.toList[j]?:=by
  intro j
  unfold World.var? at hvar
  rw[hg,Option.bind_some]at hvar
  split at hvar
  ·rename_i cs' _ _ hh
   cases hvar
   simp only[World.cell?,hh]
   simp
  ·cases hvar
 refine .fptr _ g 0 (fun j hj=>?_) (fun j c v hc hv=>?_)
 ·have hj':j<cs.toList.length:=by omega
  have hv:=hcell j
  rw[List.getElem?_eq_getElem hj']at hv
  exact⟨_,startG_F _ _ _ (by rw[Nat.zero_add];exact hv) (h4 j _ _ (List.getElem?_eq_getElem hj) (List.getElem?_eq_getElem hj')).2⟩
 ·have:=(allF_some hv).1
  rw[Nat.zero_add,hcell]at this
  exact(h4 j c v hc this).1
theorem arg_slice{H:Type}{enc:TypeId×Value→H}{P:Program}{W:World}{T e:TypeId}{v:Value}{d:DataW H}{p:List MemPlace}{b:Nat}(ty:Tz)(hlv:∀ F,ty.lv enc P W (startG W) true F)(ht:P.underlying T=some (.slice e))(hok:(Tz.sl e ty).ok P (.inl T)=true)
  (hval:Value.okWide P W .any b T v) (h:DataW.Trod enc P W 0 (fun _=>true) true T v d p) (hw:(d.weights P T).all (· ≤ reachBytes)=true) :
  ∃ es:List (List V),(∀ el∈es,∃ di:DataW H,ty.sem di el)∧RV P (startG W) [] (sl e es) v:=by
 obtain⟨a0,len,cap,rfl⟩:=Go.WideShapes.okWide_slice ht hval
 obtain⟨fuel,h⟩:=h
 obtain⟨xs,⟨es,rfl,he1,he2⟩,h3,h4,h5⟩:=(Tz.read (G:=startG W) startG_F (.sl e ty) (fuel+1) (hlv _)).1 T fuel _ d p (by omega) hok h hw
 refine⟨es,fun el hel=>?_,(h5 0 _ _ rfl rfl).1⟩
 obtain⟨i,hi,rfl⟩:=List.getElem_of_mem hel
 exact⟨_,he2 i _ (List.getElem?_eq_getElem hi)⟩
end Go.Vg
set_option maxRecDepth 20000
namespace Go.Proofs.YtamednbojpnalaaGreatDoor
open Go Go.Vg Go.Proofs Go.RowKit
def isNd(xs:List V):Prop:=∃ n:Nd,xs=n.enc
def tyNd:Tz := .cons 3 (.int .i64) (.cons 9 .str (.cons 29 (.sl 9 .str) (.cons 30 (.sl 32 (.leaf 32 4 isNd)) .unit)))
def tyUn:Tz := .cons 9 .str (.cons 9 .str (.cons 32 (.leaf 32 4 isNd) (.cons 4 .bool .unit)))
def tyPt:Tz := .cons 3 (.int .i64) (.cons 3 (.int .i64) .unit)
def tyShp:Tz := .cons 207 (.sl 209 tyPt) (.cons 209 tyPt (.cons 3 (.int .i64) (.cons 29 (.sl 9 .str) (.cons 3 (.int .i64) .unit))))
def tyShps:Tz := .arr 211 27 tyShp
theorem tyNd_ok:tyNd.ok Tryz.prog (.inl 32)=true:=by kernel_rfl
theorem tyUns_ok:(Tz.sl 34 tyUn).ok Tryz.prog (.inl 22)=true:=by kernel_rfl
theorem tyShps_ok:tyShps.ok Tryz.prog (.inl 212)=true:=by kernel_rfl
theorem list_as{α β:Type}{f:α→β}{es:List β}(h:∀ el∈es,∃ a,el=f a):∃ l:List α,es=l.map f:=by
 induction es with
 | nil=>exact⟨[],rfl⟩
 | cons x r ih =>
  obtain⟨a,rfl⟩:=h x (by simp)
  obtain⟨l,rfl⟩:=ih fun el hel=>h el (by simp[hel])
  exact⟨a::l,rfl⟩
section
variable {H : Type} {d : DataW H} {xs : List V}
theorem semStrs{e:TypeId}(h:(Tz.sl e .str).sem d xs):∃ g:List ByteArray,xs=[sl e (g.map encTx)]:=by
 obtain⟨es,rfl,h1,h2⟩:=h
 obtain⟨l,rfl⟩:=list_as (f:=encTx) (es:=es) fun el hel=>by
  obtain⟨i,hi,rfl⟩:=List.getElem_of_mem hel
  obtain⟨s,hs,_⟩:=h2 i _ (List.getElem?_eq_getElem hi)
  exact⟨s,hs⟩
 exact⟨l,rfl⟩
theorem semNd(h:tyNd.sem d xs):isNd xs:=by
 obtain⟨_,_,rfl,⟨k,rfl,_⟩,_,_,rfl,⟨t,rfl,_⟩,_,_,rfl,hg,_,_,rfl,⟨es,rfl,h1,h2⟩,rfl⟩:=h
 obtain⟨g,rfl⟩:=semStrs hg
 obtain⟨l,rfl⟩:=list_as (f:=Nd.enc) (es:=es) fun el hel=>by
  obtain⟨i,hi,rfl⟩:=List.getElem_of_mem hel
  exact h2 i _ (List.getElem?_eq_getElem hi)
 exact⟨.mk k t g l,by rw[enc_mk];rfl⟩
theorem semUn(h:tyUn.sem d xs):∃ u:Un,xs=u.enc:=by
 obtain⟨_,_,rfl,⟨p,rfl,_⟩,_,_,rfl,⟨t,rfl,_⟩,_,_,rfl,⟨n,rfl⟩,_,_,rfl,⟨b,rfl,_⟩,rfl⟩:=h
 exact⟨⟨p,t,n,b⟩,by simp[Un.enc]⟩
end
theorem leafNd{H:Type}{enc:TypeId×Value→H}{w:World}{G:Gh}{held:Bool}(hG:∀ b o v,w.cell? ⟨b,o,none⟩=some v→v.oneCell'=true→G.F b o=some v):∀ F,LeafR enc Tryz.prog w G held F 32 4 isNd
 | 0=>fun fuel hF=>absurd hF (Nat.not_lt_zero _)
 | F+1=>fun fuel hF cs d ps ht hw=>by
  have ih:=leafNd (enc:=enc) (held:=held) hG F
  have hlv:tyNd.lv enc Tryz.prog w G held (F+1):=⟨trivial,trivial,trivial,fun f hf=>ih f (by omega),trivial⟩
  obtain⟨xs,h1,h2,h3,h4⟩:=(Tz.read hG tyNd (F+1) hlv).1 32 fuel cs d ps hF tyNd_ok ht hw
  exact⟨xs,semNd h1,h2,h3,h4⟩
theorem arg_units{H:Type}{enc:TypeId×Value→H}{W:World}{v:Value}{d:DataW H}{p:List MemPlace}{b:Nat}(ht:Tryz.prog.underlying 22=some (.slice 34))
  (hval:Value.okWide Tryz.prog W .any b 22 v) (h:DataW.Trod enc Tryz.prog W 0 (fun _=>true) true 22 v d p) (hw:(d.weights Tryz.prog 22).all (· ≤ reachBytes)=true) :
  ∃ u:List Un,RV Tryz.prog (startG W) [] (sl 34 (u.map Un.enc)) v:=by
 obtain⟨es,h1,h2⟩:=arg_slice tyUn (fun F=>⟨trivial,trivial,leafNd startG_F _,trivial,trivial⟩) ht tyUns_ok hval h hw
 obtain⟨l,rfl⟩:=list_as (f:=Un.enc) fun el hel=>by
  obtain⟨di,hdi⟩:=h1 el hel
  exact semUn hdi
 exact⟨l,h2⟩
theorem shapes_val:tyShps.val Rows.laid_treemerge_grammar_shapes (H:=Unit)=shapesC:=by kernel_rfl
theorem glob_shapes{W:World}(h:Lib.VarReads Tryz.prog W "treemerge/grammar.shapes" Rows.laid_treemerge_grammar_shapes):∀ g cs,env.gl g=some cs→pureL cs=true∧RV env.P (startG W) [] (.fptr cs) (.pointer (some ⟨g,0,none⟩)):=by
 intro g cs hg
 by_cases e:g=0
 ·subst e
  rw[env_shapes]at hg
  cases hg
  refine⟨by kernel_rfl,?_⟩
  have:=glob_of_reads (g:=0) (t:=212) tyShps rfl (fun G F=>⟨⟨trivial,trivial,trivial⟩,⟨trivial,trivial,trivial⟩,trivial,trivial,trivial,trivial⟩) tyShps_ok (by kernel_rfl) (by kernel_rfl) (by kernel_rfl) h
  rw[shapes_val]at this
  exact this
 ·simp[env,envD,e]at hg
end Go.Proofs.YtamednbojpnalaaGreatDoor
