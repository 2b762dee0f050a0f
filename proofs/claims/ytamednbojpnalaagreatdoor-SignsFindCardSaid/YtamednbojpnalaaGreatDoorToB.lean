/- Signatures, as the program finds them. -/
import Derived.Test.YtamednbojpnalaaGreatDoorTnZ
set_option linter.unusedVariables false
set_option linter.unusedSimpArgs false
set_option maxRecDepth 20000
namespace Go.Vg
def Un.soundT(x:Un):Un:=if soundB x=true then x else⟨x.path,⟨#[]⟩,Nd.zero,true⟩
theorem chunkOne:∀ cs:List V,chunk 1 cs.length cs=cs.map fun c=>[c]
 | []=>rfl
 | c::r=>by rw[List.length_cons,chunk,List.map_cons,←chunkOne r];rfl
theorem rep_one(n:Nat)(v:V):(List.replicate n [v]).flatten=List.replicate n v:=by
 induction n with
 | zero=>rfl
 | succ n ih=>rw[List.replicate_succ,List.flatten_cons,ih];rfl
def tabsOf(n un:Nat)(x:V):List (List V):=((List.replicate n (V.slice .shared 0 [])).take un++[x]++(List.replicate n (V.slice .shared 0 [])).drop (un+1)).map fun c=>[c]
theorem tabsOf_get{n un:Nat}{x:V}(h:un<n):(tabsOf n un x)[un]? = some [x]:=by
 unfold tabsOf
 rw[List.getElem?_map,List.append_assoc,List.getElem?_append_right (by simp;omega)]
 simp[Nat.min_eq_left (Nat.le_of_lt h)]
theorem pureLL_ones{l:List V}(h:∀ x∈l,x.pure=true):pureLL (l.map fun c=>[c])=true:=by
 induction l with
 | nil=>rfl
 | cons x r ih =>
  simp only[List.map_cons,pureLL,pureL,h x (by simp),ih fun y hy=>h y (by simp[hy]),Bool.and_self]
theorem tabsOf_pure{n un:Nat}{x:V}(hx:x.pure=true):pureLL (tabsOf n un x)=true:=by
 refine pureLL_ones fun y hy=>?_
 simp only[List.mem_append,List.mem_singleton]at hy
 rcases hy with(h | rfl) | h
 ·rw[List.eq_of_mem_replicate (List.mem_of_mem_take h)];rfl
 ·exact hx
 ·rw[List.eq_of_mem_replicate (List.mem_of_mem_drop h)];rfl
theorem VCalls.freeze2{E:Env}{f:FuncId}{args:List V}{heap:List VObj}{arr:List Nat}{K:Cont}{id m:Nat}{ds cs:List V}(hid:heap[id]? = some (.cells ds))(hds:ds.all V.cell=true)(hm:heap[m]? = some (.cells cs))(hcs:cs.all V.cell=true)(hne:m≠id)
  (h:VCalls E f (.fptr ((ds.map (frV E.P m (cs.map share1))).map share1)::args) ((heap.set m .dead).set id .dead) arr K):VCalls E f (.ptr id 0::args) heap arr K:=by
 intro G w0 w vals hr ha
 obtain⟨G1,b1,p1,x1,r1,q1,c1⟩:=hr.freezeO hm hcs
 have hid':(heap.set m .dead)[id]? = some (.cells ds):=by rw[List.getElem?_set_ne hne];exact hid
 obtain⟨G2,b2,p2,x2,r2,q2,c2⟩:=r1.freezeO hid' hds
 have c1':∀ (j:Nat) c,(cs.map share1)[j]? = some c→∃ u,G2.F b1 j=some u∧RV E.P G2 arr c u:=fun j c hj=>by
  rw[List.getElem?_map]at hj
  obtain⟨y,hy,rfl⟩:=Option.map_eq_some_iff.1 hj
  obtain⟨u,h1,h2⟩:=c1 j y hy
  exact⟨u,x2.F _ _ _ h1,(h2.mono x2).share1⟩
 refine(h G2 w0 w vals r2 ?_).mono fun e w' hg=>hg.imp (fun⟨val,he,v,heap',arr',G',hv,hx,rest⟩=>⟨val,he,v,heap',arr',G',hv,(x1.trans x2).trans hx,rest⟩) fun⟨ch,he,hd⟩=>⟨ch,he,hd.ext (x1.trans x2)⟩
 refine⟨by simpa using ha.1,fun j x v hx hv=>?_⟩
 cases j with
 | succ j=>exact(ha.2 (j+1) x v (by simpa using hx) hv).mono (x1.trans x2)
 | zero =>
  simp only[List.getElem?_cons_zero,Option.some.injEq]at hx
  subst hx
  have h0:=ha.2 0 (.ptr id 0) v rfl hv
  cases h0 with
  | ptr _ _ b hb =>
   have e1:b2=b:=by rw[q1,hb]at p2;cases p2;rfl
   subst e1
   have key:∀ (j:Nat) c,(((ds.map (frV E.P m (cs.map share1))).map share1))[j]? = some c→∃ u,G2.F b2 (0+j)=some u∧RV E.P G2 arr c u:=fun j c hj=>by
    rw[List.getElem?_map,List.getElem?_map]at hj
    obtain⟨y,hy,rfl⟩:=Option.map_eq_some_iff.1 hj
    obtain⟨z,hz,rfl⟩:=Option.map_eq_some_iff.1 hy
    obtain⟨u,h1,h2⟩:=c2 j z hz
    rw[Nat.zero_add]
    exact⟨u,h1,(h2.frV (Ext.refl _ _) (by rw[q2,q1];exact p1) c1').share1⟩
   refine .fptr _ _ _ (fun j hj=>?_) fun j c v hc hv=>?_
   ·obtain⟨u,hu,_⟩:=key j _ (List.getElem?_eq_getElem hj)
    exact⟨u,hu⟩
   ·obtain⟨u,hu,hrv⟩:=key j c hc
    rw[hv]at hu;cases hu
    exact hrv
end Go.Vg
namespace Go.Proofs.YtamednbojpnalaaGreatDoor
open Go Go.Vg Go.Proofs
theorem Tsound(x:Un)(hs:shortG x.tree):VPure env 41 [.agg x.enc] (.bool (soundB x)):=by
 refine vpure_vc (fn:=Tryz.f41) Tryz.func41 rfl (by rw[Tryz.ntmps41];simp) (by simp -implicitDefEqProofs only[go_sem]) rfl ?_
 simp -implicitDefEqProofs only[go_sem,Tryz.f41]
 refine⟨fun hb=>⟨fun hk=>?_,fun hk=>by simp[soundB,hk]⟩,fun hb=>by simp_all [soundB]⟩
 refine(GCheckN x.tree hs).calls (by simp -implicitDefEqProofs only[go_sem]) ?_
 simp -implicitDefEqProofs only[go_sem]
 simp_all [soundB]
theorem Ssound(u:List Un)(hg:gapsU u)(hl:u.length≤1000):VPure env 28 [sl 34 (u.map Un.enc)] (sl 34 ((u.map Un.sound).map Un.enc)):=by
 refine vpure_vc (fn:=Tryz.f28) Tryz.func28 rfl (by rw[Tryz.ntmps28];simp) (by simp -implicitDefEqProofs only[go_sem];exact uns_pure _) (by simp -implicitDefEqProofs only[go_sem];exact uns_pure _) ?_
 simp -implicitDefEqProofs only[go_sem,Tryz.f28]
 intro _ _
 refine snd_list (β:=Unit) u (fun pre _=>⟨[(8,.int .i64 pre.length),(7,.int .i64 u.length),(6,sl 34 (u.map Un.enc)),(3,.slice (.arr 0) 34 ((pre.map Un.sound).map Un.enc)),(2,.slice .nil 0 []),(0,sl 34 (u.map Un.enc))],[],[pre.length]⟩)
  (fun _ _ _=>True) () ?_ trivial ?_ ?_
 ·simp -implicitDefEqProofs only[go_sem]
  rfl
 ·intro _ _
  simp -implicitDefEqProofs only[go_sem]
 ·rintro pre x post _ hx _
  have hpl:u.length=pre.length+1+post.length:=by rw[hx];simp;omega
  have hgx:(u.map Un.enc).getD (pre.length:Int).toNat []=x.enc:=by rw[hx];simp[List.getD_eq_getElem?_getD]
  have hw:IntKind.i64.wrap (↑pre.length+1)=↑(pre.length+1):=wrap_next (by omega)
  have hlt:((pre.length:Int)<u.length)=True:=by simp;omega
  have hxg:shortG x.tree:=hg x (by rw[hx];simp)
  have hp:(ltLL 0 1 (List.map Un.enc u) && (ltLL 0 1 (List.map Un.enc (List.map Un.sound pre)++[x.sound.enc]) && ltLL 0 1 (List.map Un.enc u)))=true:=by
   have e:List.map Un.enc (List.map Un.sound pre)++[x.sound.enc]=List.map Un.enc (List.map Un.sound (pre++[x])):=by simp
   rw[e,ltLL_pure _ _ _ (uns_pure _),ltLL_pure _ _ _ (uns_pure _)];rfl
  have hbad:soundB x=false→x.sound.enc=[V.str x.path,V.str x.text,V.int IntKind.i64 0,V.str ⟨#[]⟩,V.slice Own.shared 0 [],V.slice Own.shared 0 [],V.bool true]:=fun h=>by
   rw[Un.sound,h];rfl
  have hgood:soundB x=true→x.sound=x:=fun h=>by rw[Un.sound,if_pos h]
  simp -implicitDefEqProofs only[go_sem,hgx,hlt]
  refine⟨fun hb=>⟨fun hk=>?_,fun hk=>?_⟩,fun hb=>?_⟩
  ·refine(GCheckN x.tree hxg).calls (by simp -implicitDefEqProofs only[go_sem]) ?_
   simp -implicitDefEqProofs only[go_sem]
   refine⟨fun h0=>?_,fun h0=>?_⟩
   ·have hs:soundB x=false:=by simp_all [soundB]
    exact⟨by omega,(),⟨hw,by rw[hbad hs]⟩,.inr hp⟩
   ·have hs:soundB x=true:=by simp_all [soundB]
    exact⟨by omega,(),⟨hw,by rw[hgood hs]⟩,.inr hp⟩
  ·have hs:soundB x=false:=by simp_all [soundB]
   exact⟨by omega,(),⟨hw,by rw[hbad hs]⟩,.inr hp⟩
  ·have hs:soundB x=false:=by simp_all [soundB]
   exact⟨by omega,(),⟨hw,by rw[hbad hs]⟩,.inr hp⟩
theorem declsT:∀ (u:List Un) (i:Nat),declsU (u.map Un.soundT) i=declsU (u.map Un.sound) i
 | [],_=>rfl
 | x::r,i=>by
  simp only[List.map_cons,declsU,declsT r (i+1)]
  congr 1
  unfold Un.soundT Un.sound
  split <;> rfl
theorem fit_soundT{u:List Un}(hu:fitU u):fitU (u.map Un.soundT):=by
 refine⟨by rw[List.length_map];exact hu.1,fun x hx=>?_⟩
 obtain⟨y,hy,rfl⟩:=List.mem_map.1 hx
 rw[Un.soundT]
 split
 ·exact hu.2 y hy
 ·refine⟨by simp[Nd.zero,nodes,nodesL],fun z hz=>?_⟩
  simp[Nd.zero,nodes,nodesL]at hz
  subst hz
  exact Nat.zero_le _
def ckC(tabs:List (List V)):List V:=[.slice .shared 0 [],sl 80 tabs,.nilmap,.slice .shared 0 [],.nilmap,.nilmap,.nilmap]
theorem rwe_pure(r:Rw):pureL r.enc=true:=by
 simp -implicitDefEqProofs only[Rw.enc,go_sem];exact kids_pure _
theorem rwe_share(r:Rw):List.map share1 r.enc=r.enc:=by simp -implicitDefEqProofs only[Rw.enc,go_sem]
theorem tab_get{tabs:List (List V)}{un:Nat}{x:List V}(h:tabs[un]? = some x):tabs.getD (un:Int).toNat []=x∧((un:Int)<tabs.length)=True:=by
 have:=(List.getElem?_eq_some_iff.1 h).1
 exact⟨by simp[List.getD_eq_getElem?_getD,h],by simp;exact this⟩
theorem Trow(tabs:List (List V))(un i:Nat)(l:List Rw)(hu:tabs[un]? = some [sl 100 (l.map Rw.enc)])(hi:i<l.length)(hp:pureL (ckC tabs)=true):VPure env 67 [.fptr (ckC tabs),.agg [.int .i64 un,.int .i64 i]] (.agg (rwAt l i).enc):=by
 obtain⟨g1,g2⟩:=tab_get hu
 refine vpure_vc (fn:=Tryz.f67) Tryz.func67 rfl (by rw[Tryz.ntmps67];simp) (by simp -implicitDefEqProofs only[go_sem];exact hp) (by simp -implicitDefEqProofs only[go_sem];exact rwe_pure _) ?_
 simp -implicitDefEqProofs only[go_sem,Tryz.f67,ckC]
 refine snd_draw (cs:=[]) mixed (by kernel_rfl) ?_
 simp -implicitDefEqProofs only[go_sem,g1,g2,row_getDi hi]
 exact⟨by omega,by rw[rwe_share]⟩
theorem Tkid(tabs:List (List V))(un i k:Nat)(l:List Rw)(hu:tabs[un]? = some [sl 100 (l.map Rw.enc)])(hi:i<l.length)(hk:k<(rwAt l i).kids.length)(hp:pureL (ckC tabs)=true):VPure env 68 [.fptr (ckC tabs),.agg [.int .i64 un,.int .i64 i],.int .i64 k] (.agg [.int .i64 un,.int .i64 (kdAt l i k)]):=by
 refine vpure_vc (fn:=Tryz.f68) Tryz.func68 rfl (by rw[Tryz.ntmps68];simp) (by simp -implicitDefEqProofs only[go_sem];exact hp) (by simp -implicitDefEqProofs only[go_sem]) ?_
 simp -implicitDefEqProofs only[go_sem,Tryz.f68]
 have hR:=Trow tabs un i l hu hi hp
 have hki:(k:Int)<(rwAt l i).kids.length:=by omega
 refine snd_draw (cs:=[]) mixed (by kernel_rfl) ?_
 simp -implicitDefEqProofs only[go_sem]
 refine vPC_of hR (by simp -implicitDefEqProofs only[go_sem]) ?_
 simp -implicitDefEqProofs only[go_sem,kid_getDi hk]
 exact hki
theorem Tsign(tabs:List (List V))(un i:Nat)(l:List Rw)(hu:tabs[un]? = some [sl 100 (l.map Rw.enc)])(h:signOK l i)(hp:pureL (ckC tabs)=true):VPure env 44 [.fptr (ckC tabs),.agg [.int .i64 un,.int .i64 i]] (.agg (signR l i).enc):=by
 obtain⟨h0,h1,h2,h3,h4,h5,h6⟩:=h
 refine vpure_vc (fn:=Tryz.f44) Tryz.func44 rfl (by rw[Tryz.ntmps44];simp) (by simp -implicitDefEqProofs only[go_sem];exact hp) (by simp -implicitDefEqProofs only[go_sem,Sg.enc]) ?_
 simp -implicitDefEqProofs only[go_sem,Tryz.f44]
 refine(Tkid tabs un i 1 l hu h1 (by omega) hp).calls (by simp -implicitDefEqProofs only[go_sem];rfl) ?_
 simp -implicitDefEqProofs only[go_sem]
 refine(Trow tabs un (kdAt l i 1) l hu h4 hp).calls (by simp -implicitDefEqProofs only[go_sem]) ?_
 simp -implicitDefEqProofs only[go_sem]
 refine(Tkid tabs un i 0 l hu h1 (by omega) hp).calls (by simp -implicitDefEqProofs only[go_sem];rfl) ?_
 simp -implicitDefEqProofs only[go_sem]
 refine(Trow tabs un (kdAt l i 0) l hu h3 hp).calls (by simp -implicitDefEqProofs only[go_sem]) ?_
 simp -implicitDefEqProofs only[go_sem]
 intro _ _
 have hks:=h6
 have hkd:∀ j,j<(rwAt l (kdAt l i 0)).kids.length→True:=fun _ _=>trivial
 generalize hq:(rwAt l (kdAt l i 0)).kids=ks at h5 h6 hks hkd ⊢
 refine snd_list (β:=Unit) ks (fun pre _=>⟨[(23,.int .i64 pre.length),(22,.int .i64 ks.length),(6,.ptr 3 0),(5,.ptr 2 0),(4,.ptr 1 0),(0,.fptr (ckC tabs))],
   [.dead,.cells [.slice .nil 0 [],.str ⟨#[]⟩],.cells [.slice (.arr 0) 9 ((parsR l pre).map encTx),.str (rwAt l (kdAt l i 1)).text],.cells [.int .i64 un,.int .i64 (kdAt l i 0)]],[pre.length]⟩) (fun _ _ _=>True) () ?_ trivial ?_ ?_
 ·simp only[parsR,List.map_nil]
  simp -implicitDefEqProofs only[go_sem]
  try rfl
 ·intro _ _
  simp -implicitDefEqProofs only[go_sem]
  simp[signR,Sg.enc,hq]
 ·rintro pre x post _ hx _
  have hpl:ks.length=pre.length+1+post.length:=by rw[hx];simp;omega
  obtain⟨q1,q2,q3⟩:=h6 x (by rw[hx];simp)
  have hj:pre.length<(rwAt l (kdAt l i 0)).kids.length:=by rw[hq];omega
  have hkx:kdAt l (kdAt l i 0) pre.length=x:=by
   show(rwAt l (kdAt l i 0)).kids.getD pre.length 0=x
   rw[hq,hx];simp[List.getD_eq_getElem?_getD]
  have hlt:((pre.length:Int)<ks.length)=True:=by simp;omega
  have hpp:parsR l (pre++[x])=parsR l pre++[(rwAt l (kdAt l x 0)).text]:=by simp[parsR]
  have hppl:(parsR l pre).length=pre.length:=by simp[parsR]
  simp -implicitDefEqProofs only[go_sem,hlt]
  refine snd_draw (cs:=[]) mixed (by kernel_rfl) ?_
  simp -implicitDefEqProofs only[go_sem,hppl]
  refine vPC_of (Tkid tabs un (kdAt l i 0) pre.length l hu h3 hj hp) (by simp -implicitDefEqProofs only[go_sem]) ?_
  rw[hkx]
  simp -implicitDefEqProofs only[go_sem,hppl]
  refine vPC_of (Tkid tabs un x 0 l hu q1 q2 hp) (by simp -implicitDefEqProofs only[go_sem];rfl) ?_
  simp -implicitDefEqProofs only[go_sem,hppl]
  refine vPC_of (Trow tabs un (kdAt l x 0) l hu q3 hp) (by simp -implicitDefEqProofs only[go_sem]) ?_
  simp -implicitDefEqProofs only[go_sem,hppl]
  exact⟨by omega,(),wrap_next (by omega),by rw[hpp,List.map_append];rfl⟩
theorem Tsig(u:List Un)(hu:fitU u)(hg:gapsU u)(owner name:ByteArray)(hok:∀ d,findD (declsU (u.map Un.sound) 0) (kindOf owner) owner name=some d→declOK (u.map Un.sound) d) :
  VPure env 15 [sl 34 (u.map Un.enc),.str owner,.str name] (encSig (sigU u owner name)):=by
 refine vpure_vc (fn:=Tryz.f15) Tryz.func15 rfl (by rw[Tryz.ntmps15];simp) (by simp -implicitDefEqProofs only[go_sem];exact uns_pure _) (by unfold encSig;split <;> simp -implicitDefEqProofs only[go_sem,Sg.enc]) ?_
 simp -implicitDefEqProofs only[go_sem,Tryz.f15]
 refine⟨fun ho _ _=>?_,fun ho _ _=>?_⟩
 ·have hk:kindOf owner=1:=if_pos ho
  refine snd_list (β:=Unit) u (fun pre _=>⟨[(19,.int .i64 pre.length),(18,.int .i64 u.length),(17,sl 34 (u.map Un.enc)),(9,.slice (.arr 0) 34 ((pre.map Un.soundT).map Un.enc)),(8,.int .i64 1),(7,.int .i64 0),(6,.ptr 0 0),(0,sl 34 (u.map Un.enc)),(1,.str owner),(2,.str name)],[VObj.cells [V.slice Own.nil 0 [],V.str ⟨#[]⟩]],[pre.length]⟩)
   (fun _ _ _=>True) () ?_ trivial ?_ ?_
  ·simp -implicitDefEqProofs only[go_sem]
   try rfl
  ·intro _ _
   simp -implicitDefEqProofs only[go_sem]
   have hF:=PFind (u.map Un.soundT) (fit_soundT hu) (kindOf owner) owner name
   rw[declsPU_eq,declsT,hk]at hF
   refine hF.calls (by simp -implicitDefEqProofs only[go_sem]) ?_
   have hsg:sigU u owner name=ofU (u.map Un.sound) (kindOf owner) owner name:=rfl
   rw[ofU]at hsg
   rw[hk]at hsg
   cases hfd:findD (declsU (u.map Un.sound) 0) 1 owner name with
   | none =>
    rw[hfd]at hsg
    rw[hsg]
    simp -implicitDefEqProofs only[go_sem,encDO,Option.isSome]
    rfl
   | some d =>
    obtain⟨a1,a2,x,hx,hso⟩:=hok d (by rw[hk];exact hfd)
    obtain⟨dk,dow,dn,du,dd⟩:=d
    simp only at a1 a2 hx hso
    obtain⟨un,rfl⟩:=Int.eq_ofNat_of_zero_le a1
    obtain⟨nd,rfl⟩:=Int.eq_ofNat_of_zero_le a2
    simp only[Int.ofNat_eq_natCast,Int.toNat_natCast]at hx hso hfd
    rw[hfd]at hsg
    simp only[Option.bind_some,Int.toNat_natCast,hx,Option.map_some]at hsg
    rw[hsg]
    rw[List.getElem?_map]at hx
    obtain⟨y,hy,rfl⟩:=Option.map_eq_some_iff.1 hx
    have hyl:un<u.length:=(List.getElem?_eq_some_iff.1 hy).1
    have hym:y∈u:=List.mem_of_getElem? hy
    have hel:((u.map Un.soundT).map Un.enc).getD (un:Int).toNat []=y.soundT.enc:=un_getD (by rw[List.getElem?_map];simp[hy])
    have hlt:((un:Int)<(u.length:Int))=True:=by simp;omega
    have hge:(0≤(un:Int))=True:=by simp
    have htr:y.soundT.tree=y.sound.tree:=by unfold Un.soundT Un.sound;split <;> rfl
    have hnn:(nodes y.soundT.tree).length≤1000000:=by
     have:=((fit_soundT hu).2 y.soundT (List.mem_map_of_mem hym)).1
     omega
    simp -implicitDefEqProofs only[go_sem,encDO,Option.isSome,Dl.enc,rep_flat']
    intro _ _
    refine⟨by omega,?_⟩
    refine snd_draw (cs:=[]) mixed (by kernel_rfl) ?_
    simp -implicitDefEqProofs only[go_sem,hel,hlt,hge,Option.getD_some,Dl.enc]
    refine vPC_of (TRows _ hnn) (by simp -implicitDefEqProofs only[go_sem]) ?_
    simp only[rep_one]
    simp -implicitDefEqProofs only[go_sem,hlt,Dl.enc,htr]
    have hln:(List.replicate u.length (V.slice Own.nil 0 [])).length=u.length:=List.length_replicate
    refine⟨by simp;omega,VCalls.freeze2 (m:=2) (id:=3) rfl rfl rfl ?_ (by decide) ?_⟩
    ·rw[List.all_eq_true]
     intro c hc
     simp only[List.mem_append,List.mem_singleton]at hc
     rcases hc with(h | rfl) | h
     ·rw[List.eq_of_mem_replicate (List.mem_of_mem_take h)];rfl
     ·rfl
     ·rw[List.eq_of_mem_replicate (List.mem_of_mem_drop h)];rfl
    have hxp:(sl 100 ((rowsN y.sound.tree (-1) 0).map Rw.enc)).pure=true:=by simp -implicitDefEqProofs only[go_sem];exact rows_pure _
    have hpk:pureL (ckC (tabsOf u.length un (sl 100 ((rowsN y.sound.tree (-1) 0).map Rw.enc))))=true:=by
     have:=tabsOf_pure (n:=u.length) (un:=un) hxp
     simp -implicitDefEqProofs only[ckC,go_sem,this]
     rfl
    have hS:=Tsign (tabsOf u.length un (sl 100 ((rowsN y.sound.tree (-1) 0).map Rw.enc))) un nd _ (tabsOf_get hyl) hso hpk
    have hcs:(List.take (0+(un:Int).toNat * 1) (List.replicate u.length (V.slice Own.nil 0 []))++[sl 100 ((rowsN y.sound.tree (-1) 0).map Rw.enc)]++List.drop (0+(un:Int).toNat * 1+1) (List.replicate u.length (V.slice Own.nil 0 []))).map share1
      = (List.replicate u.length (V.slice .shared 0 [])).take un++[sl 100 ((rowsN y.sound.tree (-1) 0).map Rw.enc)]++(List.replicate u.length (V.slice .shared 0 [])).drop (un+1):=by
     simp only[List.map_append,List.map_take,List.map_drop,List.map_replicate,Int.toNat_natCast,Nat.zero_add,Nat.mul_one,List.map_cons,List.map_nil]
     simp -implicitDefEqProofs only[go_sem]
    have hcl:((List.replicate u.length (V.slice .shared 0 [])).take un++[sl 100 ((rowsN y.sound.tree (-1) 0).map Rw.enc)]++(List.replicate u.length (V.slice .shared 0 [])).drop (un+1)).length=u.length:=by
     simp;omega
    refine VPure.calls hS ?_ ?_
    ·rw[hcs]
     generalize hg2:(List.replicate u.length (V.slice .shared 0 [])).take un++[sl 100 ((rowsN y.sound.tree (-1) 0).map Rw.enc)]++(List.replicate u.length (V.slice .shared 0 [])).drop (un+1)=cs at hcl
     have hch:chunk 1 u.length cs=tabsOf u.length un (sl 100 ((rowsN y.sound.tree (-1) 0).map Rw.enc)):=by
      have h1:=chunkOne cs
      rw[hcl]at h1
      rw[h1,←hg2];rfl
     simp -implicitDefEqProofs only[frV,List.map_cons,List.map_nil,go_sem,hcl,Nat.mul_one,Nat.le_refl,and_self,if_true,hch,ckC]
    simp -implicitDefEqProofs only[go_sem]
    try rfl
  ·rintro pre x post _ hx _
   have hpl:u.length=pre.length+1+post.length:=by rw[hx];simp;omega
   have hgx:(u.map Un.enc).getD (pre.length:Int).toNat []=x.enc:=by rw[hx];simp[List.getD_eq_getElem?_getD]
   have hw:IntKind.i64.wrap (↑pre.length+1)=↑(pre.length+1):=wrap_next (by omega)
   have hlt:((pre.length:Int)<u.length)=True:=by simp;omega
   have hxg:shortG x.tree:=hg x (by rw[hx];simp)
   simp -implicitDefEqProofs only[go_sem,hgx,hlt]
   have hp:(ltLL 1 1 (List.map Un.enc u) && (ltLL 1 1 (List.map Un.enc (List.map Un.soundT pre)++[x.soundT.enc]) && ltLL 1 1 (List.map Un.enc u)))=true:=by
    have e:List.map Un.enc (List.map Un.soundT pre)++[x.soundT.enc]=List.map Un.enc (List.map Un.soundT (pre++[x])):=by simp
    rw[e,ltLL_pure _ _ _ (uns_pure _),ltLL_pure _ _ _ (uns_pure _)];rfl
   refine(Tsound x hxg).calls (by simp -implicitDefEqProofs only[go_sem]) ?_
   simp -implicitDefEqProofs only[go_sem]
   refine⟨fun h0=>⟨by omega,(),⟨hw,?_⟩,.inr hp⟩,fun h0=>⟨by omega,(),⟨hw,?_⟩,.inr hp⟩⟩
   ·have hs:soundB x=false:=by simpa using h0
    rw[Un.soundT,hs];rfl
   ·have hs:soundB x=true:=by simpa using h0
    rw[Un.soundT,if_pos hs]
 ·have hk:kindOf owner=4:=if_neg ho
  rw[←hk]
  refine snd_list (β:=Unit) u (fun pre _=>⟨[(19,.int .i64 pre.length),(18,.int .i64 u.length),(17,sl 34 (u.map Un.enc)),(9,.slice (.arr 0) 34 ((pre.map Un.soundT).map Un.enc)),(8,.int .i64 (kindOf owner)),(7,.int .i64 0),(6,.ptr 0 0),(0,sl 34 (u.map Un.enc)),(1,.str owner),(2,.str name)],[VObj.cells [V.slice Own.nil 0 [],V.str ⟨#[]⟩]],[pre.length]⟩)
   (fun _ _ _=>True) () ?_ trivial ?_ ?_
  ·simp -implicitDefEqProofs only[go_sem]
   try rfl
  ·intro _ _
   simp -implicitDefEqProofs only[go_sem]
   have hF:=PFind (u.map Un.soundT) (fit_soundT hu) (kindOf owner) owner name
   rw[declsPU_eq,declsT]at hF
   refine hF.calls (by simp -implicitDefEqProofs only[go_sem]) ?_
   have hsg:sigU u owner name=ofU (u.map Un.sound) (kindOf owner) owner name:=rfl
   rw[ofU]at hsg
   cases hfd:findD (declsU (u.map Un.sound) 0) (kindOf owner) owner name with
   | none =>
    rw[hfd]at hsg
    rw[hsg]
    simp -implicitDefEqProofs only[go_sem,encDO,Option.isSome]
    rfl
   | some d =>
    obtain⟨a1,a2,x,hx,hso⟩:=hok d hfd
    obtain⟨dk,dow,dn,du,dd⟩:=d
    simp only at a1 a2 hx hso
    obtain⟨un,rfl⟩:=Int.eq_ofNat_of_zero_le a1
    obtain⟨nd,rfl⟩:=Int.eq_ofNat_of_zero_le a2
    simp only[Int.ofNat_eq_natCast,Int.toNat_natCast]at hx hso hfd
    rw[hfd]at hsg
    simp only[Option.bind_some,Int.toNat_natCast,hx,Option.map_some]at hsg
    rw[hsg]
    rw[List.getElem?_map]at hx
    obtain⟨y,hy,rfl⟩:=Option.map_eq_some_iff.1 hx
    have hyl:un<u.length:=(List.getElem?_eq_some_iff.1 hy).1
    have hym:y∈u:=List.mem_of_getElem? hy
    have hel:((u.map Un.soundT).map Un.enc).getD (un:Int).toNat []=y.soundT.enc:=un_getD (by rw[List.getElem?_map];simp[hy])
    have hlt:((un:Int)<(u.length:Int))=True:=by simp;omega
    have hge:(0≤(un:Int))=True:=by simp
    have htr:y.soundT.tree=y.sound.tree:=by unfold Un.soundT Un.sound;split <;> rfl
    have hnn:(nodes y.soundT.tree).length≤1000000:=by
     have:=((fit_soundT hu).2 y.soundT (List.mem_map_of_mem hym)).1
     omega
    simp -implicitDefEqProofs only[go_sem,encDO,Option.isSome,Dl.enc,rep_flat']
    intro _ _
    refine⟨by omega,?_⟩
    refine snd_draw (cs:=[]) mixed (by kernel_rfl) ?_
    simp -implicitDefEqProofs only[go_sem,hel,hlt,hge,Option.getD_some,Dl.enc]
    refine vPC_of (TRows _ hnn) (by simp -implicitDefEqProofs only[go_sem]) ?_
    simp only[rep_one]
    simp -implicitDefEqProofs only[go_sem,hlt,Dl.enc,htr]
    have hln:(List.replicate u.length (V.slice Own.nil 0 [])).length=u.length:=List.length_replicate
    refine⟨by simp;omega,VCalls.freeze2 (m:=2) (id:=3) rfl rfl rfl ?_ (by decide) ?_⟩
    ·rw[List.all_eq_true]
     intro c hc
     simp only[List.mem_append,List.mem_singleton]at hc
     rcases hc with(h | rfl) | h
     ·rw[List.eq_of_mem_replicate (List.mem_of_mem_take h)];rfl
     ·rfl
     ·rw[List.eq_of_mem_replicate (List.mem_of_mem_drop h)];rfl
    have hxp:(sl 100 ((rowsN y.sound.tree (-1) 0).map Rw.enc)).pure=true:=by simp -implicitDefEqProofs only[go_sem];exact rows_pure _
    have hpk:pureL (ckC (tabsOf u.length un (sl 100 ((rowsN y.sound.tree (-1) 0).map Rw.enc))))=true:=by
     have:=tabsOf_pure (n:=u.length) (un:=un) hxp
     simp -implicitDefEqProofs only[ckC,go_sem,this]
     rfl
    have hS:=Tsign (tabsOf u.length un (sl 100 ((rowsN y.sound.tree (-1) 0).map Rw.enc))) un nd _ (tabsOf_get hyl) hso hpk
    have hcs:(List.take (0+(un:Int).toNat * 1) (List.replicate u.length (V.slice Own.nil 0 []))++[sl 100 ((rowsN y.sound.tree (-1) 0).map Rw.enc)]++List.drop (0+(un:Int).toNat * 1+1) (List.replicate u.length (V.slice Own.nil 0 []))).map share1
      = (List.replicate u.length (V.slice .shared 0 [])).take un++[sl 100 ((rowsN y.sound.tree (-1) 0).map Rw.enc)]++(List.replicate u.length (V.slice .shared 0 [])).drop (un+1):=by
     simp only[List.map_append,List.map_take,List.map_drop,List.map_replicate,Int.toNat_natCast,Nat.zero_add,Nat.mul_one,List.map_cons,List.map_nil]
     simp -implicitDefEqProofs only[go_sem]
    have hcl:((List.replicate u.length (V.slice .shared 0 [])).take un++[sl 100 ((rowsN y.sound.tree (-1) 0).map Rw.enc)]++(List.replicate u.length (V.slice .shared 0 [])).drop (un+1)).length=u.length:=by
     simp;omega
    refine VPure.calls hS ?_ ?_
    ·rw[hcs]
     generalize hg2:(List.replicate u.length (V.slice .shared 0 [])).take un++[sl 100 ((rowsN y.sound.tree (-1) 0).map Rw.enc)]++(List.replicate u.length (V.slice .shared 0 [])).drop (un+1)=cs at hcl
     have hch:chunk 1 u.length cs=tabsOf u.length un (sl 100 ((rowsN y.sound.tree (-1) 0).map Rw.enc)):=by
      have h1:=chunkOne cs
      rw[hcl]at h1
      rw[h1,←hg2];rfl
     simp -implicitDefEqProofs only[frV,List.map_cons,List.map_nil,go_sem,hcl,Nat.mul_one,Nat.le_refl,and_self,if_true,hch,ckC]
    simp -implicitDefEqProofs only[go_sem]
    try rfl
  ·rintro pre x post _ hx _
   have hpl:u.length=pre.length+1+post.length:=by rw[hx];simp;omega
   have hgx:(u.map Un.enc).getD (pre.length:Int).toNat []=x.enc:=by rw[hx];simp[List.getD_eq_getElem?_getD]
   have hw:IntKind.i64.wrap (↑pre.length+1)=↑(pre.length+1):=wrap_next (by omega)
   have hlt:((pre.length:Int)<u.length)=True:=by simp;omega
   have hxg:shortG x.tree:=hg x (by rw[hx];simp)
   simp -implicitDefEqProofs only[go_sem,hgx,hlt]
   have hp:(ltLL 1 1 (List.map Un.enc u) && (ltLL 1 1 (List.map Un.enc (List.map Un.soundT pre)++[x.soundT.enc]) && ltLL 1 1 (List.map Un.enc u)))=true:=by
    have e:List.map Un.enc (List.map Un.soundT pre)++[x.soundT.enc]=List.map Un.enc (List.map Un.soundT (pre++[x])):=by simp
    rw[e,ltLL_pure _ _ _ (uns_pure _),ltLL_pure _ _ _ (uns_pure _)];rfl
   refine(Tsound x hxg).calls (by simp -implicitDefEqProofs only[go_sem]) ?_
   simp -implicitDefEqProofs only[go_sem]
   refine⟨fun h0=>⟨by omega,(),⟨hw,?_⟩,.inr hp⟩,fun h0=>⟨by omega,(),⟨hw,?_⟩,.inr hp⟩⟩
   ·have hs:soundB x=false:=by simpa using h0
    rw[Un.soundT,hs];rfl
   ·have hs:soundB x=true:=by simpa using h0
    rw[Un.soundT,if_pos hs]
end Go.Proofs.YtamednbojpnalaaGreatDoor
set_option maxRecDepth 20000
namespace Go.Vg
def baseL:List Nd→Int→Nd×Int
 | [],_=>(Nd.zero,0)
 | x::r,k=>if x.kind=8 then(x,k)else baseL r (k+(nodes x).length)
theorem declT_of{k:Int}{t:ByteArray}{u m:Int}{x:Ar}{d:Dl}(h:declT k t u m x=some d):d.unit=u∧d.node=m∧d.name=t∧(d.kind=2→k=7)∧(d.kind=1∨d.kind=4→k=2):=by
 unfold declT at h
 repeat' split at h
 all_goals first | (cases h;done) | (cases h;simp;try omega)
def placed(n:Nd)(m:Nat)(d:Dl):Prop:=∃ j y,d.node=((m+j:Nat):Int)∧(nodes n)[j]? = some y∧d.name=y.text∧(d.kind=2→y.kind=7)∧(d.kind=1∨d.kind=4→y.kind=2)
theorem walkD_at:∀ (n:Nd) (u:Int) (m:Nat) (x:Ar) (d:Dl),d∈walkD n u m x→d.unit=u∧placed n m d:=by
 refine Nd.all fun k t g ks ih u m x d hd=>?_
 have hs:∀ (l:List Nd),(∀ y∈l,∀ (u:Int) (m:Nat) (x:Ar) (d:Dl),d∈walkD y u m x→d.unit=u∧placed y m d)→∀ (m:Nat) (x:Ar) (d:Dl),d∈walkDs l u m x →
   d.unit=u∧∃ j y,d.node=((m+j:Nat):Int)∧(nodesL l)[j]? = some y∧d.name=y.text∧(d.kind=2→y.kind=7)∧(d.kind=1∨d.kind=4→y.kind=2):=by
  intro l
  induction l with
  | nil=>intro _ m x d hd;simp[walkDs]at hd
  | cons z r ihr =>
   intro h m x d hd
   rw[walkDs,List.mem_append]at hd
   rcases hd with hd | hd
   ·obtain⟨h1,j,y,h2,h3,h4⟩:=h z (by simp) u m x d hd
    refine⟨h1,j,y,h2,?_,h4⟩
    rw[nodesL,List.getElem?_append_left (List.getElem?_eq_some_iff.1 h3).1];exact h3
   ·obtain⟨h1,j,y,h2,h3,h4⟩:=ihr (fun y hy=>h y (by simp[hy])) _ x d hd
    refine⟨h1,(nodes z).length+j,y,by rw[h2,Nat.add_assoc],?_,h4⟩
    rw[nodesL,List.getElem?_append_right (by omega)];simpa using h3
 rw[walkD,List.mem_append]at hd
 rcases hd with hd | hd
 ·cases hdt:declT k t u m x with
  | none=>rw[hdt]at hd;cases hd
  | some d' =>
   rw[hdt]at hd
   simp at hd
   subst hd
   obtain⟨h1,h2,h3,h4⟩:=declT_of hdt
   exact⟨h1,0,.mk k t g ks,by simpa using h2,by simp[nodes],h3,h4⟩
 ·obtain⟨h1,j,y,h2,h3,h4⟩:=hs ks ih _ _ d hd
  exact⟨h1,j+1,y,by rw[h2];congr 1;omega,by simpa[nodes]using h3,h4⟩
theorem declsU_at:∀ (u:List Un) (i:Nat) (d:Dl),d∈declsU u i→∃ un x,d.unit=((i+un:Nat):Int)∧u[un]? = some x∧x.broken=false∧placed x.tree 0 d
 | [],i,d,h=>by simp[declsU]at h
 | x::r,i,d,h=>by
  rw[declsU,List.mem_append]at h
  rcases h with h | h
  ·split at h
   ·cases h
   ·rename_i hb
    obtain⟨h1,h2⟩:=walkD_at x.tree i 0 Ar.none d h
    exact⟨0,x,by simpa using h1,rfl,by simpa using hb,h2⟩
  ·obtain⟨un,y,h1,h2,h3⟩:=declsU_at r (i+1) d h
   exact⟨un+1,y,by rw[h1];congr 1;omega,by simpa using h2,h3⟩
theorem nodes_le:∀ (n y:Nd),y∈nodes n→(nodes y).length≤(nodes n).length:=by
 refine Nd.all fun k t g ks ih y hy=>?_
 have hs:∀ (l:List Nd),(∀ z∈l,∀ y∈nodes z,(nodes y).length≤(nodes z).length)→∀ y∈nodesL l,(nodes y).length≤(nodesL l).length:=by
  intro l
  induction l with
  | nil=>intro _ y hy;simp[nodesL]at hy
  | cons z r ihr =>
   intro h y hy
   rw[nodesL,List.mem_append]at hy
   rw[nodesL,List.length_append]
   rcases hy with hy | hy
   ·have:=h z (by simp) y hy;omega
   ·have:=ihr (fun w hw=>h w (by simp[hw])) y hy;omega
 rw[nodes]at hy
 rcases List.mem_cons.1 hy with rfl | hy
 ·exact Nat.le_refl _
 ·have:=hs ks (fun z hz y hy=>ih z hz y hy) y hy
  rw[nodes_mk];omega
theorem kid_nodes{k t g}{ks:List Nd}{x:Nd}(hx:x∈ks):(nodes x).length≤(nodes (.mk k t g ks)).length:=by
 refine nodes_le _ _ (mem_kid hx ?_)
 obtain⟨a,b,c,d⟩:=x
 rw[nodes];simp
theorem kids_nodes:∀ ks:List Nd,ks.length≤(nodesL ks).length
 | []=>Nat.le_refl _
 | x::r=>by
  have:=kids_nodes r
  have h1:=cnt_pos x
  unfold cntN at h1
  rw[nodesL,List.length_append,List.length_cons];omega
theorem baseL_fst:∀ (l:List Nd) (a b:Int),(baseL l a).1=(baseL l b).1
 | [],_,_=>rfl
 | x::r,a,b=>by
  rw[baseL,baseL]
  split
  ·rfl
  ·exact baseL_fst r _ _
def btU(u:List Un)(d:Dl):ByteArray:=match u[d.unit.toNat]? with
 | some x=>match(nodes x.tree)[d.node.toNat]? with
  | some n=>(baseL n.kids 0).1.text
  | none=>⟨#[]⟩
 | none=>⟨#[]⟩
def mapB(B:List (ByteArray×ByteArray)):List (V×V):=B.map fun p=>(.str p.1,.str p.2)
def getB(B:List (ByteArray×ByteArray))(n:ByteArray):Option ByteArray:=(B.find? fun p=>decide (p.1=n)).map (·.2)
def supB(B:List (ByteArray×ByteArray))(cls:ByteArray):Nat→List ByteArray→ByteArray→List ByteArray×ByteArray
 | 0,out,next=>(out,next)
 | f+1,out,next=>if(decide (next=⟨#[]⟩) || !(getB B next).isSome || (cls::out).any fun x=>decide (x=next))=true then(out,next)else supB B cls f (out++[next]) ((getB B next).getD ⟨#[]⟩)
theorem findB(n:ByteArray):∀ (B:List (ByteArray×ByteArray)) (i:Nat),(∃ j v,findV .string (.str n) (mapB B) i=some (some (j,.str v))∧getB B n=some v)∨(findV .string (.str n) (mapB B) i=some none∧getB B n=none)
 | [],i => .inr ⟨rfl,rfl⟩
 | (a,b)::r,i=>by
  by_cases h:a=n
  ·subst h
   refine .inl ⟨i,b,?_,by simp[getB]⟩
   simp only[mapB,List.map_cons,findV,sameV]
   have:(a == a)=true:=(MapKept.bytes_beq a a).2 rfl
   rw[this]
  ·have h2:(n == a)=false:=by
    cases hc:(n == a)with
    | false=>rfl
    | true=>exact absurd ((MapKept.bytes_beq n a).1 hc).symm h
   have e:findV .string (.str n) (mapB ((a,b)::r)) i=findV .string (.str n) (mapB r) (i+1):=by
    simp only[mapB,List.map_cons,findV,sameV,h2]
   have e2:getB ((a,b)::r) n=getB r n:=by simp[getB,h]
   rw[e,e2]
   exact findB n r (i+1)
theorem getB_mem{B:List (ByteArray×ByteArray)}{n:ByteArray}(h:(getB B n).isSome=true):n∈B.map (·.1):=by
 unfold getB at h
 cases hf:B.find? fun p=>decide (p.1=n)with
 | none=>rw[hf]at h;cases h
 | some p =>
  have h1:=List.mem_of_find?_eq_some hf
  have h2:=List.find?_some hf
  exact List.mem_map.2 ⟨p,h1,by simpa using h2⟩
theorem pigeon{α:Type}[DecidableEq α]:∀ (l m:List α),l.Nodup→(∀ x∈l,x∈m)→l.length≤m.length
 | [],m,_,_=>Nat.zero_le _
 | x::l,m,hn,hm=>by
  have hx:=hm x (by simp)
  have h1:=pigeon l (m.erase x) (List.nodup_cons.1 hn).2 fun y hy=>by
   refine(List.mem_erase_of_ne ?_).2 (hm y (by simp[hy]))
   rintro rfl;exact(List.nodup_cons.1 hn).1 hy
  have h2:=List.length_erase_of_mem hx
  have h3:=List.length_pos_of_mem hx
  simp only[List.length_cons];omega
def seenM(l:List ByteArray):List (V×V):=l.map fun x=>(.str x,.bool true)
theorem findS(n:ByteArray):∀ (l:List ByteArray) (i:Nat),(∃ j,findV .string (.str n) (seenM l) i=some (some (j,.bool true))∧(l.any fun x=>decide (x=n))=true)∨(findV .string (.str n) (seenM l) i=some none∧(l.any fun x=>decide (x=n))=false)
 | [],i => .inr ⟨rfl,rfl⟩
 | a::r,i=>by
  by_cases h:a=n
  ·subst h
   refine .inl ⟨i,?_,by simp⟩
   simp only[seenM,List.map_cons,findV,sameV]
   have:(a == a)=true:=(MapKept.bytes_beq a a).2 rfl
   rw[this]
  ·have h2:(n == a)=false:=by
    cases hc:(n == a)with
    | false=>rfl
    | true=>exact absurd ((MapKept.bytes_beq n a).1 hc).symm h
   have e:findV .string (.str n) (seenM (a::r)) i=findV .string (.str n) (seenM r) (i+1):=by
    simp only[seenM,List.map_cons,findV,sameV,h2]
   have e2:((a::r).any fun x=>decide (x=n))=r.any fun x=>decide (x=n):=by simp[h]
   rw[e,e2]
   exact findS n r (i+1)
end Go.Vg
namespace Go.Proofs.YtamednbojpnalaaGreatDoor
open Go Go.Vg Go.Proofs
theorem look_B{B:List (ByteArray×ByteArray)}{n:ByteArray}{K:V→Prop}:vLookF env 9 (findV .string (.str n) (mapB B) 0) false K=K (.str ((getB B n).getD ⟨#[]⟩)):=by
 rcases findB n B 0 with⟨j,v,h1,h2⟩ | ⟨h1,h2⟩
 ·rw[h1,h2];simp -implicitDefEqProofs only[go_sem];rfl
 ·rw[h1,h2];simp -implicitDefEqProofs only[go_sem];rfl
theorem look_B2{B:List (ByteArray×ByteArray)}{n:ByteArray}{K:V→Prop}:vLookF env 9 (findV .string (.str n) (mapB B) 0) true K=K (.tuple [.str ((getB B n).getD ⟨#[]⟩),.bool (getB B n).isSome]):=by
 rcases findB n B 0 with⟨j,v,h1,h2⟩ | ⟨h1,h2⟩
 ·rw[h1,h2];simp -implicitDefEqProofs only[go_sem];rfl
 ·rw[h1,h2];simp -implicitDefEqProofs only[go_sem];rfl
theorem look_S{l:List ByteArray}{n:ByteArray}{K:V→Prop}:vLookF env 4 (findV .string (.str n) (seenM l) 0) false K=K (.bool (l.any fun x=>decide (x=n))):=by
 rcases findS n l 0 with⟨j,h1,h2⟩ | ⟨h1,h2⟩
 ·rw[h1,h2];simp -implicitDefEqProofs only[go_sem]
 ·rw[h1,h2];simp -implicitDefEqProofs only[go_sem];rfl
theorem set_S{l:List ByteArray}{n:ByteArray}{h:List VObj}{id:Nat}{L:List VObj→Prop}(hn:(l.any fun x=>decide (x=n))=false):vSetF h id (seenM l) (.str n) (.bool true) (findV .string (.str n) (seenM l) 0) L=L (h.set id (.map (seenM (l++[n])))):=by
 rcases findS n l 0 with⟨j,h1,h2⟩ | ⟨h1,h2⟩
 ·rw[h2]at hn;cases hn
 ·rw[h1];simp -implicitDefEqProofs only[go_sem];simp[seenM]
theorem Cbase(u:List Un)(hu:fitU u)(un nd:Nat)(x:Un)(n:Nd)(hx:u[un]? = some x)(hn:(nodes x.tree)[nd]? = some n)(hs:∀ k∈n.kids,(nodes k).length≤1000)(hks:n.kids.length≤1000):VPure env 101 [sl 34 (u.map Un.enc),.agg [.int .i64 un,.int .i64 nd]] (.tuple [.agg (baseL n.kids (nd+1)).1.enc,.int .i64 (baseL n.kids (nd+1)).2]):=by
 obtain⟨k,t,g,ks⟩:=n
 simp only[Nd.kids]at hs hks ⊢
 have hul:un<u.length:=(List.getElem?_eq_some_iff.1 hx).1
 have hxm:x∈u:=List.mem_of_getElem? hx
 have hnl:nd<(nodes x.tree).length:=(List.getElem?_eq_some_iff.1 hn).1
 have hnn:(nodes x.tree).length≤1000:=(hu.2 x hxm).1
 have hel:(u.map Un.enc).getD (un:Int).toNat []=x.enc:=un_getD (by simpa using hx)
 have hlt:((un:Int)<(u.length:Int))=True:=by simp;omega
 have hAt:=TAt x.tree (by omega) nd (by omega)
 rw[if_pos (by omega),Int.toNat_natCast,hn]at hAt
 refine vpure_vc (fn:=Tryz.f101) Tryz.func101 rfl (by rw[Tryz.ntmps101];simp) (by simp -implicitDefEqProofs only[go_sem];exact uns_pure _) (by simp -implicitDefEqProofs only[go_sem]) ?_
 simp -implicitDefEqProofs only[go_sem,Tryz.f101]
 refine snd_draw (cs:=[]) mixed (by kernel_rfl) ?_
 simp -implicitDefEqProofs only[go_sem,hel,hlt]
 refine vPC_of hAt (by simp -implicitDefEqProofs only[go_sem]) ?_
 simp -implicitDefEqProofs only[go_sem,Option.getD_some,Option.isSome]
 intro _ _
 refine snd_list (β:=Int) ks (fun pre kk=>⟨[(29,.int .i64 pre.length),(28,.int .i64 ks.length),(27,sl 32 (ks.map Nd.enc)),(8,.int .i64 kk),(5,.int .i64 0),(4,.ptr 1 0)],
   [.dead,.cells [.int .i64 0,.str ⟨#[]⟩,.slice .nil 0 [],.slice .nil 0 []],.cells (Nd.mk k t g ks).enc],[]⟩)
  (fun pre post kk=>baseL ks (nd+1)=baseL post kk∧0≤kk∧kk≤1001+pre.length * 1000) (nd+1) ?_ ⟨rfl,by omega,by simp;omega⟩ ?_ ?_
 ·have:IntKind.i64.wrap ((nd:Int)+1)=nd+1:=wrap_ok (by omega) (by omega)
  simp -implicitDefEqProofs only[go_sem,this]
  try rfl
 ·rintro kk ⟨hi,_,_⟩
  simp -implicitDefEqProofs only[go_sem]
  rw[hi];rfl
 ·rintro pre y post kk hy ⟨hi,b0,b1⟩
  have hpl:ks.length=pre.length+1+post.length:=by rw[hy];simp;omega
  have hgx:(ks.map Nd.enc).getD (pre.length:Int).toNat []=y.enc:=by rw[hy];simp[List.getD_eq_getElem?_getD]
  have hlt2:((pre.length:Int)<ks.length)=True:=by simp;omega
  have hym:y∈ks:=by rw[hy];simp
  have hyn:=hs y hym
  rw[hi,baseL]
  simp -implicitDefEqProofs only[go_sem,hgx,hlt2]
  refine⟨fun h8=>?_,fun h8=>?_⟩
  ·rw[if_pos h8]
  ·refine(TSize y (by omega)).calls (by simp -implicitDefEqProofs only[go_sem]) ?_
   simp -implicitDefEqProofs only[go_sem]
   exact⟨_,⟨by rw[if_neg h8],by omega,by omega⟩,wrap_next (by omega),wrap_ok (by omega) (by omega)⟩
theorem Csupers(B:List (ByteArray×ByteArray))(nm ds:V)(es:List (V×V))(a:Nat)(cls:ByteArray)(hB:B.length≤1000000)(hnm:nm.some? = true)(hds:ds.some? = true) :
  VCalls env 102 [.ptr 2 0,.str cls] [.map (mapB B),.map es,.cells [nm,.map 0,.map 1,ds]] [a] fun v h' a'=>∃ n z,v = .tuple [.slice (.arr 1) 9 ((supB B cls (B.length+1) [] ((getB B cls).getD ⟨#[]⟩)).1.map encTx),.str (supB B cls (B.length+1) [] ((getB B cls).getD ⟨#[]⟩)).2]∧h'=[.map (mapB B),.map es,.cells [nm,.map 0,.map 1,ds],z]∧a'=[a,n]:=by
 refine vcalls_vc (fn:=Tryz.f102) Tryz.func102 rfl (by rw[Tryz.ntmps102];simp) ?_
 simp -implicitDefEqProofs only[go_sem,Tryz.f102,look_B]
 generalize hgo:supB B cls (B.length+1) [] ((getB B cls).getD ⟨#[]⟩)=goal
 refine snd_for (α:=List ByteArray×ByteArray) (fun s=>⟨[(8,.str s.2),(7,.map 3),(6,.slice (.arr 1) 9 (s.1.map encTx)),(5,.str ⟨#[]⟩),(4,.slice .nil 0 []),(0,.ptr 2 0),(1,.str cls)],
   [.map (mapB B),.map es,.cells [nm,.map 0,.map 1,ds],.map (seenM (cls::s.1))],[a,s.1.length]⟩)
  (fun s=>supB B cls (B.length+1 - s.1.length) s.1 s.2=goal∧s.1.Nodup∧∀ x∈s.1,(getB B x).isSome=true) (fun s=>B.length+1 - s.1.length) ([],(getB B cls).getD ⟨#[]⟩) ?_ ⟨by simpa using hgo,by simp,by simp⟩ ?_
 ·simp -implicitDefEqProofs only[go_sem]
  rfl
 ·rintro⟨out,next⟩ ⟨i1,i2,i3⟩
  simp only at i1 i2 i3
  have hle:out.length≤B.length:=by
   have:=pigeon out (B.map (·.1)) i2 fun x hx=>getB_mem (i3 x hx)
   simpa using this
  obtain⟨f,hf⟩:∃ f,B.length+1 - out.length=f+1:=⟨B.length - out.length,by omega⟩
  rw[hf,supB]at i1
  have hstop:(decide (next=⟨#[]⟩) || !(getB B next).isSome || (cls::out).any fun x=>decide (x=next))=true→∃ n z,V.tuple [.slice (.arr 1) 9 (out.map encTx),.str next]=V.tuple [.slice (.arr 1) 9 (goal.1.map encTx),.str goal.2]∧[VObj.map (mapB B),VObj.map es,VObj.cells [nm,.map 0,.map 1,ds],VObj.map (seenM (cls::out))]=[.map (mapB B),.map es,.cells [nm,.map 0,.map 1,ds],z]∧[a,out.length]=[a,n]:=fun h=>by
   rw[if_pos h]at i1;rw[←i1];exact⟨_,_,rfl,rfl,rfl⟩
  simp -implicitDefEqProofs only[go_sem,look_B,look_B2,look_S]
  refine⟨fun h1=>⟨fun h2=>⟨fun h3=>hstop (by simp[h3]),fun h3=>?_⟩,fun h2=>hstop (by simp[h2])⟩,fun h1=>hstop (by simp[h1])⟩
  have hsm:(getB B next).isSome=true:=by simpa using h2
  have hc:¬ (decide (next=⟨#[]⟩) || !(getB B next).isSome || (cls::out).any fun x=>decide (x=next))=true:=by
   rw[h3,h2];simp[h1]
  rw[if_neg hc]at i1
  rw[set_S h3]
  simp -implicitDefEqProofs only[go_sem,look_B]
  have hno:next ∉ out:=fun hm=>by
   have:((cls::out).any fun x=>decide (x=next))=true:=by simp;exact .inr hm
   rw[h3]at this;cases this
  refine⟨by omega,(out++[next],(getB B next).getD ⟨#[]⟩),by simp;omega,⟨?_,?_,?_⟩,⟨rfl,by simp[encTx]⟩,rfl,by simp⟩
  ·have:B.length+1 - (out++[next]).length=f:=by simp;omega
   simp only[this];exact i1
  ·simp only[]
   rw[List.nodup_append]
   exact⟨i2,by simp,fun x hx y hy=>by simp at hy;subst hy;rintro rfl;exact hno hx⟩
  ·intro x hx
   rcases List.mem_append.1 hx with h | h
   ·exact i3 x h
   ·simp at h;subst h;exact hsm
end Go.Proofs.YtamednbojpnalaaGreatDoor
