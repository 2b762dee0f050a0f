/- The check of types. -/
import Derived.Test.YtighfcpaplmaiaaGreatDoorUdD
import Derived.Test.YtighfcpaplmaiaaGreatDoorUbB
set_option linter.unusedVariables false
set_option linter.unusedSimpArgs false
set_option maxRecDepth 20000
namespace Go.Proofs.YtighfcpaplmaiaaGreatDoor
open Go Go.Vg Go.Proofs
def usesU(u:List Un):List Us:=usesL (globL (declsU u 0)) (tabsU u) 0
theorem TnewF(u:List Un)(hu:fitU u)(hb:∀ x∈u,x.broken=false){h:List VObj}{a:List Nat}{K:Cont}
  (hK:∀ y,K (.fptr (ckF u (tabsU u) (unbL (usesU u)) h.length)) (h++ck4 (dclU u) [] [] [] [.dead]) (a++y)):VCalls env 89 [sl 70 (u.map Un.enc)] h a K:=by
 refine VCalls.freezeR ?_
 refine VCalls.shift (cargs:=[sl 70 (u.map Un.enc)]) (by simp -implicitDefEqProofs only[go_sem];exact uns_pure _) (VCalls.toE (E:=env) (E':=env.alive) rfl rfl rfl (fun _=>Iff.rfl) (fun _ _ h=>h) (Tnew u hu hb)) (by simp -implicitDefEqProofs only[go_sem]) ?_
 rintro v h0 a0 ⟨rfl,rfl,rfl⟩
 refine⟨by simp[VObj.whole],?_⟩
 have hts:shLL h.length a.length ((tabsU u).map encTab)=(tabsU u).map encTab:=shLL_pure _ _ _ (tabs_pure _)
 have has:∀ l:List Us,shLL h.length a.length (l.map atE)=l.map atE:=fun l=>shLL_pure _ _ _ (ats_pure _)
 have hus:V.sh h.length a.length (sl 70 (u.map Un.enc))=sl 70 (u.map Un.enc):=V.sh_pure _ _ _ (by simp -implicitDefEqProofs only[go_sem];exact uns_pure _)
 refine⟨h.length+4,shL h.length a.length (ckV u (tabsU u) (unbL (usesU u))),by simp[V.sh],by simp[VObj.sh];rfl,?_,?_⟩
 ·simp only[ckV,shL,V.sh,hts,has,hus]
  simp -implicitDefEqProofs only[go_sem]
 ·have:=hK [u.length,(unbL (usesU u)).length]
  have e1:V.fptr (List.map share1 (shL h.length a.length (ckV u (tabsU u) (unbL (usesU u))))) = .fptr (ckF u (tabsU u) (unbL (usesU u)) h.length):=by
   simp only[ckV,ckF,shL,V.sh,hts,has,hus]
   simp -implicitDefEqProofs only[go_sem]
  have hD:∀ D:List ((Int×Int)×(Int×Int)),(encD D).map (fun p=>(V.sh h.length a.length p.1,V.sh h.length a.length p.2))=encD D:=by
   intro D
   induction D with
   | nil=>rfl
   | cons x r ih => 
    show(_,_)::List.map _ (encD r)=_
    rw[ih];rfl
  have e2:(h++List.map (VObj.sh h.length a.length) [VObj.map (encD (dmapL (usesL (globL (declsU u 0)) (tabsU u) 0))),VObj.map [],VObj.map [],VObj.map [],VObj.cells (ckV u (tabsU u) (unbL (usesL (globL (declsU u 0)) (tabsU u) 0)))]).set (h.length+4) VObj.dead=h++ck4 (dclU u) [] [] [] [.dead]:=by
   rw[List.set_append_right _ _ (by omega),Nat.add_sub_cancel_left]
   simp only[ck4,VObj.sh,List.map_cons,List.map_nil,hD]
   rfl
  rw[e1,e2]
  exact this
def bad1:List Un→Nat→Option Nat
 | [],_=>none
 | x::r,i=>if soundB x=true then bad1 r (i+1)else some i
theorem bad1_none:∀ (l:List Un) (i:Nat),bad1 l i=none→∀ x∈l,soundB x=true
 | [],_,_=>by simp
 | x::r,i,h=>by
  unfold bad1 at h
  split at h
  ·rename_i hs
   intro y hy
   rcases List.mem_cons.1 hy with rfl | hy
   ·exact hs
   ·exact bad1_none r (i+1) h y hy
  ·cases h
def nmS(l:List Rw)(i:Nat):Bool:=decide ((rwAt l i).kind=7) && (decide ((rwAt l i).text=tI) || decide ((rwAt l i).text=tB))
def tbO(u:List Un)(un:Nat):List Rw:=(tabsU u).getD un []
def nmP(u:List Un)(un i:Nat):Bool:=nmS (tbO u un) i
def wrP(u:List Un)(un i:Nat):Bool:=wrS u un (tbO u un) i
def miP(u:List Un)(un i:Nat):Bool:=misS u un (tbO u un) i
def chk3(u:List Un):Int×Int×Int:=match firstTb (wrP u) (tabsU u) 0 with
 | some p=>(8,p.1,p.2)
 | none=>match firstTb (miP u) (tabsU u) 0 with
  | some p=>(7,p.1,p.2)
  | none=>(0,0,0)
def chk2(u:List Un):Int×Int×Int:=match(dblL (tabsU u) (declsU u 0)).2 with
 | d::_=>(6,d.unit,d.node)
 | []=>match unbL (usesU u)with
  | x::_=>(9,x.un,x.nd)
  | []=>chk3 u
def chk1(u:List Un):Int×Int×Int:=if ¬ (clsChk u (declsU u 0)).1=0 then clsChk u (declsU u 0)else match firstTb (nmP u) (tabsU u) 0 with
 | some p=>(4,p.1,p.2)
 | none=>chk2 u
def chkU(u:List Un):Int×Int×Int:=match bad1 u 0 with
 | some i=>(17,i,0)
 | none=>chk1 u
theorem encFst_none:encFst none = .tuple [.agg [.int .i64 0,.int .i64 0],.bool false]:=rfl
theorem encFst_some(p:Nat×Nat):encFst (some p) = .tuple [.agg [.int .i64 p.1,.int .i64 p.2],.bool true]:=rfl
theorem tbO_at{u:List Un}{un:Nat}{l:List Rw}(h:(tabsU u)[un]? = some l):tbO u un=l:=by simp[tbO,List.getD_eq_getElem?_getD,h]
theorem Tnamed(u:List Un)(ub:List Us)(pre:List VObj)(z0:List VObj):TestOK u pre (.dead :: .cells [.fptr (ckF u (tabsU u) ub pre.length)]::z0) (.func 90 [.ptr (pre.length+5) 0]) (nmP u):=by
 intro un i l hl hi kn sg ab z' a K hm hK
 rw[nmP,tbO_at hl]at hK
 refine⟨by kernel_rfl,?_⟩
 refine VCalls.tidyCk ?_
 refine vcalls_vc (fn:=Tryz.f90) Tryz.func90 rfl (by rw[Tryz.ntmps90];simp) ?_
 simp -implicitDefEqProofs only[go_sem,Tryz.f90,ck4,ap_get,ap_get0,ap_set,ap_set0,List.getElem?_cons_succ,List.set_cons_succ,List.cons_append]
 refine VPureJ.callsS (Jrow u (tabsU u) ub pre.length hl hi) (by simp -implicitDefEqProofs only[go_sem]) ?_
 have hfin:∀ b,nmS l i=b→K (.bool b) (pre++ck4 (dclU u) kn sg ab (VObj.dead :: .cells [.fptr (ckF u (tabsU u) ub pre.length)]::(z0++z'))) a:=fun b h=>h ▸ hK _ _ _ hm
 simp -implicitDefEqProofs only[go_sem,ap_get,ap_get0,ap_set,ap_set0,List.getElem?_cons_succ,List.set_cons_succ,List.cons_append]
 refine⟨fun h7=>⟨fun h1=>?_,fun h1=>?_⟩,fun h7=>?_⟩
 ·exact⟨kn,sg,ab,_,[],rfl,by simp,hfin _ (by simp only[nmS,h7,tI,tB,h1,decide_true,decide_false,Bool.true_and,Bool.false_or];congr)⟩
 ·exact⟨kn,sg,ab,_,[],rfl,by simp,hfin _ (by simp[nmS,h7,tI,tB,h1])⟩
 ·exact⟨kn,sg,ab,_,[],rfl,by simp,hfin _ (by simp[nmS,h7])⟩
theorem Twrg{u:List Un}(hT:CkT u)(ub:List Us)(pre z:List VObj):TestOK u pre z (.meth 94 [.fptr (ckF u (tabsU u) ub pre.length)]) (wrP u):=by
 intro un i l hl hi kn sg ab z' a K hm hK
 rw[wrP,tbO_at hl]at hK
 exact⟨by kernel_rfl,Twrong hT ub pre hl hi kn sg ab _ a K hm hK⟩
theorem Tmis{u:List Un}(hT:CkT u)(ub:List Us)(pre z:List VObj):TestOK u pre z (.meth 95 [.fptr (ckF u (tabsU u) ub pre.length)]) (miP u):=by
 intro un i l hl hi kn sg ab z' a K hm hK
 rw[miP,tbO_at hl]at hK
 exact⟨by kernel_rfl,Tmisplaced hT ub pre hl hi kn sg ab _ a K hm hK⟩
theorem Tcheck(u:List Un)(hu:fitU u)(hgp:gapsU u)(h:List VObj)(a:List Nat)(K:Cont)
  (hbad:¬ (chkU u).1=0→∀ z y,K (.tuple [.nilp,.int .i64 (chkU u).1,.agg [.int .i64 (chkU u).2.1,.int .i64 (chkU u).2.2]]) (h++z) (a++y))
  (hok:(chkU u)=(0,0,0)→SndU u→∀ z0 kn sg ab z y,Mems u kn sg ab→K (.tuple [.fptr (ckF u (tabsU u) [] (h++z0).length),.int .i64 0,.agg [.int .i64 0,.int .i64 0]]) ((h++z0)++ck4 (dclU u) kn sg ab z) (a++y)) :
  VCalls env 58 [sl 70 (u.map Un.enc)] h a K:=by
 have hul:=hu.1
 refine vcalls_vc (fn:=Tryz.f58) Tryz.func58 rfl (by rw[Tryz.ntmps58];simp) ?_
 simp -implicitDefEqProofs only[go_sem,Tryz.f58]
 intro _ _
 refine snd_list (β:=List VObj) u (fun q zz=>⟨[(20,.int .i64 q.length),(19,.int .i64 u.length),(18,sl 70 (u.map Un.enc)),(4,.ptr h.length 0),(3,.int .i64 0),(2,.nilp),(0,sl 70 (u.map Un.enc))],h ++ .cells [.int .i64 0,.int .i64 0]::zz,a⟩)
  (fun q r _=>bad1 r q.length=bad1 u 0) [] ?_ rfl ?_ ?_
 ·simp -implicitDefEqProofs only[go_sem]
  rfl
 ·intro zz he
  have he':bad1 u 0=none:=by rw[←he];rfl
  have hsnd:=bad1_none u 0 he'
  have hS:SndU u:=⟨hu,hsnd⟩
  have hT:=hS.ckT
  have hc1:chkU u=chk1 u:=by unfold chkU;rw[he']
  rw[hc1]at hbad hok
  simp -implicitDefEqProofs only[go_sem,ap_get,ap_get0,ap_set,ap_set0,List.getElem?_cons_succ,List.set_cons_succ,List.cons_append]
  refine(Ccheck u hu).calls (by simp -implicitDefEqProofs only[go_sem]) ?_
  unfold chk1 at hbad hok
  generalize clsChk u (declsU u 0)=cc at hbad hok ⊢
  obtain⟨c1,c2,c3⟩:=cc
  simp -implicitDefEqProofs only[go_sem,encE,ap_get,ap_get0,ap_set,ap_set0,List.getElem?_cons_succ,List.set_cons_succ,List.cons_append]
  refine⟨fun hc0=>?_,fun hc0=>?_⟩
  ·have hc0':¬ c1=0:=by simpa using hc0
   simp only[hc0',not_false_eq_true,if_true]at hbad
   refine snd_draw (cs:=[]) mixed (by kernel_rfl) ?_
   simp -implicitDefEqProofs only[go_sem,ap_get,ap_get0,ap_set,ap_set0,List.getElem?_cons_succ,List.set_cons_succ,List.cons_append]
   have:=hbad trivial (.cells [.int .i64 c2,.int .i64 c3]::(zz++[.cells [.int .i64 c2,.int .i64 c3]])) []
   rw[List.append_nil]at this
   exact this
  ·have hc0':c1=0:=by simpa using hc0
   simp only[hc0',not_true,if_false]at hbad hok
   obtain⟨PRE,hPRE⟩:∃ P,P=h ++ .cells [.int .i64 0,.int .i64 0]::(zz++[.cells [.int .i64 c2,.int .i64 c3]]):=⟨_,rfl⟩
   have hPl:PRE.length=h.length+(zz.length+1+1):=by rw[hPRE];simp
   have hP1:PRE[h.length]? = some (.cells [.int .i64 0,.int .i64 0]):=by rw[hPRE];simp
   have hPlt:h.length<PRE.length:=by omega
   have hP2:∀ x,PRE.set h.length x=h++x::(zz++[.cells [.int .i64 c2,.int .i64 c3]]):=by intro x;rw[hPRE];simp
   rw[←hPRE]
   refine TnewF u hu hT.br ?_
   intro y
   simp -implicitDefEqProofs only[go_sem,ck4,ap_get,ap_get0,ap_set,ap_set0,List.getElem?_cons_succ,List.set_cons_succ,List.cons_append]
   refine Tfirst hu _ PRE _ _ (nmP u) (Tnamed u _ PRE []) [] [] [] _ _ ⟨Memo.nil,Memo.nil,Memo.nil⟩ ?_
   intro kn1 sg1 ab1 hm1
   cases hn:firstTb (nmP u) (tabsU u) 0 with
   | some p =>
    rw[hn]at hbad
    simp -implicitDefEqProofs only[go_sem,ck4,ap_get,ap_get0,ap_set,ap_set0,List.getElem?_cons_succ,List.set_cons_succ,List.cons_append,encFst_none,encFst_some]
    refine snd_draw (cs:=[]) mixed (by kernel_rfl) ?_
    simp -implicitDefEqProofs only[go_sem,ap_get,ap_get0,ap_set,ap_set0,List.getElem?_cons_succ,List.set_cons_succ,List.cons_append,hp_get hP1,hp_set hPlt,hP2]
    exact hbad (by simp) _ _
   | none =>
    rw[hn]at hbad hok
    simp only at hbad hok
    simp -implicitDefEqProofs only[go_sem,ck4,ap_get,ap_get0,ap_set,ap_set0,List.getElem?_cons_succ,List.set_cons_succ,List.cons_append,encFst_none,encFst_some]
    refine(SDoubles u hu).calls (by simp -implicitDefEqProofs only[go_sem]) ?_
    unfold chk2 at hbad hok
    cases hdb:(dblL (tabsU u) (declsU u 0)).2 with
    | cons d r =>
     rw[hdb]at hbad
     simp only at hbad
     simp -implicitDefEqProofs only[go_sem,ap_get,ap_get0,ap_set,ap_set0,List.getElem?_cons_succ,List.set_cons_succ,List.cons_append]
     intro _ _
     refine⟨fun _=>?_,fun h=>absurd (by omega) h⟩
     refine snd_draw (cs:=[]) mixed (by kernel_rfl) ?_
     simp -implicitDefEqProofs only[go_sem,ap_get,ap_get0,ap_set,ap_set0,List.getElem?_cons_succ,List.set_cons_succ,List.cons_append,hp_get hP1,hp_set hPlt,hP2,refE]
     refine⟨by omega,?_⟩
     exact hbad (by simp) _ _
    | nil =>
     rw[hdb]at hbad hok
     simp only at hbad hok
     simp -implicitDefEqProofs only[go_sem,ap_get,ap_get0,ap_set,ap_set0,List.getElem?_cons_succ,List.set_cons_succ,List.cons_append]
     refine⟨fun h=>absurd h (by simp),fun _=>?_⟩
     cases hub:unbL (usesU u)with
     | cons x r =>
      rw[hub]at hbad
      simp only at hbad
      simp -implicitDefEqProofs only[go_sem,ap_get,ap_get0,ap_set,ap_set0,List.getElem?_cons_succ,List.set_cons_succ,List.cons_append,ckF_d3]
      intro _ _
      refine⟨fun _=>?_,fun h=>absurd (by omega) h⟩
      refine snd_draw (cs:=[]) mixed (by kernel_rfl) ?_
      simp -implicitDefEqProofs only[go_sem,ap_get,ap_get0,ap_set,ap_set0,List.getElem?_cons_succ,List.set_cons_succ,List.cons_append,hp_get hP1,hp_set hPlt,hP2,atE,ckF_d3]
      exact⟨by omega,hbad (by simp) _ _⟩
     | nil =>
      rw[hub]at hbad hok
      simp only at hbad hok
      simp -implicitDefEqProofs only[go_sem,ap_get,ap_get0,ap_set,ap_set0,List.getElem?_cons_succ,List.set_cons_succ,List.cons_append,ckF_d3]
      refine⟨fun h=>absurd h (by simp),fun _=>?_⟩
      unfold chk3 at hbad hok
      refine Tfirst hu [] PRE [.dead,.cells [.fptr (ckF u (tabsU u) [] PRE.length)],.cells [.int .i64 0,.int .i64 0]] _ (wrP u) (Twrg hT [] PRE _) kn1 sg1 ab1 _ _ hm1 ?_
      intro kn2 sg2 ab2 hm2
      cases hw:firstTb (wrP u) (tabsU u) 0 with
      | some p =>
       rw[hw]at hbad
       simp -implicitDefEqProofs only[go_sem,ck4,ap_get,ap_get0,ap_set,ap_set0,List.getElem?_cons_succ,List.set_cons_succ,List.cons_append,encFst_none,encFst_some]
       refine snd_draw (cs:=[]) mixed (by kernel_rfl) ?_
       simp -implicitDefEqProofs only[go_sem,ap_get,ap_get0,ap_set,ap_set0,List.getElem?_cons_succ,List.set_cons_succ,List.cons_append,hp_get hP1,hp_set hPlt,hP2]
       exact hbad (by simp) _ _
      | none =>
       rw[hw]at hbad hok
       simp only at hbad hok
       simp -implicitDefEqProofs only[go_sem,ck4,ap_get,ap_get0,ap_set,ap_set0,List.getElem?_cons_succ,List.set_cons_succ,List.cons_append,encFst_none,encFst_some]
       refine Tfirst hu [] PRE [.dead,.cells [.fptr (ckF u (tabsU u) [] PRE.length)],.cells [.int .i64 0,.int .i64 0],.cells [.int .i64 0,.int .i64 0]] _ (miP u) (Tmis hT [] PRE _) kn2 sg2 ab2 _ _ hm2 ?_
       intro kn3 sg3 ab3 hm3
       cases hmi:firstTb (miP u) (tabsU u) 0 with
       | some p =>
        rw[hmi]at hbad
        simp -implicitDefEqProofs only[go_sem,ck4,ap_get,ap_get0,ap_set,ap_set0,List.getElem?_cons_succ,List.set_cons_succ,List.cons_append,encFst_none,encFst_some]
        refine snd_draw (cs:=[]) mixed (by kernel_rfl) ?_
        simp -implicitDefEqProofs only[go_sem,ap_get,ap_get0,ap_set,ap_set0,List.getElem?_cons_succ,List.set_cons_succ,List.cons_append,hp_get hP1,hp_set hPlt,hP2]
        exact hbad (by simp) _ _
       | none =>
        rw[hmi]at hbad hok
        simp only at hbad hok
        simp -implicitDefEqProofs only[go_sem,ck4,ap_get,ap_get0,ap_set,ap_set0,List.getElem?_cons_succ,List.set_cons_succ,List.cons_append,encFst_none,encFst_some,hp_get hP1,hp_set hPlt,hP2]
        have hz:=hok trivial hS (.cells [.int .i64 0,.int .i64 0]::(zz++[.cells [.int .i64 c2,.int .i64 c3]])) kn3 sg3 ab3 [.dead,.cells [.fptr (ckF u (tabsU u) [] PRE.length)],.cells [.int .i64 0,.int .i64 0],.cells [.int .i64 0,.int .i64 0],.cells [.int .i64 0,.int .i64 0]] y hm3
        rw[←hPRE]at hz
        rw[hPRE]at hz ⊢
        simp only[ck4,List.append_assoc,List.cons_append,List.nil_append]at hz
        exact hz
 ·rintro q x r zz hx he
  have hpl:u.length=q.length+1+r.length:=by rw[hx];simp;omega
  have hgx:(u.map Un.enc).getD (q.length:Int).toNat []=x.enc:=by rw[hx];simp[List.getD_eq_getElem?_getD]
  have hlt:((q.length:Int)<u.length)=True:=by simp;omega
  have hw:IntKind.i64.wrap (↑q.length+1)=↑(q.length+1):=wrap_next (by omega)
  rw[bad1]at he
  simp -implicitDefEqProofs only[go_sem,hgx,hlt,ap_get,ap_get0,ap_set,ap_set0,List.getElem?_cons_succ,List.set_cons_succ,List.cons_append]
  refine(Tsound x (hgp x (by rw[hx];simp))).calls (by simp -implicitDefEqProofs only[go_sem]) ?_
  simp -implicitDefEqProofs only[go_sem,ap_get,ap_get0,ap_set,ap_set0,List.getElem?_cons_succ,List.set_cons_succ,List.cons_append]
  cases hs:soundB x with
  | false =>
   rw[hs,if_neg (by simp)]at he
   refine⟨fun _=>?_,fun h=>(by cases h)⟩
   have hcu:chkU u=(17,((q.length:Nat):Int),0):=by unfold chkU;rw[←he]
   rw[hcu]at hbad
   have:=hbad (by simp) (.cells [.int .i64 q.length,.int .i64 0]::(zz++[.cells x.enc])) []
   rw[List.append_nil]at this
   exact this
  | true =>
   rw[hs,if_pos rfl]at he
   exact⟨fun h=>(by cases h),fun _=>⟨zz++[.cells x.enc],he,hw,tellH_refl,.inl (by simp)⟩⟩
end Go.Proofs.YtighfcpaplmaiaaGreatDoor
set_option maxRecDepth 20000
namespace Go.Proofs.YtighfcpaplmaiaaGreatDoor
open Go Go.Vg Go.Proofs
theorem TlocateW:(n:Nd)→(nodes n).length≤1000000→∀ (i:Nat),i≤9223372036854775807→VPure env 67 [.agg n.enc,.int .i64 i]
  (match(nodes n)[i]? with | some x => .tuple [.agg x.enc,.int .i64 0,.bool true] | none => .tuple [.agg Nd.zero.enc,.int .i64 (nodes n).length,.bool false]):=by
 refine Nd.all fun k t g ks ih hn i hi=>?_
 refine vpure_vc (fn:=Tryz.f67) Tryz.func67 rfl (by rw[Tryz.ntmps67];simp) (by simp -implicitDefEqProofs only[go_sem]) (by split <;> simp -implicitDefEqProofs only[go_sem]) ?_
 simp -implicitDefEqProofs only[go_sem,Tryz.f67]
 have hz:Nd.zero.enc=[.int .i64 0,.str ⟨#[]⟩,.slice .shared 0 [],.slice .shared 0 []]:=rfl
 rw[nodes_mk]at hn
 refine⟨fun h0=>?_,fun h0 hb hl=>?_⟩
 ·have:i=0:=by omega
  subst this
  simp[nodes,enc_mk]
 refine snd_list (β:=Unit) ks (fun pre _=>⟨[(19,.int .i64 pre.length),(18,.int .i64 ks.length),(17,sl 66 (ks.map Nd.enc)),(7,.int .i64 ((nodesL pre).length+1:Nat)),(6,.bool false),(5,.int .i64 0),(4,.ptr 1 0),(1,.int .i64 i)],
   [.dead,.cells [.int .i64 0,.str ⟨#[]⟩,.slice .nil 0 [],.slice .nil 0 []]],[]⟩) (fun pre _ _=>(nodesL pre).length<i) () ?_ ?_ ?_ ?_
 ·simp -implicitDefEqProofs only[go_sem]
  exact⟨rfl,rfl⟩
 ·show 0<i
  omega
 ·intro _ hlt
  simp -implicitDefEqProofs only[go_sem]
  have:(nodes (.mk k t g ks))[i]? = none:=by
   rw[List.getElem?_eq_none];rw[nodes_mk];omega
  rw[this,nodes_mk,hz]
 ·rintro pre x post _ rfl hlt
  have hp:=mid_len hl
  have hsz:(nodesL (pre++x::post)).length=(nodesL pre).length+(nodes x).length+(nodesL post).length:=by
   rw[nodesL_app,nodesL];simp;omega
  simp -implicitDefEqProofs only[go_sem]
  have ew:IntKind.i64.wrap (↑i - ↑((nodesL pre).length+1))=((i - ((nodesL pre).length+1):Nat):Int):=by
   rw[wrap_ok (by omega) (by omega)];omega
  rw[ew]
  have hih:=ih x mem_mid (by omega) (i - ((nodesL pre).length+1)) (by omega)
  cases hq:(nodes x)[i - ((nodesL pre).length+1)]? with
  | none =>
   rw[hq]at hih
   have hql:(nodes x).length≤i - ((nodesL pre).length+1):=by simpa using hq
   refine hih.calls (by simp -implicitDefEqProofs only[go_sem]) ?_
   simp -implicitDefEqProofs only[go_sem]
   have e:(nodesL (pre++[x])).length=(nodesL pre).length+(nodes x).length:=by rw[nodesL_snoc,List.length_append]
   refine⟨(),by omega,wrap_next (by omega),?_⟩
   rw[e,wrap_ok (by omega) (by omega)]
   omega
  | some y =>
   rw[hq]at hih
   have hql:=(List.getElem?_eq_some_iff.1 hq).1
   refine hih.calls (by simp -implicitDefEqProofs only[go_sem]) ?_
   simp -implicitDefEqProofs only[go_sem]
   have:(nodes (.mk k t g (pre++x::post)))[i]? = some y:=by
    rw[nodes,nodesL_app,nodesL]
    obtain⟨m,rfl⟩:∃ m,i=m+1:=⟨i - 1,by omega⟩
    rw[List.getElem?_cons_succ,List.getElem?_append_right (by omega),List.getElem?_append_left (by omega),←hq]
    congr 1
    omega
   rw[this]
theorem TAtW(n:Nd)(hn:(nodes n).length≤1000000)(i:Int)(hi:i≤9223372036854775807):VPure env 36 [.agg n.enc,.int .i64 i]
  (.tuple [.agg (((if 0≤i then(nodes n)[i.toNat]? else none)).getD Nd.zero).enc,.bool ((if 0≤i then(nodes n)[i.toNat]? else none)).isSome]):=by
 refine vpure_vc (fn:=Tryz.f36) Tryz.func36 rfl (by rw[Tryz.ntmps36];simp) (by simp -implicitDefEqProofs only[go_sem]) (by simp -implicitDefEqProofs only[go_sem]) ?_
 simp -implicitDefEqProofs only[go_sem,Tryz.f36]
 have hz:Nd.zero.enc=[.int .i64 0,.str ⟨#[]⟩,.slice .shared 0 [],.slice .shared 0 []]:=rfl
 refine⟨fun h0=>?_,fun h0=>?_⟩
 ·rw[if_neg (by omega)]
  rfl
 ·rw[if_pos (by omega)]
  have hih:=TlocateW n hn i.toNat (by omega)
  rw[show((i.toNat:Nat):Int)=i by omega]at hih
  cases hq:(nodes n)[i.toNat]? with
  | none =>
   rw[hq]at hih
   refine hih.calls (by simp -implicitDefEqProofs only[go_sem]) ?_
   simp -implicitDefEqProofs only[go_sem]
   rfl
  | some y =>
   rw[hq]at hih
   refine hih.calls (by simp -implicitDefEqProofs only[go_sem]) ?_
   simp -implicitDefEqProofs only[go_sem]
   refine(Tclone y).calls (by simp -implicitDefEqProofs only[go_sem]) ?_
   simp -implicitDefEqProofs only[go_sem]
   rfl
theorem chkU_snd{u:List Un}(hu:fitU u)(h:(chkU u).1=0):SndU u:=by
 refine⟨hu,?_⟩
 cases hb:bad1 u 0 with
 | none=>exact bad1_none u 0 hb
 | some i=>unfold chkU at h;rw[hb]at h;cases h
theorem TCheck(u:List Un)(hu:fitU u)(hgp:gapsU u):VPure env 29 [sl 70 (u.map Un.enc)] (encE (chkU u)):=by
 refine vpure_vc (fn:=Tryz.f29) Tryz.func29 rfl (by rw[Tryz.ntmps29];simp) (by simp -implicitDefEqProofs only[go_sem];exact uns_pure _) rfl ?_
 simp -implicitDefEqProofs only[go_sem,Tryz.f29]
 refine Tcheck u hu hgp _ _ _ (fun hb z y=>?_) (fun hk hS z0 kn sg ab z y hm=>?_)
 ·simp -implicitDefEqProofs only[go_sem,ap_get,ap_get0,ap_set,ap_set0,List.getElem?_cons_succ,List.set_cons_succ,List.cons_append]
  refine snd_draw (cs:=[]) mixed (by kernel_rfl) ?_
  simp -implicitDefEqProofs only[go_sem,ap_get,ap_get0,ap_set,ap_set0,List.getElem?_cons_succ,List.set_cons_succ,List.cons_append,encE]
  try rfl
 ·obtain⟨PRE,hPRE⟩:∃ P,P=[VObj.cells [V.int IntKind.i64 0,V.int IntKind.i64 0]]++z0:=⟨_,rfl⟩
  have hP1:PRE[0]? = some (.cells [.int .i64 0,.int .i64 0]):=by rw[hPRE];rfl
  have hPlt:0<PRE.length:=by rw[hPRE];simp
  rw[←hPRE,hk]
  simp -implicitDefEqProofs only[go_sem,ck4,ap_get,ap_get0,ap_set,ap_set0,List.getElem?_cons_succ,List.set_cons_succ,List.cons_append,hp_get hP1,hp_set hPlt]
  refine snd_draw (cs:=[]) mixed (by kernel_rfl) ?_
  have hP3:∀ x,PRE.set 0 x=[x]++z0:=by intro x;rw[hPRE];rfl
  simp -implicitDefEqProofs only[go_sem,ap_get,ap_get0,ap_set,ap_set0,List.getElem?_cons_succ,List.set_cons_succ,List.cons_append,hp_get hP1,hp_set hPlt,hP3,encE]
  try rfl
def tofU(u:List Un)(un nd:Int):ByteArray×Int:=if ¬ (chkU u).1=0 then(⟨#[]⟩,(chkU u).1)else if un<0∨(u.length:Int)≤un then(⟨#[]⟩,7)else
 match(if 0≤nd then(nodes ((u[un.toNat]?.map Un.tree).getD Nd.zero))[nd.toNat]? else none)with
 | some n=>if groupK n.kind=3 then(tyS u (un,nd),0)else(⟨#[]⟩,7)
 | none=>(⟨#[]⟩,7)
theorem TTypeOf(u:List Un)(hu:fitU u)(hgp:gapsU u)(un nd:Int)(hnd:nd≤9223372036854775807):VPure env 31 [sl 70 (u.map Un.enc),.agg [.int .i64 un,.int .i64 nd]] (.tuple [.str (tofU u un nd).1,.int .i64 (tofU u un nd).2]):=by
 refine vpure_vc (fn:=Tryz.f31) Tryz.func31 rfl (by rw[Tryz.ntmps31];simp) (by simp -implicitDefEqProofs only[go_sem];exact uns_pure _) rfl ?_
 simp -implicitDefEqProofs only[go_sem,Tryz.f31]
 refine Tcheck u hu hgp _ _ _ (fun hb z y=>?_) (fun hk hS z0 kn sg ab z y hm=>?_)
 ·simp -implicitDefEqProofs only[go_sem,ap_get,ap_get0,ap_set,ap_set0,List.getElem?_cons_succ,List.set_cons_succ,List.cons_append]
  refine⟨fun _=>?_,fun h=>absurd (by simpa using h) hb⟩
  rw[tofU,if_pos hb]
 ·obtain⟨PRE,hPRE⟩:∃ P,P=[VObj.cells [V.int IntKind.i64 un,V.int IntKind.i64 nd]]++z0:=⟨_,rfl⟩
  have hP1:PRE[0]? = some (.cells [.int .i64 un,.int .i64 nd]):=by rw[hPRE];rfl
  have hPlt:0<PRE.length:=by rw[hPRE];simp
  rw[←hPRE]
  have hk1:(chkU u).1=0:=by rw[hk]
  have htf:tofU u un nd=if un<0∨(u.length:Int)≤un then((⟨#[]⟩,7):ByteArray×Int)else match(if 0≤nd then(nodes ((u[un.toNat]?.map Un.tree).getD Nd.zero))[nd.toNat]? else none)with | some n=>if groupK n.kind=3 then(tyS u (un,nd),0)else(⟨#[]⟩,7) | none=>(⟨#[]⟩,7):=by
   rw[tofU,if_neg (by simp[hk1])]
  simp -implicitDefEqProofs only[go_sem,ck4,ap_get,ap_get0,ap_set,ap_set0,List.getElem?_cons_succ,List.set_cons_succ,List.cons_append,hp_get hP1,hp_set hPlt]
  refine⟨fun h0 _ _=>⟨fun h1=>?_,fun h1=>?_⟩,fun h0=>?_⟩
  ·rw[htf,if_pos (.inr h1)]
  ·obtain⟨n,rfl⟩:∃ n:Nat,un=n:=⟨un.toNat,by omega⟩
   have hn:n<u.length:=by omega
   have hun:u[n]? = some u[n]:=List.getElem?_eq_getElem hn
   generalize u[n]=x at hun
   have hx:=hu.2 x (List.mem_of_getElem? hun)
   have hgx:(u.map Un.enc).getD ((n:Nat):Int).toNat []=x.enc:=by simp[List.getD_eq_getElem?_getD,hun]
   rw[if_neg (by omega),Int.toNat_natCast,hun]at htf
   simp only[Option.map_some,Option.getD_some]at htf
   have hlt:((n:Int)<u.length)=True:=by simp;omega
   refine snd_draw (cs:=[]) mixed (by kernel_rfl) ?_
   simp -implicitDefEqProofs only[go_sem,ap_get,ap_get0,ap_set,ap_set0,List.getElem?_cons_succ,List.set_cons_succ,List.cons_append,hp_get hP1,hp_set hPlt,hgx,hlt]
   refine vPC_of (TAtW x.tree (by omega) nd hnd) (by simp -implicitDefEqProofs only[go_sem]) ?_
   cases ho:(if 0≤nd then(nodes x.tree)[nd.toNat]? else none)with
   | none =>
    rw[ho]at htf
    simp -implicitDefEqProofs only[go_sem,ap_get,ap_get0,ap_set,ap_set0,List.getElem?_cons_succ,List.set_cons_succ,List.cons_append,hp_get hP1,hp_set hPlt,Option.isSome_none]
    rw[htf]
   | some m =>
    rw[ho]at htf
    simp only at htf
    obtain⟨mk,mt,mg,mks⟩:=m
    simp -implicitDefEqProofs only[go_sem,ap_get,ap_get0,ap_set,ap_set0,List.getElem?_cons_succ,List.set_cons_succ,List.cons_append,hp_get hP1,hp_set hPlt,Option.isSome_some,Option.getD_some]
    refine(GGroup mk).calls (by simp -implicitDefEqProofs only[go_sem]) ?_
    simp -implicitDefEqProofs only[go_sem,ap_get,ap_get0,ap_set,ap_set0,List.getElem?_cons_succ,List.set_cons_succ,List.cons_append,hp_get hP1,hp_set hPlt]
    have hkd:(Nd.mk mk mt mg mks).kind=mk:=rfl
    rw[hkd]at htf
    refine⟨fun h3=>?_,fun h3=>?_⟩
    ·rw[htf,if_neg (by simpa using h3)]
    ·have h3':groupK mk=3:=by simpa using h3
     rw[if_pos h3']at htf
     have h0d:0≤nd:=by
      rcases Int.lt_or_le nd 0 with h | h
      ·rw[if_neg (by omega)]at ho;cases ho
      ·exact h
     rw[if_pos h0d]at ho
     obtain⟨m,rfl⟩:∃ m:Nat,nd=m:=⟨nd.toNat,by omega⟩
     have hml:=(List.getElem?_eq_some_iff.1 ho).1
     have htb:=unit_tab hS.br hun
     have hlen:(rowsN x.tree (-1) 0).length=(nodes x.tree).length:=rowsN_len ..
     refine Tof hS.ckT [] PRE (k:=((n:Int),(m:Int))) ⟨n,m,_,rfl,htb,by simp at hml;omega⟩ kn sg ab _ _ _ hm ?_
     intro kn1 sg1 ab1 hm1
     simp -implicitDefEqProofs only[go_sem,ck4,ap_get,ap_get0,ap_set,ap_set0,List.getElem?_cons_succ,List.set_cons_succ,List.cons_append]
     rw[htf]
  ·rw[htf,if_pos (.inl h0)]
end Go.Proofs.YtighfcpaplmaiaaGreatDoor
set_option maxRecDepth 20000
namespace Go.Vg
theorem accV.heap{e n0 m0:Nat}{z:List VObj}{y:List Nat}{v:V}{l:List (List V)}(h:accV e n0 m0 z y v l)(z2:List VObj):accV e n0 m0 (z++z2) y v l:=by
 have:=h.app z2 []
 rwa [List.append_nil]at this
theorem tellA_cut0:∀ {a:List Nat},tellA a a
 | []=>trivial
 | _::_=>⟨rfl,tellA_cut0⟩
end Go.Vg
namespace Go.Proofs.YtighfcpaplmaiaaGreatDoor
open Go Go.Vg Go.Proofs
def callN(d:Dl):Option ByteArray:=if d.kind=1 then some d.name else if d.kind=4 then some (d.owner++⟨#[46]⟩++d.name)else none
def calN(u:List Un):List ByteArray:=(declsU u 0).filterMap callN
def calS(u:List Un):List ByteArray:=sortS (calN u)
theorem bytes_str:(envV 28).P.bytesOf 9=16:=by
 rw[show(envV 28).P=Tryz.prog from rfl];kernel_rfl
theorem Kcallables(u:List Un)(hu:fitU u):VPure env 49 [sl 70 (u.map Un.enc)] (sl 9 ((calS u).map encTx)):=by
 have hsd:=shortD_of hu
 have hdl:=declsU_len u 0 fun y hy=>(hu.2 y hy).1
 have hul:=hu.1
 refine vpure_acc (E:=env) (by simp -implicitDefEqProofs only[go_sem];exact uns_pure _) (strs_pure _) elem_str (fun el h=>enc_len el h) ?_
 refine VCalls.ofV (tv:=28) ?_
 refine vcalls_vc (fn:=Tryz.f49) Tryz.func49 rfl (by rw[Tryz.ntmps49];simp) ?_
 simp -implicitDefEqProofs only[go_sem,Tryz.f49]
 have hPD:=PDecls u hu
 rw[declsPU_eq]at hPD
 refine VCalls.toV (hPD.calls (by simp -implicitDefEqProofs only[go_sem]) ?_)
 generalize hdd:declsU u 0=dl at hdl
 have hcs:calS u=sortS (dl.filterMap callN):=by unfold calS calN;rw[hdd]
 have hsd':∀ d∈dl,d.owner.size≤3000000∧d.name.size≤1000000:=fun d hd=>hsd d (hdd ▸ hd)
 rw[hcs]
 simp -implicitDefEqProofs only[go_sem]
 intro _ _
 refine snd_list (β:=V×List VObj×List Nat) dl (fun pre b=>⟨[(9,.int .i64 pre.length),(8,.int .i64 dl.length),(7,sl 54 (dl.map Dl.enc)),(3,b.1),(2,.slice .nil 0 [])],b.2.1,b.2.2⟩)
  (fun pre post b=>accV 9 0 0 b.2.1 b.2.2 b.1 ((pre.filterMap callN).map encTx)) (.slice .nil 0 [],[],[]) ?_ accV.nil ?_ ?_
 ·simp -implicitDefEqProofs only[go_sem]
  rfl
 ·rintro⟨v,z,y⟩ hacc
  simp only at hacc ⊢
  simp -implicitDefEqProofs only[go_sem]
  refine SortStr (h0:=[]) (a0:=[]) hacc fun z' hacc' _ _=>?_
  simp -implicitDefEqProofs only[go_sem]
  exact hacc'
 ·rintro pre d post ⟨v,z,y⟩ hx hacc
  have hpl:dl.length=pre.length+1+post.length:=by rw[hx];simp;omega
  have hgx:(dl.map Dl.enc).getD (pre.length:Int).toNat []=d.enc:=by rw[hx];simp[List.getD_eq_getElem?_getD]
  have hlt:((pre.length:Int)<dl.length)=True:=by simp;omega
  have hw:IntKind.i64.wrap (↑pre.length+1)=↑(pre.length+1):=wrap_next (by omega)
  obtain⟨hso,hsn⟩:=hsd' d (by rw[hx];simp)
  simp only at hacc ⊢
  have hfm:((pre++[d]).filterMap callN).map encTx=(pre.filterMap callN).map encTx++((callN d).toList.map encTx):=by
   rw[List.filterMap_append,List.map_append]
   cases hc:callN d <;> simp[hc]
  have hfl:(pre.filterMap callN).length≤pre.length:=List.length_filterMap_le _ _
  simp -implicitDefEqProofs only[go_sem,hgx,hlt,hacc.asl]
  have hb1:(((pre.filterMap callN).map encTx).length+1) * (envV 28).P.bytesOf 9≤140737488355328:=by rw[bytes_str,List.length_map];omega
  refine⟨fun h1=>?_,fun h1=>⟨fun h4=>⟨(show d.owner.size+1≤1152921504606846976 by omega),(show d.owner.size+1+d.name.size≤1152921504606846976 by omega),?_⟩,fun h4=>?_⟩⟩
  ·have hc:callN d=some d.name:=by rw[callN,if_pos h1]
   rw[hc]at hfm
   refine append_acc (h0:=[]) (a0:=[]) (hacc.heap _) enc_len elem_str hb1 fun v' z' y' hacc' hz1 hz2 hy1=>?_
   simp -implicitDefEqProofs only[go_sem]
   rw[hfm]
   exact⟨(v',z',y'),hacc',⟨hw,tell_rfl⟩,tellH_refl,tellA_cut0,.inl ⟨Nat.le_refl _,Nat.le_refl _⟩⟩
  ·have hc:callN d=some (d.owner++⟨#[46]⟩++d.name):=by rw[callN,if_neg h1,if_pos h4]
   rw[hc]at hfm
   refine append_acc (h0:=[]) (a0:=[]) (hacc.heap _) enc_len elem_str hb1 fun v' z' y' hacc' hz1 hz2 hy1=>?_
   simp -implicitDefEqProofs only[go_sem]
   rw[hfm]
   exact⟨(v',z',y'),hacc',⟨hw,tell_rfl⟩,tellH_refl,tellA_cut0,.inl ⟨Nat.le_refl _,Nat.le_refl _⟩⟩
  ·have hc:callN d=none:=by rw[callN,if_neg h1,if_neg h4]
   rw[hc]at hfm
   rw[hfm]
   exact⟨(v,z++[.cells d.enc],y),by simpa using hacc.heap [.cells d.enc],⟨hw,tell_rfl⟩,tellH_refl,tellA_cut0,.inl ⟨by simp,Nat.le_refl _⟩⟩
end Go.Proofs.YtighfcpaplmaiaaGreatDoor
