/- The check of types. -/
import Derived.Test.YtamednbojpnalaaGreatDoorUdD
import Derived.Test.YtamednbojpnalaaGreatDoorUbB
set_option linter.unusedVariables false
set_option linter.unusedSimpArgs false
set_option maxRecDepth 20000
namespace Go.Proofs.YtamednbojpnalaaGreatDoor
open Go Go.Vg Go.Proofs
def usesU(u:List Un):List Us:=usesL (globL (declsU u 0)) (tabsU u) 0
theorem TnewF(u:List Un)(hu:fitU u)(hb:∀ x∈u,x.broken=false){h:List VObj}{a:List Nat}{K:Cont}
  (hK:∀ y,K (.fptr (ckF u (tabsU u) (unbL (usesU u)) h.length)) (h++ck4 (dclU u) [] [] [] [.dead]) (a++y)):VCalls env 75 [sl 34 (u.map Un.enc)] h a K:=by
 refine VCalls.freezeR ?_
 refine VCalls.shift (cargs:=[sl 34 (u.map Un.enc)]) (by simp -implicitDefEqProofs only[go_sem];exact uns_pure _) (VCalls.toE (E:=env) (E':=env.alive) rfl rfl rfl (fun _=>Iff.rfl) (fun _ _ h=>h) (Tnew u hu hb)) (by simp -implicitDefEqProofs only[go_sem]) ?_
 rintro v h0 a0 ⟨rfl,rfl,rfl⟩
 refine⟨by simp[VObj.whole],?_⟩
 have hts:shLL h.length a.length ((tabsU u).map encTab)=(tabsU u).map encTab:=shLL_pure _ _ _ (tabs_pure _)
 have has:∀ l:List Us,shLL h.length a.length (l.map atE)=l.map atE:=fun l=>shLL_pure _ _ _ (ats_pure _)
 have hus:V.sh h.length a.length (sl 34 (u.map Un.enc))=sl 34 (u.map Un.enc):=V.sh_pure _ _ _ (by simp -implicitDefEqProofs only[go_sem];exact uns_pure _)
 refine⟨h.length+4,shL h.length a.length (ckV u (tabsU u) (unbL (usesU u))),by simp[V.sh],by simp[VObj.sh];rfl,?_,?_⟩
 ·simp only[ckV,shL,V.sh,hts,has,hus]
  simp -implicitDefEqProofs only[go_sem]
 ·have:=hK [u.length,(unbL (usesU u)).length]
  have e1:V.fptr (List.map share1 (shL h.length a.length (ckV u (tabsU u) (unbL (usesU u))))) = .fptr (ckF u (tabsU u) (unbL (usesU u)) h.length):=by
   simp only[ckV,ckF,shL,V.sh,hts,has,hus]
   simp -implicitDefEqProofs only[go_sem]
  have hD:∀ D:List ((Int×Int)×(Int×Int)),(encD D).map (fun p=>(V.sh h.length a.length p.1,V.sh h.length a.length p.2))=encD D:=by
   intro D
   induction D with
   | nil=>rfl
   | cons x r ih => 
    show(_,_)::List.map _ (encD r)=_
    rw[ih];rfl
  have e2:(h++List.map (VObj.sh h.length a.length) [VObj.map (encD (dmapL (usesL (globL (declsU u 0)) (tabsU u) 0))),VObj.map [],VObj.map [],VObj.map [],VObj.cells (ckV u (tabsU u) (unbL (usesL (globL (declsU u 0)) (tabsU u) 0)))]).set (h.length+4) VObj.dead=h++ck4 (dclU u) [] [] [] [.dead]:=by
   rw[List.set_append_right _ _ (by omega),Nat.add_sub_cancel_left]
   simp only[ck4,VObj.sh,List.map_cons,List.map_nil,hD]
   rfl
  rw[e1,e2]
  exact this
def bad1:List Un→Nat→Option Nat
 | [],_=>none
 | x::r,i=>if soundB x=true then bad1 r (i+1)else some i
theorem bad1_none:∀ (l:List Un) (i:Nat),bad1 l i=none→∀ x∈l,soundB x=true
 | [],_,_=>by simp
 | x::r,i,h=>by
  unfold bad1 at h
  split at h
  ·rename_i hs
   intro y hy
   rcases List.mem_cons.1 hy with rfl | hy
   ·exact hs
   ·exact bad1_none r (i+1) h y hy
  ·cases h
def nmS(l:List Rw)(i:Nat):Bool:=decide ((rwAt l i).kind=7) && (decide ((rwAt l i).text=tI) || decide ((rwAt l i).text=tB))
def tbO(u:List Un)(un:Nat):List Rw:=(tabsU u).getD un []
def nmP(u:List Un)(un i:Nat):Bool:=nmS (tbO u un) i
def wrP(u:List Un)(un i:Nat):Bool:=wrS u un (tbO u un) i
def miP(u:List Un)(un i:Nat):Bool:=misS u un (tbO u un) i
def chk3(u:List Un):Int×Int×Int:=match firstTb (wrP u) (tabsU u) 0 with
 | some p=>(8,p.1,p.2)
 | none=>match firstTb (miP u) (tabsU u) 0 with
  | some p=>(7,p.1,p.2)
  | none=>(0,0,0)
def chk2(u:List Un):Int×Int×Int:=match(dblL (tabsU u) (declsU u 0)).2 with
 | d::_=>(6,d.unit,d.node)
 | []=>match unbL (usesU u)with
  | x::_=>(9,x.un,x.nd)
  | []=>chk3 u
def chk1(u:List Un):Int×Int×Int:=if ¬ (clsChk u (declsU u 0)).1=0 then clsChk u (declsU u 0)else match firstTb (nmP u) (tabsU u) 0 with
 | some p=>(4,p.1,p.2)
 | none=>chk2 u
def chkU(u:List Un):Int×Int×Int:=match bad1 u 0 with
 | some i=>(17,i,0)
 | none=>chk1 u
theorem encFst_none:encFst none = .tuple [.agg [.int .i64 0,.int .i64 0],.bool false]:=rfl
theorem encFst_some(p:Nat×Nat):encFst (some p) = .tuple [.agg [.int .i64 p.1,.int .i64 p.2],.bool true]:=rfl
theorem tbO_at{u:List Un}{un:Nat}{l:List Rw}(h:(tabsU u)[un]? = some l):tbO u un=l:=by simp[tbO,List.getD_eq_getElem?_getD,h]
theorem Tnamed(u:List Un)(ub:List Us)(pre:List VObj)(z0:List VObj):TestOK u pre (.dead :: .cells [.fptr (ckF u (tabsU u) ub pre.length)]::z0) (.func 76 [.ptr (pre.length+5) 0]) (nmP u):=by
 intro un i l hl hi kn sg ab z' a K hm hK
 rw[nmP,tbO_at hl]at hK
 refine⟨by kernel_rfl,?_⟩
 refine VCalls.tidyCk ?_
 refine vcalls_vc (fn:=Tryz.f76) Tryz.func76 rfl (by rw[Tryz.ntmps76];simp) ?_
 simp -implicitDefEqProofs only[go_sem,Tryz.f76,ck4,ap_get,ap_get0,ap_set,ap_set0,List.getElem?_cons_succ,List.set_cons_succ,List.cons_append]
 refine VPureJ.callsS (Jrow u (tabsU u) ub pre.length hl hi) (by simp -implicitDefEqProofs only[go_sem]) ?_
 have hfin:∀ b,nmS l i=b→K (.bool b) (pre++ck4 (dclU u) kn sg ab (VObj.dead :: .cells [.fptr (ckF u (tabsU u) ub pre.length)]::(z0++z'))) a:=fun b h=>h ▸ hK _ _ _ hm
 simp -implicitDefEqProofs only[go_sem,ap_get,ap_get0,ap_set,ap_set0,List.getElem?_cons_succ,List.set_cons_succ,List.cons_append]
 refine⟨fun h7=>⟨fun h1=>?_,fun h1=>?_⟩,fun h7=>?_⟩
 ·exact⟨kn,sg,ab,_,[],rfl,by simp,hfin _ (by simp only[nmS,h7,tI,tB,h1,decide_true,decide_false,Bool.true_and,Bool.false_or];congr)⟩
 ·exact⟨kn,sg,ab,_,[],rfl,by simp,hfin _ (by simp[nmS,h7,tI,tB,h1])⟩
 ·exact⟨kn,sg,ab,_,[],rfl,by simp,hfin _ (by simp[nmS,h7])⟩
theorem Twrg{u:List Un}(hT:CkT u)(ub:List Us)(pre z:List VObj):TestOK u pre z (.meth 79 [.fptr (ckF u (tabsU u) ub pre.length)]) (wrP u):=by
 intro un i l hl hi kn sg ab z' a K hm hK
 rw[wrP,tbO_at hl]at hK
 exact⟨by kernel_rfl,Twrong hT ub pre hl hi kn sg ab _ a K hm hK⟩
theorem Tmis{u:List Un}(hT:CkT u)(ub:List Us)(pre z:List VObj):TestOK u pre z (.meth 80 [.fptr (ckF u (tabsU u) ub pre.length)]) (miP u):=by
 intro un i l hl hi kn sg ab z' a K hm hK
 rw[miP,tbO_at hl]at hK
 exact⟨by kernel_rfl,Tmisplaced hT ub pre hl hi kn sg ab _ a K hm hK⟩
theorem Tcheck(u:List Un)(hu:fitU u)(hgp:gapsU u)(h:List VObj)(a:List Nat)(K:Cont)
  (hbad:¬ (chkU u).1=0→∀ z y,K (.tuple [.nilp,.int .i64 (chkU u).1,.agg [.int .i64 (chkU u).2.1,.int .i64 (chkU u).2.2]]) (h++z) (a++y))
  (hok:(chkU u)=(0,0,0)→SndU u→∀ z0 kn sg ab z y,Mems u kn sg ab→K (.tuple [.fptr (ckF u (tabsU u) [] (h++z0).length),.int .i64 0,.agg [.int .i64 0,.int .i64 0]]) ((h++z0)++ck4 (dclU u) kn sg ab z) (a++y)) :
  VCalls env 50 [sl 34 (u.map Un.enc)] h a K:=by
 have hul:=hu.1
 refine vcalls_vc (fn:=Tryz.f50) Tryz.func50 rfl (by rw[Tryz.ntmps50];simp) ?_
 simp -implicitDefEqProofs only[go_sem,Tryz.f50]
 intro _ _
 refine snd_list (β:=List VObj) u (fun q zz=>⟨[(20,.int .i64 q.length),(19,.int .i64 u.length),(18,sl 34 (u.map Un.enc)),(4,.ptr h.length 0),(3,.int .i64 0),(2,.nilp),(0,sl 34 (u.map Un.enc))],h ++ .cells [.int .i64 0,.int .i64 0]::zz,a⟩)
  (fun q r _=>bad1 r q.length=bad1 u 0) [] ?_ rfl ?_ ?_
 ·simp -implicitDefEqProofs only[go_sem]
  rfl
 ·intro zz he
  have he':bad1 u 0=none:=by rw[←he];rfl
  have hsnd:=bad1_none u 0 he'
  have hS:SndU u:=⟨hu,hsnd⟩
  have hT:=hS.ckT
  have hc1:chkU u=chk1 u:=by unfold chkU;rw[he']
  rw[hc1]at hbad hok
  simp -implicitDefEqProofs only[go_sem,ap_get,ap_get0,ap_set,ap_set0,List.getElem?_cons_succ,List.set_cons_succ,List.cons_append]
  refine(Ccheck u hu).calls (by simp -implicitDefEqProofs only[go_sem]) ?_
  unfold chk1 at hbad hok
  generalize clsChk u (declsU u 0)=cc at hbad hok ⊢
  obtain⟨c1,c2,c3⟩:=cc
  simp -implicitDefEqProofs only[go_sem,encE,ap_get,ap_get0,ap_set,ap_set0,List.getElem?_cons_succ,List.set_cons_succ,List.cons_append]
  refine⟨fun hc0=>?_,fun hc0=>?_⟩
  ·have hc0':¬ c1=0:=by simpa using hc0
   simp only[hc0',not_false_eq_true,if_true]at hbad
   refine snd_draw (cs:=[]) mixed (by kernel_rfl) ?_
   simp -implicitDefEqProofs only[go_sem,ap_get,ap_get0,ap_set,ap_set0,List.getElem?_cons_succ,List.set_cons_succ,List.cons_append]
   have:=hbad trivial (.cells [.int .i64 c2,.int .i64 c3]::(zz++[.cells [.int .i64 c2,.int .i64 c3]])) []
   rw[List.append_nil]at this
   exact this
  ·have hc0':c1=0:=by simpa using hc0
   simp only[hc0',not_true,if_false]at hbad hok
   obtain⟨PRE,hPRE⟩:∃ P,P=h ++ .cells [.int .i64 0,.int .i64 0]::(zz++[.cells [.int .i64 c2,.int .i64 c3]]):=⟨_,rfl⟩
   have hPl:PRE.length=h.length+(zz.length+1+1):=by rw[hPRE];simp
   have hP1:PRE[h.length]? = some (.cells [.int .i64 0,.int .i64 0]):=by rw[hPRE];simp
   have hPlt:h.length<PRE.length:=by omega
   have hP2:∀ x,PRE.set h.length x=h++x::(zz++[.cells [.int .i64 c2,.int .i64 c3]]):=by intro x;rw[hPRE];simp
   rw[←hPRE]
   refine TnewF u hu hT.br ?_
   intro y
   simp -implicitDefEqProofs only[go_sem,ck4,ap_get,ap_get0,ap_set,ap_set0,List.getElem?_cons_succ,List.set_cons_succ,List.cons_append]
   refine Tfirst hu _ PRE _ _ (nmP u) (Tnamed u _ PRE []) [] [] [] _ _ ⟨Memo.nil,Memo.nil,Memo.nil⟩ ?_
   intro kn1 sg1 ab1 hm1
   cases hn:firstTb (nmP u) (tabsU u) 0 with
   | some p =>
    rw[hn]at hbad
    simp -implicitDefEqProofs only[go_sem,ck4,ap_get,ap_get0,ap_set,ap_set0,List.getElem?_cons_succ,List.set_cons_succ,List.cons_append,encFst_none,encFst_some]
    refine snd_draw (cs:=[]) mixed (by kernel_rfl) ?_
    simp -implicitDefEqProofs only[go_sem,ap_get,ap_get0,ap_set,ap_set0,List.getElem?_cons_succ,List.set_cons_succ,List.cons_append,hp_get hP1,hp_set hPlt,hP2]
    exact hbad (by simp) _ _
   | none =>
    rw[hn]at hbad hok
    simp only at hbad hok
    simp -implicitDefEqProofs only[go_sem,ck4,ap_get,ap_get0,ap_set,ap_set0,List.getElem?_cons_succ,List.set_cons_succ,List.cons_append,encFst_none,encFst_some]
    refine(SDoubles u hu).calls (by simp -implicitDefEqProofs only[go_sem]) ?_
    unfold chk2 at hbad hok
    cases hdb:(dblL (tabsU u) (declsU u 0)).2 with
    | cons d r =>
     rw[hdb]at hbad
     simp only at hbad
     simp -implicitDefEqProofs only[go_sem,ap_get,ap_get0,ap_set,ap_set0,List.getElem?_cons_succ,List.set_cons_succ,List.cons_append]
     intro _ _
     refine⟨fun _=>?_,fun h=>absurd (by omega) h⟩
     refine snd_draw (cs:=[]) mixed (by kernel_rfl) ?_
     simp -implicitDefEqProofs only[go_sem,ap_get,ap_get0,ap_set,ap_set0,List.getElem?_cons_succ,List.set_cons_succ,List.cons_append,hp_get hP1,hp_set hPlt,hP2,refE]
     refine⟨by omega,?_⟩
     exact hbad (by simp) _ _
    | nil =>
     rw[hdb]at hbad hok
     simp only at hbad hok
     simp -implicitDefEqProofs only[go_sem,ap_get,ap_get0,ap_set,ap_set0,List.getElem?_cons_succ,List.set_cons_succ,List.cons_append]
     refine⟨fun h=>absurd h (by simp),fun _=>?_⟩
     cases hub:unbL (usesU u)with
     | cons x r =>
      rw[hub]at hbad
      simp only at hbad
      simp -implicitDefEqProofs only[go_sem,ap_get,ap_get0,ap_set,ap_set0,List.getElem?_cons_succ,List.set_cons_succ,List.cons_append,ckF_d3]
      intro _ _
      refine⟨fun _=>?_,fun h=>absurd (by omega) h⟩
      refine snd_draw (cs:=[]) mixed (by kernel_rfl) ?_
      simp -implicitDefEqProofs only[go_sem,ap_get,ap_get0,ap_set,ap_set0,List.getElem?_cons_succ,List.set_cons_succ,List.cons_append,hp_get hP1,hp_set hPlt,hP2,atE,ckF_d3]
      exact⟨by omega,hbad (by simp) _ _⟩
     | nil =>
      rw[hub]at hbad hok
      simp only at hbad hok
      simp -implicitDefEqProofs only[go_sem,ap_get,ap_get0,ap_set,ap_set0,List.getElem?_cons_succ,List.set_cons_succ,List.cons_append,ckF_d3]
      refine⟨fun h=>absurd h (by simp),fun _=>?_⟩
      unfold chk3 at hbad hok
      refine Tfirst hu [] PRE [.dead,.cells [.fptr (ckF u (tabsU u) [] PRE.length)],.cells [.int .i64 0,.int .i64 0]] _ (wrP u) (Twrg hT [] PRE _) kn1 sg1 ab1 _ _ hm1 ?_
      intro kn2 sg2 ab2 hm2
      cases hw:firstTb (wrP u) (tabsU u) 0 with
      | some p =>
       rw[hw]at hbad
       simp -implicitDefEqProofs only[go_sem,ck4,ap_get,ap_get0,ap_set,ap_set0,List.getElem?_cons_succ,List.set_cons_succ,List.cons_append,encFst_none,encFst_some]
       refine snd_draw (cs:=[]) mixed (by kernel_rfl) ?_
       simp -implicitDefEqProofs only[go_sem,ap_get,ap_get0,ap_set,ap_set0,List.getElem?_cons_succ,List.set_cons_succ,List.cons_append,hp_get hP1,hp_set hPlt,hP2]
       exact hbad (by simp) _ _
      | none =>
       rw[hw]at hbad hok
       simp only at hbad hok
       simp -implicitDefEqProofs only[go_sem,ck4,ap_get,ap_get0,ap_set,ap_set0,List.getElem?_cons_succ,List.set_cons_succ,List.cons_append,encFst_none,encFst_some]
       refine Tfirst hu [] PRE [.dead,.cells [.fptr (ckF u (tabsU u) [] PRE.length)],.cells [.int .i64 0,.int .i64 0],.cells [.int .i64 0,.int .i64 0]] _ (miP u) (Tmis hT [] PRE _) kn2 sg2 ab2 _ _ hm2 ?_
       intro kn3 sg3 ab3 hm3
       cases hmi:firstTb (miP u) (tabsU u) 0 with
       | some p =>
        rw[hmi]at hbad
        simp -implicitDefEqProofs only[go_sem,ck4,ap_get,ap_get0,ap_set,ap_set0,List.getElem?_cons_succ,List.set_cons_succ,List.cons_append,encFst_none,encFst_some]
        refine snd_draw (cs:=[]) mixed (by kernel_rfl) ?_
        simp -implicitDefEqProofs only[go_sem,ap_get,ap_get0,ap_set,ap_set0,List.getElem?_cons_succ,List.set_cons_succ,List.cons_append,hp_get hP1,hp_set hPlt,hP2]
        exact hbad (by simp) _ _
       | none =>
        rw[hmi]at hbad hok
        simp only at hbad hok
        simp -implicitDefEqProofs only[go_sem,ck4,ap_get,ap_get0,ap_set,ap_set0,List.getElem?_cons_succ,List.set_cons_succ,List.cons_append,encFst_none,encFst_some,hp_get hP1,hp_set hPlt,hP2]
        have hz:=hok trivial hS (.cells [.int .i64 0,.int .i64 0]::(zz++[.cells [.int .i64 c2,.int .i64 c3]])) kn3 sg3 ab3 [.dead,.cells [.fptr (ckF u (tabsU u) [] PRE.length)],.cells [.int .i64 0,.int .i64 0],.cells [.int .i64 0,.int .i64 0],.cells [.int .i64 0,.int .i64 0]] y hm3
        rw[←hPRE]at hz
        rw[hPRE]at hz ⊢
        simp only[ck4,List.append_assoc,List.cons_append,List.nil_append]at hz
        exact hz
 ·rintro q x r zz hx he
  have hpl:u.length=q.length+1+r.length:=by rw[hx];simp;omega
  have hgx:(u.map Un.enc).getD (q.length:Int).toNat []=x.enc:=by rw[hx];simp[List.getD_eq_getElem?_getD]
  have hlt:((q.length:Int)<u.length)=True:=by simp;omega
  have hw:IntKind.i64.wrap (↑q.length+1)=↑(q.length+1):=wrap_next (by omega)
  rw[bad1]at he
  simp -implicitDefEqProofs only[go_sem,hgx,hlt,ap_get,ap_get0,ap_set,ap_set0,List.getElem?_cons_succ,List.set_cons_succ,List.cons_append]
  refine(Tsound x (hgp x (by rw[hx];simp))).calls (by simp -implicitDefEqProofs only[go_sem]) ?_
  simp -implicitDefEqProofs only[go_sem,ap_get,ap_get0,ap_set,ap_set0,List.getElem?_cons_succ,List.set_cons_succ,List.cons_append]
  cases hs:soundB x with
  | false =>
   rw[hs,if_neg (by simp)]at he
   refine⟨fun _=>?_,fun h=>(by cases h)⟩
   have hcu:chkU u=(17,((q.length:Nat):Int),0):=by unfold chkU;rw[←he]
   rw[hcu]at hbad
   have:=hbad (by simp) (.cells [.int .i64 q.length,.int .i64 0]::(zz++[.cells x.enc])) []
   rw[List.append_nil]at this
   exact this
  | true =>
   rw[hs,if_pos rfl]at he
   exact⟨fun h=>(by cases h),fun _=>⟨zz++[.cells x.enc],he,hw,tellH_refl,.inl (by simp)⟩⟩
end Go.Proofs.YtamednbojpnalaaGreatDoor
set_option maxRecDepth 20000
namespace Go.Proofs.YtamednbojpnalaaGreatDoor
open Go Go.Vg Go.Proofs
theorem chkU_snd{u:List Un}(hu:fitU u)(h:(chkU u).1=0):SndU u:=by
 refine⟨hu,?_⟩
 cases hb:bad1 u 0 with
 | none=>exact bad1_none u 0 hb
 | some i=>unfold chkU at h;rw[hb]at h;cases h
theorem TCheck(u:List Un)(hu:fitU u)(hgp:gapsU u):VPure env 23 [sl 34 (u.map Un.enc)] (encE (chkU u)):=by
 refine vpure_vc (fn:=Tryz.f23) Tryz.func23 rfl (by rw[Tryz.ntmps23];simp) (by simp -implicitDefEqProofs only[go_sem];exact uns_pure _) rfl ?_
 simp -implicitDefEqProofs only[go_sem,Tryz.f23]
 refine Tcheck u hu hgp _ _ _ (fun hb z y=>?_) (fun hk hS z0 kn sg ab z y hm=>?_)
 ·simp -implicitDefEqProofs only[go_sem,ap_get,ap_get0,ap_set,ap_set0,List.getElem?_cons_succ,List.set_cons_succ,List.cons_append]
  refine snd_draw (cs:=[]) mixed (by kernel_rfl) ?_
  simp -implicitDefEqProofs only[go_sem,ap_get,ap_get0,ap_set,ap_set0,List.getElem?_cons_succ,List.set_cons_succ,List.cons_append,encE]
  try rfl
 ·obtain⟨PRE,hPRE⟩:∃ P,P=[VObj.cells [V.int IntKind.i64 0,V.int IntKind.i64 0]]++z0:=⟨_,rfl⟩
  have hP1:PRE[0]? = some (.cells [.int .i64 0,.int .i64 0]):=by rw[hPRE];rfl
  have hPlt:0<PRE.length:=by rw[hPRE];simp
  rw[←hPRE,hk]
  simp -implicitDefEqProofs only[go_sem,ck4,ap_get,ap_get0,ap_set,ap_set0,List.getElem?_cons_succ,List.set_cons_succ,List.cons_append,hp_get hP1,hp_set hPlt]
  refine snd_draw (cs:=[]) mixed (by kernel_rfl) ?_
  have hP3:∀ x,PRE.set 0 x=[x]++z0:=by intro x;rw[hPRE];rfl
  simp -implicitDefEqProofs only[go_sem,ap_get,ap_get0,ap_set,ap_set0,List.getElem?_cons_succ,List.set_cons_succ,List.cons_append,hp_get hP1,hp_set hPlt,hP3,encE]
  try rfl
end Go.Proofs.YtamednbojpnalaaGreatDoor
set_option maxRecDepth 20000
namespace Go.Vg
theorem firstI_none{q:Nat→Bool}:∀ (n i:Nat),firstI q n i=none→∀ j,j<n→q (i+j)=false
 | 0,_,_,j,h=>by omega
 | n+1,i,h,j,hj=>by
  rw[firstI]at h
  split at h
  ·cases h
  ·rename_i h0
   cases j with
   | zero=>simpa using h0
   | succ j =>
    have:=firstI_none n (i+1) h j (by omega)
    rwa [show i+(j+1)=i+1+j by omega]
theorem firstTb_none{p:Nat→Nat→Bool}:∀ (tb:List (List Rw)) (n:Nat),firstTb p tb n=none→∀ (un i:Nat) (l:List Rw),tb[un]? = some l→i<l.length→p (n+un) i=false
 | [],_,_,un,i,l,h,_=>by simp at h
 | t::r,n,h0,un,i,l,h,hi=>by
  rw[firstTb]at h0
  split at h0
  ·cases h0
  ·rename_i h1
   cases un with
   | zero =>
    simp at h
    subst h
    have:=firstI_none _ 0 h1 i hi
    simpa using this
   | succ un =>
    rw[List.getElem?_cons_succ]at h
    have:=firstTb_none r (n+1) h0 un i l h hi
    rwa [show n+(un+1)=n+1+un by omega]
theorem node_nm{y:Nd}(h:y.node=0)(hk:y.kind=2∨y.kind=4∨y.kind=5∨y.kind=7∨y.kind=22):validName y.text=true:=by
 unfold Nd.node at h
 have h17:y.kind≠17:=by omega
 have hn:namedK y.kind y.text=true:=by
  unfold namedK
  rw[if_neg (by omega)]
  simp only[decide_eq_true_eq]
  omega
 split at h
 ·cases h
 ·split at h
  ·cases h
  ·rename_i hv
   simp only[h17,decide_false,Bool.false_and,Bool.not_false,Bool.true_and,Bool.false_or,hn,Bool.not_eq_true,Bool.not_eq_false']at hv
   exact hv
theorem shown_ne{l:List Rw}(hg:gramL l):∀ (f i:Nat),i<l.length→constR l f i=true→shownR l f i≠⟨#[]⟩
 | 0,_,_,h=>by cases h
 | f+1,i,hi,h=>by
  rw[constR,Bool.and_eq_true,decide_eq_true_eq,List.all_eq_true]at h
  obtain⟨hk,ha⟩:=h
  rw[shownR]
  by_cases h26:(rwAt l i).kind=26
  ·rw[if_pos h26]
   have hle:=hg.least i hi
   rw[h26]at hle
   have hk1:0<(rwAt l i).kids.length:=by simp[leastK]at hle;omega
   have hkd:=hg.kid i hi 0 hk1
   exact shown_ne hg f _ hkd.2.1 (ha _ (List.mem_of_getElem? (kdAt_get hk1)))
  ·rw[if_neg h26]
   split
   ·decide
   split
   ·decide
   split
   ·unfold opT;split <;> decide
   ·omega
end Go.Vg
namespace Go.Proofs.YtamednbojpnalaaGreatDoor
open Go Go.Vg Go.Proofs
structure ChkF(u:List Un):Prop where
 cls:(clsChk u (declsU u 0)).1=0
 nm:firstTb (nmP u) (tabsU u) 0=none
 dbl:(dblL (tabsU u) (declsU u 0)).2=[]
 unb:unbL (usesU u)=[]
 wr:firstTb (wrP u) (tabsU u) 0=none
 mi:firstTb (miP u) (tabsU u) 0=none
theorem chk_facts{u:List Un}(h:(chkU u).1=0):ChkF u:=by
 unfold chkU at h
 split at h
 ·cases h
 unfold chk1 at h
 split at h
 ·rename_i h1
  exact absurd h h1
 rename_i h1
 split at h
 ·cases h
 rename_i h2
 unfold chk2 at h
 split at h
 ·cases h
 rename_i h3
 split at h
 ·cases h
 rename_i h4
 unfold chk3 at h
 split at h
 ·cases h
 rename_i h5
 split at h
 ·cases h
 rename_i h6
 exact⟨by simpa using h1,h2,h3,h4,h5,h6⟩
theorem ChkF.wrong{u:List Un}(h:ChkF u){un i:Nat}{l:List Rw}(hl:(tabsU u)[un]? = some l)(hi:i<l.length):wrS u un l i=false:=by
 have:=firstTb_none _ 0 h.wr un i l hl hi
 rw[Nat.zero_add]at this
 rwa [wrP,tbO_at hl]at this
theorem ChkF.placed{u:List Un}(h:ChkF u){un i:Nat}{l:List Rw}(hl:(tabsU u)[un]? = some l)(hi:i<l.length):misS u un l i=false:=by
 have:=firstTb_none _ 0 h.mi un i l hl hi
 rw[Nat.zero_add]at this
 rwa [miP,tbO_at hl]at this
theorem ChkF.const{u:List Un}(h:ChkF u){un:Nat}{l:List Rw}(hl:(tabsU u)[un]? = some l):∀ i<l.length,(rwAt l i).kind=9→∃ f,constR l f (kdAt l i 0)=true:=fun i hi hk=>by
 have:=h.placed hl hi
 rw[misS,if_neg (by omega),if_pos hk]at this
 exact⟨l.length,by simpa using this⟩
theorem usesL_all{M:List Dl}:∀ (tb:List (List Rw)) (n un i:Nat) (l:List Rw),tb[un]? = some l→i<l.length→(useK (rwAt l i).kind (rwAt l i).text).2=true→(⟨n+un,i,resK l M (n+un) i (useK (rwAt l i).kind (rwAt l i).text).1⟩:Us)∈usesL M tb n
 | [],n,un,i,l,h,_,_=>by simp at h
 | t::r,n,un,i,l,h,hi,hu=>by
  rw[usesL]
  cases un with
  | zero =>
   simp at h
   subst h
   refine List.mem_append_left _ (List.mem_flatMap.2 ⟨i,by simpa using hi,?_⟩)
   unfold useAt
   rw[if_pos hu]
   exact List.mem_singleton.2 rfl
  | succ un =>
   rw[List.getElem?_cons_succ]at h
   have:=usesL_all (M:=M) r (n+1) un i l h hi hu
   rw[show n+1+un=n+(un+1)by omega]at this
   exact List.mem_append_right _ this
theorem ChkF.bound{u:List Un}(h:ChkF u){un i:Nat}{l:List Rw}(hl:(tabsU u)[un]? = some l)(hi:i<l.length)(hk:(useK (rwAt l i).kind (rwAt l i).text).2=true):(resK l (globL (declsU u 0)) un i (useK (rwAt l i).kind (rwAt l i).text).1).isSome=true:=by
 have hm:=usesL_all (M:=globL (declsU u 0)) (tabsU u) 0 un i l hl hi hk
 rw[Nat.zero_add]at hm
 cases hr:(resK l (globL (declsU u 0)) un i (useK (rwAt l i).kind (rwAt l i).text).1)with
 | some d=>rfl
 | none =>
  rw[hr]at hm
  have:(⟨un,i,none⟩:Us)∈unbL (usesU u):=List.mem_filter.2 ⟨hm,rfl⟩
  rw[h.unb]at this
  cases this
theorem lookL_some{B:List (ByteArray×ByteArray)}{M:List Dl}{c n:ByteArray}{d:Dl}(h:lookL B M c n=some d):d∈M∧(d.owner=c∨d.owner∈(supP B c).1)∧d.name=n:=by
 unfold lookL at h
 obtain⟨s,hs,hf⟩:=List.exists_of_findSome?_eq_some h
 have h1:=List.find?_some hf
 simp only[Bool.and_eq_true,decide_eq_true_eq]at h1
 refine⟨List.mem_of_find?_eq_some hf,?_,h1.2.symm⟩
 rw[←h1.1]
 exact List.mem_cons.1 hs
theorem lookU_some{u:List Un}{c n:ByteArray}{d:Dl}(h:lookU u c n=some d):d∈declsU u 0∧d.kind=4∧(d.owner=c∨d.owner∈(supP (basesL (btU u) (declsU u 0)) c).1)∧d.name=n:=by
 obtain⟨h1,h2,h3⟩:=lookL_some h
 obtain⟨h4,h5⟩:=lookU_mem h
 exact⟨h4,h5,h2,h3⟩
theorem name_at{u:List Un}(h:SndU u){un i:Nat}{l:List Rw}(hl:(tabsU u)[un]? = some l)(hi:i<l.length)(hk:(rwAt l i).kind=2∨(rwAt l i).kind=4∨(rwAt l i).kind=5∨(rwAt l i).kind=7∨(rwAt l i).kind=22):(rwAt l i).text≠⟨#[]⟩:=by
 obtain⟨x,hx,rfl⟩:=tab_unit h.br hl
 have hs:=h.snd x (List.mem_of_getElem? hx)
 obtain⟨k,t,g,ks,e1,e2,e3,e4⟩:=row_node hi
 have hck:checkN x.tree=0:=by simp[soundB]at hs;exact hs.2
 unfold checkN at hck
 split at hck
 ·cases hck
 rw[e3]
 rw[e2]at hk
 exact valid_ne (node_nm (y := .mk k t g ks) (firstN_zero _ hck _ (List.mem_of_getElem? e1)) hk)
theorem getM_some{k:Int×Int}:∀ (us:List Us) (M:List ((Int×Int)×(Int×Int))),(∃ x∈us,k=((x.un:Int),(x.nd:Int))∧x.to.isSome=true)∨(getM M k).isSome=true→(getM (us.foldl addD M) k).isSome=true
 | [],M,h=>by
  rcases h with⟨x,hx,_⟩ | h
  ·cases hx
  ·exact h
 | x::r,M,h=>by
  rw[List.foldl_cons]
  refine getM_some r _ ?_
  have keep:(getM M k).isSome=true→(getM (addD M x) k).isSome=true:=fun h=>by
   unfold addD
   split
   ·rw[get_set]
    split
    ·rfl
    ·exact h
   ·exact h
  rcases h with⟨y,hy,hk,ht⟩ | h
  ·rcases List.mem_cons.1 hy with rfl | hy
   ·obtain⟨d,hd⟩:=Option.isSome_iff_exists.1 ht
    right
    unfold addD
    rw[hd]
    simp only
    rw[get_set,if_pos hk];rfl
   ·exact .inl ⟨y,hy,hk,ht⟩
  ·exact .inr (keep h)
theorem ChkF.dcl{u:List Un}(h:ChkF u){un i:Nat}{l:List Rw}(hl:(tabsU u)[un]? = some l)(hi:i<l.length)(hk:(useK (rwAt l i).kind (rwAt l i).text).2=true):∃ d,getM (dclU u) ((un:Int),(i:Int))=some d:=by
 have hm:=usesL_all (M:=globL (declsU u 0)) (tabsU u) 0 un i l hl hi hk
 rw[Nat.zero_add]at hm
 exact Option.isSome_iff_exists.1 (getM_some _ _ (.inl ⟨_,hm,rfl,h.bound hl hi hk⟩))
theorem result_ne{u:List Un}(h:SndU u){un i:Nat}{l:List Rw}(hl:(tabsU u)[un]? = some l)(hi:i<l.length)(hk:(rwAt l i).kind=2):(signR l i).result≠⟨#[]⟩:=by
 have hg:=h.gram l (List.mem_of_getElem? hl)
 have hle:=hg.least i hi
 rw[hk]at hle
 have hk1:1<(rwAt l i).kids.length:=by simp[leastK]at hle;omega
 have hkd:=hg.kid i hi 1 hk1
 have hf:=hg.fit i hi 1 hk1
 rw[hk]at hf
 simp[fitsK]at hf
 exact name_at h hl hkd.2.1 (.inr (.inr (.inl hf)))
theorem mt_ne{u:List Un}(h:SndU u){c n:ByteArray}{s:Sg}(hs:mtS u (c,n)=some s):s.result≠⟨#[]⟩:=by
 unfold mtS at hs
 obtain⟨d,hd,rfl⟩:=Option.map_eq_some_iff.1 hs
 obtain⟨h1,h2⟩:=lookU_mem hd
 obtain⟨un,nd,l,q1,q2,q3,q4,q5,q6⟩:=h.decl h1
 rw[q1,q2,tb_at q3,Int.toNat_natCast]
 exact result_ne h q3 q4 (by omega)
theorem ty_ne{u:List Un}(hu:fitU u)(h0:(chkU u).1=0){un i:Nat}{l:List Rw}(hl:(tabsU u)[un]? = some l)(hi:i<l.length)(hg3:17≤(rwAt l i).kind):tyS u ((un:Int),(i:Int))≠⟨#[]⟩:=by
 have hS:=chkU_snd hu h0
 have hT:=hS.ckT
 have hC:=chk_facts h0
 obtain⟨μ,hμ⟩:=hT.mu
 have key:∀ (n un i:Nat) (l:List Rw),μ ((un:Int),(i:Int))<n→(tabsU u)[un]? = some l→i<l.length→17≤(rwAt l i).kind→tyS u ((un:Int),(i:Int))≠⟨#[]⟩:=by
  intro n
  induction n with
  | zero=>intro _ _ _ h;omega
  | succ n ih =>
   intro un i l hn hl hi hk
   have hV:Val (tabsU u) ((un:Int),(i:Int)):=⟨un,i,l,rfl,hl,hi⟩
   have hg:=hS.gram l (List.mem_of_getElem? hl)
   obtain⟨r1,r2⟩:=hg.rng i hi
   have ihq:∀ q,tgt (tabsU u) (dclU u) ((un:Int),(i:Int)) q→17≤(rwK (tabsU u) q).kind→tyS u q≠⟨#[]⟩:=fun q hq h17=>by
    obtain⟨⟨un',i',l',rfl,g1,g2⟩,g3,g4⟩:=(hμ _ hV).2 q hq
    rw[rwK_at g1]at h17
    exact ih un' i' l' (by omega) g1 g2 h17
   have kid3:∀ {p:Nat},p<l.length→((rwAt l p).kind=10∨(rwAt l p).kind=21∨(rwAt l p).kind=26)→kdAt l p 0<l.length∧17≤(rwAt l (kdAt l p 0)).kind:=fun {p} hp hk=>by
    have hle:=hg.least p hp
    have hk1:0<(rwAt l p).kids.length:=by
     rcases hk with hk | hk | hk <;> (rw[hk]at hle;simp[leastK]at hle;omega)
    have hkd:=hg.kid p hp 0 hk1
    have hf:=hg.fit p hp 0 hk1
    refine⟨hkd.2.1,?_⟩
    have g3:∀ k:Int,groupK k=3→17≤k:=fun k h=>by
     unfold groupK at h
     repeat' split at h
     all_goals omega
    rcases hk with hk | hk | hk <;> (rw[hk]at hf;simp[fitsK]at hf;exact g3 _ hf)
   rw[tyS_eq hT hV]
   unfold tyB
   rw[rwK_at hl,kdK_at hl,tb_at hl,Int.toNat_natCast]
   by_cases h17:(rwAt l i).kind=17
   ·rw[if_pos h17];decide
   rw[if_neg h17]
   by_cases h18:(rwAt l i).kind=18
   ·rw[if_pos h18];decide
   rw[if_neg h18]
   by_cases h19:(rwAt l i).kind=19
   ·rw[if_pos h19]
    obtain⟨d,hd⟩:=hC.dcl hl hi (by rw[useK_var (.inl h19)])
    rw[hd]
    simp only
    obtain⟨⟨un',i',l',rfl,g1,g2⟩,g3⟩:=hT.d19 _ _ hV (by rw[rwK_at hl];exact .inl h19) hd
    have hg':=hS.gram l' (List.mem_of_getElem? g1)
    rw[rwK_at g1]at g3
    unfold varB
    rw[rwK_at g1,kdK_at g1,rwK_at g1,tb_at g1,Int.toNat_natCast]
    have hle:=hg'.least i' g2
    have hk1:0<(rwAt l' i').kids.length:=by
     rcases g3 with hk | hk | hk <;> (rw[hk]at hle;simp[leastK]at hle;omega)
    have hkd:=hg'.kid i' g2 0 hk1
    have hf:=hg'.fit i' g2 0 hk1
    rcases g3 with g3 | g3 | g3
    ·rw[if_pos g3]
     rw[g3]at hf
     simp[fitsK]at hf
     exact name_at hS g1 hkd.2.1 (.inr (.inr (.inl hf)))
    ·rw[if_neg (by omega),if_neg (by omega),if_pos g3]
     have hp:=hC.placed g1 g2
     rw[misS,if_neg (by omega),if_pos g3]at hp
     exact shown_ne hg' _ _ hkd.2.1 (by simpa using hp)
    ·rw[if_neg (by omega),if_pos g3]
     refine ihq _ (.inr ⟨by rw[rwK_at hl];exact h19,_,hd,by rw[rwK_at g1];exact g3,(kdK_at g1).symm⟩) ?_
     rw[rwK_at g1]
     rw[g3]at hf
     simp[fitsK,groupK]at hf
     omega
   rw[if_neg h19]
   by_cases h20:(rwAt l i).kind=20
   ·rw[if_pos h20]
    obtain⟨d,hd⟩:=hC.dcl hl hi (by rw[h20,useK_fn])
    rw[hd]
    simp only
    obtain⟨⟨un',i',l',rfl,g1,g2⟩,g3,_⟩:=hS.fnc hl h20 hd
    rw[rwK_at g1]at g3
    rw[tb_at g1,Int.toNat_natCast]
    exact result_ne hS g1 g2 g3
   rw[if_neg h20]
   by_cases h21:(rwAt l i).kind=21
   ·rw[if_pos h21]
    obtain⟨k1,k2⟩:=kid3 hi (.inr (.inl h21))
    have hne:=ihq _ (.inl ⟨by rw[rwK_at hl];exact .inl h21,(kdK_at hl).symm⟩) (by rw[rwK_at hl];exact k2)
    have hw:=hC.wrong hl hi
    unfold wrS at hw
    simp only at hw
    rw[if_neg (by omega),if_neg (by omega),if_neg (by omega),if_neg (by omega),if_neg (by omega),if_pos h21,if_neg hne]at hw
    cases hm:mtS u (rcT (tyS u ((un:Int),((kdAt l i 0:Nat):Int))),(rwAt l i).text)with
    | none=>rw[hm]at hw;cases hw
    | some s=>exact mt_ne hS hm
   rw[if_neg h21]
   by_cases h22:(rwAt l i).kind=22
   ·rw[if_pos h22]
    exact name_at hS hl hi (.inr (.inr (.inr (.inr h22))))
   rw[if_neg h22]
   by_cases h23:(rwAt l i).kind=23
   ·rw[if_pos h23]
    have hp:=hC.placed hl hi
    rw[misS,if_pos h23]at hp
    cases hf:funR l i with
    | none=>rw[hf]at hp;cases hp
    | some p=>rw[hf]at hp;simpa using hp
   rw[if_neg h23]
   by_cases h24:(rwAt l i).kind=24∨(rwAt l i).kind=25
   ·rw[if_pos h24];unfold opT;split <;> decide
   rw[if_neg h24]
   have h26:(rwAt l i).kind=26:=by omega
   rw[if_pos h26]
   obtain⟨k1,k2⟩:=kid3 hi (.inr (.inr h26))
   exact ihq _ (.inl ⟨by rw[rwK_at hl];exact .inr h26,(kdK_at hl).symm⟩) (by rw[rwK_at hl];exact k2)
 exact key _ un i l (Nat.lt_succ_self _) hl hi hg3
end Go.Proofs.YtamednbojpnalaaGreatDoor
