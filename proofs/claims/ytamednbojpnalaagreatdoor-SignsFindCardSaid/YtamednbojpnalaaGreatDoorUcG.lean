/- The checker at work: what it remembers; methods and base classes. -/
import Derived.Test.YtamednbojpnalaaGreatDoorUcE
import Derived.Test.YtamednbojpnalaaGreatDoorTnF
set_option linter.unusedVariables false
set_option linter.unusedSimpArgs false
set_option maxRecDepth 20000
namespace Go.Vg
def keySS(k:ByteArray×ByteArray):List V:=[.str k.1,.str k.2]
theorem keySS_ok:KeyA [0,0] keySS:=by
 refine⟨fun a b=>rfl,fun a b=>?_⟩
 obtain⟨a1,a2⟩:=a
 obtain⟨b1,b2⟩:=b
 simp only[keySS,eqL,eq1,Bool.and_true,Option.some.injEq]
 rw[Bool.eq_iff_iff]
 simp
section
variable {α : Type} {l r : List α} {i : Nat} {y : α}
theorem ap_get:(l++r)[l.length+i]? = r[i]?:=app_get
theorem ap_get0:(l++r)[l.length]? = r[0]?:=by have:=app_get (l:=l) (r:=r) (j:=0);simpa using this
theorem ap_set:(l++r).set (l.length+i) y=l++r.set i y:=by rw[List.set_append_right _ _ (by omega)];congr 2;omega
theorem ap_set0:(l++r).set l.length y=l++r.set 0 y:=by rw[List.set_append_right _ _ (by omega)];congr 2;omega
end
def encLk:Option Sg→V
 | none => .agg [.slice .nil 0 [],.str ⟨#[]⟩,.bool false]
 | some s => .agg (s.enc++[.bool true])
theorem sg_pureL(s:Sg):pureL s.enc=true:=by simp -implicitDefEqProofs only[Sg.enc,go_sem]
theorem lk_pure(o:Option Sg):(encLk o).pure=true:=by
 cases o with
 | none=>rfl
 | some s =>
  have h:=sg_pureL s
  simp only[Sg.enc,pureL,Bool.and_true,Bool.and_eq_true]at h
  simp only[encLk,Sg.enc,V.pure,pureL,List.cons_append,List.nil_append,h.1,h.2]
  rfl
end Go.Vg
namespace Go.Proofs.YtamednbojpnalaaGreatDoor
open Go Go.Vg Go.Proofs
abbrev KnM:=List ((Int×Int)×ByteArray)
abbrev SgM:=List ((ByteArray×ByteArray)×Option Sg)
abbrev AbM:=List (ByteArray×List ByteArray)
def encKn(M:KnM):List (V×V):=encM (fun a => .agg (keyR a)) V.str M
def encSgM(M:SgM):List (V×V):=encM (fun a => .agg (keySS a)) encLk M
def encAb(M:AbM):List (V×V):=encM V.str (fun l=>sl 9 (l.map encTx)) M
def ck4(D:List ((Int×Int)×(Int×Int)))(kn:KnM)(sg:SgM)(ab:AbM)(z:List VObj):List VObj := .map (encD D) :: .map (encKn kn) :: .map (encSgM sg) :: .map (encAb ab)::z
def ckF(u:List Un)(tb:List (List Rw))(ub:List Us)(n:Nat):List V:=[sl 34 (u.map Un.enc),sl 80 (tb.map encTab),.map n,sl 50 (ub.map atE),.map (n+1),.map (n+2),.map (n+3)]
section
variable {u : List Un} {tb : List (List Rw)} {ub : List Us} {n : Nat}
@[go_sem] theorem ckF_d1:List.drop 1 (ckF u tb ub n)=sl 80 (tb.map encTab)::(ckF u tb ub n).tail.tail:=rfl
@[go_sem] theorem ckF_d2:List.drop 2 (ckF u tb ub n)=[.map n,sl 50 (ub.map atE),.map (n+1),.map (n+2),.map (n+3)]:=rfl
@[go_sem] theorem ckF_d3:List.drop 3 (ckF u tb ub n)=[sl 50 (ub.map atE),.map (n+1),.map (n+2),.map (n+3)]:=rfl
@[go_sem] theorem ckF_d4:List.drop 4 (ckF u tb ub n)=[.map (n+1),.map (n+2),.map (n+3)]:=rfl
@[go_sem] theorem ckF_d5:List.drop 5 (ckF u tb ub n)=[.map (n+2),.map (n+3)]:=rfl
@[go_sem] theorem ckF_d6:List.drop 6 (ckF u tb ub n)=[.map (n+3)]:=rfl
@[go_sem] theorem vHead_ckF{K:V→Prop}:vHead (ckF u tb ub n) K=K (sl 34 (u.map Un.enc)):=rfl
end
theorem zero_lk:zeroVP Tryz.prog 204=encLk none:=by kernel_rfl
theorem flat_SS:flatK Tryz.prog 202=some [0,0]:=by kernel_rfl
def mtS(u:List Un)(k:ByteArray×ByteArray):Option Sg:=(lookU u k.1 k.2).map fun d=>signR ((tabsU u).getD d.unit.toNat []) d.node.toNat
theorem look_Sg{sg:SgM}{c n:ByteArray}{K:V→Prop}:vLookF env 204 (findA [0,0] [.str c,.str n] (encSgM sg) 0) true K=K (.tuple [((getM sg (c,n)).map encLk).getD (encLk none),.bool (getM sg (c,n)).isSome]) :=
 lookA_M (E:=env) (ve:=encLk) keySS_ok (k:=(c,n)) zero_lk (by kernel_rfl)
theorem set_Sg{sg:SgM}{c n:ByteArray}{o:Option Sg}{h:List VObj}{id:Nat}{L:List VObj→Prop}:vSetF h id (encSgM sg) (.agg [.str c,.str n]) (encLk o) (findA [0,0] [.str c,.str n] (encSgM sg) 0) L=L (h.set id (.map (encSgM (setM sg (c,n) o)))) :=
 setA_M (ve:=encLk) keySS_ok (k:=(c,n)) (v:=o)
theorem ltH_app(k ka:Nat):∀ l r:List VObj,ltH k ka (l++r)=(ltH k ka l && ltH k ka r)
 | [],r=>by simp[ltH]
 | x::l,r=>by rw[List.cons_append,ltH,ltH,ltH_app k ka l r,Bool.and_assoc]
theorem ck_lt(k ka:Nat)(D:List ((Int×Int)×(Int×Int)))(kn:KnM)(sg:SgM)(ab:AbM)(z:List VObj):ltH k ka (ck4 D kn sg ab z)=ltH k ka z:=by
 have h1:ltP k ka (encD D)=true:=ltP_D k ka D
 have h2:ltP k ka (encKn kn)=true:=ltP_enc (fun _=>rfl) (fun _=>rfl) k ka kn
 have h3:ltP k ka (encSgM sg)=true:=ltP_enc (fun _=>rfl) (fun _=>lk_pure _) k ka sg
 have h4:ltP k ka (encAb ab)=true:=ltP_enc (fun _=>rfl) (fun l=>by simp -implicitDefEqProofs only[go_sem]) k ka ab
 simp only[ck4,ltH,VObj.lt,h1,h2,h3,h4,Bool.true_and]
theorem VCalls.tidyCk{f:FuncId}{args:List V}{pre z:List VObj}{a:List Nat}{D:List ((Int×Int)×(Int×Int))}{kn:KnM}{sg:SgM}{ab:AbM}{K:Cont}
  (hc:VCalls env f args (pre++ck4 D kn sg ab z) a fun v h' a'=>∃ kn' sg' ab' z' y,h'=pre++ck4 D kn' sg' ab' (z++z')∧a'=a++y∧(share v).pure=true∧K (share v) (pre++ck4 D kn' sg' ab' z) a) :
  VCalls env f args (pre++ck4 D kn sg ab z) a K:=by
 refine VCalls.tidy (hc.mono ?_)
 rintro v h' a' ⟨kn',sg',ab',z',y,rfl,rfl,hp,hk⟩
 refine⟨pre++ck4 D kn' sg' ab' z,z',y,by simp[ck4],rfl,by simp[ck4],hp,fun hl=>?_,hk⟩
 rw[ltH_app,ck_lt]at hl ⊢
 exact hl
def encMt:Option Sg→V
 | none => .tuple [.agg [sl 9 [],.str ⟨#[]⟩],.bool false]
 | some s => .tuple [.agg s.enc,.bool true]
theorem set_Sg0{sg:SgM}{c n:ByteArray}{h:List VObj}{id:Nat}{L:List VObj→Prop}:vSetF h id (encSgM sg) (.agg [.str c,.str n]) (.agg [.slice .nil 0 [],.str ⟨#[]⟩,.bool false]) (findA [0,0] [.str c,.str n] (encSgM sg) 0) L=L (h.set id (.map (encSgM (setM sg (c,n) none)))):=set_Sg (o:=none)
theorem set_Sg1{sg:SgM}{c n:ByteArray}{s:Sg}{h:List VObj}{id:Nat}{L:List VObj→Prop}:vSetF h id (encSgM sg) (.agg [.str c,.str n]) (.agg [sl 9 (s.params.map encTx),.str s.result,.bool true]) (findA [0,0] [.str c,.str n] (encSgM sg) 0) L=L (h.set id (.map (encSgM (setM sg (c,n) (some s))))):=set_Sg (o:=some s)
structure CkW(u:List Un):Prop where
 fit:fitU u
 br:∀ x∈u,x.broken=false
 gram:∀ l∈tabsU u,gramL l
 fn:∀ d∈declsU u 0,(d.kind=1∨d.kind=4)→∃ un nd l,d.unit=((un:Nat):Int)∧d.node=((nd:Nat):Int)∧(tabsU u)[un]? = some l∧nd<l.length∧(rwAt l nd).kind=2
theorem methL_mem{l:List Dl}:∀ d∈methL l,d∈l∧d.kind=4:=by
 have key:∀ (l M:List Dl),∀ d∈l.foldl addM M,d∈M∨(d∈l∧d.kind=4):=by
  intro l
  induction l with
  | nil=>intro M d h;exact .inl h
  | cons x r ih =>
   intro M d h
   rcases ih _ d h with h | ⟨h1,h2⟩
   ·unfold addM at h
    split at h
    ·rename_i hc
     rcases List.mem_append.1 h with h | h
     ·exact .inl h
     ·have:=List.mem_singleton.1 h
      subst this
      exact .inr ⟨by simp,hc.1⟩
    ·exact .inl h
   ·exact .inr ⟨by simp[h1],h2⟩
 intro d h
 rcases key l [] d h with h | h
 ·simp at h
 ·exact h
theorem lookU_mem{u:List Un}{c n:ByteArray}{d:Dl}(h:lookU u c n=some d):d∈declsU u 0∧d.kind=4:=by
 unfold lookU lookL at h
 obtain⟨s,_,hs⟩:=List.exists_of_findSome?_eq_some h
 exact methL_mem d (List.mem_of_find?_eq_some hs)
theorem ck_jk(u:List Un)(tb:List (List Rw))(ub:List Us)(n:Nat):(ckF u tb ub n).map jk1=ckG (sl 34 (u.map Un.enc)) (tb.map encTab) [.junk,sl 50 (ub.map atE),.junk,.junk,.junk]:=by
 simp -implicitDefEqProofs only[ckF,ckG,List.map_cons,List.map_nil,go_sem]
theorem ck_jkp(u:List Un)(tb:List (List Rw))(ub:List Us):pureL (ckG (sl 34 (u.map Un.enc)) (tb.map encTab) [.junk,sl 50 (ub.map atE),.junk,.junk,.junk])=true:=by
 simp -implicitDefEqProofs only[ckG,go_sem,uns_pure,tabs_pure,ats_pure]
 rfl
theorem tab_some{tb:List (List Rw)}{un:Nat}{l:List Rw}(h:tb[un]? = some l):(tb.map encTab)[un]? = some [sl 100 (l.map Rw.enc)]:=by rw[List.getElem?_map,h];rfl
theorem Jsign(u:List Un)(tb:List (List Rw))(ub:List Us)(n:Nat){un i:Nat}{l:List Rw}(hu:tb[un]? = some l)(h:signOK l i):VPureJ env 44 [.fptr (ckF u tb ub n),.agg [.int .i64 un,.int .i64 i]] (.agg (signR l i).enc) :=
 ⟨_,.inr (by simp only[List.map_cons,List.map_nil,jkA,ck_jk]),TsignG _ _ _ un i l (tab_some hu) h (ck_jkp u tb ub)⟩
theorem VPureJ.callsS{E:Env}{f:FuncId}{args cargs:List V}{h:List VObj}{a:List Nat}{r:V}{K:Cont}(hp:VPureJ E f cargs r)(ha:args.map share=cargs)(hk:K r h a):VCalls E f args h a K:=VPureJ.calls (ha ▸ hp) hk
theorem vPC_ofS{E:Env}{f:FuncId}{args cargs:List V}{h:List VObj}{a:List Nat}{r:V}{K:Cont}(hp:VPureJ E f cargs r)(ha:args.map share=cargs)(hk:K r h a):vPC E f args h a K:=⟨r,ha ▸ hp,hk⟩
def wkMt:Wk := .one 0 (.one 1 (.one 2 (.br 3 (.one 4 (.one 5 (.stop))) (.br 4 (.one 3 (.one 5 (.stop))) (.stop)))))
theorem Tmethod(u:List Un)(hW:CkW u)(ub:List Us)(pre:List VObj)(D:List ((Int×Int)×(Int×Int)))(kn:KnM)(sg:SgM)(ab:AbM)(z:List VObj)(a:List Nat)(cls name:ByteArray)(hm:Memo (mtS u) sg){K:Cont}
  (hK:∀ sg',Memo (mtS u) sg'→K (encMt (mtS u (cls,name))) (pre++ck4 D kn sg' ab z) a) :
  VCalls env 111 [.fptr (ckF u (tabsU u) ub pre.length),.str cls,.str name] (pre++ck4 D kn sg ab z) a K:=by
 refine VCalls.tidyCk ?_
 refine vcalls_vc (fn:=Tryz.f111) Tryz.func111 rfl (by rw[Tryz.ntmps111];simp) ?_
 simp -implicitDefEqProofs only[go_sem,Tryz.f111,ck4,ap_get,ap_get0,ap_set,ap_set0,List.getElem?_cons_succ,List.set_cons_succ,List.cons_append]
 refine snd_draw (cs:=[]) mixed (by kernel_rfl) ?_
 cases hg:getM sg (cls,name)with
 | some o =>
  have ho:=hm _ _ hg
  subst ho
  cases hms:mtS u (cls,name)with
  | none =>
   simp -implicitDefEqProofs only[go_sem,ap_get,ap_get0,ap_set,ap_set0,List.getElem?_cons_succ,List.set_cons_succ,List.cons_append,flat_SS,look_Sg,hg,Option.map_some,Option.getD_some,hms,encLk,Option.isSome_some]
   refine snd_walk (cs:=[]) wkMt mixed (by kernel_rfl) ?_
   simp -implicitDefEqProofs only[go_sem,ap_get,ap_get0,ap_set,ap_set0,List.getElem?_cons_succ,List.set_cons_succ,List.cons_append,wkMt]
   rw[hms]at hK
   exact⟨kn,sg,ab,_,[],rfl,by simp,hK sg hm⟩
  | some s =>
   simp -implicitDefEqProofs only[go_sem,ap_get,ap_get0,ap_set,ap_set0,List.getElem?_cons_succ,List.set_cons_succ,List.cons_append,flat_SS,look_Sg,hg,Option.map_some,Option.getD_some,hms,encLk,Option.isSome_some,Sg.enc]
   refine snd_walk (cs:=[]) wkMt mixed (by kernel_rfl) ?_
   simp -implicitDefEqProofs only[go_sem,ap_get,ap_get0,ap_set,ap_set0,List.getElem?_cons_succ,List.set_cons_succ,List.cons_append,wkMt]
   rw[hms]at hK
   exact⟨kn,sg,ab,_,[],rfl,by simp,hK sg hm⟩
 | none =>
  simp -implicitDefEqProofs only[go_sem,ap_get,ap_get0,ap_set,ap_set0,List.getElem?_cons_succ,List.set_cons_succ,List.cons_append,flat_SS,look_Sg,hg,Option.map_none,Option.getD_none,encLk,Option.isSome_none]
  refine(CLookup u hW.fit cls name).calls (by simp -implicitDefEqProofs only[go_sem]) ?_
  cases hlu:lookU u cls name with
  | none =>
   have hms:mtS u (cls,name)=none:=by simp only[mtS,hlu];rfl
   simp -implicitDefEqProofs only[go_sem,ap_get,ap_get0,ap_set,ap_set0,List.getElem?_cons_succ,List.set_cons_succ,List.cons_append,encDO,Option.isSome_none]
   refine snd_draw (cs:=[]) mixed (by kernel_rfl) ?_
   simp -implicitDefEqProofs only[go_sem,ap_get,ap_get0,ap_set,ap_set0,List.getElem?_cons_succ,List.set_cons_succ,List.cons_append,flat_SS,set_Sg0]
   refine snd_walk (cs:=[]) wkMt mixed (by kernel_rfl) ?_
   simp -implicitDefEqProofs only[go_sem,ap_get,ap_get0,ap_set,ap_set0,List.getElem?_cons_succ,List.set_cons_succ,List.cons_append,wkMt]
   rw[hms]at hK
   have hm':=hm.set (cls,name)
   rw[hms]at hm'
   exact⟨kn,_,ab,_,[],rfl,by simp,hK _ hm'⟩
  | some d =>
   obtain⟨hdm,hd4⟩:=lookU_mem hlu
   obtain⟨un,nd,l,q1,q2,q3,q4,q5⟩:=hW.fn d hdm (.inr hd4)
   have hso:=(hW.gram l (List.mem_of_getElem? q3)).sign nd q4 q5
   have hms:mtS u (cls,name)=some (signR l nd):=by
    simp only[mtS,hlu,Option.map_some,q1,q2,Int.toNat_natCast]
    rw[List.getD_eq_getElem?_getD,q3];rfl
   simp -implicitDefEqProofs only[go_sem,ap_get,ap_get0,ap_set,ap_set0,List.getElem?_cons_succ,List.set_cons_succ,List.cons_append,encDO,Option.isSome_some,Option.getD_some]
   rw[q1,q2]
   refine VPureJ.callsS (Jsign u (tabsU u) ub pre.length q3 hso) (by simp -implicitDefEqProofs only[go_sem]) ?_
   generalize signR l nd=s at hms ⊢
   simp -implicitDefEqProofs only[go_sem,ap_get,ap_get0,ap_set,ap_set0,List.getElem?_cons_succ,List.set_cons_succ,List.cons_append,Sg.enc]
   refine snd_draw (cs:=[]) mixed (by kernel_rfl) ?_
   simp -implicitDefEqProofs only[go_sem,ap_get,ap_get0,ap_set,ap_set0,List.getElem?_cons_succ,List.set_cons_succ,List.cons_append,flat_SS,set_Sg1]
   refine snd_walk (cs:=[]) wkMt mixed (by kernel_rfl) ?_
   simp -implicitDefEqProofs only[go_sem,ap_get,ap_get0,ap_set,ap_set0,List.getElem?_cons_succ,List.set_cons_succ,List.cons_append,wkMt]
   rw[hms]at hK
   have hm':=hm.set (cls,name)
   rw[hms]at hm'
   exact⟨kn,_,ab,_,[],rfl,by simp,hK _ hm'⟩
theorem look_Ab{ab:AbM}{c:ByteArray}{K:V→Prop}:vLookF env 29 (findV .string (.str c) (encAb ab) 0) true K=K (.tuple [((getM ab c).map fun l=>sl 9 (l.map encTx)).getD (.slice .nil 0 []),.bool (getM ab c).isSome]) :=
 lookS_M (E:=env) (ve:=fun l:List ByteArray=>sl 9 (l.map encTx)) (k:=c) (by kernel_rfl) (by kernel_rfl)
theorem set_Ab{ab:AbM}{c:ByteArray}{l:List ByteArray}{h:List VObj}{id:Nat}{L:List VObj→Prop}:vSetF h id (encAb ab) (.str c) (sl 9 (l.map encTx)) (findV .string (.str c) (encAb ab) 0) L=L (h.set id (.map (encAb (setM ab c l)))) :=
 setS_M (ve:=fun l:List ByteArray=>sl 9 (l.map encTx)) (k:=c) (v:=l)
theorem Tsupers(u:List Un)(hW:CkW u)(ub:List Us)(pre:List VObj)(D:List ((Int×Int)×(Int×Int)))(kn:KnM)(sg:SgM)(ab:AbM)(z:List VObj)(a:List Nat)(cls:ByteArray)(hm:Memo (supU u) ab){K:Cont}
  (hK:∀ ab',Memo (supU u) ab'→K (sl 9 ((supU u cls).map encTx)) (pre++ck4 D kn sg ab' z) a) :
  VCalls env 147 [.fptr (ckF u (tabsU u) ub pre.length),.str cls] (pre++ck4 D kn sg ab z) a K:=by
 refine VCalls.tidyCk ?_
 refine vcalls_vc (fn:=Tryz.f147) Tryz.func147 rfl (by rw[Tryz.ntmps147];simp) ?_
 simp -implicitDefEqProofs only[go_sem,Tryz.f147,ck4,ap_get,ap_get0,ap_set,ap_set0,List.getElem?_cons_succ,List.set_cons_succ,List.cons_append,look_Ab]
 cases hg:getM ab cls with
 | some l =>
  have hl:=hm _ _ hg
  subst hl
  refine⟨fun h=>(by cases h),fun _=>⟨kn,sg,ab,[],[],by simp,by simp,?_,?_⟩⟩
  ·simp only[Option.map_some,Option.getD_some]
   simp -implicitDefEqProofs only[go_sem]
  ·simp only[Option.map_some,Option.getD_some]
   simp -implicitDefEqProofs only[go_sem]
   exact hK ab hm
 | none =>
  refine⟨fun _=>?_,fun h=>(by cases h)⟩
  refine(CSupers u hW.fit cls).calls (by simp -implicitDefEqProofs only[go_sem]) ?_
  simp -implicitDefEqProofs only[go_sem,ap_get,ap_get0,ap_set,ap_set0,List.getElem?_cons_succ,List.set_cons_succ,List.cons_append,set_Ab]
  exact⟨kn,sg,_,[],[],by simp[ck4],by simp,hK _ (hm.set cls)⟩
end Go.Proofs.YtamednbojpnalaaGreatDoor
set_option maxRecDepth 20000
namespace Go.Proofs.YtamednbojpnalaaGreatDoor
open Go Go.Vg Go.Proofs
def tI:ByteArray:=⟨#[105,110,116]⟩
def tB:ByteArray:=⟨#[98,111,111,108]⟩
def rwK(tb:List (List Rw))(k:Int×Int):Rw:=rwAt (tb.getD k.1.toNat []) k.2.toNat
def kdK(tb:List (List Rw))(k:Int×Int)(j:Nat):Int×Int:=(k.1,(kdAt (tb.getD k.1.toNat []) k.2.toNat j:Nat))
def rcT(s:ByteArray):ByteArray:=if s=tI∨s=tB then⟨#[]⟩else s
def varB(tb:List (List Rw))(r:Int×Int→ByteArray)(d:Int×Int):ByteArray:=if(rwK tb d).kind=4 then(rwK tb (kdK tb d 0)).text else if(rwK tb d).kind=10 then r (kdK tb d 0)else if(rwK tb d).kind=9 then shownR (tb.getD d.1.toNat []) (tb.getD d.1.toNat []).length (kdAt (tb.getD d.1.toNat []) d.2.toNat 0)else⟨#[]⟩
def tyB(tb:List (List Rw))(D:List ((Int×Int)×(Int×Int)))(mt:ByteArray×ByteArray→Option Sg)(r:Int×Int→ByteArray)(k:Int×Int):ByteArray :=
 if(rwK tb k).kind=17 then tI else if(rwK tb k).kind=18 then tB
 else if(rwK tb k).kind=19 then(match getM D k with | some d=>varB tb r d | none=>⟨#[]⟩)
 else if(rwK tb k).kind=20 then(match getM D k with | some d=>(signR (tb.getD d.1.toNat []) d.2.toNat).result | none=>⟨#[]⟩)
 else if(rwK tb k).kind=21 then(match mt (rcT (r (kdK tb k 0)),(rwK tb k).text)with | some s=>s.result | none=>⟨#[]⟩)
 else if(rwK tb k).kind=22 then(rwK tb k).text
 else if(rwK tb k).kind=23 then(match funR (tb.getD k.1.toNat []) k.2.toNat with | some p=>clsR (tb.getD k.1.toNat []) p | none=>⟨#[]⟩)
 else if(rwK tb k).kind=24∨(rwK tb k).kind=25 then opT (rwK tb k).text
 else if(rwK tb k).kind=26 then r (kdK tb k 0)else⟨#[]⟩
def tyN(tb:List (List Rw))(D:List ((Int×Int)×(Int×Int)))(mt:ByteArray×ByteArray→Option Sg):Nat→Int×Int→ByteArray
 | 0,_=>⟨#[]⟩
 | f+1,k=>tyB tb D mt (tyN tb D mt f) k
def tgt(tb:List (List Rw))(D:List ((Int×Int)×(Int×Int)))(k q:Int×Int):Prop :=
 (((rwK tb k).kind=21∨(rwK tb k).kind=26)∧q=kdK tb k 0)∨((rwK tb k).kind=19∧∃ d,getM D k=some d∧(rwK tb d).kind=10∧q=kdK tb d 0)
theorem tyB_congr{tb:List (List Rw)}{D:List ((Int×Int)×(Int×Int))}{mt:ByteArray×ByteArray→Option Sg}{r r':Int×Int→ByteArray}{k:Int×Int}(h:∀ q,tgt tb D k q→r q=r' q):tyB tb D mt r k=tyB tb D mt r' k:=by
 unfold tyB
 by_cases h19:(rwK tb k).kind=19
 ·rw[if_neg (by omega),if_neg (by omega),if_pos h19,if_neg (by omega),if_neg (by omega),if_pos h19]
  cases hd:getM D k with
  | none=>rfl
  | some d =>
   simp only
   unfold varB
   by_cases h10:(rwK tb d).kind=10
   ·rw[if_neg (by omega),if_pos h10,if_neg (by omega),if_pos h10]
    exact h _ (.inr ⟨h19,d,hd,h10,rfl⟩)
   ·rw[if_neg h10,if_neg h10]
 ·by_cases h21:(rwK tb k).kind=21
  ·have:=h _ (.inl ⟨.inl h21,rfl⟩)
   simp[h21,this]
  ·by_cases h26:(rwK tb k).kind=26
   ·have:=h _ (.inl ⟨.inr h26,rfl⟩)
    simp[h26,this]
   ·simp only[h19,h21,h26,if_false]
def Val(tb:List (List Rw))(k:Int×Int):Prop:=∃ (un i:Nat) (l:List Rw),k=((un:Int),(i:Int))∧tb[un]? = some l∧i<l.length
def dclU(u:List Un):List ((Int×Int)×(Int×Int)):=dmapL (usesL (globL (declsU u 0)) (tabsU u) 0)
structure CkT(u:List Un):Prop extends CkW u where
 mu:∃ μ:Int×Int→Nat,∀ k,Val (tabsU u) k→μ k<((tabsU u).getD k.1.toNat []).length∧∀ q,tgt (tabsU u) (dclU u) k q→Val (tabsU u) q∧q.1=k.1∧μ q<μ k
 d19:∀ k d,Val (tabsU u) k→(rwK (tabsU u) k).kind=19∨(rwK (tabsU u) k).kind=11→getM (dclU u) k=some d→Val (tabsU u) d∧((rwK (tabsU u) d).kind=4∨(rwK (tabsU u) d).kind=9∨(rwK (tabsU u) d).kind=10)
 d20:∀ k d,Val (tabsU u) k→(rwK (tabsU u) k).kind=20→getM (dclU u) k=some d→Val (tabsU u) d∧(rwK (tabsU u) d).kind=2
def tyS(u:List Un)(k:Int×Int):ByteArray:=tyN (tabsU u) (dclU u) (mtS u) (((tabsU u).getD k.1.toNat []).length+1) k
theorem tyN_stable{u:List Un}{μ:Int×Int→Nat}(hμ:∀ k,Val (tabsU u) k→μ k<((tabsU u).getD k.1.toNat []).length∧∀ q,tgt (tabsU u) (dclU u) k q→Val (tabsU u) q∧q.1=k.1∧μ q<μ k) :
  ∀ (f:Nat) (k:Int×Int),Val (tabsU u) k→μ k<f→tyN (tabsU u) (dclU u) (mtS u) f k=tyN (tabsU u) (dclU u) (mtS u) (f+1) k:=by
 intro f
 induction f with
 | zero=>intro k _ h;omega
 | succ f ih =>
  intro k hk h
  rw[tyN,tyN]
  refine tyB_congr fun q hq=>?_
  obtain⟨h1,h2,h3⟩:=(hμ k hk).2 q hq
  exact ih q h1 (by omega)
theorem tyN_any{u:List Un}{μ:Int×Int→Nat}(hμ:∀ k,Val (tabsU u) k→μ k<((tabsU u).getD k.1.toNat []).length∧∀ q,tgt (tabsU u) (dclU u) k q→Val (tabsU u) q∧q.1=k.1∧μ q<μ k)
  {k:Int×Int} (hk:Val (tabsU u) k) {f:Nat} (h:((tabsU u).getD k.1.toNat []).length≤f):tyN (tabsU u) (dclU u) (mtS u) f k=tyS u k:=by
 have key:∀ n f,μ k<f→tyN (tabsU u) (dclU u) (mtS u) (f+n) k=tyN (tabsU u) (dclU u) (mtS u) f k:=by
  intro n
  induction n with
  | zero=>intro f _;rfl
  | succ n ih=>intro f hf;rw[←Nat.add_assoc,←tyN_stable hμ _ k hk (by omega),ih f hf]
 have hm:=(hμ k hk).1
 have h1:=key (f - ((tabsU u).getD k.1.toNat []).length) ((tabsU u).getD k.1.toNat []).length hm
 have h2:=key 1 ((tabsU u).getD k.1.toNat []).length hm
 rw[show((tabsU u).getD k.1.toNat []).length+(f - ((tabsU u).getD k.1.toNat []).length)=f by omega]at h1
 rw[h1,←h2];rfl
theorem tyS_eq{u:List Un}(hT:CkT u){k:Int×Int}(hk:Val (tabsU u) k):tyS u k=tyB (tabsU u) (dclU u) (mtS u) (tyS u) k:=by
 obtain⟨μ,hμ⟩:=hT.mu
 show tyB _ _ _ (tyN _ _ _ _) k=_
 refine tyB_congr fun q hq=>?_
 obtain⟨h1,h2,h3⟩:=(hμ k hk).2 q hq
 exact tyN_any hμ h1 (by rw[h2];exact Nat.le_refl _)
end Go.Proofs.YtamednbojpnalaaGreatDoor
