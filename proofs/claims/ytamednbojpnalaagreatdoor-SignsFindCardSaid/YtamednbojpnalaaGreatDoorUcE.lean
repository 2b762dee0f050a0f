/- Following the classes of a project: methods, subclasses, checks. -/
import Derived.Test.YtamednbojpnalaaGreatDoorVgSh
import Derived.Test.YtamednbojpnalaaGreatDoorVgEw
import Derived.Shelf.Sort.Plain
import Derived.Shelf.Slices.In.SortNone2
import Derived.Test.YtamednbojpnalaaGreatDoorVgFr
set_option linter.unusedVariables false
set_option linter.unusedSimpArgs false
set_option maxRecDepth 20000
namespace Go.Vg
def supP(B:List (ByteArray×ByteArray))(cls:ByteArray):List ByteArray×ByteArray:=supB B cls (B.length+1) [] ((getB B cls).getD ⟨#[]⟩)
theorem supB_len(B:List (ByteArray×ByteArray))(cls:ByteArray):∀ (f:Nat) (out:List ByteArray) (next:ByteArray),(supB B cls f out next).1.length≤out.length+f
 | 0,out,next=>by simp[supB]
 | f+1,out,next=>by
  rw[supB]
  split
  ·simp
  ·have:=supB_len B cls f (out++[next]) ((getB B next).getD ⟨#[]⟩)
   simp only[List.length_append,List.length_singleton]at this
   omega
theorem supP_len(B:List (ByteArray×ByteArray))(cls:ByteArray):(supP B cls).1.length≤B.length+1:=by
 have:=supB_len B cls (B.length+1) [] ((getB B cls).getD ⟨#[]⟩)
 simpa[supP]using this
theorem tellA_app:∀ {a y:List Nat},tellA a (a++y)
 | [],[]=>trivial
 | [],_::_=>trivial
 | x::r,y=>⟨rfl,tellA_app⟩
theorem cat_get{α:Type}{l:List α}{x:α}{y:List α}:(l++x::y)[l.length]? = some x:=by simp
theorem cat_set{α:Type}{l:List α}{x z:α}{y:List α}:(l++x::y).set l.length z=l++z::y:=by simp
end Go.Vg
namespace Go.Proofs.YtamednbojpnalaaGreatDoor
open Go Go.Vg Go.Proofs
theorem CsupersG(B:List (ByteArray×ByteArray))(nm ds:V)(p b m:Nat)(h:List VObj)(a:List Nat)(cls:ByteArray)(hp:h[p]? = some (.cells [nm,.map b,.map m,ds]))(hb:h[b]? = some (.map (mapB B)))(hB:B.length≤1000000)(hnm:nm.some? = true)(hds:ds.some? = true){K:Cont}
  (hK:K (.tuple [sl 9 ((supP B cls).1.map encTx),.str (supP B cls).2]) h a):VCalls env 102 [.ptr p 0,.str cls] h a K:=by
 refine VCalls.tidy0 ?_
 have hbl:=lt_of_get hb
 have hpl:=lt_of_get hp
 refine vcalls_vc (fn:=Tryz.f102) Tryz.func102 rfl (by rw[Tryz.ntmps102];simp) ?_
 simp -implicitDefEqProofs only[go_sem,Tryz.f102,look_B,hp_get hp,hp_get hb,hp,hb]
 generalize hgo:supP B cls=goal at hK
 have hfin:∀ out next n z,supP B cls=(out,next)→(∃ z',h++z=h++z')∧(∃ y,a++[n]=a++y)∧K (.tuple [sl 9 (out.map encTx),.str next]) h a:=by
  intro out next n z e
  rw[hgo]at e
  subst e
  exact⟨⟨_,rfl⟩,⟨_,rfl⟩,hK⟩
 refine snd_for (α:=List ByteArray×ByteArray) (fun s=>⟨[(8,.str s.2),(7,.map h.length),(6,.slice (.arr a.length) 9 (s.1.map encTx)),(5,.str ⟨#[]⟩),(4,.slice .nil 0 []),(0,.ptr p 0),(1,.str cls)],
   h++[.map (seenM (cls::s.1))],a++[s.1.length]⟩)
  (fun s=>supB B cls (B.length+1 - s.1.length) s.1 s.2=goal∧s.1.Nodup∧∀ x∈s.1,(getB B x).isSome=true) (fun s=>B.length+1 - s.1.length) ([],(getB B cls).getD ⟨#[]⟩) ?_ ⟨by simpa[supP]using hgo,by simp,by simp⟩ ?_
 ·simp -implicitDefEqProofs only[go_sem]
  exact⟨by omega,rfl,tellA_app⟩
 ·rintro⟨out,next⟩ ⟨i1,i2,i3⟩
  simp only at i1 i2 i3
  have hle:out.length≤B.length:=by
   have:=pigeon out (B.map (·.1)) i2 fun x hx=>getB_mem (i3 x hx)
   simpa using this
  obtain⟨f,hf⟩:∃ f,B.length+1 - out.length=f+1:=⟨B.length - out.length,by omega⟩
  rw[hf,supB]at i1
  simp -implicitDefEqProofs only[go_sem,look_B,look_B2,look_S,hp_get hp,hp_get hb,hp,hb,cat_get,cat_set]
  have hstop:(decide (next=⟨#[]⟩) || !(getB B next).isSome || (cls::out).any fun x=>decide (x=next))=true→supP B cls=(out,next):=fun h=>by
   rw[if_pos h]at i1;rw[hgo,←i1]
  refine⟨fun h1=>⟨fun h2=>⟨fun h3=>hfin _ _ _ _ (hstop (by simp[h3])),fun h3=>?_⟩,fun h2=>hfin _ _ _ _ (hstop (by simp[h2]))⟩,fun h1=>hfin _ _ _ _ (hstop (by simp[h1]))⟩
  have hsm:(getB B next).isSome=true:=by simpa using h2
  have hc:¬ (decide (next=⟨#[]⟩) || !(getB B next).isSome || (cls::out).any fun x=>decide (x=next))=true:=by
   rw[h3,h2];simp[h1]
  rw[if_neg hc]at i1
  rw[set_S h3]
  simp -implicitDefEqProofs only[go_sem,look_B,hp_get hp,hp_get hb,hp,hb,cat_get,cat_set]
  have hno:next ∉ out:=fun hm=>by
   have:((cls::out).any fun x=>decide (x=next))=true:=by simp;exact .inr hm
   rw[h3]at this;cases this
  refine⟨by omega,(out++[next],(getB B next).getD ⟨#[]⟩),by simp;omega,⟨?_,?_,?_⟩,⟨rfl,by simp[encTx]⟩,rfl,by simp only[List.length_append,List.length_singleton];simp -implicitDefEqProofs only[go_sem]⟩
  ·have:B.length+1 - (out++[next]).length=f:=by simp;omega
   simp only[this];exact i1
  ·simp only[]
   rw[List.nodup_append]
   exact⟨i2,by simp,fun x hx y hy=>by simp at hy;subst hy;rintro rfl;exact hno hx⟩
  ·intro x hx
   rcases List.mem_append.1 hx with h | h
   ·exact i3 x h
   ·simp at h;subst h;exact hsm
def lookL(B:List (ByteArray×ByteArray))(M:List Dl)(cls name:ByteArray):Option Dl:=(cls::(supP B cls).1).findSome? fun s=>M.find? fun d=>decide (s=d.owner) && decide (name=d.name)
theorem look_M{M:List Dl}{o n:ByteArray}{K:V→Prop}:vLookF env 61 (findA [0,0] [.str o,.str n] (mapM M) 0) true K=K (encDO (M.find? fun d=>decide (o=d.owner) && decide (n=d.name))):=by
 have key:∀ (M:List Dl) (i:Nat),(∃ j e,findA [0,0] [.str o,.str n] (mapM M) i=some (some (j,.agg (Dl.enc e)))∧(M.find? fun d=>decide (o=d.owner) && decide (n=d.name))=some e)∨(findA [0,0] [.str o,.str n] (mapM M) i=some none∧(M.find? fun d=>decide (o=d.owner) && decide (n=d.name))=none):=by
  intro M
  induction M with
  | nil=>exact fun i => .inr ⟨rfl,rfl⟩
  | cons e r ih =>
   intro i
   have heq:Vg.eqL [V.str o,V.str n] [V.str e.owner,V.str e.name]=some (decide (o=e.owner) && decide (n=e.name)):=by
    simp only[Vg.eqL,eq1,Bool.and_true]
   have h1:findA [0,0] [.str o,.str n] (mapM (e::r)) i=if(decide (o=e.owner) && decide (n=e.name))=true then some (some (i,.agg e.enc))else findA [0,0] [.str o,.str n] (mapM r) (i+1):=by
    simp only[mapM,List.map_cons,findA,heq]
    have hf:fits [0,0] [V.str o,V.str n] [V.str e.owner,V.str e.name]=true:=rfl
    rw[if_pos hf]
    cases (decide (o=e.owner) && decide (n=e.name)) <;> rfl
   rw[h1,List.find?_cons]
   by_cases h:(decide (o=e.owner) && decide (n=e.name))=true
   ·exact .inl ⟨i,_,by rw[if_pos h],by rw[h]⟩
   ·rw[if_neg h]
    have:(decide (o=e.owner) && decide (n=e.name))=false:=by simpa using h
    rw[this]
    exact ih (i+1)
 rcases key M 0 with⟨j,e,h1,h2⟩ | ⟨h1,h2⟩
 ·rw[h1,h2];simp -implicitDefEqProofs only[go_sem,encDO];rfl
 ·rw[h1,h2];simp -implicitDefEqProofs only[go_sem,encDO,zero_Dl];rfl
theorem ClookupG(B:List (ByteArray×ByteArray))(M:List Dl)(nm ds:V)(p b m:Nat)(h:List VObj)(a:List Nat)(cls name:ByteArray)(hp:h[p]? = some (.cells [nm,.map b,.map m,ds]))(hb:h[b]? = some (.map (mapB B)))(hm:h[m]? = some (.map (mapM M)))
  (hB:B.length≤1000000) (hnm:nm.some? = true) (hds:ds.some? = true) {K:Cont} (hK:K (encDO (lookL B M cls name)) h a) :
  VCalls env 204 [.ptr p 0,.str cls,.str name] h a K:=by
 refine VCalls.tidy0 ?_
 refine vcalls_vc (fn:=Tryz.f204) Tryz.func204 rfl (by rw[Tryz.ntmps204];simp) ?_
 simp -implicitDefEqProofs only[go_sem,Tryz.f204]
 refine CsupersG B nm ds p b m _ _ cls (hp_get hp) (hp_get hb) hB hnm hds ?_
 simp -implicitDefEqProofs only[go_sem]
 have hlook:lookL B M cls name=(cls::(supP B cls).1).findSome? fun s=>M.find? fun d=>decide (s=d.owner) && decide (name=d.name):=rfl
 have hll:(cls::(supP B cls).1).length≤B.length+2:=by have:=supP_len B cls;simp only[List.length_cons];omega
 generalize(supP B cls).1=ch at hlook hll ⊢
 obtain⟨L,hL⟩:∃ L,L=cls::ch:=⟨_,rfl⟩
 rw[←hL]at hlook hll
 refine⟨by rw[hL,List.length_cons]at hll;omega,fun h0=>?_,fun h0 _=>?_⟩
 ·have hch:ch=[]:=by simpa using h0
  subst hch
  obtain⟨y,hy⟩:∃ y:List Nat,y=[]:=⟨_,rfl⟩
  refine snd_list (β:=List VObj) L (fun pre zz=>⟨[(25,.int .i64 pre.length),(24,.int .i64 L.length),(23,sl 9 (L.map encTx)),(7,.bool false),(6,.ptr h.length 0),(0,.ptr p 0),(2,.str name)],
   h ++ .cells [.int .i64 0,.str ⟨#[]⟩,.str ⟨#[]⟩,.int .i64 0,.int .i64 0]::zz,a++y⟩)
   (fun pre post _=>lookL B M cls name=post.findSome? fun s=>M.find? fun d=>decide (s=d.owner) && decide (name=d.name)) [] ?_ hlook ?_ ?_
  ·rw[hL]
   simp -implicitDefEqProofs only[go_sem]
   rw[hy]
   exact⟨⟨rfl,rfl⟩,tellA_app,by simp,.inl (by simp)⟩
  ·intro zz he
   simp -implicitDefEqProofs only[go_sem,cat_get]
   rw[he]at hK
   exact⟨⟨_,rfl⟩,⟨_,rfl⟩,hK⟩
  ·rintro pre s post zz hx he
   have hpl:L.length=pre.length+1+post.length:=by rw[hx];simp;omega
   have hgx:(L.map encTx).getD (pre.length:Int).toNat []=encTx s:=by rw[hx];simp[List.getD_eq_getElem?_getD]
   have hlt:((pre.length:Int)<L.length)=True:=by simp;omega
   have hw:IntKind.i64.wrap (↑pre.length+1)=↑(pre.length+1):=wrap_next (by omega)
   rw[List.findSome?_cons]at he
   simp -implicitDefEqProofs only[go_sem,hgx,hlt,encTx,flat_method,look_M,encDO,hp_get hp,hp_get hm,hp,hm,cat_get,cat_set,List.append_assoc,List.getElem?_cons_succ,List.getElem?_concat_length,List.set_cons_succ,List.cons_append]
   cases hf:M.find? (fun d=>decide (s=d.owner) && decide (name=d.name))with
   | some e =>
    rw[hf]at he
    rw[he]at hK
    exact⟨fun _=>⟨⟨_,rfl⟩,⟨_,rfl⟩,hK⟩,fun h=>(by cases h)⟩
   | none =>
    rw[hf]at he
    exact⟨fun h=>(by cases h),fun _=>⟨_,he,hw,tellH_refl,by simp,.inl (by simp)⟩⟩
 ·refine fun _=>?_
  obtain⟨y,hy⟩:∃ y:List Nat,y=[1+ch.length]:=⟨_,rfl⟩
  refine snd_list (β:=List VObj) L (fun pre zz=>⟨[(25,.int .i64 pre.length),(24,.int .i64 L.length),(23,sl 9 (L.map encTx)),(7,.bool false),(6,.ptr h.length 0),(0,.ptr p 0),(2,.str name)],
   h ++ .cells [.int .i64 0,.str ⟨#[]⟩,.str ⟨#[]⟩,.int .i64 0,.int .i64 0]::zz,a++y⟩)
   (fun pre post _=>lookL B M cls name=post.findSome? fun s=>M.find? fun d=>decide (s=d.owner) && decide (name=d.name)) [] ?_ hlook ?_ ?_
  ·rw[hL]
   simp -implicitDefEqProofs only[go_sem]
   rw[hy]
   exact⟨⟨rfl,rfl⟩,by simp -implicitDefEqProofs only[go_sem],by simp,.inl (by simp)⟩
  ·intro zz he
   simp -implicitDefEqProofs only[go_sem,cat_get]
   rw[he]at hK
   exact⟨⟨_,rfl⟩,⟨_,rfl⟩,hK⟩
  ·rintro pre s post zz hx he
   have hpl:L.length=pre.length+1+post.length:=by rw[hx];simp;omega
   have hgx:(L.map encTx).getD (pre.length:Int).toNat []=encTx s:=by rw[hx];simp[List.getD_eq_getElem?_getD]
   have hlt:((pre.length:Int)<L.length)=True:=by simp;omega
   have hw:IntKind.i64.wrap (↑pre.length+1)=↑(pre.length+1):=wrap_next (by omega)
   rw[List.findSome?_cons]at he
   simp -implicitDefEqProofs only[go_sem,hgx,hlt,encTx,flat_method,look_M,encDO,hp_get hp,hp_get hm,hp,hm,cat_get,cat_set,List.append_assoc,List.getElem?_cons_succ,List.getElem?_concat_length,List.set_cons_succ,List.cons_append]
   cases hf:M.find? (fun d=>decide (s=d.owner) && decide (name=d.name))with
   | some e =>
    rw[hf]at he
    rw[he]at hK
    exact⟨fun _=>⟨⟨_,rfl⟩,⟨_,rfl⟩,hK⟩,fun h=>(by cases h)⟩
   | none =>
    rw[hf]at he
    exact⟨fun h=>(by cases h),fun _=>⟨_,he,hw,tellH_refl,by simp,.inl (by simp)⟩⟩
def lookU(u:List Un)(cls name:ByteArray):Option Dl:=lookL (basesL (btU u) (declsU u 0)) (methL (declsU u 0)) cls name
theorem bs_sh(k ka:Nat):∀ B:List (ByteArray×ByteArray),(mapB B).map (fun p=>(p.1.sh k ka,p.2.sh k ka))=mapB B
 | []=>rfl
 | x::r=>by
  have:=bs_sh k ka r
  simp only[mapB,List.map_cons]at this ⊢
  rw[this];rfl
theorem ms_sh(k ka:Nat):∀ M:List Dl,(mapM M).map (fun p=>(p.1.sh k ka,p.2.sh k ka))=mapM M
 | []=>rfl
 | x::r=>by
  have:=ms_sh k ka r
  simp only[mapM,List.map_cons]at this ⊢
  rw[this];rfl
theorem names_pure:∀ B:List (ByteArray×ByteArray),pureLL (B.map fun p=>[V.str p.1])=true
 | []=>rfl
 | x::r=>by show(pureL _ && pureLL _)=true;rw[names_pure r];rfl
theorem CnewG(u:List Un)(hu:fitU u){h:List VObj}{a:List Nat}{K:Cont}
  (hK:K (.ptr (h.length+2) 0) (h++[.map (mapB (basesL (btU u) (declsU u 0))),.map (mapM (methL (declsU u 0))),.cells [.slice (.arr a.length) 9 ((basesL (btU u) (declsU u 0)).map fun p=>[.str p.1]),.map h.length,.map (h.length+1),sl 61 ((declsU u 0).map Dl.enc)]]) (a++[(basesL (btU u) (declsU u 0)).length])) :
  VCalls env 100 [sl 34 (u.map Un.enc)] h a K:=by
 refine VCalls.shift (cargs:=[sl 34 (u.map Un.enc)]) (by simp -implicitDefEqProofs only[go_sem];exact uns_pure _) (VCalls.toE (E:=env) (E':=env.alive) rfl rfl rfl (fun _=>Iff.rfl) (fun _ _ h=>h) (Cnew u hu)) (by simp -implicitDefEqProofs only[go_sem]) ?_
 rintro v h0 a0 ⟨rfl,rfl,rfl⟩
 refine⟨by simp[VObj.whole],?_⟩
 simp only[List.map_cons,List.map_nil,VObj.sh,bs_sh,ms_sh,V.sh,shL]
 rw[shLL_pure _ _ _ (names_pure _),V.sh_pure _ _ (sl 61 ((declsU u 0).map Dl.enc)) (by simp -implicitDefEqProofs only[go_sem];exact dls_pure _)]
 exact hK
theorem CLookup(u:List Un)(hu:fitU u)(cls name:ByteArray):VPure env 152 [sl 34 (u.map Un.enc),.str cls,.str name] (encDO (lookU u cls name)):=by
 have hdl:=declsU_len u 0 fun y hy=>(hu.2 y hy).1
 have hul:=hu.1
 have hbl:=basesL_len (btU u) (declsU u 0)
 refine vpure_vc (fn:=Tryz.f152) Tryz.func152 rfl (by rw[Tryz.ntmps152];simp) (by simp -implicitDefEqProofs only[go_sem];exact uns_pure _) (by simp -implicitDefEqProofs only[go_sem,encDO]) ?_
 simp -implicitDefEqProofs only[go_sem,Tryz.f152]
 refine CnewG u hu ?_
 simp -implicitDefEqProofs only[go_sem]
 refine ClookupG _ (methL (declsU u 0)) _ _ _ _ _ _ _ cls name rfl rfl rfl (by omega) (by rfl) (by rfl) ?_
 simp -implicitDefEqProofs only[go_sem,encDO]
 rfl
end Go.Proofs.YtamednbojpnalaaGreatDoor
namespace Go.Vg
def VObj.isVec:VObj→Bool
 | .vec .. => true
 | _=>false
def accV(e:TypeId)(n0 m0:Nat)(z:List VObj)(y:List Nat)(v:V)(l:List (List V)):Prop :=
 (l=[]∧∃ e0,v = .slice .nil e0 [])∨(l≠[]∧∃ j k gen,v = .vec (n0+j) (m0+k) gen l.length e∧z[j]? = some (.vec (m0+k) gen e l.flatten)∧y[k]? = some gen)
theorem accV.nil{e n0 m0 e0:Nat}{z:List VObj}{y:List Nat}:accV e n0 m0 z y (.slice .nil e0 []) [] := .inl ⟨rfl,e0,rfl⟩
def Kept(z z':List VObj):Prop:=∀ (i:Nat) ob,z[i]? = some ob→ob.isVec=false→z'[i]? = some ob
theorem Kept.refl{z:List VObj}:Kept z z:=fun _ _ h _=>h
end Go.Vg
set_option maxRecDepth 20000
namespace Go.Vg
end Go.Vg
namespace Go.Proofs.YtamednbojpnalaaGreatDoor
open Go Go.Vg Go.Proofs Go.Shelf Go.RowKit Go.Sort
end Go.Proofs.YtamednbojpnalaaGreatDoor
set_option maxRecDepth 20000
namespace Go.Vg
end Go.Vg
namespace Go.Proofs.YtamednbojpnalaaGreatDoor
open Go Go.Vg Go.Proofs
theorem enc_len{l:List ByteArray}:∀ el∈l.map encTx,el.length=(envV 29).P.cellsOf 9:=by
 intro el h
 obtain⟨x,_,rfl⟩:=List.mem_map.1 h
 have hc:Tryz.prog.cellsOf 9=1:=by kernel_rfl
 rw[show(envV 29).P=Tryz.prog from rfl,hc];rfl
end Go.Proofs.YtamednbojpnalaaGreatDoor
set_option maxRecDepth 20000
namespace Go.Vg
def sameD(d e:Dl):Bool:=decide (d.kind=e.kind) && (decide (d.owner=e.owner) && decide (d.name=e.name))
def isCM(d:Dl):Bool:=decide (d.kind=2) || decide (d.kind=4)
def firstRep:List Dl→List Dl→Option Dl
 | _,[]=>none
 | acc,d::r=>if isCM d=true then if(acc.any (sameD d))=true then some d else firstRep (acc++[d]) r else firstRep acc r
def noBase(u:List Un)(B:List (ByteArray×ByteArray))(d:Dl):Bool:=decide (d.kind=2) && (!decide (btU u d=⟨#[]⟩) && !(getB B (btU u d)).isSome)
def inRing(B:List (ByteArray×ByteArray))(d:Dl):Bool:=decide (d.kind=2) && (!decide ((supP B d.name).2=⟨#[]⟩) && decide ((supP B d.name).2=d.name))
def baU(u:List Un)(d:Dl):Int:=match u[d.unit.toNat]? with
 | some x=>match(nodes x.tree)[d.node.toNat]? with
  | some n=>(baseL n.kids (d.node+1)).2
  | none=>0
 | none=>0
def clsChk(u:List Un)(l:List Dl):Int×Int×Int:=match firstRep [] l with
 | some d=>(6,d.unit,d.node)
 | none=>match l.find? (noBase u (basesL (btU u) l))with
  | some d=>(9,d.unit,baU u d)
  | none=>match l.find? (inRing (basesL (btU u) l))with
   | some d=>(10,d.unit,d.node)
   | none=>(0,0,0)
abbrev KD:=Int×ByteArray×ByteArray
def keyD(k:KD):List V:=[.int .i64 k.1,.str k.2.1,.str k.2.2,.int .i64 0,.int .i64 0]
theorem keyD_ok:KeyA [1,0,0,1,1] keyD:=by
 refine⟨fun a b=>rfl,fun a b=>?_⟩
 obtain⟨a1,a2,a3⟩:=a
 obtain⟨b1,b2,b3⟩:=b
 simp only[keyD,eqL,eq1,if_true,Bool.and_true,Option.some.injEq,decide_true]
 rw[Bool.eq_iff_iff]
 simp
theorem setM_new{κ β:Type}[DecidableEq κ]{k:κ}{v:β}:∀ {M:List (κ×β)},getM M k=none→setM M k v=M++[(k,v)]
 | [],_=>rfl
 | p::r,h=>by
  rw[getM]at h
  split at h
  ·cases h
  ·rename_i hk
   rw[setM,if_neg hk,setM_new h];rfl
def seenD(l:List Dl):List (KD×Unit):=l.map fun d=>((d.kind,d.owner,d.name),())
def encSD(l:List Dl):List (V×V):=encM (fun a => .agg (keyD a)) (fun _:Unit => .bool true) (seenD l)
theorem get_seenD(d:Dl):∀ l:List Dl,(getM (seenD l) (d.kind,d.owner,d.name)).isSome=l.any (sameD d)
 | []=>rfl
 | e::r=>by
  show(getM (((e.kind,e.owner,e.name),())::seenD r) (d.kind,d.owner,d.name)).isSome=_
  rw[getM,List.any_cons]
  by_cases h:(d.kind,d.owner,d.name)=(e.kind,e.owner,e.name)
  ·rw[if_pos h]
   have:sameD d e=true:=by
    simp only[Prod.mk.injEq]at h
    simp[sameD,h]
   rw[this];rfl
  ·rw[if_neg h,get_seenD d r]
   have:sameD d e=false:=by
    simp only[Prod.mk.injEq]at h
    cases hs:sameD d e with
    | false=>rfl
    | true =>
     simp only[sameD,Bool.and_eq_true,decide_eq_true_eq]at hs
     exact absurd hs h
   rw[this,Bool.false_or]
def encE(p:Int×Int×Int):V := .tuple [.int .i64 p.1,.agg [.int .i64 p.2.1,.int .i64 p.2.2]]
end Go.Vg
namespace Go.Proofs.YtamednbojpnalaaGreatDoor
open Go Go.Vg Go.Proofs
theorem flat_Dl:flatK Tryz.prog 61=some [1,0,0,1,1]:=by kernel_rfl
theorem look_SD{acc:List Dl}{d:Dl}{K:V→Prop}:vLookF env 4 (findA [1,0,0,1,1] [.int .i64 d.kind,.str d.owner,.str d.name,.int .i64 0,.int .i64 0] (encSD acc) 0) false K=K (.bool (acc.any (sameD d))):=by
 have h:=lookA_M1 (E:=env) (et:=4) (ve:=fun _:Unit=>V.bool true) (z := .bool false) keyD_ok (M:=seenD acc) (k:=((d.kind,d.owner,d.name):KD)) (K:=K) (by kernel_rfl) (by kernel_rfl)
 have e:vLookF env 4 (findA [1,0,0,1,1] [.int .i64 d.kind,.str d.owner,.str d.name,.int .i64 0,.int .i64 0] (encSD acc) 0) false K=_:=h
 rw[e,←get_seenD d acc]
 cases getM (seenD acc) (d.kind,d.owner,d.name) <;> rfl
theorem set_SD{acc:List Dl}{d:Dl}{h:List VObj}{id:Nat}{L:List VObj→Prop}(hn:acc.any (sameD d)=false):vSetF h id (encSD acc) (.agg [.int .i64 d.kind,.str d.owner,.str d.name,.int .i64 0,.int .i64 0]) (.bool true) (findA [1,0,0,1,1] [.int .i64 d.kind,.str d.owner,.str d.name,.int .i64 0,.int .i64 0] (encSD acc) 0) L=L (h.set id (.map (encSD (acc++[d])))):=by
 have h1:getM (seenD acc) (d.kind,d.owner,d.name)=none:=by
  have:=get_seenD d acc
  rw[hn]at this
  cases hg:getM (seenD acc) (d.kind,d.owner,d.name)with
  | none=>rfl
  | some v=>rw[hg]at this;cases this
 have h2:encSD (acc++[d])=encM (fun a => .agg (keyD a)) (fun _:Unit => .bool true) (setM (seenD acc) (d.kind,d.owner,d.name) ()):=by
  rw[setM_new h1,encSD,seenD,List.map_append];rfl
 rw[h2]
 exact setA_M (ve:=fun _:Unit=>V.bool true) keyD_ok (M:=seenD acc) (k:=((d.kind,d.owner,d.name):KD)) (v:=())
theorem ltP_SD(k ka:Nat)(acc:List Dl):ltP k ka (encSD acc)=true:=ltP_enc (fun _=>rfl) (fun _=>rfl) k ka _
theorem Ccheck(u:List Un)(hu:fitU u):VPure env 74 [sl 34 (u.map Un.enc)] (encE (clsChk u (declsU u 0))):=by
 have hdl:=declsU_len u 0 fun y hy=>(hu.2 y hy).1
 have hul:=hu.1
 have hbl:=basesL_len (btU u) (declsU u 0)
 have hat:∀ d∈declsU u 0,_:=fun d hd=>declsU_at u 0 d hd
 refine vpure_vc (fn:=Tryz.f74) Tryz.func74 rfl (by rw[Tryz.ntmps74];simp) (by simp -implicitDefEqProofs only[go_sem];exact uns_pure _) (by simp -implicitDefEqProofs only[go_sem,encE]) ?_
 simp -implicitDefEqProofs only[go_sem,Tryz.f74]
 refine CnewG u hu ?_
 simp -implicitDefEqProofs only[go_sem]
 intro _ _
 have hBB:=basesL_len (btU u) (declsU u 0)
 generalize hdd:declsU u 0=dl at hat hdl hbl ⊢
 generalize hB:basesL (btU u) dl=B at hbl ⊢
 obtain⟨goal,hgoal⟩:∃ g,clsChk u dl=g:=⟨_,rfl⟩
 rw[hgoal]
 have hg1:=hgoal
 unfold clsChk at hg1
 rw[hB]at hg1
 refine snd_list (β:=List Dl) dl (fun pre acc=>⟨[(27,.int .i64 pre.length),(26,.int .i64 dl.length),(25,sl 61 (dl.map Dl.enc)),(5,.map 4),(4,.ptr 3 0),(3,.ptr 0 0),(2,.int .i64 0),(0,sl 34 (u.map Un.enc))],
   [.cells [.int .i64 0,.int .i64 0],.map (mapB B),.map (mapM (methL dl)),.cells [.slice (.arr 0) 9 (B.map fun p=>[V.str p.1]),.map 1,.map 2,sl 61 (dl.map Dl.enc)],.map (encSD acc)],[B.length]⟩)
  (fun pre post acc=>firstRep [] dl=firstRep acc post) [] ?_ rfl ?_ ?_
 ·simp -implicitDefEqProofs only[go_sem]
  exact⟨rfl,rfl⟩
 ·intro acc he
  simp -implicitDefEqProofs only[go_sem]
  intro _ _
  rw[he,firstRep]at hg1
  simp only at hg1
  refine snd_list (β:=Unit) dl (fun pre _=>⟨[(59,.int .i64 pre.length),(58,.int .i64 dl.length),(57,sl 61 (dl.map Dl.enc)),(4,.ptr 3 0),(3,.ptr 0 0),(2,.int .i64 0),(0,sl 34 (u.map Un.enc))],
    [.cells [.int .i64 0,.int .i64 0],.map (mapB B),.map (mapM (methL dl)),.cells [.slice (.arr 0) 9 (B.map fun p=>[V.str p.1]),.map 1,.map 2,sl 61 (dl.map Dl.enc)]],[B.length]⟩)
   (fun pre post _=>dl.find? (noBase u B)=post.find? (noBase u B)) () ?_ rfl ?_ ?_
  ·simp -implicitDefEqProofs only[go_sem]
   rw[ltP_B,ltP_M,lt_names,ltLL_pure _ _ _ (uns_pure u),ltLL_pure _ _ _ (dls_pure dl)]
   exact⟨rfl,.inr ⟨rfl,rfl⟩⟩
  ·intro _ he2
   rw[he2,List.find?_nil]at hg1
   simp only at hg1
   simp -implicitDefEqProofs only[go_sem]
   intro _ _
   refine snd_list (β:=Unit) dl (fun pre _=>⟨[(101,.int .i64 pre.length),(100,.int .i64 dl.length),(99,sl 61 (dl.map Dl.enc)),(4,.ptr 3 0),(3,.ptr 0 0),(2,.int .i64 0)],
     [.cells [.int .i64 0,.int .i64 0],.map (mapB B),.map (mapM (methL dl)),.cells [.slice (.arr 0) 9 (B.map fun p=>[V.str p.1]),.map 1,.map 2,sl 61 (dl.map Dl.enc)]],[B.length]⟩)
    (fun pre post _=>dl.find? (inRing B)=post.find? (inRing B)) () ?_ rfl ?_ ?_
   ·simp -implicitDefEqProofs only[go_sem]
    rfl
   ·intro _ he3
    rw[he3,List.find?_nil]at hg1
    simp only at hg1
    simp -implicitDefEqProofs only[go_sem]
    rw[←hg1];rfl
   ·rintro pre d post _ hx he3
    have hpl:dl.length=pre.length+1+post.length:=by rw[hx];simp;omega
    have hgx:(dl.map Dl.enc).getD (pre.length:Int).toNat []=d.enc:=by rw[hx];simp[List.getD_eq_getElem?_getD]
    have hlt:((pre.length:Int)<dl.length)=True:=by simp;omega
    have hw:IntKind.i64.wrap (↑pre.length+1)=↑(pre.length+1):=wrap_next (by omega)
    have hdp:=ltLL_pure 4 1 _ (dls_pure dl)
    rw[List.find?_cons]at he3
    have hir:inRing B d=(decide (d.kind=2) && (!decide ((supP B d.name).2=⟨#[]⟩) && decide ((supP B d.name).2=d.name))):=rfl
    simp -implicitDefEqProofs only[go_sem,hgx,hlt]
    refine⟨fun h2=>?_,fun h2=>?_⟩
    ·have h2':¬ d.kind=2:=by simpa using h2
     have:inRing B d=false:=by rw[hir,decide_eq_false h2',Bool.false_and]
     rw[this]at he3
     rw[ltP_B,ltP_M,lt_names,hdp]
     exact⟨(),he3,hw,.inr ⟨rfl,rfl⟩⟩
    ·have h2':d.kind=2:=by simpa using h2
     rw[decide_eq_true h2',Bool.true_and]at hir
     refine CsupersG B _ _ 3 1 2 _ _ d.name rfl rfl (by omega) (by rfl) (by rfl) ?_
     simp -implicitDefEqProofs only[go_sem]
     generalize(supP B d.name).2=en at hir ⊢
     have hno:inRing B d=false→(∃ b:Unit,dl.find? (inRing B)=post.find? (inRing B)∧IntKind.i64.wrap (↑pre.length+1)=↑(pre.length+1)∧(False∨(ltP 4 1 (mapB B) && (ltP 4 1 (mapM (methL dl)) && (ltLL 4 1 (List.map (fun p=>[V.str p.fst]) B) && ltLL 4 1 (List.map Dl.enc dl))))=true∧ltLL 4 1 (List.map Dl.enc dl)=true)):=fun h=>by
      rw[h]at he3
      rw[ltP_B,ltP_M,lt_names,hdp]
      exact⟨(),he3,hw,.inr ⟨rfl,rfl⟩⟩
     refine⟨fun hen=>⟨fun hed=>?_,fun hed=>hno (by rw[hir,decide_eq_false hed,Bool.and_false])⟩,fun hen=>hno (by rw[hir,hen,Bool.false_and])⟩
     have:inRing B d=true:=by rw[hir,hen,decide_eq_true hed];rfl
     rw[this]at he3
     rw[he3]at hg1
     refine snd_draw (cs:=[]) mixed (by kernel_rfl) ?_
     simp -implicitDefEqProofs only[go_sem]
     rw[←hg1];rfl
  ·rintro pre d post _ hx he2
   have hpl:dl.length=pre.length+1+post.length:=by rw[hx];simp;omega
   have hgx:(dl.map Dl.enc).getD (pre.length:Int).toNat []=d.enc:=by rw[hx];simp[List.getD_eq_getElem?_getD]
   have hlt:((pre.length:Int)<dl.length)=True:=by simp;omega
   have hw:IntKind.i64.wrap (↑pre.length+1)=↑(pre.length+1):=wrap_next (by omega)
   have hup:=ltLL_pure 4 1 _ (uns_pure u)
   have hdp:=ltLL_pure 4 1 _ (dls_pure dl)
   obtain⟨un,x,e1,e2,e3,nd,n,e4,e5,e6,e7,e8⟩:=hat d (by rw[hx];simp)
   rw[List.find?_cons]at he2
   have hnb:noBase u B d=(decide (d.kind=2) && (!decide (btU u d=⟨#[]⟩) && !(getB B (btU u d)).isSome)):=rfl
   simp -implicitDefEqProofs only[go_sem,hgx,hlt]
   refine⟨fun h2=>?_,fun h2=>?_⟩
   ·have h2':¬ d.kind=2:=by simpa using h2
    have:noBase u B d=false:=by rw[hnb,decide_eq_false h2',Bool.false_and]
    rw[this]at he2
    rw[ltP_B,ltP_M,lt_names,hdp,hup]
    exact⟨(),he2,hw,.inr ⟨rfl,rfl⟩⟩
   ·have h2':d.kind=2:=by simpa using h2
    rw[decide_eq_true h2',Bool.true_and]at hnb
    have hxm:x∈u:=List.mem_of_getElem? e2
    have hnm:n∈nodes x.tree:=List.mem_of_getElem? e5
    have hnl:=nodes_le x.tree n hnm
    have hxl:=(hu.2 x hxm).1
    have hbs:=Cbase u hu un nd x n e2 e5 (fun kk hk=>by
     obtain⟨k,t,g,ks⟩:=n
     have:=kid_nodes (k:=k) (t:=t) (g:=g) (ks:=ks) (x:=kk) hk;omega) (by
     obtain⟨k,t,g,ks⟩:=n
     have:=kids_nodes ks
     rw[nodes_mk]at hnl
     simp only[Nd.kids];omega)
    have hb:(baseL n.kids (nd+1)).1.text=btU u d:=by
     unfold btU
     rw[e1,e4]
     simp only[Nat.zero_add,Int.toNat_natCast,e2,e5]
     rw[baseL_fst n.kids (nd+1) 0]
    have hba:(baseL n.kids (nd+1)).2=baU u d:=by
     unfold baU
     rw[e1,e4]
     simp only[Nat.zero_add,Int.toNat_natCast,e2,e5]
    rw[e1,e4,Nat.zero_add,Nat.zero_add]
    refine hbs.calls (by simp -implicitDefEqProofs only[go_sem]) ?_
    generalize baseL n.kids (nd+1)=bb at hb hba ⊢
    obtain⟨⟨bk,bx,bg,bks⟩,bi⟩:=bb
    replace hb:bx=btU u d:=hb
    replace hba:bi=baU u d:=hba
    simp -implicitDefEqProofs only[go_sem,hb,hba,look_B2]
    refine snd_draw (cs:=[]) mixed (by kernel_rfl) ?_
    simp -implicitDefEqProofs only[go_sem,hb,hba,look_B2]
    have hno:noBase u B d=false→(∃ b:Unit,dl.find? (noBase u B)=post.find? (noBase u B)∧IntKind.i64.wrap (↑pre.length+1)=↑(pre.length+1)∧(False∨(ltP 4 1 (mapB B) && (ltP 4 1 (mapM (methL dl)) && (ltLL 4 1 (List.map (fun p=>[V.str p.1]) B) && ltLL 4 1 (List.map Dl.enc dl))))=true∧(ltLL 4 1 (List.map Dl.enc dl) && ltLL 4 1 (List.map Un.enc u))=true)):=fun h=>by
     rw[h]at he2
     rw[ltP_B,ltP_M,lt_names,hdp,hup]
     exact⟨(),he2,hw,.inr ⟨rfl,rfl⟩⟩
    refine⟨fun hen=>⟨fun hed=>?_,fun hed=>hno (by rw[hnb,hed,Bool.and_false])⟩,fun hen=>hno (by rw[hnb,hen,Bool.false_and])⟩
    have:noBase u B d=true:=by rw[hnb,hen,hed];rfl
    rw[this]at he2
    rw[he2]at hg1
    refine snd_draw (cs:=[]) mixed (by kernel_rfl) ?_
    simp -implicitDefEqProofs only[go_sem]
    rw[←hg1];rfl
 ·rintro pre d post acc hx he
  have hpl:dl.length=pre.length+1+post.length:=by rw[hx];simp;omega
  have hgx:(dl.map Dl.enc).getD (pre.length:Int).toNat []=d.enc:=by rw[hx];simp[List.getD_eq_getElem?_getD]
  have hlt:((pre.length:Int)<dl.length)=True:=by simp;omega
  have hw:IntKind.i64.wrap (↑pre.length+1)=↑(pre.length+1):=wrap_next (by omega)
  rw[firstRep]at he
  have hup:=ltLL_pure 5 1 _ (uns_pure u)
  have hdp:=ltLL_pure 5 1 _ (dls_pure dl)
  by_cases hcm:isCM d=true
  ·have hk:d.kind=2∨d.kind=4:=by simpa[isCM]using hcm
   rw[if_pos hcm]at he
   have hlk:=@look_SD acc d
   have hst:=@set_SD acc d
   rcases hk with hk | hk
   all_goals(
    rw[hk]at hlk hst
    simp -implicitDefEqProofs only[go_sem,hgx,hlt,flat_Dl,hk,hlk]
    refine⟨fun ha=>?_,fun ha=>?_⟩
    ·rw[if_pos ha]at he
     rw[he]at hg1
     refine snd_draw (cs:=[]) mixed (by kernel_rfl) ?_
     simp -implicitDefEqProofs only[go_sem]
     rw[←hg1];rfl
    ·rw[if_neg (by rw[ha];simp)]at he
     have hst':=fun h id L=>@hst h id L ha
     simp -implicitDefEqProofs only[go_sem,hgx,hlt,flat_Dl,hk,hst']
     refine⟨_,he,hw,rfl,.inr ?_⟩
     rw[ltP_B,ltP_M,lt_names,hdp,hup,ltP_SD]
     exact⟨rfl,rfl⟩)
  ·rw[if_neg hcm]at he
   have hk:¬ d.kind=2∧¬ d.kind=4:=by simpa[isCM]using hcm
   simp -implicitDefEqProofs only[go_sem,hgx,hlt,flat_Dl,hk.1,hk.2]
   refine⟨_,he,hw,rfl,.inr ?_⟩
   rw[ltP_B,ltP_M,lt_names,hdp,hup,ltP_SD]
   exact⟨rfl,rfl⟩
end Go.Proofs.YtamednbojpnalaaGreatDoor
