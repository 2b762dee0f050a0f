/- Following the classes of a project: methods, subclasses, checks. -/
import Derived.Test.YtighfcpaplmaiaaGreatDoorVgSh
import Derived.Test.YtighfcpaplmaiaaGreatDoorVgY
import Derived.Test.YtighfcpaplmaiaaGreatDoorVgOrd
import Derived.Shelf.Sort.Plain
import Derived.Shelf.Slices.In.SortNone2
set_option linter.unusedVariables false
set_option linter.unusedSimpArgs false
set_option maxRecDepth 20000
namespace Go.Vg
def supP(B:List (ByteArray×ByteArray))(cls:ByteArray):List ByteArray×ByteArray:=supB B cls (B.length+1) [] ((getB B cls).getD ⟨#[]⟩)
theorem supB_len(B:List (ByteArray×ByteArray))(cls:ByteArray):∀ (f:Nat) (out:List ByteArray) (next:ByteArray),(supB B cls f out next).1.length≤out.length+f
 | 0,out,next=>by simp[supB]
 | f+1,out,next=>by
  rw[supB]
  split
  ·simp
  ·have:=supB_len B cls f (out++[next]) ((getB B next).getD ⟨#[]⟩)
   simp only[List.length_append,List.length_singleton]at this
   omega
theorem supP_len(B:List (ByteArray×ByteArray))(cls:ByteArray):(supP B cls).1.length≤B.length+1:=by
 have:=supB_len B cls (B.length+1) [] ((getB B cls).getD ⟨#[]⟩)
 simpa[supP]using this
theorem tellA_app:∀ {a y:List Nat},tellA a (a++y)
 | [],[]=>trivial
 | [],_::_=>trivial
 | x::r,y=>⟨rfl,tellA_app⟩
theorem cat_get{α:Type}{l:List α}{x:α}{y:List α}:(l++x::y)[l.length]? = some x:=by simp
theorem cat_set{α:Type}{l:List α}{x z:α}{y:List α}:(l++x::y).set l.length z=l++z::y:=by simp
end Go.Vg
namespace Go.Proofs.YtighfcpaplmaiaaGreatDoor
open Go Go.Vg Go.Proofs
theorem CsupersG(B:List (ByteArray×ByteArray))(nm ds:V)(p b m:Nat)(h:List VObj)(a:List Nat)(cls:ByteArray)(hp:h[p]? = some (.cells [nm,.map b,.map m,ds]))(hb:h[b]? = some (.map (mapB B)))(hB:B.length≤1000000)(hnm:nm.some? = true)(hds:ds.some? = true){K:Cont}
  (hK:K (.tuple [sl 9 ((supP B cls).1.map encTx),.str (supP B cls).2]) h a):VCalls env 63 [.ptr p 0,.str cls] h a K:=by
 refine VCalls.tidy0 ?_
 have hbl:=lt_of_get hb
 have hpl:=lt_of_get hp
 refine vcalls_vc (fn:=Tryz.f63) Tryz.func63 rfl (by rw[Tryz.ntmps63];simp) ?_
 simp -implicitDefEqProofs only[go_sem,Tryz.f63,look_B,hp_get hp,hp_get hb,hp,hb]
 generalize hgo:supP B cls=goal at hK
 have hfin:∀ out next n z,supP B cls=(out,next)→(∃ z',h++z=h++z')∧(∃ y,a++[n]=a++y)∧K (.tuple [sl 9 (out.map encTx),.str next]) h a:=by
  intro out next n z e
  rw[hgo]at e
  subst e
  exact⟨⟨_,rfl⟩,⟨_,rfl⟩,hK⟩
 refine snd_for (α:=List ByteArray×ByteArray) (fun s=>⟨[(8,.str s.2),(7,.map h.length),(6,.slice (.arr a.length) 9 (s.1.map encTx)),(5,.str ⟨#[]⟩),(4,.slice .nil 0 []),(0,.ptr p 0),(1,.str cls)],
   h++[.map (seenM (cls::s.1))],a++[s.1.length]⟩)
  (fun s=>supB B cls (B.length+1 - s.1.length) s.1 s.2=goal∧s.1.Nodup∧∀ x∈s.1,(getB B x).isSome=true) (fun s=>B.length+1 - s.1.length) ([],(getB B cls).getD ⟨#[]⟩) ?_ ⟨by simpa[supP]using hgo,by simp,by simp⟩ ?_
 ·simp -implicitDefEqProofs only[go_sem]
  exact⟨by omega,rfl,tellA_app⟩
 ·rintro⟨out,next⟩ ⟨i1,i2,i3⟩
  simp only at i1 i2 i3
  have hle:out.length≤B.length:=by
   have:=pigeon out (B.map (·.1)) i2 fun x hx=>getB_mem (i3 x hx)
   simpa using this
  obtain⟨f,hf⟩:∃ f,B.length+1 - out.length=f+1:=⟨B.length - out.length,by omega⟩
  rw[hf,supB]at i1
  simp -implicitDefEqProofs only[go_sem,look_B,look_B2,look_S,hp_get hp,hp_get hb,hp,hb,cat_get,cat_set]
  have hstop:(decide (next=⟨#[]⟩) || !(getB B next).isSome || (cls::out).any fun x=>decide (x=next))=true→supP B cls=(out,next):=fun h=>by
   rw[if_pos h]at i1;rw[hgo,←i1]
  refine⟨fun h1=>⟨fun h2=>⟨fun h3=>hfin _ _ _ _ (hstop (by simp[h3])),fun h3=>?_⟩,fun h2=>hfin _ _ _ _ (hstop (by simp[h2]))⟩,fun h1=>hfin _ _ _ _ (hstop (by simp[h1]))⟩
  have hsm:(getB B next).isSome=true:=by simpa using h2
  have hc:¬ (decide (next=⟨#[]⟩) || !(getB B next).isSome || (cls::out).any fun x=>decide (x=next))=true:=by
   rw[h3,h2];simp[h1]
  rw[if_neg hc]at i1
  rw[set_S h3]
  simp -implicitDefEqProofs only[go_sem,look_B,hp_get hp,hp_get hb,hp,hb,cat_get,cat_set]
  have hno:next ∉ out:=fun hm=>by
   have:((cls::out).any fun x=>decide (x=next))=true:=by simp;exact .inr hm
   rw[h3]at this;cases this
  refine⟨by omega,(out++[next],(getB B next).getD ⟨#[]⟩),by simp;omega,⟨?_,?_,?_⟩,⟨rfl,by simp[encTx]⟩,rfl,by simp only[List.length_append,List.length_singleton];simp -implicitDefEqProofs only[go_sem]⟩
  ·have:B.length+1 - (out++[next]).length=f:=by simp;omega
   simp only[this];exact i1
  ·simp only[]
   rw[List.nodup_append]
   exact⟨i2,by simp,fun x hx y hy=>by simp at hy;subst hy;rintro rfl;exact hno hx⟩
  ·intro x hx
   rcases List.mem_append.1 hx with h | h
   ·exact i3 x h
   ·simp at h;subst h;exact hsm
def lookL(B:List (ByteArray×ByteArray))(M:List Dl)(cls name:ByteArray):Option Dl:=(cls::(supP B cls).1).findSome? fun s=>M.find? fun d=>decide (s=d.owner) && decide (name=d.name)
theorem look_M{M:List Dl}{o n:ByteArray}{K:V→Prop}:vLookF env 54 (findA [0,0] [.str o,.str n] (mapM M) 0) true K=K (encDO (M.find? fun d=>decide (o=d.owner) && decide (n=d.name))):=by
 have key:∀ (M:List Dl) (i:Nat),(∃ j e,findA [0,0] [.str o,.str n] (mapM M) i=some (some (j,.agg (Dl.enc e)))∧(M.find? fun d=>decide (o=d.owner) && decide (n=d.name))=some e)∨(findA [0,0] [.str o,.str n] (mapM M) i=some none∧(M.find? fun d=>decide (o=d.owner) && decide (n=d.name))=none):=by
  intro M
  induction M with
  | nil=>exact fun i => .inr ⟨rfl,rfl⟩
  | cons e r ih =>
   intro i
   have heq:Vg.eqL [V.str o,V.str n] [V.str e.owner,V.str e.name]=some (decide (o=e.owner) && decide (n=e.name)):=by
    simp only[Vg.eqL,eq1,Bool.and_true]
   have h1:findA [0,0] [.str o,.str n] (mapM (e::r)) i=if(decide (o=e.owner) && decide (n=e.name))=true then some (some (i,.agg e.enc))else findA [0,0] [.str o,.str n] (mapM r) (i+1):=by
    simp only[mapM,List.map_cons,findA,heq]
    have hf:fits [0,0] [V.str o,V.str n] [V.str e.owner,V.str e.name]=true:=rfl
    rw[if_pos hf]
    cases (decide (o=e.owner) && decide (n=e.name)) <;> rfl
   rw[h1,List.find?_cons]
   by_cases h:(decide (o=e.owner) && decide (n=e.name))=true
   ·exact .inl ⟨i,_,by rw[if_pos h],by rw[h]⟩
   ·rw[if_neg h]
    have:(decide (o=e.owner) && decide (n=e.name))=false:=by simpa using h
    rw[this]
    exact ih (i+1)
 rcases key M 0 with⟨j,e,h1,h2⟩ | ⟨h1,h2⟩
 ·rw[h1,h2];simp -implicitDefEqProofs only[go_sem,encDO];rfl
 ·rw[h1,h2];simp -implicitDefEqProofs only[go_sem,encDO,zero_Dl];rfl
theorem ClookupG(B:List (ByteArray×ByteArray))(M:List Dl)(nm ds:V)(p b m:Nat)(h:List VObj)(a:List Nat)(cls name:ByteArray)(hp:h[p]? = some (.cells [nm,.map b,.map m,ds]))(hb:h[b]? = some (.map (mapB B)))(hm:h[m]? = some (.map (mapM M)))
  (hB:B.length≤1000000) (hnm:nm.some? = true) (hds:ds.some? = true) {K:Cont} (hK:K (encDO (lookL B M cls name)) h a) :
  VCalls env 62 [.ptr p 0,.str cls,.str name] h a K:=by
 refine VCalls.tidy0 ?_
 refine vcalls_vc (fn:=Tryz.f62) Tryz.func62 rfl (by rw[Tryz.ntmps62];simp) ?_
 simp -implicitDefEqProofs only[go_sem,Tryz.f62]
 refine CsupersG B nm ds p b m _ _ cls (hp_get hp) (hp_get hb) hB hnm hds ?_
 simp -implicitDefEqProofs only[go_sem]
 have hlook:lookL B M cls name=(cls::(supP B cls).1).findSome? fun s=>M.find? fun d=>decide (s=d.owner) && decide (name=d.name):=rfl
 have hll:(cls::(supP B cls).1).length≤B.length+2:=by have:=supP_len B cls;simp only[List.length_cons];omega
 generalize(supP B cls).1=ch at hlook hll ⊢
 obtain⟨L,hL⟩:∃ L,L=cls::ch:=⟨_,rfl⟩
 rw[←hL]at hlook hll
 refine⟨by rw[hL,List.length_cons]at hll;omega,fun h0=>?_,fun h0 _=>?_⟩
 ·have hch:ch=[]:=by simpa using h0
  subst hch
  obtain⟨y,hy⟩:∃ y:List Nat,y=[]:=⟨_,rfl⟩
  refine snd_list (β:=List VObj) L (fun pre zz=>⟨[(25,.int .i64 pre.length),(24,.int .i64 L.length),(23,sl 9 (L.map encTx)),(7,.bool false),(6,.ptr h.length 0),(0,.ptr p 0),(2,.str name)],
   h ++ .cells [.int .i64 0,.str ⟨#[]⟩,.str ⟨#[]⟩,.int .i64 0,.int .i64 0]::zz,a++y⟩)
   (fun pre post _=>lookL B M cls name=post.findSome? fun s=>M.find? fun d=>decide (s=d.owner) && decide (name=d.name)) [] ?_ hlook ?_ ?_
  ·rw[hL]
   simp -implicitDefEqProofs only[go_sem]
   rw[hy]
   exact⟨⟨rfl,rfl⟩,tellA_app,by simp,.inl (by simp)⟩
  ·intro zz he
   simp -implicitDefEqProofs only[go_sem,cat_get]
   rw[he]at hK
   exact⟨⟨_,rfl⟩,⟨_,rfl⟩,hK⟩
  ·rintro pre s post zz hx he
   have hpl:L.length=pre.length+1+post.length:=by rw[hx];simp;omega
   have hgx:(L.map encTx).getD (pre.length:Int).toNat []=encTx s:=by rw[hx];simp[List.getD_eq_getElem?_getD]
   have hlt:((pre.length:Int)<L.length)=True:=by simp;omega
   have hw:IntKind.i64.wrap (↑pre.length+1)=↑(pre.length+1):=wrap_next (by omega)
   rw[List.findSome?_cons]at he
   simp -implicitDefEqProofs only[go_sem,hgx,hlt,encTx,flat_method,look_M,encDO,hp_get hp,hp_get hm,hp,hm,cat_get,cat_set,List.append_assoc,List.getElem?_cons_succ,List.getElem?_concat_length,List.set_cons_succ,List.cons_append]
   cases hf:M.find? (fun d=>decide (s=d.owner) && decide (name=d.name))with
   | some e =>
    rw[hf]at he
    rw[he]at hK
    exact⟨fun _=>⟨⟨_,rfl⟩,⟨_,rfl⟩,hK⟩,fun h=>(by cases h)⟩
   | none =>
    rw[hf]at he
    exact⟨fun h=>(by cases h),fun _=>⟨_,he,hw,tellH_refl,by simp,.inl (by simp)⟩⟩
 ·refine fun _=>?_
  obtain⟨y,hy⟩:∃ y:List Nat,y=[1+ch.length]:=⟨_,rfl⟩
  refine snd_list (β:=List VObj) L (fun pre zz=>⟨[(25,.int .i64 pre.length),(24,.int .i64 L.length),(23,sl 9 (L.map encTx)),(7,.bool false),(6,.ptr h.length 0),(0,.ptr p 0),(2,.str name)],
   h ++ .cells [.int .i64 0,.str ⟨#[]⟩,.str ⟨#[]⟩,.int .i64 0,.int .i64 0]::zz,a++y⟩)
   (fun pre post _=>lookL B M cls name=post.findSome? fun s=>M.find? fun d=>decide (s=d.owner) && decide (name=d.name)) [] ?_ hlook ?_ ?_
  ·rw[hL]
   simp -implicitDefEqProofs only[go_sem]
   rw[hy]
   exact⟨⟨rfl,rfl⟩,by simp -implicitDefEqProofs only[go_sem],by simp,.inl (by simp)⟩
  ·intro zz he
   simp -implicitDefEqProofs only[go_sem,cat_get]
   rw[he]at hK
   exact⟨⟨_,rfl⟩,⟨_,rfl⟩,hK⟩
  ·rintro pre s post zz hx he
   have hpl:L.length=pre.length+1+post.length:=by rw[hx];simp;omega
   have hgx:(L.map encTx).getD (pre.length:Int).toNat []=encTx s:=by rw[hx];simp[List.getD_eq_getElem?_getD]
   have hlt:((pre.length:Int)<L.length)=True:=by simp;omega
   have hw:IntKind.i64.wrap (↑pre.length+1)=↑(pre.length+1):=wrap_next (by omega)
   rw[List.findSome?_cons]at he
   simp -implicitDefEqProofs only[go_sem,hgx,hlt,encTx,flat_method,look_M,encDO,hp_get hp,hp_get hm,hp,hm,cat_get,cat_set,List.append_assoc,List.getElem?_cons_succ,List.getElem?_concat_length,List.set_cons_succ,List.cons_append]
   cases hf:M.find? (fun d=>decide (s=d.owner) && decide (name=d.name))with
   | some e =>
    rw[hf]at he
    rw[he]at hK
    exact⟨fun _=>⟨⟨_,rfl⟩,⟨_,rfl⟩,hK⟩,fun h=>(by cases h)⟩
   | none =>
    rw[hf]at he
    exact⟨fun h=>(by cases h),fun _=>⟨_,he,hw,tellH_refl,by simp,.inl (by simp)⟩⟩
def lookU(u:List Un)(cls name:ByteArray):Option Dl:=lookL (basesL (btU u) (declsU u 0)) (methL (declsU u 0)) cls name
theorem bs_sh(k ka:Nat):∀ B:List (ByteArray×ByteArray),(mapB B).map (fun p=>(p.1.sh k ka,p.2.sh k ka))=mapB B
 | []=>rfl
 | x::r=>by
  have:=bs_sh k ka r
  simp only[mapB,List.map_cons]at this ⊢
  rw[this];rfl
theorem ms_sh(k ka:Nat):∀ M:List Dl,(mapM M).map (fun p=>(p.1.sh k ka,p.2.sh k ka))=mapM M
 | []=>rfl
 | x::r=>by
  have:=ms_sh k ka r
  simp only[mapM,List.map_cons]at this ⊢
  rw[this];rfl
theorem names_pure:∀ B:List (ByteArray×ByteArray),pureLL (B.map fun p=>[V.str p.1])=true
 | []=>rfl
 | x::r=>by show(pureL _ && pureLL _)=true;rw[names_pure r];rfl
theorem CnewG(u:List Un)(hu:fitU u){h:List VObj}{a:List Nat}{K:Cont}
  (hK:K (.ptr (h.length+2) 0) (h++[.map (mapB (basesL (btU u) (declsU u 0))),.map (mapM (methL (declsU u 0))),.cells [.slice (.arr a.length) 9 ((basesL (btU u) (declsU u 0)).map fun p=>[.str p.1]),.map h.length,.map (h.length+1),sl 54 ((declsU u 0).map Dl.enc)]]) (a++[(basesL (btU u) (declsU u 0)).length])) :
  VCalls env 61 [sl 70 (u.map Un.enc)] h a K:=by
 refine VCalls.shift (cargs:=[sl 70 (u.map Un.enc)]) (by simp -implicitDefEqProofs only[go_sem];exact uns_pure _) (VCalls.toE (E:=env) (E':=env.alive) rfl rfl rfl (fun _=>Iff.rfl) (fun _ _ h=>h) (Cnew u hu)) (by simp -implicitDefEqProofs only[go_sem]) ?_
 rintro v h0 a0 ⟨rfl,rfl,rfl⟩
 refine⟨by simp[VObj.whole],?_⟩
 simp only[List.map_cons,List.map_nil,VObj.sh,bs_sh,ms_sh,V.sh,shL]
 rw[shLL_pure _ _ _ (names_pure _),V.sh_pure _ _ (sl 54 ((declsU u 0).map Dl.enc)) (by simp -implicitDefEqProofs only[go_sem];exact dls_pure _)]
 exact hK
theorem CLookup(u:List Un)(hu:fitU u)(cls name:ByteArray):VPure env 32 [sl 70 (u.map Un.enc),.str cls,.str name] (encDO (lookU u cls name)):=by
 have hdl:=declsU_len u 0 fun y hy=>(hu.2 y hy).1
 have hul:=hu.1
 have hbl:=basesL_len (btU u) (declsU u 0)
 refine vpure_vc (fn:=Tryz.f32) Tryz.func32 rfl (by rw[Tryz.ntmps32];simp) (by simp -implicitDefEqProofs only[go_sem];exact uns_pure _) (by simp -implicitDefEqProofs only[go_sem,encDO]) ?_
 simp -implicitDefEqProofs only[go_sem,Tryz.f32]
 refine CnewG u hu ?_
 simp -implicitDefEqProofs only[go_sem]
 refine ClookupG _ (methL (declsU u 0)) _ _ _ _ _ _ _ cls name rfl rfl rfl (by omega) (by rfl) (by rfl) ?_
 simp -implicitDefEqProofs only[go_sem,encDO]
 rfl
end Go.Proofs.YtighfcpaplmaiaaGreatDoor
namespace Go.Vg
def VObj.isVec:VObj→Bool
 | .vec .. => true
 | _=>false
def accV(e:TypeId)(n0 m0:Nat)(z:List VObj)(y:List Nat)(v:V)(l:List (List V)):Prop :=
 (l=[]∧∃ e0,v = .slice .nil e0 [])∨(l≠[]∧∃ j k gen,v = .vec (n0+j) (m0+k) gen l.length e∧z[j]? = some (.vec (m0+k) gen e l.flatten)∧y[k]? = some gen)
theorem accV.nil{e n0 m0 e0:Nat}{z:List VObj}{y:List Nat}:accV e n0 m0 z y (.slice .nil e0 []) [] := .inl ⟨rfl,e0,rfl⟩
theorem accV.asl{e n0 m0:Nat}{z:List VObj}{y:List Nat}{v:V}{l:List (List V)}(h:accV e n0 m0 z y v l):asList v=false:=by
 rcases h with⟨_,e0,rfl⟩ | ⟨_,j,k,gen,rfl,_⟩ <;> rfl
theorem accV.app{e n0 m0:Nat}{z:List VObj}{y:List Nat}{v:V}{l:List (List V)}(h:accV e n0 m0 z y v l)(z2:List VObj)(y2:List Nat):accV e n0 m0 (z++z2) (y++y2) v l:=by
 rcases h with h | ⟨h1,j,k,gen,h2,h3,h4⟩
 ·exact .inl h
 ·exact .inr ⟨h1,j,k,gen,h2,by rw[List.getElem?_append_left (lt_of_get h3)];exact h3,by rw[List.getElem?_append_left (lt_of_get h4)];exact h4⟩
def Kept(z z':List VObj):Prop:=∀ (i:Nat) ob,z[i]? = some ob→ob.isVec=false→z'[i]? = some ob
theorem Kept.refl{z:List VObj}:Kept z z:=fun _ _ h _=>h
theorem flat_lenV{c:Nat}:∀ {l:List (List V)},(∀ el∈l,el.length=c)→l.flatten.length=l.length * c
 | [],_=>by simp
 | x::r,h=>by
  rw[List.flatten_cons,List.length_append,flat_lenV fun el he=>h el (by simp[he]),h x (by simp),List.length_cons,Nat.add_mul];omega
theorem append_acc{E:Env}{e e':Nat}{o:Own}{h0 z:List VObj}{a0 y:List Nat}{v:V}{l:List (List V)}{x:List V}{K:Cont}(hv:accV e h0.length a0.length z y v l)
  (hlen:∀ el∈l,el.length=E.P.cellsOf e) (hok:elemOK E.P e=true) (hb:(l.length+1) * E.P.bytesOf e≤140737488355328)
  (hK:∀ v' z' y',accV e h0.length a0.length z' y' v' (l++[x])→z.length≤z'.length→Kept z z'→y.length≤y'.length→K v' (h0++z') (a0++y')) :
  vAppVD E (h0++z) (a0++y) (some (.slice e)) (some (.slice e')) v (.slice o e [x]) K:=by
 rcases hv with⟨rfl,e0,rfl⟩ | ⟨h1,j,k,gen,rfl,h3,h4⟩
 ·rw[vAppVD_slice]
  refine⟨⟨by simp,rfl,hok⟩,⟨rfl,.inl rfl,by simpa using hb⟩,?_⟩
  rw[List.append_assoc,List.append_assoc,List.length_append,List.length_append]
  refine hK _ _ _ (.inr ⟨by simp,z.length,y.length,gen0,by simp,?_,by simp⟩) (by simp) (fun i ob hi _=>by rw[List.getElem?_append_left (lt_of_get hi)];exact hi) (by simp)
  simp
 ·have hj:=lt_of_get h3
  have hk:=lt_of_get h4
  have hg:(h0++z)[h0.length+j]? = some (.vec (a0.length+k) gen e l.flatten):=by rw[app_get];exact h3
  rw[vAppVD_vec,hg,vAppVO_same]
  refine⟨⟨by simp,rfl,hok⟩,⟨rfl,rfl,flat_lenV hlen,by simpa using hb⟩,?_⟩
  have e1:(h0++z).set (h0.length+j) (.vec (a0.length+k) (gen+1) e (l.flatten++[x].flatten))=h0++z.set j (.vec (a0.length+k) (gen+1) e (l.flatten++[x].flatten)):=by
   rw[List.set_append_right _ _ (by omega)];congr 2;omega
  have e2:(a0++y).set (a0.length+k) (gen+1)=a0++y.set k (gen+1):=by
   rw[List.set_append_right _ _ (by omega)];congr 2;omega
  rw[e1,e2]
  refine hK _ _ _ (.inr ⟨by simp,j,k,gen+1,by simp,?_,List.getElem?_set_self hk⟩) (by simp) (fun i ob hi hiv=>?_) (by simp)
  ·rw[List.getElem?_set_self hj];simp
  ·by_cases ei:i=j
   ·subst ei;rw[h3]at hi;cases hi;cases hiv
   ·rw[List.getElem?_set_ne (Ne.symm ei)];exact hi
theorem chunk_flat{c:Nat}:∀ {l:List (List V)},(∀ el∈l,el.length=c)→chunk c l.length l.flatten=l
 | [],_=>rfl
 | x::r,h=>by
  have hx:=h x (by simp)
  rw[List.length_cons,chunk,List.flatten_cons,List.take_left' hx,List.drop_left' hx,chunk_flat fun el he=>h el (by simp[he])]
theorem VCalls.accR{E:Env}{f:FuncId}{args:List V}{h:List VObj}{a:List Nat}{K:Cont}
  (hc:VCalls E f args h a fun v h' a'=>∃ z y e l,h'=h++z∧a'=a++y∧accV e h.length a.length z y v l∧elemOK E.P e=true∧(∀ el∈l,el.length=E.P.cellsOf e)∧pureLL l=true∧K (sl e l) h a) :
  VCalls E f args h a K:=by
 refine VCalls.tidy0 fun G w0 w vals hrel ha=>?_
 refine(hc G w0 w vals hrel ha).mono fun e' w' hg=>?_
 rcases hg with⟨val,he,v,heap',arr',G',hv,hx,hr,hrv⟩ | hd
 ·obtain⟨z,y,e,l,rfl,rfl,hacc,hok,hlen,hpl,hK⟩:=hv
  have hps:(share (sl e l)).pure=true:=by
   unfold sl
   cases l with
   | nil=>rfl
   | cons b r=>simpa[share,shareA,share1,sl,V.pure,Own.plain]using hpl
  have hss:share (sl e l)=sl e l:=by cases l <;> rfl
  rcases hacc with⟨rfl,e0,rfl⟩ | ⟨h1,j,k,gen,rfl,h3,h4⟩
  ·refine .inl ⟨val,he,_,_,_,G',⟨⟨z,rfl⟩,⟨y,rfl⟩,hps,?_⟩,hx,hr,hrv.share1⟩
   rw[hss];exact hK
  ·have hg:(h++z)[h.length+j]? = some (.vec (a.length+k) gen e l.flatten):=by rw[app_get];exact h3
   obtain⟨i,zz,hi',hz,hz1,hzs,his,hib,hs1,hb1,hb2⟩:=elemOK_spec hok
   have hlp:0<l.length:=List.length_pos_iff.2 h1
   have hfl:=flat_lenV hlen
   have hpos:0<l.flatten.length:=by rw[hfl];exact Nat.mul_pos hlp hs1
   obtain⟨G'',b,hi,g1,g2,g3,g4,g5⟩:=hr.freezeV hg hpos
   have hth:=hrv.thawV g2 g1 hok (by rw[hfl];exact Nat.le_refl _) g5
   rw[chunk_flat hlen]at hth
   have hj:=lt_of_get h3
   have hk:=lt_of_get h4
   refine .inl ⟨val,he,_,_,_,G'',⟨⟨z.set j .dead,?_⟩,⟨y.set k (gen+1),?_⟩,hps,?_⟩,hx.trans g3,g4,hth⟩
   ·rw[List.set_append_right _ _ (by omega)];congr 2;omega
   ·rw[List.set_append_right _ _ (by omega)];congr 2;omega
   ·rw[hss];exact hK
 ·exact .inr hd
theorem vpure_acc{E:Env}{f:FuncId}{args:List V}{e:TypeId}{l:List (List V)}(hp:pureL args=true)(hpl:pureLL l=true)(hok:elemOK E.P e=true)(hlen:∀ el∈l,el.length=E.P.cellsOf e)
  (h:VCalls E f args [] [] fun v h' a'=>accV e 0 0 h' a' v l) (hal:E.alive=E:=by exact rfl):VPure E f args (sl e l):=by
 refine⟨hp,?_,?_⟩
 ·unfold sl
  cases l with
  | nil=>rfl
  | cons b r=>simpa[V.pure,Own.plain]using hpl
 ·rw[hal]
  refine VCalls.accR (h.mono fun v h' a' hv=>⟨h',a',e,l,rfl,rfl,hv,hok,hlen,hpl,rfl⟩)
end Go.Vg
set_option maxRecDepth 20000
namespace Go.Vg
def sortS(l:List ByteArray):List ByteArray:=l.mergeSort fun a b=>decide (a.data.toList≤b.data.toList)
theorem sortS_perm(l:List ByteArray):(sortS l).Perm l:=List.mergeSort_perm l _
theorem sortS_len(l:List ByteArray):(sortS l).length=l.length:=(sortS_perm l).length_eq
end Go.Vg
namespace Go.Proofs.YtighfcpaplmaiaaGreatDoor
open Go Go.Vg Go.Proofs Go.Shelf Go.RowKit Go.Sort
theorem sortS_data(l:List ByteArray):(sortS l).map (·.data.toList)=(l.map (·.data.toList)).mergeSort fun x y=>decide (x≤y):=by
 unfold sortS
 rw[List.map_mergeSort]
 intro a _ b _
 rfl
theorem strs_flat:∀ l:List ByteArray,(l.map encTx).flatten=l.map V.str
 | []=>rfl
 | x::r=>by simp only[List.map_cons,List.flatten_cons,strs_flat r];rfl
theorem SortStr{h0 z:List VObj}{a0 y:List Nat}{v:V}{l:List ByteArray}{K:Cont}(hv:accV 9 h0.length a0.length z y v (l.map encTx))
  (hK:∀ z',accV 9 h0.length a0.length z' y v ((sortS l).map encTx)→z'.length=z.length→Kept z z'→K (.tuple []) (h0++z') (a0++y)) :
  VCalls (envV 28) 70 [v] (h0++z) (a0++y) K:=by
 intro G w0 w vals hr ha
 obtain⟨u,vs,rfl,hu,ha⟩:=ha.cons
 rw[ha.nil]
 rcases hv with⟨hl,e0,rfl⟩ | ⟨h1,j,k,gen,rfl,h3,h4⟩
 ·have hl':l=[]:=by simpa using hl
  subst hl'
  have hu2:=hu.nil_is.1
  subst hu2
  refine(Any.sort_Strings_none Tryz.lays192 none 0 w).mono ?_
  rintro e w' ⟨rfl,rfl⟩
  exact .inl ⟨_,rfl,_,_,_,G,hK z (.inl ⟨by simp[sortS],e0,rfl⟩) rfl Kept.refl,Ext.refl _ _,hr,.tuple _ _ rfl (by simp)⟩
 ·rw[List.length_map]at hu hK
  rw[strs_flat]at h3
  have hg:(h0++z)[h0.length+j]? = some (.vec (a0.length+k) gen 9 (l.map V.str)):=by rw[app_get];exact h3
  obtain⟨hak,hgg,b,hi,hρ,hch,hcells⟩:=hr.vs.at_ _ _ _ _ _ hg
  cases hu with
  | vec _ _ _ _ _ b' off cap hvv g1 g2 =>
  obtain⟨n,q1,q2,q3⟩:=hvv
  rw[hak]at q1
  cases q1
  obtain⟨b1,hi1,q4,q5,q6,q7,q8⟩:=q3 rfl
  rw[hρ]at q4
  cases q4
  subst q7 q8
  have hce:Tryz.prog.cellsOf 9=1:=by kernel_rfl
  rw[show(envV 28).P=Tryz.prog from rfl,hce,Nat.mul_one]at q5
  subst q5
  have hlp:0<l.length:=by
   rcases Nat.eq_zero_or_pos l.length with h | h
   ·exact absurd (by rw[List.length_eq_zero_iff.1 h];rfl) h1
   ·exact h
  have hhi:0<hi:=by omega
  obtain⟨⟨c,t,hb,hcz⟩,hloose,hFn,hw0⟩:=hr.reg _ b 0 hi hρ hhi
  have hblk:b<w.heap.size:=(Array.getElem?_eq_some_iff.1 hb).1
  have hget:∀ (m:Nat) x,l[m]? = some x→w.cell? ⟨b,m,none⟩=some (.string x)∧x.size≤1152921504606846976:=fun m x hm=>by
   obtain⟨v,r1,r2,r3⟩:=hcells m (.str x) (by rw[List.getElem?_map,hm];rfl)
   cases r2 with
   | str _ hs=>exact⟨r1,hs⟩
  have hH:Holds encStr w b 0 (l.map (·.data.toList)).toArray:=by
   intro m hm
   have hml:m<l.length:=by simpa using hm
   have:=hget m l[m] (List.getElem?_eq_getElem hml)
   rw[Nat.zero_add]
   refine⟨?_,by simp[World.frozen?,hb]⟩
   rw[this.1,getElem!_pos _ m hm]
   simp[encStr]
  have hcall:=Any.sort_Strings Tryz.lays192 b 0 hi (l.map (·.data.toList)) w hH hblk (by rw[List.length_map];omega)
  rw[List.length_map]at hcall
  refine hcall.mono ?_
  rintro e w' ⟨rfl,n,os,rfl⟩
  rw[←sortS_data]
  have hsl:=sortS_len l
  have hmem:∀ x∈sortS l,x.size≤1152921504606846976:=fun x hx=>by
   obtain⟨m,hm,rfl⟩:=List.getElem_of_mem ((sortS_perm l).mem_iff.1 hx)
   exact(hget m _ (List.getElem?_eq_getElem hm)).2
  have hsz2:((sortS l).map (·.data.toList)).toArray.size=l.length:=by simp[hsl]
  obtain⟨hx,hr'⟩:=hr.vecStep2 (gen':=gen) (cs':=(sortS l).map V.str) (w':=putRow encStr (Sort.ahead w n) b 0 ((sortS l).map (·.data.toList)).toArray) (c':=putCells encStr 0 ((sortS l).map (·.data.toList)).toArray c) hg hρ hhi (Nat.le_refl _) hb (by rw[List.length_map,hsl];exact q6) (fun m x hm=>by
    rw[List.getElem?_map]at hm
    obtain⟨s,hs,rfl⟩:=Option.map_eq_some_iff.1 hm
    have hml:=lt_of_get hs
    have hmc:m<c.size:=by omega
    refine⟨.string s,?_,.str _ (hmem s (List.mem_of_getElem? hs)),rfl⟩
    simp only[putCells,Array.getElem?_mapIdx,Array.getElem?_eq_getElem hmc,Option.map_some]
    rw[if_pos ⟨Nat.zero_le _,by rw[hsz2];omega⟩,Nat.sub_zero,getElem!_pos _ m (by rw[hsz2];omega)]
    obtain⟨hm2,rfl⟩:=List.getElem?_eq_some_iff.1 hs
    simp[encStr]) rfl rfl rfl (by simp[putRow,mapBlock,Sort.ahead]) (fun k' hk'=>by
    simp only[putRow,mapBlock,Array.getElem?_modify]
    rw[if_neg (Ne.symm hk')];rfl) (by
    simp only[putRow,mapBlock,Array.getElem?_modify]
    rw[if_pos trivial,show(Sort.ahead w n).heap=w.heap from rfl,hb];rfl) (by simp[putCells]) (fun m hm=>by
    simp only[putCells,Array.getElem?_mapIdx]
    cases hcj:c[m]? with
    | none=>rfl
    | some y =>
     simp only[Option.map_some]
     rw[if_neg]
     intro h
     have:=h.2
     rw[hsz2]at this
     omega)
  have hset:(a0++y).set (a0.length+k) gen=a0++y:=set_same hak
  rw[hset]at hx hr'
  have hst:(h0++z).set (h0.length+j) (.vec (a0.length+k) gen 9 ((sortS l).map V.str))=h0++z.set j (.vec (a0.length+k) gen 9 ((sortS l).map V.str)):=by
   rw[List.set_append_right _ _ (by omega)];congr 2;omega
  rw[hst]at hr'
  have hj:=lt_of_get h3
  refine .inl ⟨_,rfl,_,_,_,G,hK _ (.inr ⟨?_,j,k,gen,?_,?_,h4⟩) (by simp) (fun i ob hi hiv=>?_),hx,hr'.belowW ⟨rfl,rfl,rfl,?_,fun i hi=>?_⟩,.tuple _ _ rfl (by simp)⟩
  ·intro h
   have:=congrArg List.length h
   rw[List.length_map,hsl,List.length_nil]at this
   omega
  ·rw[List.length_map,hsl]
  ·rw[List.getElem?_set_self hj,strs_flat]
  ·by_cases ei:i=j
   ·subst ei;rw[h3]at hi;cases hi;cases hiv
   ·rw[List.getElem?_set_ne (Ne.symm ei)];exact hi
  ·simp[putRow,mapBlock,Sort.ahead]
  ·exact heap_grow_old _ _ hi
end Go.Proofs.YtighfcpaplmaiaaGreatDoor
set_option maxRecDepth 20000
namespace Go.Vg
def subB(B:List (ByteArray×ByteArray))(cls:ByteArray)(p:ByteArray×ByteArray):Bool:=(supP B p.1).1.any fun x=>decide (x=cls)
def subL(B:List (ByteArray×ByteArray))(cls:ByteArray):List ByteArray:=sortS ((B.filter (subB B cls)).map (·.1))
def encNm(p:ByteArray×ByteArray):List V:=[.str p.1]
theorem tell_rfl{N:Nat}{x:V}:tell N x x:=by
 have refl1:∀ x,Vg.tell1 N x x:=fun x=>by
  unfold Vg.tell1
  split <;> simp_all
 have reflL:∀ cs,tellL N cs cs:=fun cs=>by
  induction cs with
  | nil=>trivial
  | cons x r ih=>exact And.intro (refl1 x) ih
 cases x
 case agg cs=>exact reflL cs
 all_goals(unfold tell;first | exact refl1 _ | trivial | simp[Vg.tell1])
end Go.Vg
namespace Go.Proofs.YtighfcpaplmaiaaGreatDoor
open Go Go.Vg Go.Proofs
theorem elem_str:elemOK Tryz.prog 9=true:=by kernel_rfl
theorem enc_len{l:List ByteArray}:∀ el∈l.map encTx,el.length=(envV 28).P.cellsOf 9:=by
 intro el h
 obtain⟨x,_,rfl⟩:=List.mem_map.1 h
 have hc:Tryz.prog.cellsOf 9=1:=by kernel_rfl
 rw[show(envV 28).P=Tryz.prog from rfl,hc];rfl
theorem Csubs(B:List (ByteArray×ByteArray))(o:Own)(ds:V)(p b m:Nat)(h:List VObj)(a:List Nat)(cls:ByteArray)(hp:h[p]? = some (.cells [.slice o 9 (B.map encNm),.map b,.map m,ds]))(hb:h[b]? = some (.map (mapB B)))
  (hB:B.length≤1000000) (hds:ds.some? = true) {K:Cont} (hK:K (sl 9 ((subL B cls).map encTx)) h a) :
  VCalls env 64 [.ptr p 0,.str cls] h a K:=by
 refine VCalls.ofV (tv:=28) (VCalls.accR ?_)
 refine vcalls_vc (fn:=Tryz.f64) Tryz.func64 rfl (by rw[Tryz.ntmps64];simp) ?_
 simp -implicitDefEqProofs only[go_sem,Tryz.f64,hp_get hp,hp]
 intro _ _
 refine snd_list (β:=V×List VObj×List Nat) B (fun pre b=>⟨[(17,.int .i64 pre.length),(16,.int .i64 B.length),(15,sl 9 (B.map encNm)),(5,b.1),(0,.ptr p 0),(1,.str cls)],h++b.2.1,a++b.2.2⟩)
  (fun pre post b=>accV 9 h.length a.length b.2.1 b.2.2 b.1 (((pre.filter (subB B cls)).map (·.1)).map encTx)) (.slice .nil 0 [],[],[]) ?_ accV.nil ?_ ?_
 ·simp -implicitDefEqProofs only[go_sem]
  rfl
 ·rintro⟨v,z,y⟩ hacc
  simp only at hacc ⊢
  simp -implicitDefEqProofs only[go_sem]
  refine SortStr hacc fun z' hacc' _ _=>?_
  simp -implicitDefEqProofs only[go_sem]
  refine⟨z',y,_,_,rfl,rfl,hacc',elem_str,enc_len,strs_pure _,hK⟩
 ·rintro pre x post ⟨v,z,y⟩ hx hacc
  have hpl:B.length=pre.length+1+post.length:=by rw[hx];simp;omega
  have hgx:(B.map encNm).getD (pre.length:Int).toNat []=encNm x:=by rw[hx];simp[List.getD_eq_getElem?_getD]
  have hlt:((pre.length:Int)<B.length)=True:=by simp;omega
  have hw:IntKind.i64.wrap (↑pre.length+1)=↑(pre.length+1):=wrap_next (by omega)
  simp only at hacc ⊢
  have hfl:(pre.filter (subB B cls)).length≤pre.length:=List.length_filter_le _ _
  have hfs:(((pre++[x]).filter (subB B cls)).map (·.1)).map encTx=((pre.filter (subB B cls)).map (·.1)).map encTx++if subB B cls x=true then [encTx x.1]else []:=by
   rw[List.filter_append,List.map_append,List.map_append]
   congr 1
   by_cases hs:subB B cls x=true
   ·simp[List.filter_cons,hs]
   ·simp[List.filter_cons,hs]
  have hsb:subB B cls x=(supP B x.1).1.any fun s=>decide (s=cls):=rfl
  have hbl:(envV 28).P.bytesOf 9=16:=by
   rw[show(envV 28).P=Tryz.prog from rfl];kernel_rfl
  simp -implicitDefEqProofs only[go_sem,hgx,hlt,encNm]
  refine VCalls.toV (CsupersG B _ ds p b m _ _ x.1 (hp_get hp) (hp_get hb) hB (by cases o <;> rfl) hds ?_)
  simp -implicitDefEqProofs only[go_sem]
  intro _ _
  have hchl:=supP_len B x.1
  generalize(supP B x.1).1=ch at hsb hchl ⊢
  refine snd_list (β:=Unit) ch (fun q _=>⟨[(29,.int .i64 q.length),(28,.int .i64 ch.length),(27,sl 9 (ch.map encTx)),(7,.str x.1),(17,.int .i64 pre.length),(16,.int .i64 B.length),(15,sl 9 (B.map encNm)),(5,v),(0,.ptr p 0),(1,.str cls)],h++z,a++y⟩)
   (fun q r _=>subB B cls x=r.any fun s=>decide (s=cls)) () ?_ hsb ?_ ?_
  ·simp -implicitDefEqProofs only[go_sem]
   exact⟨rfl,by simp⟩
  ·intro _ he
   have hsf:subB B cls x=false:=he
   rw[hsf,if_neg (by simp),List.append_nil]at hfs
   simp -implicitDefEqProofs only[go_sem]
   rw[hfs]
   exact⟨(v,z,y),hacc,⟨hw,tell_rfl⟩,tellH_refl,by simp -implicitDefEqProofs only[go_sem],by simp,.inl (by simp)⟩
  ·rintro q s r _ hq he
   have hql:ch.length=q.length+1+r.length:=by rw[hq];simp;omega
   have hgq:(ch.map encTx).getD (q.length:Int).toNat []=encTx s:=by rw[hq];simp[List.getD_eq_getElem?_getD]
   have hltq:((q.length:Int)<ch.length)=True:=by simp;omega
   have hwq:IntKind.i64.wrap (↑q.length+1)=↑(q.length+1):=wrap_next (by omega)
   simp -implicitDefEqProofs only[go_sem,hgq,hltq,encTx,hacc.asl]
   refine⟨fun hsc=>?_,fun hsc=>⟨(),by rw[he,List.any_cons,decide_eq_false hsc,Bool.false_or],hwq,by simp⟩⟩
   have hst:subB B cls x=true:=by rw[he,List.any_cons,decide_eq_true hsc,Bool.true_or]
   rw[hst,if_pos rfl]at hfs
   refine append_acc hacc enc_len elem_str (by rw[hbl,List.length_map,List.length_map];omega) fun v' z' y' hacc' hz1 hz2 hy1=>?_
   simp -implicitDefEqProofs only[go_sem]
   rw[hfs]
   exact⟨(v',z',y'),hacc',⟨hw,tell_rfl⟩,tellH_refl,by simp -implicitDefEqProofs only[go_sem],by simp,.inl (by simp)⟩
end Go.Proofs.YtighfcpaplmaiaaGreatDoor
