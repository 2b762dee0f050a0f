/- Changed signatures, where there is at most one callable. -/
import Derived.Test.YtamednbojpnalaaGreatDoorToL
import Derived.Lib.Join
import Derived.Shelf.GgSortFunc.Tiny
import Derived.Test.YtamednbojpnalaaGreatDoorVgK
import Derived.Test.YtamednbojpnalaaGreatDoorVgW
set_option linter.unusedVariables false
set_option linter.unusedSimpArgs false
set_option maxRecDepth 20000
namespace Go.Proofs.YtamednbojpnalaaGreatDoor
open Go Go.Vg Go.Proofs Go.Shelf Go.RowKit
noncomputable def svT:TypeInfo:=(Tryz.prog.info? 116).get (by kernel_rfl)
noncomputable def svE:TypeInfo:=(Tryz.prog.info? 119).get (by kernel_rfl)
theorem SortTiny{o:Own}{e:TypeId}(es:List (List V))(hl:es.length≤1)(f:Nat)(caps:List V)(h:List VObj)(a:List Nat)(K:Cont)(hK:K (.tuple []) h a):VCalls env 98 [.iface 116 (.slice o e es),.func f caps] h a K:=by
 intro G w0 w vals hr ha
 obtain⟨v,vs,rfl,hv,ha⟩:=ha.cons
 obtain⟨v2,vs,rfl,hv2,ha⟩:=ha.cons
 rw[ha.nil]
 cases hv with
 | iface _ _ x hx =>
 cases hv2 with
 | func _ _ cs h1 h2 =>
 have key:∀ (p:Option Addr) (n c:Nat),n≤1→Calls env.P 98 #[.iface 116 (.slice p n c),.func (.func f) #[] cs] w fun e w'=>Goes env G a w0 K e w':=fun p n c hn=>by
  have hf:∃ g,Tryz.prog.funcs.findIdx? (·.name == "internal/reflectlite" ++ ".Swapper$" ++ toString (Lib.swapperK n svE 25))=some g:=by
   match n,hn with
   | 0,_=>exact Option.isSome_iff_exists.1 (by kernel_rfl)
   | 1,_=>exact Option.isSome_iff_exists.1 (by kernel_rfl)
  obtain⟨g,hf⟩:=hf
  refine(Any.sort_Slice_tiny Tryz.laysGg6 116 119 svT svE (by kernel_rfl) (by kernel_rfl) (by kernel_rfl) (by kernel_rfl) 25 (fun _=>by kernel_rfl) p n c hn g hf (.func f) #[] cs w).mono ?_
  rintro e w' ⟨rfl,os,rfl⟩
  refine .inl ⟨_,rfl,_,_,_,G,hK,Ext.refl _ _,hr.belowW ⟨rfl,rfl,rfl,?_,fun i hi=>?_⟩,.tuple _ _ rfl (by simp)⟩
  ·show w.heap.size≤(w.heap++os).size
   simp
  ·show(w.heap++os)[i]? = w.heap[i]?
   rw[Array.getElem?_append_left hi]
 cases hx with
 | snil=>exact key none 0 0 (by omega)
 | sodd _ b c=>exact key b 0 c (by omega)
 | slice _ _ _ b off cap=>exact key _ es.length cap hl
end Go.Proofs.YtamednbojpnalaaGreatDoor
namespace Go.Vg
def joinC(l:List ByteArray):ByteArray:=⟨(Lib.join (l.map fun x=>x.data.toList) [44,32]).toArray⟩
theorem lens_le:∀ (l:List (List UInt8)) (m:Nat),(∀ x∈l,x.length≤m)→Lib.lens l≤l.length * m
 | [],m,_=>by simp[Lib.lens]
 | x::r,m,h=>by
  have h1:=h x (by simp)
  have h2:=lens_le r m fun y hy=>h y (by simp[hy])
  have e:Lib.lens (x::r)=x.length+Lib.lens r:=by simp[Lib.lens]
  rw[e,List.length_cons,Nat.add_one_mul]
  omega
theorem joinC_size(l:List ByteArray)(h1:∀ p∈l,p.size≤1000000)(h2:l.length≤1000000):(joinC l).size≤2000000000000:=by
 cases l with
 | nil=>simp[joinC,Lib.join,ByteArray.size]
 | cons x r =>
  have:=lens_le ((x::r).map fun x=>x.data.toList) 1000000 fun y hy=>by
   obtain⟨z,hz,rfl⟩:=List.mem_map.1 hy
   have:=h1 z hz
   rw[size_list]at this
   exact this
  unfold joinC
  rw[size_list]
  simp only[List.map_cons]at this ⊢
  rw[Lib.join_length]
  simp only[List.length_cons,List.length_nil,List.length_map]at this h2 ⊢
  omega
end Go.Vg
namespace Go.Proofs.YtamednbojpnalaaGreatDoor
open Go Go.Vg Go.Proofs Go.Shelf Go.RowKit
theorem hjl{xs:List ByteArray}(hs:(joinC xs).size≤2000000000000):(Lib.join (xs.map fun x=>x.data.toList) (⟨#[44,32]⟩:ByteArray).data.toList).length≤140737488355328:=by
 have h:=hs
 unfold joinC at h
 have h2:(Lib.join (xs.map fun x=>x.data.toList) [44,32]).length≤2000000000000:=by simpa[ByteArray.size]using h
 show(Lib.join (xs.map fun x=>x.data.toList) [44,32]).length≤_
 omega
theorem JoinC(xs:List ByteArray)(hl:xs.length≤1000000)(hp:∀ p∈xs,p.size≤1000000):VPure env 137 [sl 9 (xs.map encTx),.str ⟨#[44,32]⟩] (.str (joinC xs)):=by
 have hs:=joinC_size xs hp hl
 refine vpure_shelf (val := .string (joinC xs)) (by simp -implicitDefEqProofs only[go_sem]) rfl (fun G arr => .str _ (by omega)) fun G w0 w vals hr ha=>?_
 obtain⟨v,vs,rfl,hv,ha⟩:=ha.cons
 obtain⟨v2,vs,rfl,hv2,ha⟩:=ha.cons
 rw[ha.nil]
 cases hv2
 rcases texts_of hr cells9 hv with⟨rfl,a,c,rfl⟩ | ⟨b,o,c,rfl,hb,hc,hcell⟩
 ·exact(Tryz.strings_Join_none a c _ w).mono fun e w' ⟨he,hw⟩=>⟨he,hw ▸ Below.refl _ _⟩
 ·exact Tryz.strings_Join b o c xs _ w hcell hb (by omega) hc (hjl hs)
def signS(s:Sg):ByteArray:=⟨#[40]⟩++joinC s.params++⟨#[41,32]⟩++s.result
theorem Swrite(s:Sg)(h1:∀ p∈s.params,p.size≤1000000)(h2:s.params.length≤1000000)(h3:s.result.size≤1000000):VPure env 97 [.agg s.enc] (.str (signS s)):=by
 have hs:=joinC_size s.params h1 h2
 refine vpure_vc (fn:=Tryz.f97) Tryz.func97 rfl (by rw[Tryz.ntmps97];simp) (by simp -implicitDefEqProofs only[go_sem,Sg.enc]) (by simp -implicitDefEqProofs only[go_sem]) ?_
 simp -implicitDefEqProofs only[go_sem,Tryz.f97,Sg.enc]
 refine snd_draw (cs:=[]) mixed (by kernel_rfl) ?_
 simp -implicitDefEqProofs only[go_sem]
 refine vPC_of (JoinC s.params h2 h1) (by simp -implicitDefEqProofs only[go_sem]) ?_
 simp -implicitDefEqProofs only[go_sem]
 simp only[List.size_toArray,List.length_cons,List.length_nil]
 exact⟨by omega,by omega,by omega,rfl⟩
theorem sig_res{u:List Un}(h:sgOK u){o n:ByteArray}{s:Sg}(hs:sigU u o n=some s):s.result.size≤1000000:=by
 unfold sigU ofU at hs
 cases hf:findD (declsU (u.map Un.sound) 0) (kindOf o) o n with
 | none=>rw[hf]at hs;cases hs
 | some d =>
  obtain⟨a1,a2,x,hx,hso⟩:=h.ok o n d hf
  rw[hf]at hs
  simp only[Option.bind_some,hx,Option.map_some,Option.some.injEq]at hs
  subst hs
  have hxm:x∈u.map Un.sound:=List.mem_of_getElem? hx
  have hsh:=((fit_sound h.fit).2 x hxm).2
  exact rw_short hsh _
structure Cb where
 name:ByteArray
 sign:ByteArray
 path:ByteArray
def Cb.enc(x:Cb):List V:=[.str x.name,.str x.sign,.str x.path]
theorem cbs_pure:∀ l:List Cb,pureLL (l.map Cb.enc)=true
 | []=>rfl
 | n::r=>by show(pureL _ && pureLL (r.map Cb.enc))=true;rw[cbs_pure r];rfl
attribute [go_sem] cbs_pure
def nameD(d:Dl):ByteArray:=if d.kind=4 then d.owner++⟨#[46]⟩++d.name else d.name
def pathU(v:List Un)(i:Int):ByteArray:=match v[i.toNat]? with | some x=>x.path | none=>⟨#[]⟩
def addC(v:List Un)(acc:List Cb)(d:Dl):List Cb :=
 if(d.kind=1∨d.kind=4)∧(acc.any fun c=>decide (c.name=nameD d))=false then(match sigU v d.owner d.name with
  | some s=>acc++[⟨nameD d,signS s,pathU v d.unit⟩]
  | none=>acc)else acc
def calL(v:List Un)(dl:List Dl):List Cb:=dl.foldl (addC v) []
theorem addC_len(v:List Un)(acc:List Cb)(d:Dl):(addC v acc d).length≤acc.length+1:=by
 unfold addC
 repeat' split
 all_goals simp
theorem calL_len(v:List Un)(l:List Dl):(calL v l).length≤l.length:=by
 have key:∀ (l:List Dl) (acc:List Cb),(l.foldl (addC v) acc).length≤acc.length+l.length:=by
  intro l
  induction l with
  | nil=>intro acc;simp
  | cons d r ih =>
   intro acc
   have h1:=ih (addC v acc d)
   have h2:=addC_len v acc d
   rw[List.foldl_cons,List.length_cons];omega
 simpa[calL]using key l []
@[go_sem] theorem vMkD_sl{e t:TypeId}{u:V}{M:V→Prop}:vMkD (some (.slice e)) t u M=M (.iface t u):=rfl
theorem ltP_seen{a b:Nat}:∀ l:List ByteArray,ltP a b (seenM l)=true
 | []=>rfl
 | x::r=>ltP_seen r
theorem Scallables(u:List Un)(hu:sgOK u)(hv:sgOK (u.map Un.sound))(hS:∀ d∈declsU (u.map Un.sound) 0,d.owner.size≤1000000∧d.name.size≤1000000)(hl:(calL (u.map Un.sound) (declsU (u.map Un.sound) 0)).length≤1):VPure env 69 [sl 34 (u.map Un.enc)] (sl 119 ((calL (u.map Un.sound) (declsU (u.map Un.sound) 0)).map Cb.enc)):=by
 have hD:=PDecls (u.map Un.sound) hv.fit
 rw[declsPU_eq]at hD
 have hdl:=declsU_len (u.map Un.sound) 0 fun y hy=>(hv.fit.2 y hy).1
 have hul:=hv.fit.1
 refine vpure_vc (fn:=Tryz.f69) Tryz.func69 rfl (by rw[Tryz.ntmps69];simp) (by simp -implicitDefEqProofs only[go_sem];exact uns_pure _) (by simp -implicitDefEqProofs only[go_sem]) ?_
 simp -implicitDefEqProofs only[go_sem,Tryz.f69]
 refine(Ssound u hu.gaps hu.fit.1).calls (by simp -implicitDefEqProofs only[go_sem]) ?_
 simp -implicitDefEqProofs only[go_sem]
 refine hD.calls (by simp -implicitDefEqProofs only[go_sem]) ?_
 simp -implicitDefEqProofs only[go_sem]
 intro _ _
 generalize hvv:u.map Un.sound=v at hv hl hdl hul hS ⊢
 have hat:=declsU_at v 0
 generalize hdd:declsU v 0=dl at hdl hl hS hat ⊢
 refine snd_list (β:=Unit) dl (fun pre _=>⟨[(17,.int .i64 pre.length),(16,.int .i64 dl.length),(15,sl 61 (dl.map Dl.enc)),(5,.map 1),(4,.ptr 0 0),(3,sl 34 (v.map Un.enc)),(2,.slice .nil 0 [])],
   [.cells [.slice (.arr 0) 119 ((calL v pre).map Cb.enc)],.map (seenM ((calL v pre).map Cb.name))],[(calL v pre).length]⟩) (fun _ _ _=>True) () ?_ trivial ?_ ?_
 ·simp -implicitDefEqProofs only[go_sem]
  exact⟨rfl,rfl,rfl⟩
 ·intro _ _
  simp -implicitDefEqProofs only[go_sem]
  refine SortTiny ((calL v dl).map Cb.enc) (by rw[List.length_map];exact hl) _ _ _ _ _ ?_
  simp -implicitDefEqProofs only[go_sem]
 ·rintro pre d post _ hx _
  have hpl:dl.length=pre.length+1+post.length:=by rw[hx];simp;omega
  have hgx:(dl.map Dl.enc).getD (pre.length:Int).toNat []=d.enc:=by rw[hx];simp[List.getD_eq_getElem?_getD]
  have hw:IntKind.i64.wrap (↑pre.length+1)=↑(pre.length+1):=wrap_next (by omega)
  have hlt:((pre.length:Int)<dl.length)=True:=by simp;omega
  have hsz:=hS d (by rw[hx];simp)
  obtain⟨un,x,u1,u2,_,_⟩:=hat d (by rw[hx];simp)
  have hpu:pathU v d.unit=x.path:=by rw[pathU,u1,Nat.zero_add,Int.toNat_natCast,u2]
  have hu0:(d.unit<0)=False:=by simp[u1]
  have hu1:(d.unit<(v.length:Int))=True:=by
   have:=(List.getElem?_eq_some_iff.1 u2).1
   simp[u1];omega
  have hug:(v.map Un.enc).getD d.unit.toNat []=x.enc:=un_getD (by rw[u1,Nat.zero_add,Int.toNat_natCast];exact u2)
  have e1:(⟨#[46]⟩:ByteArray).size=1:=rfl
  have hsn:calL v (pre++[d])=addC v (calL v pre) d:=by simp[calL]
  have hsg:=Tsig v hv.fit hv.gaps d.owner d.name fun z hz=>hv.ok _ _ z hz
  have hacc:(calL v pre).length≤pre.length:=calL_len v pre
  generalize calL v pre=acc at hsn hacc ⊢
  by_cases h4:d.kind=4
  ·have hnm:nameD d=d.owner++⟨#[46]⟩++d.name:=by rw[nameD,if_pos h4]
   have hnn:(d.kind=1)=False:=by simp[h4]
   simp -implicitDefEqProofs only[go_sem,hgx,hlt,h4,look_S]
   refine⟨by simp only[List.size_toArray,List.length_cons,List.length_nil];omega,by simp only[List.size_toArray,List.length_cons,List.length_nil];omega,?_⟩
   refine⟨fun hb=>?_,fun hb=>?_⟩
   ·have hac:addC v acc d=acc:=by
     rw[addC,if_neg]
     rintro⟨_,h⟩
     rw[hnm]at h
     rw[List.any_map]at hb
     exact absurd (show(acc.any fun c=>decide (c.name=d.owner++⟨#[46]⟩++d.name))=true from hb) (by rw[h];simp)
    rw[hsn,hac,ltP_seen,ltLL_pure _ _ _ (dls_pure _),ltLL_pure _ _ _ (uns_pure _)]
    exact⟨(),hw,⟨rfl,rfl⟩,rfl,.inr ⟨rfl,rfl⟩⟩
   ·have hb2:(acc.any fun c=>decide (c.name=nameD d))=false:=by
     rw[hnm]
     rw[List.any_map]at hb
     exact hb
    refine hsg.calls (by simp -implicitDefEqProofs only[go_sem]) ?_
    cases hs:sigU v d.owner d.name with
    | none =>
     have hac:addC v acc d=acc:=by rw[addC,if_pos ⟨.inr h4,hb2⟩,hs]
     simp -implicitDefEqProofs only[go_sem,encSig]
     rw[hsn,hac,ltP_seen,ltLL_pure _ _ _ (dls_pure _),ltLL_pure _ _ _ (uns_pure _)]
     exact⟨(),hw,⟨rfl,rfl⟩,rfl,.inr ⟨rfl,rfl⟩⟩
    | some sg =>
     have hac:addC v acc d=acc++[⟨nameD d,signS sg,pathU v d.unit⟩]:=by rw[addC,if_pos ⟨.inr h4,hb2⟩,hs]
     rw[hnm]at hac
     have hwr:=Swrite sg (sig_short hv hs).1 (sig_short hv hs).2 (sig_res hv hs)
     simp -implicitDefEqProofs only[go_sem,encSig,set_S hb]
     refine snd_draw (cs:=[]) mixed (by kernel_rfl) ?_
     simp -implicitDefEqProofs only[go_sem,hug,hu0,hu1]
     refine vPC_of hwr (by simp -implicitDefEqProofs only[go_sem]) ?_
     simp -implicitDefEqProofs only[go_sem,hug,hu0,hu1]
     rw[hsn,hac,hpu,ltP_seen,ltLL_pure _ _ _ (dls_pure _),ltLL_pure _ _ _ (uns_pure _)]
     exact⟨by omega,by omega,(),hw,⟨by simp[Cb.enc],by simp⟩,by simp,.inr ⟨rfl,rfl⟩⟩
  ·by_cases h1:d.kind=1
   ·have hnm:nameD d=d.name:=by rw[nameD,if_neg h4]
    simp -implicitDefEqProofs only[go_sem,hgx,hlt,h1,look_S]
    refine⟨fun hb=>?_,fun hb=>?_⟩
    ·have hac:addC v acc d=acc:=by
      rw[addC,if_neg]
      rintro⟨_,h⟩
      rw[hnm]at h
      rw[List.any_map]at hb
      exact absurd (show(acc.any fun c=>decide (c.name=d.name))=true from hb) (by rw[h];simp)
     rw[hsn,hac,ltP_seen,ltLL_pure _ _ _ (dls_pure _),ltLL_pure _ _ _ (uns_pure _)]
     exact⟨(),hw,⟨rfl,rfl⟩,rfl,.inr ⟨rfl,rfl⟩⟩
    ·have hb2:(acc.any fun c=>decide (c.name=nameD d))=false:=by
      rw[hnm]
      rw[List.any_map]at hb
      exact hb
     refine hsg.calls (by simp -implicitDefEqProofs only[go_sem]) ?_
     cases hs:sigU v d.owner d.name with
     | none =>
      have hac:addC v acc d=acc:=by rw[addC,if_pos ⟨.inl h1,hb2⟩,hs]
      simp -implicitDefEqProofs only[go_sem,encSig]
      rw[hsn,hac,ltP_seen,ltLL_pure _ _ _ (dls_pure _),ltLL_pure _ _ _ (uns_pure _)]
      exact⟨(),hw,⟨rfl,rfl⟩,rfl,.inr ⟨rfl,rfl⟩⟩
     | some sg =>
      have hac:addC v acc d=acc++[⟨nameD d,signS sg,pathU v d.unit⟩]:=by rw[addC,if_pos ⟨.inl h1,hb2⟩,hs]
      rw[hnm]at hac
      have hwr:=Swrite sg (sig_short hv hs).1 (sig_short hv hs).2 (sig_res hv hs)
      simp -implicitDefEqProofs only[go_sem,encSig,set_S hb]
      refine snd_draw (cs:=[]) mixed (by kernel_rfl) ?_
      simp -implicitDefEqProofs only[go_sem,hug,hu0,hu1]
      refine vPC_of hwr (by simp -implicitDefEqProofs only[go_sem]) ?_
      simp -implicitDefEqProofs only[go_sem,hug,hu0,hu1]
      rw[hsn,hac,hpu,ltP_seen,ltLL_pure _ _ _ (dls_pure _),ltLL_pure _ _ _ (uns_pure _)]
      exact⟨by omega,by omega,(),hw,⟨by simp[Cb.enc],by simp⟩,by simp,.inr ⟨rfl,rfl⟩⟩
   ·have hac:addC v acc d=acc:=by
     rw[addC,if_neg]
     rintro⟨h | h,_⟩
     ·exact h1 h
     ·exact h4 h
    simp -implicitDefEqProofs only[go_sem,hgx,hlt,h1,h4]
    rw[hsn,hac,ltP_seen,ltLL_pure _ _ _ (dls_pure _),ltLL_pure _ _ _ (uns_pure _)]
    exact⟨(),hw,⟨rfl,rfl⟩,rfl,.inr ⟨rfl,rfl⟩⟩
structure Ch where
 name:ByteArray
 path:ByteArray
 was:ByteArray
 now:ByteArray
def Ch.enc(x:Ch):List V:=[.str x.name,.str x.path,.str x.was,.str x.now]
theorem chs_pure:∀ l:List Ch,pureLL (l.map Ch.enc)=true
 | []=>rfl
 | n::r=>by show(pureL _ && pureLL (r.map Ch.enc))=true;rw[chs_pure r];rfl
attribute [go_sem] chs_pure
def chOf(B:List (ByteArray×ByteArray))(c:Cb):List Ch:=match getB B c.name with
 | some was=>if was=c.sign then []else [⟨c.name,c.path,was,c.sign⟩]
 | none=>[]
def oldB(l:List Cb):List (ByteArray×ByteArray):=l.map fun x=>(x.name,x.sign)
def chL(ca cb:List Cb):List Ch:=cb.flatMap (chOf (oldB ca))
theorem chs_len{B:List (ByteArray×ByteArray)}:∀ l:List Cb,(l.flatMap (chOf B)).length≤l.length
 | []=>by simp
 | x::r=>by
  have h1:=chs_len (B:=B) r
  have h2:(chOf B x).length≤1:=by
   unfold chOf
   repeat' split
   all_goals simp
  rw[List.flatMap_cons,List.length_append,List.length_cons];omega
theorem Schanges(a b:List Un)(ca cb:List Cb)(hA:VPure env 69 [sl 34 (a.map Un.enc)] (sl 119 (ca.map Cb.enc)))(hB:VPure env 69 [sl 34 (b.map Un.enc)] (sl 119 (cb.map Cb.enc)))
  (hnd:∀ pre x post,ca=pre++x::post→(getB (oldB pre) x.name).isSome=false) (ha:ca.length≤1000000) (hb:cb.length≤1000000):VPure env 45 [sl 34 (a.map Un.enc),sl 34 (b.map Un.enc)] (sl 86 ((chL ca cb).map Ch.enc)):=by
 refine vpure_vc (fn:=Tryz.f45) Tryz.func45 rfl (by rw[Tryz.ntmps45];simp) (by simp -implicitDefEqProofs only[go_sem];simp only[uns_pure];rfl) (by simp -implicitDefEqProofs only[go_sem]) ?_
 simp -implicitDefEqProofs only[go_sem,Tryz.f45]
 refine hA.calls (by simp -implicitDefEqProofs only[go_sem]) ?_
 simp -implicitDefEqProofs only[go_sem]
 intro _ _
 refine snd_list (β:=Unit) ca (fun pre _=>⟨[(17,.int .i64 pre.length),(16,.int .i64 ca.length),(15,sl 119 (ca.map Cb.enc)),(5,.map 0),(4,.slice .nil 0 []),(1,sl 34 (b.map Un.enc))],
   [.map (mapB (oldB pre))],[]⟩) (fun _ _ _=>True) () ?_ trivial ?_ ?_
 ·simp -implicitDefEqProofs only[go_sem]
  exact⟨rfl,rfl⟩
 ·intro _ _
  simp -implicitDefEqProofs only[go_sem]
  refine hB.calls (by simp -implicitDefEqProofs only[go_sem]) ?_
  simp -implicitDefEqProofs only[go_sem]
  intro _ _
  unfold chL
  generalize oldB ca=B
  refine snd_list (β:=Unit) cb (fun pre _=>⟨[(30,.int .i64 pre.length),(29,.int .i64 cb.length),(28,sl 119 (cb.map Cb.enc)),(8,.slice (.arr 0) 86 ((pre.flatMap (chOf B)).map Ch.enc)),(5,.map 0),(4,.slice .nil 0 [])],
   [.map (mapB B)],[(pre.flatMap (chOf B)).length]⟩) (fun _ _ _=>True) () ?_ trivial ?_ ?_
  ·simp -implicitDefEqProofs only[go_sem]
   exact⟨rfl,rfl⟩
  ·intro _ _
   simp -implicitDefEqProofs only[go_sem]
  ·rintro pre c post _ hx _
   have hpl:cb.length=pre.length+1+post.length:=by rw[hx];simp;omega
   have hgx:(cb.map Cb.enc).getD (pre.length:Int).toNat []=c.enc:=by rw[hx];simp[List.getD_eq_getElem?_getD]
   have hw:IntKind.i64.wrap (↑pre.length+1)=↑(pre.length+1):=wrap_next (by omega)
   have hlt:((pre.length:Int)<cb.length)=True:=by simp;omega
   have hcl:=chs_len (B:=B) pre
   have hcs:(pre++[c]).flatMap (chOf B)=pre.flatMap (chOf B)++chOf B c:=by simp
   generalize pre.flatMap (chOf B)=acc at hcl hcs ⊢
   cases hg:getB B c.name with
   | none =>
    have hco:chOf B c=[]:=by rw[chOf,hg]
    rw[hco,List.append_nil]at hcs
    simp -implicitDefEqProofs only[go_sem,hgx,hlt,Cb.enc,look_B2,hg]
    refine⟨fun h=>(by cases h),fun _=>?_⟩
    rw[hcs,ltP_B]
    exact⟨(),⟨hw,rfl⟩,rfl,.inr rfl⟩
   | some was =>
    simp -implicitDefEqProofs only[go_sem,hgx,hlt,Cb.enc,look_B2,hg]
    refine⟨fun h=>?_,fun h=>?_⟩
    ·have hne:¬ was=c.sign:=by simpa using h
     have hco:chOf B c=[⟨c.name,c.path,was,c.sign⟩]:=by
      unfold chOf
      simp only[hg]
      rw[if_neg hne]
     rw[hcs,hco,ltP_B]
     exact⟨by omega,(),⟨hw,by simp[Ch.enc]⟩,by simp,.inr rfl⟩
    ·have hne:was=c.sign:=by simpa using h
     have hco:chOf B c=[]:=by
      unfold chOf
      simp only[hg]
      rw[if_pos hne]
     rw[hcs,hco,ltP_B,List.append_nil]
     exact⟨(),⟨hw,rfl⟩,rfl,.inr rfl⟩
 ·rintro pre c post _ hx _
  have hpl:ca.length=pre.length+1+post.length:=by rw[hx];simp;omega
  have hgx:(ca.map Cb.enc).getD (pre.length:Int).toNat []=c.enc:=by rw[hx];simp[List.getD_eq_getElem?_getD]
  have hw:IntKind.i64.wrap (↑pre.length+1)=↑(pre.length+1):=wrap_next (by omega)
  have hlt:((pre.length:Int)<ca.length)=True:=by simp;omega
  have hn:=hnd pre c post hx
  have hob:oldB (pre++[c])=oldB pre++[(c.name,c.sign)]:=by simp[oldB]
  simp -implicitDefEqProofs only[go_sem,hgx,hlt,Cb.enc,set_B hn]
  rw[hob,ltP_B,ltLL_pure _ _ _ (uns_pure _)]
  exact⟨(),hw,rfl,.inr ⟨rfl,rfl⟩⟩
def chT(x:Ch):Fi:=⟨4,x.path,x.name,⟨#[119,97,115,32]⟩++x.was++⟨#[44,32,105,115,32]⟩++x.now⟩
theorem Sdiff(a b:List Un)(l:List Ch)(hC:VPure env 45 [sl 34 (a.map Un.enc),sl 34 (b.map Un.enc)] (sl 86 (l.map Ch.enc)))(hl:l.length≤1000000)(hs:∀ x∈l,x.was.size≤100000000000000∧x.now.size≤100000000000000) :
  VPure env 19 [sl 34 (a.map Un.enc),sl 34 (b.map Un.enc)] (sl 42 ((l.map chT).map Fi.enc)):=by
 refine vpure_vc (fn:=Tryz.f19) Tryz.func19 rfl (by rw[Tryz.ntmps19];simp) (by simp -implicitDefEqProofs only[go_sem];simp only[uns_pure];rfl) (by simp -implicitDefEqProofs only[go_sem];exact fis_pure _) ?_
 simp -implicitDefEqProofs only[go_sem,Tryz.f19]
 refine hC.calls (by simp -implicitDefEqProofs only[go_sem]) ?_
 simp -implicitDefEqProofs only[go_sem]
 intro _ _
 refine snd_list (β:=Unit) l (fun pre _=>⟨[(12,.int .i64 pre.length),(11,.int .i64 l.length),(10,sl 86 (l.map Ch.enc)),(5,.slice (.arr 0) 42 ((pre.map chT).map Fi.enc)),(4,.slice .nil 0 [])],[],[pre.length]⟩) (fun _ _ _=>True) () ?_ trivial ?_ ?_
 ·simp -implicitDefEqProofs only[go_sem]
  try rfl
 ·intro _ _
  simp -implicitDefEqProofs only[go_sem]
 ·rintro pre c post _ hx _
  have hpl:l.length=pre.length+1+post.length:=by rw[hx];simp;omega
  have hgx:(l.map Ch.enc).getD (pre.length:Int).toNat []=c.enc:=by rw[hx];simp[List.getD_eq_getElem?_getD]
  have hw:IntKind.i64.wrap (↑pre.length+1)=↑(pre.length+1):=wrap_next (by omega)
  have hlt:((pre.length:Int)<l.length)=True:=by simp;omega
  have hsc:=hs c (by rw[hx];simp)
  simp -implicitDefEqProofs only[go_sem,hgx,hlt,Ch.enc]
  have e1:(#[119,97,115,32]:Array UInt8).size=4:=rfl
  have e2:(#[44,32,105,115,32]:Array UInt8).size=5:=rfl
  rw[e1,e2]
  refine⟨by omega,by omega,by omega,by omega,(),⟨hw,rfl⟩,.inr ?_⟩
  have:=fis_pure ((pre.map chT)++[chT c])
  rw[List.map_append]at this
  exact ltLL_pure _ _ _ this
end Go.Proofs.YtamednbojpnalaaGreatDoor
set_option maxRecDepth 20000
namespace Go.Vg
def parN(i:Nat):Nd := .mk 4 (⟨#[97]⟩++decN i) [] [.mk 5 ⟨#[105,110,116]⟩ [] []]
def fileN(p:Nat)(x:Nd):Nd := .mk 1 ⟨#[]⟩ [] [.mk 2 ⟨#[102]⟩ [] [.mk 3 ⟨#[]⟩ [] ((List.range p).map parN),.mk 5 ⟨#[105,110,116]⟩ [] [],.mk 6 ⟨#[]⟩ [] [.mk 12 ⟨#[]⟩ [] [x]]]]
def fileU(p:Nat)(x:Nd):List Un:=[⟨⟨#[97]⟩,⟨#[]⟩,fileN p x,false⟩]
end Go.Vg
namespace Go.Proofs.YtamednbojpnalaaGreatDoor
open Go Go.Vg Go.Proofs
theorem Lfile(p:Nat)(hp:p≤1000)(x:Nd):VPure env 25 [.int .i64 p,.agg x.enc] (sl 34 ((fileU p x).map Un.enc)):=by
 refine vpure_vc (fn:=Tryz.f25) Tryz.func25 rfl (by rw[Tryz.ntmps25];simp) (by simp -implicitDefEqProofs only[go_sem]) (by simp -implicitDefEqProofs only[go_sem];exact uns_pure _) ?_
 simp -implicitDefEqProofs only[go_sem,Tryz.f25]
 refine snd_list (β:=Unit) (List.range p) (fun pre _=>⟨[(6,.int .i64 pre.length),(5,.ptr 1 0),(4,.slice .nil 0 []),(3,.ptr 0 0),(0,.int .i64 p),(1,.agg x.enc)],[.cells x.enc,.cells [.int .i64 3,.str ⟨#[]⟩,.slice .nil 0 [],.slice (.arr 0) 32 ((pre.map parN).map Nd.enc)]],[pre.length]⟩) (fun _ _ _=>True) () ?_ trivial ?_ ?_
 ·simp -implicitDefEqProofs only[go_sem]
  try rfl
 ·intro _ _
  have hrl:(List.range p).length=p:=List.length_range
  simp -implicitDefEqProofs only[go_sem,hrl]
  simp only[fileU,fileN,Un.enc,enc_mk,List.map_cons,List.map_nil,List.cons_append,List.nil_append]
  rfl
 ·rintro pre c post _ hx _
  have hrl:(List.range p).length=p:=List.length_range
  have hpl:p=pre.length+1+post.length:=by rw[←hrl,hx];simp;omega
  have hc:c=pre.length:=by
   have h1:(List.range p)[pre.length]? = some c:=by rw[hx];simp
   rw[List.getElem?_range (by omega)]at h1
   simpa using h1.symm
  subst hc
  have hw:IntKind.i64.wrap (↑pre.length+1)=↑(pre.length+1):=wrap_next (by omega)
  have hlt:((pre.length:Int)<p)=True:=by simp;omega
  have hN:=R03Number pre.length (by omega)
  have hds:=decN_size pre.length 9 (by omega)
  simp -implicitDefEqProofs only[go_sem,hlt]
  refine snd_draw (cs:=[]) mixed (by kernel_rfl) ?_
  simp -implicitDefEqProofs only[go_sem]
  refine vPC_of hN (by simp -implicitDefEqProofs only[go_sem]) ?_
  simp -implicitDefEqProofs only[go_sem]
  have e1:(#[97]:Array UInt8).size=1:=rfl
  rw[e1]
  refine⟨by omega,by omega,(),hw,?_⟩
  simp only[parN,enc_mk,List.map_cons,List.map_nil]
  rfl
theorem fits_of{u:List Un}(h:fitsU u 3 160 6000=true):fitU u∧gapsU u:=by
 unfold fitsU at h
 simp only[Bool.and_eq_true,decide_eq_true_eq,List.all_eq_true]at h
 obtain⟨h1,h2⟩:=h
 refine⟨⟨by omega,fun x hx=>?_⟩,fun x hx=>?_⟩
 ·obtain⟨h3,h4⟩:=h2 x hx
  have:=left_count x.tree 160 60 h3
  exact⟨by omega,(fits_short (by omega) h4).1⟩
 ·obtain⟨h3,h4⟩:=h2 x hx
  exact(fits_short (by omega) h4).2
def mismL(u:List Un):List Fi:=misR (u.filter soundB) (methU (u.filter soundB)) (u.filter soundB)
def n1:Nd := .mk 17 ⟨#[49]⟩ [] []
def nT:Nd := .mk 18 ⟨#[116,114,117,101]⟩ [] []
def nA:Nd := .mk 20 ⟨#[102]⟩ [] [n1]
def nB:Nd := .mk 20 ⟨#[102]⟩ [] [nT]
def nC:Nd := .mk 21 ⟨#[109]⟩ [] [n1]
def fA:List Fi:=[⟨4,⟨#[97]⟩,⟨#[102]⟩,⟨#[104,97,115,32,49,32,97,114,103,117,109,101,110,116,115,44,32,110,101,101,100,115,32,50]⟩⟩]
def fB:List Fi:=[⟨4,⟨#[97]⟩,⟨#[102]⟩,⟨#[97,114,103,117,109,101,110,116,32,49,32,105,115,32,98,111,111,108,44,32,110,101,101,100,115,32,105,110,116]⟩⟩]
def fC:List Fi:=[⟨4,⟨#[97]⟩,⟨#[109]⟩,⟨#[105,115,32,110,111,32,109,101,116,104,111,100]⟩⟩]
def fD:List Fi:=[⟨4,⟨#[97]⟩,⟨#[102]⟩,⟨#[119,97,115,32,40,105,110,116,41,32,105,110,116,44,32,105,115,32,40,105,110,116,44,32,105,110,116,41,32,105,110,116]⟩⟩]
theorem evA:mismL (fileU 2 nA)=fA:=by kernel_rfl
theorem evB:mismL (fileU 1 nB)=fB:=by kernel_rfl
theorem evC:mismL (fileU 0 nC)=fC:=by kernel_rfl
theorem evE:mismL (fileU 1 n1)=[]:=by kernel_rfl
theorem mis_of{u:List Un}{l:List Fi}(h:mismL u=l)(hf:fitsU u 3 160 6000=true):VPure env 11 [sl 34 (u.map Un.enc)] (sl 42 (l.map Fi.enc)):=by
 rw[←h]
 exact Smismatches u (fits_of hf).1 (fits_of hf).2
theorem MA:VPure env 11 [sl 34 ((fileU 2 nA).map Un.enc)] (sl 42 (fA.map Fi.enc)):=mis_of evA (by kernel_rfl)
theorem MB:VPure env 11 [sl 34 ((fileU 1 nB).map Un.enc)] (sl 42 (fB.map Fi.enc)):=mis_of evB (by kernel_rfl)
theorem MC:VPure env 11 [sl 34 ((fileU 0 nC).map Un.enc)] (sl 42 (fC.map Fi.enc)):=mis_of evC (by kernel_rfl)
theorem ME:VPure env 11 [sl 34 ((fileU 1 n1).map Un.enc)] (sl 42 (([]:List Fi).map Fi.enc)):=mis_of evE (by kernel_rfl)
def calU(u:List Un):List Cb:=calL (u.map Un.sound) (declsU (u.map Un.sound) 0)
def cD1:List Cb:=[⟨⟨#[102]⟩,⟨#[40,105,110,116,41,32,105,110,116]⟩,⟨#[97]⟩⟩]
def cD2:List Cb:=[⟨⟨#[102]⟩,⟨#[40,105,110,116,44,32,105,110,116,41,32,105,110,116]⟩,⟨#[97]⟩⟩]
theorem evD1:calU (fileU 1 n1)=cD1:=by kernel_rfl
theorem evD2:calU (fileU 2 n1)=cD2:=by kernel_rfl
theorem cal_of{u:List Un}{l:List Cb}(h:calU u=l)(hf:fitsU u 3 160 6000=true)(hl:l.length≤1)(hS:((declsU (u.map Un.sound) 0).all fun d=>decide (d.owner.size≤1000000) && decide (d.name.size≤1000000))=true) :
  VPure env 69 [sl 34 (u.map Un.enc)] (sl 119 (l.map Cb.enc)):=by
 subst h
 have hu:=fits_of hf
 refine Scallables u (sg_of hu.1 hu.2) (sg_of (fit_sound hu.1) (gaps_sound hu.2)) (fun d hd=>?_) hl
 have:=List.all_eq_true.1 hS d hd
 simpa using this
theorem MD:VPure env 19 [sl 34 ((fileU 1 n1).map Un.enc),sl 34 ((fileU 2 n1).map Un.enc)] (sl 42 (fD.map Fi.enc)):=by
 have h1:=cal_of evD1 (by kernel_rfl) (by decide) (by kernel_rfl)
 have h2:=cal_of evD2 (by kernel_rfl) (by decide) (by kernel_rfl)
 have h3:=Schanges _ _ cD1 cD2 h1 h2 (fun pre x post h=>by
  cases pre with
  | nil=>rfl
  | cons y r=>have:=congrArg List.length h;simp[cD1]at this) (by decide) (by decide)
 have h4:=Sdiff _ _ _ h3 (by decide) (by decide)
 exact h4
theorem Lawake:VPure env 8 [] (.bool true):=by
 refine vpure_vc (fn:=Tryz.f8) Tryz.func8 rfl (by rw[Tryz.ntmps8];simp) rfl rfl ?_
 simp -implicitDefEqProofs only[go_sem,Tryz.f8]
 refine(Lfile 2 (by omega) nA).calls (by simp -implicitDefEqProofs only[go_sem,nA,n1];rfl) ?_
 simp -implicitDefEqProofs only[go_sem]
 refine MA.calls (by simp -implicitDefEqProofs only[go_sem]) ?_
 simp -implicitDefEqProofs only[go_sem]
 refine(Lfile 1 (by omega) nB).calls (by simp -implicitDefEqProofs only[go_sem,nB,nT];rfl) ?_
 simp -implicitDefEqProofs only[go_sem]
 refine MB.calls (by simp -implicitDefEqProofs only[go_sem]) ?_
 simp -implicitDefEqProofs only[go_sem]
 refine(Lfile 0 (by omega) nC).calls (by simp -implicitDefEqProofs only[go_sem,nC,n1];rfl) ?_
 simp -implicitDefEqProofs only[go_sem]
 refine MC.calls (by simp -implicitDefEqProofs only[go_sem]) ?_
 simp -implicitDefEqProofs only[go_sem]
 refine snd_draw (cs:=[]) mixed (by kernel_rfl) ?_
 simp -implicitDefEqProofs only[go_sem]
 refine vPC_of (Lfile 1 (by omega) n1) (by simp -implicitDefEqProofs only[go_sem,n1];rfl) ?_
 simp -implicitDefEqProofs only[go_sem]
 refine vPC_of (Lfile 2 (by omega) n1) (by simp -implicitDefEqProofs only[go_sem,n1];rfl) ?_
 simp -implicitDefEqProofs only[go_sem]
 refine vPC_of MD (by simp -implicitDefEqProofs only[go_sem]) ?_
 simp -implicitDefEqProofs only[go_sem]
 have eA:(decide (fA=fA))=true:=by simp
 have eB:(decide (fB=fB))=true:=by simp
 have eC:(decide (fC=fC))=true:=by simp
 have eD:(decide (fD=fD))=true:=by simp
 refine(R40Same fA fA).calls (by simp -implicitDefEqProofs only[go_sem];rfl) ?_
 simp -implicitDefEqProofs only[go_sem,eA]
 refine(R40Same fB fB).calls (by simp -implicitDefEqProofs only[go_sem];rfl) ?_
 simp -implicitDefEqProofs only[go_sem,eB]
 refine(R40Same fC fC).calls (by simp -implicitDefEqProofs only[go_sem];rfl) ?_
 simp -implicitDefEqProofs only[go_sem,eC]
 refine(R40Same fD fD).calls (by simp -implicitDefEqProofs only[go_sem];rfl) ?_
 simp -implicitDefEqProofs only[go_sem,eD]
 refine(Lfile 1 (by omega) n1).calls (by simp -implicitDefEqProofs only[go_sem,n1];rfl) ?_
 simp -implicitDefEqProofs only[go_sem]
 refine ME.calls (by simp -implicitDefEqProofs only[go_sem]) ?_
 simp -implicitDefEqProofs only[go_sem]
 simp
def fitB(u:List Un):Bool:=fitsU u 3 160 6000 && decide ((classesL (declsU u 0):Int)≤30)
theorem Lfit(u:List Un):VPure env 9 [sl 34 (u.map Un.enc)] (.bool (fitB u)):=by
 refine vpure_vc (fn:=Tryz.f9) Tryz.func9 rfl (by rw[Tryz.ntmps9];simp) (by simp -implicitDefEqProofs only[go_sem];exact uns_pure _) rfl ?_
 simp -implicitDefEqProofs only[go_sem,Tryz.f9]
 refine(R12Fits u 3 160 6000 (by omega) (by omega)).calls (by simp -implicitDefEqProofs only[go_sem]) ?_
 simp -implicitDefEqProofs only[go_sem]
 unfold fitB
 cases hf:fitsU u 3 160 6000 with
 | false =>
  simp -implicitDefEqProofs only[go_sem]
 | true =>
  simp -implicitDefEqProofs only[go_sem]
  refine(R13Few u (fits_of hf).1 30 (by omega) (by omega)).calls (by simp -implicitDefEqProofs only[go_sem]) ?_
  simp -implicitDefEqProofs only[go_sem]
end Go.Proofs.YtamednbojpnalaaGreatDoor
namespace Go.Vg
end Go.Vg
namespace Go.Vg
open Go.RowKit
end Go.Vg
