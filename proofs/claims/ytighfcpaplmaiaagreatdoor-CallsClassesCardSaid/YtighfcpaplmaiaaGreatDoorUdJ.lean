/- What a node calls. -/
import Derived.Test.YtighfcpaplmaiaaGreatDoorUdG
import Derived.Test.YtighfcpaplmaiaaGreatDoorVgFr
import Derived.Test.YtighfcpaplmaiaaGreatDoorVgOrd
set_option linter.unusedVariables false
set_option linter.unusedSimpArgs false
set_option maxRecDepth 20000
namespace Go.Vg
theorem accV.one{e n0 m0:Nat}{z:List VObj}{y:List Nat}{v:V}{l:List (List V)}(h:accV e n0 m0 z y v l):v.cell=true∧v.some? = true∧cellsV v=[v]:=by
 rcases h with⟨_,e0,rfl⟩ | ⟨_,j,k,gen,rfl,_⟩ <;> exact⟨rfl,rfl,rfl⟩
theorem tell1_rfl{N:Nat}{x:V}:Vg.tell1 N x x:=by
 unfold Vg.tell1
 split <;> simp_all
theorem accV.base{e:Nat}{H z:List VObj}{A y:List Nat}{v:V}{l:List (List V)}(h:accV e H.length A.length z y v l):accV e 0 0 (H++z) (A++y) v l:=by
 rcases h with h | ⟨h1,j,k,gen,rfl,h3,h4⟩
 ·exact .inl h
 ·exact .inr ⟨h1,H.length+j,A.length+k,gen,by rw[Nat.zero_add,Nat.zero_add],by rw[app_get,Nat.zero_add];exact h3,by rw[app_get];exact h4⟩
def addU(l:List ByteArray)(t:ByteArray):List ByteArray:=if(l.any fun x=>decide (x=t))=true then l else l++[t]
end Go.Vg
namespace Go.Proofs.YtighfcpaplmaiaaGreatDoor
open Go Go.Vg Go.Proofs
theorem look_SW{tv:TypeId}{l:List ByteArray}{n:ByteArray}{K:V→Prop}:vLookF (envV tv) 4 (findV .string (.str n) (seenM l) 0) false K=K (.bool (l.any fun x=>decide (x=n))):=look_S
theorem Kadd(a0:List Nat)(c0:VObj)(v:V)(z:List VObj)(y:List Nat)(l:List ByteArray)(text:ByteArray)(hl:l.length≤1000000)(hacc:accV 9 4 a0.length z y v (l.map encTx)){K:Cont}
  (hK:∀ v' z' y',accV 9 4 a0.length z' y' v' ((addU l text).map encTx)→z.length≤z'.length→y.length≤y'.length→K (.tuple []) (c0 :: .map (seenM (addU l text)) :: .cells [.map 1] :: .cells [v']::z') (a0++y')) :
  VCalls (envV 28) 69 [.str text,.ptr 2 0,.ptr 3 0] (c0 :: .map (seenM l) :: .cells [.map 1] :: .cells [v]::z) (a0++y) K:=by
 obtain⟨o1,o2,o3⟩:=hacc.one
 refine vcalls_vc (fn:=Tryz.f69) Tryz.func69 rfl (by rw[Tryz.ntmps69];simp) ?_
 simp -implicitDefEqProofs only[go_sem,Tryz.f69,ap_get,ap_get0,ap_set,ap_set0,List.getElem?_cons_succ,List.set_cons_succ,List.cons_append,look_SW]
 unfold addU at hK
 refine⟨fun ha=>?_,fun ha=>?_⟩
 ·have ha':(l.any fun x=>decide (x=text))=false:=by cases h:(l.any fun x=>decide (x=text)) <;> simp_all
  rw[ha',if_neg (by simp)]at hK
  rw[set_S ha']
  simp -implicitDefEqProofs only[go_sem,ap_get,ap_get0,ap_set,ap_set0,List.getElem?_cons_succ,List.set_cons_succ,List.cons_append,hacc.asl]
  have happ:=@append_acc (envV 28) 9 9 .full [c0,.map (seenM (l++[text])),.cells [.map 1],.cells [v]] z a0 y v (l.map encTx) [.str text]
  refine happ hacc enc_len elem_str (by rw[bytes_str,List.length_map];omega) fun v' z' y' hacc' hz1 hz2 hy1=>?_
  obtain⟨p1,p2,p3⟩:=hacc'.one
  simp -implicitDefEqProofs only[go_sem,ap_get,ap_get0,ap_set,ap_set0,List.getElem?_cons_succ,List.set_cons_succ,List.cons_append,p1,p2,p3]
  exact hK v' z' y' (by rw[List.map_append];exact hacc') hz1 hy1
 ·have ha':(l.any fun x=>decide (x=text))=true:=by cases h:(l.any fun x=>decide (x=text)) <;> simp_all
  rw[if_pos ha']at hK
  exact hK _ _ _ hacc (Nat.le_refl _) (Nat.le_refl _)
def qualM(d:Dl):ByteArray:=d.owner++⟨#[46]⟩++d.name
def tgL(u:List Un)(c text:ByteArray):List ByteArray:=(c::subU u c).filterMap fun x=>(lookU u x text).map qualM
def dedU(l:List ByteArray):List ByteArray:=l.foldl addU []
def tgtU(u:List Un)(un nd kind:Int)(text:ByteArray):List ByteArray:=if kind=20 then [text]else if kind=21 then(if(tofU u un (nd+1)).2=0 then sortS (dedU (tgL u (tofU u un (nd+1)).1 text))else [])else []
theorem addU_nodup{l:List ByteArray}(h:l.Nodup)(t:ByteArray):(addU l t).Nodup:=by
 unfold addU
 split
 ·exact h
 ·rename_i hn
  rw[List.nodup_append]
  refine⟨h,by simp,fun a ha b hb=>?_⟩
  have:=List.mem_singleton.1 hb
  subst this
  rintro rfl
  exact hn (List.any_eq_true.2 ⟨a,ha,by simp⟩)
theorem addU_mem{l:List ByteArray}{t x:ByteArray}:x∈addU l t↔x∈l∨x=t:=by
 unfold addU
 split
 ·rename_i h
  obtain⟨y,hy,he⟩:=List.any_eq_true.1 h
  have:y=t:=by simpa using he
  subst this
  exact⟨.inl,fun h=>h.elim id fun h=>h ▸ hy⟩
 ·simp
theorem addU_len{l:List ByteArray}{t:ByteArray}:(addU l t).length≤l.length+1:=by unfold addU;split <;> simp
theorem dedU_facts(l:List ByteArray):∀ p:List ByteArray,p.Nodup→(l.foldl addU p).Nodup∧∀ x,x∈l.foldl addU p↔x∈p∨x∈l:=by
 induction l with
 | nil=>intro p h;exact⟨h,by simp⟩
 | cons t r ih =>
  intro p h
  obtain⟨h1,h2⟩:=ih _ (addU_nodup h t)
  refine⟨h1,fun x=>?_⟩
  rw[List.foldl_cons,h2 x,addU_mem,List.mem_cons,or_assoc]
theorem sortS_one(t:ByteArray):sortS [t]=[t]:=by simp[sortS]
theorem dedU_len:∀ (l p:List ByteArray),(l.foldl addU p).length≤p.length+l.length
 | [],p=>by simp
 | x::r,p=>by
  have h1:=dedU_len r (addU p x)
  have h2:=@addU_len p x
  rw[List.foldl_cons,List.length_cons];omega
theorem subU_len{u:List Un}(hu:fitU u)(c:ByteArray):(subU u c).length≤1000000:=by
 have h1:=basesL_len (btU u) (declsU u 0)
 have h2:=declsU_len u 0 fun y hy=>(hu.2 y hy).1
 have h3:=hu.1
 unfold subU subL
 rw[sortS_len,List.length_map]
 have h4:=List.length_filter_le (subB (basesL (btU u) (declsU u 0)) c) (basesL (btU u) (declsU u 0))
 omega
theorem Ktargets(u:List Un)(hu:fitU u)(hgp:gapsU u)(un nd kind:Int)(hnd:0≤nd∧nd≤1000000)(text:ByteArray) :
  VPure env 37 [sl 70 (u.map Un.enc),.agg [.int .i64 un,.int .i64 nd],.int .i64 kind,.str text] (sl 9 ((tgtU u un nd kind text).map encTx)):=by
 refine vpure_acc (E:=env) (by simp -implicitDefEqProofs only[go_sem];exact uns_pure _) (strs_pure _) elem_str (fun el h=>enc_len el h) ?_
 refine VCalls.ofV (tv:=28) ?_
 refine vcalls_vc (fn:=Tryz.f37) Tryz.func37 rfl (by rw[Tryz.ntmps37];simp) ?_
 have hsd:=shortD_of hu
 have hw1:IntKind.i64.wrap (nd+1)=nd+1:=wrap_ok (by omega) (by omega)
 simp -implicitDefEqProofs only[go_sem,Tryz.f37,hw1]
 refine⟨fun h20=>?_,fun h20=>⟨fun h21=>?_,fun h21=>?_⟩⟩
 ·refine Kadd [] _ _ [] [] [] text (by simp) accV.nil fun v' z' y' hacc hz1 hy1=>?_
  simp -implicitDefEqProofs only[go_sem,ap_get,ap_get0,ap_set,ap_set0,List.getElem?_cons_succ,List.set_cons_succ,List.cons_append]
  refine @SortStr [.cells [.int .i64 un,.int .i64 nd],.map (seenM (addU [] text)),.cells [.map 1],.cells [v']] z' [] y' v' [text] _ hacc fun z2 hacc2 hl2 hk2=>?_
  simp -implicitDefEqProofs only[go_sem,ap_get,ap_get0,ap_set,ap_set0,List.getElem?_cons_succ,List.set_cons_succ,List.cons_append]
  have hone:tgtU u un nd kind text=[text]:=by rw[tgtU,if_pos h20]
  rw[hone]
  rw[sortS_one]at hacc2
  exact hacc2.base (A:=[])
 ·have hT:=TTypeOf u hu hgp un (nd+1) (by omega)
  refine VCalls.toV (hT.calls (by simp -implicitDefEqProofs only[go_sem]) ?_)
  have htg:tgtU u un nd kind text=if(tofU u un (nd+1)).2=0 then sortS (dedU (tgL u (tofU u un (nd+1)).1 text))else []:=by rw[tgtU,if_neg h20,if_pos h21]
  rw[htg]
  generalize tofU u un (nd+1)=te
  obtain⟨c,e⟩:=te
  simp -implicitDefEqProofs only[go_sem]
  refine⟨fun he=>?_,fun he=>?_⟩
  ·have he':¬ e=0:=by simpa using he
   rw[if_neg he']
   exact accV.nil
  ·have he':e=0:=by simpa using he
   rw[if_pos he']
   refine VCalls.toV ((CSubs u hu c).calls (by simp -implicitDefEqProofs only[go_sem]) ?_)
   have hsl:=subU_len hu c
   obtain⟨L,hL⟩:∃ L,L=c::subU u c:=⟨_,rfl⟩
   have htl:tgL u c text=L.filterMap fun x=>(lookU u x text).map qualM:=by rw[tgL,hL]
   have hLl:L.length≤1000001:=by rw[hL,List.length_cons];omega
   rw[htl]
   simp -implicitDefEqProofs only[go_sem]
   refine⟨by omega,fun hnil=>?_,fun hnil _ _=>?_⟩
   ·have hs:subU u c=[]:=by simpa using hnil
    rw[hs]at hL
    refine snd_list (β:=V×List VObj×List Nat) L (fun q b=>⟨[(48,.int .i64 q.length),(47,.int .i64 L.length),(46,sl 9 (L.map encTx)),(11,.func 69 [.ptr 2 0,.ptr 3 0]),(10,.ptr 3 0),(0,sl 70 (u.map Un.enc)),(3,.str text)],
     .cells [.int .i64 un,.int .i64 nd] :: .map (seenM (dedU (q.filterMap fun x=>(lookU u x text).map qualM))) :: .cells [.map 1] :: .cells [b.1]::b.2.1,[]++b.2.2⟩)
     (fun q r b=>accV 9 4 ([]:List Nat).length b.2.1 b.2.2 b.1 ((dedU (q.filterMap fun x=>(lookU u x text).map qualM)).map encTx)) (.slice .nil 0 [],[],[]) ?_ accV.nil ?_ ?_
    ·subst hL
     simp -implicitDefEqProofs only[go_sem]
     exact⟨⟨rfl,rfl⟩,rfl⟩
    ·rintro⟨v,z,y⟩ hacc
     simp only at hacc ⊢
     simp -implicitDefEqProofs only[go_sem,ap_get,ap_get0,ap_set,ap_set0,List.getElem?_cons_succ,List.set_cons_succ,List.cons_append]
     refine @SortStr [.cells [.int .i64 un,.int .i64 nd],.map (seenM (dedU (L.filterMap fun x=>(lookU u x text).map qualM))),.cells [.map 1],.cells [v]] z [] y v _ _ hacc fun z2 hacc2 hl2 hk2=>?_
     simp -implicitDefEqProofs only[go_sem,ap_get,ap_get0,ap_set,ap_set0,List.getElem?_cons_succ,List.set_cons_succ,List.cons_append]
     exact hacc2.base
    ·rintro q x r ⟨v,z,y⟩ hx hacc
     have hpl:L.length=q.length+1+r.length:=by rw[hx];simp;omega
     have hgx:(L.map encTx).getD (q.length:Int).toNat []=encTx x:=by rw[hx];simp[List.getD_eq_getElem?_getD]
     have hlt:((q.length:Int)<L.length)=True:=by simp;omega
     have hw:IntKind.i64.wrap (↑q.length+1)=↑(q.length+1):=wrap_next (by omega)
     simp only at hacc ⊢
     simp -implicitDefEqProofs only[go_sem,hgx,hlt,encTx,ap_get,ap_get0,ap_set,ap_set0,List.getElem?_cons_succ,List.set_cons_succ,List.cons_append]
     refine VCalls.toV ((CLookup u hu x text).calls (by simp -implicitDefEqProofs only[go_sem]) ?_)
     cases hlk:lookU u x text with
     | none =>
      simp -implicitDefEqProofs only[go_sem,ap_get,ap_get0,ap_set,ap_set0,List.getElem?_cons_succ,List.set_cons_succ,List.cons_append,encDO,Option.isSome_none]
      have hsn:(q++[x]).filterMap (fun x=>(lookU u x text).map qualM)=q.filterMap fun x=>(lookU u x text).map qualM:=by
       rw[List.filterMap_append];simp[hlk]
      rw[hsn]
      exact⟨(v,z++[.cells Dl.zero.enc],y),hacc.heap _,hw,⟨rfl,tell1_rfl,tellH_refl⟩,tellA_cut0,.inl ⟨by simp,Nat.le_refl _⟩⟩
     | some d =>
      simp -implicitDefEqProofs only[go_sem,ap_get,ap_get0,ap_set,ap_set0,List.getElem?_cons_succ,List.set_cons_succ,List.cons_append,encDO,Option.isSome_some,Option.getD_some]
      obtain⟨hso,hsn⟩:=hsd d (lookU_mem hlk).1
      have hsn2:dedU ((q++[x]).filterMap fun x=>(lookU u x text).map qualM)=addU (dedU (q.filterMap fun x=>(lookU u x text).map qualM)) (d.owner++⟨#[46]⟩++d.name):=by
       rw[List.filterMap_append];simp[hlk,dedU,qualM,List.foldl_append]
      refine⟨(show d.owner.size+1≤1152921504606846976 by omega),(show d.owner.size+1+d.name.size≤1152921504606846976 by omega),?_⟩
      have hdl:=dedU_len (q.filterMap fun x=>(lookU u x text).map qualM) []
      have hfl:=List.length_filterMap_le (fun x=>(lookU u x text).map qualM) q
      refine Kadd [] _ v (z++[.cells d.enc]) y _ _ (by unfold dedU;simp only[List.length_nil]at hdl;omega) (hacc.heap _) fun v' z' y' hacc' hz1 hy1=>?_
      rw[←hsn2]at hacc' ⊢
      simp -implicitDefEqProofs only[go_sem,ap_get,ap_get0,ap_set,ap_set0,List.getElem?_cons_succ,List.set_cons_succ,List.cons_append]
      exact⟨(v',z',y'),hacc',hw,⟨tell1_rfl,tellH_refl⟩,tellA_cut0,.inl ⟨Nat.le_refl _,Nat.le_refl _⟩⟩
   ·have hLn:1+(subU u c).length=L.length:=by rw[hL,List.length_cons];omega
    refine snd_list (β:=V×List VObj×List Nat) L (fun q b=>⟨[(48,.int .i64 q.length),(47,.int .i64 L.length),(46,sl 9 (L.map encTx)),(11,.func 69 [.ptr 2 0,.ptr 3 0]),(10,.ptr 3 0),(0,sl 70 (u.map Un.enc)),(3,.str text)],
     .cells [.int .i64 un,.int .i64 nd] :: .map (seenM (dedU (q.filterMap fun x=>(lookU u x text).map qualM))) :: .cells [.map 1] :: .cells [b.1]::b.2.1,[1+(subU u c).length]++b.2.2⟩)
     (fun q r b=>accV 9 4 ([1+(subU u c).length]:List Nat).length b.2.1 b.2.2 b.1 ((dedU (q.filterMap fun x=>(lookU u x text).map qualM)).map encTx)) (.slice .nil 0 [],[],[]) ?_ accV.nil ?_ ?_
    ·subst hL
     simp -implicitDefEqProofs only[go_sem]
     exact⟨⟨rfl,rfl⟩,rfl⟩
    ·rintro⟨v,z,y⟩ hacc
     simp only at hacc ⊢
     simp -implicitDefEqProofs only[go_sem,ap_get,ap_get0,ap_set,ap_set0,List.getElem?_cons_succ,List.set_cons_succ,List.cons_append]
     refine @SortStr [.cells [.int .i64 un,.int .i64 nd],.map (seenM (dedU (L.filterMap fun x=>(lookU u x text).map qualM))),.cells [.map 1],.cells [v]] z [1+(subU u c).length] y v _ _ hacc fun z2 hacc2 hl2 hk2=>?_
     simp -implicitDefEqProofs only[go_sem,ap_get,ap_get0,ap_set,ap_set0,List.getElem?_cons_succ,List.set_cons_succ,List.cons_append]
     exact hacc2.base
    ·rintro q x r ⟨v,z,y⟩ hx hacc
     have hpl:L.length=q.length+1+r.length:=by rw[hx];simp;omega
     have hgx:(L.map encTx).getD (q.length:Int).toNat []=encTx x:=by rw[hx];simp[List.getD_eq_getElem?_getD]
     have hlt:((q.length:Int)<L.length)=True:=by simp;omega
     have hw:IntKind.i64.wrap (↑q.length+1)=↑(q.length+1):=wrap_next (by omega)
     simp only at hacc ⊢
     simp -implicitDefEqProofs only[go_sem,hgx,hlt,encTx,ap_get,ap_get0,ap_set,ap_set0,List.getElem?_cons_succ,List.set_cons_succ,List.cons_append]
     refine VCalls.toV ((CLookup u hu x text).calls (by simp -implicitDefEqProofs only[go_sem]) ?_)
     cases hlk:lookU u x text with
     | none =>
      simp -implicitDefEqProofs only[go_sem,ap_get,ap_get0,ap_set,ap_set0,List.getElem?_cons_succ,List.set_cons_succ,List.cons_append,encDO,Option.isSome_none]
      have hsn:(q++[x]).filterMap (fun x=>(lookU u x text).map qualM)=q.filterMap fun x=>(lookU u x text).map qualM:=by
       rw[List.filterMap_append];simp[hlk]
      rw[hsn]
      exact⟨(v,z++[.cells Dl.zero.enc],y),hacc.heap _,hw,⟨rfl,tell1_rfl,tellH_refl⟩,tellA_cut0,.inl ⟨by simp,Nat.le_refl _⟩⟩
     | some d =>
      simp -implicitDefEqProofs only[go_sem,ap_get,ap_get0,ap_set,ap_set0,List.getElem?_cons_succ,List.set_cons_succ,List.cons_append,encDO,Option.isSome_some,Option.getD_some]
      obtain⟨hso,hsn⟩:=hsd d (lookU_mem hlk).1
      have hsn2:dedU ((q++[x]).filterMap fun x=>(lookU u x text).map qualM)=addU (dedU (q.filterMap fun x=>(lookU u x text).map qualM)) (d.owner++⟨#[46]⟩++d.name):=by
       rw[List.filterMap_append];simp[hlk,dedU,qualM,List.foldl_append]
      refine⟨(show d.owner.size+1≤1152921504606846976 by omega),(show d.owner.size+1+d.name.size≤1152921504606846976 by omega),?_⟩
      have hdl:=dedU_len (q.filterMap fun x=>(lookU u x text).map qualM) []
      have hfl:=List.length_filterMap_le (fun x=>(lookU u x text).map qualM) q
      refine Kadd [1+(subU u c).length] _ v (z++[.cells d.enc]) y _ _ (by unfold dedU;simp only[List.length_nil]at hdl;omega) (hacc.heap _) fun v' z' y' hacc' hz1 hy1=>?_
      rw[←hsn2]at hacc' ⊢
      simp -implicitDefEqProofs only[go_sem,ap_get,ap_get0,ap_set,ap_set0,List.getElem?_cons_succ,List.set_cons_succ,List.cons_append]
      exact⟨(v',z',y'),hacc',hw,⟨tell1_rfl,tellH_refl⟩,tellA_cut0,.inl ⟨Nat.le_refl _,Nat.le_refl _⟩⟩
 ·refine @SortStr [.cells [.int .i64 un,.int .i64 nd],.map [],.cells [.map 1],.cells [.slice .nil 0 []]] [] [] [] _ [] _ accV.nil fun z2 hacc2 hl2 hk2=>?_
  have hno:tgtU u un nd kind text=[]:=by rw[tgtU,if_neg h20,if_neg h21]
  rw[hno]
  simp -implicitDefEqProofs only[go_sem,ap_get,ap_get0,ap_set,ap_set0,List.getElem?_cons_succ,List.set_cons_succ,List.cons_append]
  exact accV.nil
end Go.Proofs.YtighfcpaplmaiaaGreatDoor
set_option maxRecDepth 20000
namespace Go.Vg
def fnAt(l:List Rw)(i:Nat):Option Nat:=upF l (l.length+1) (i:Int)
def qnR(l:List Rw)(i:Nat):ByteArray:=if 0≤(rwAt l i).parent∧(rwAt l (rwAt l i).parent.toNat).kind=7 then(rwAt l (rwAt l i).parent.toNat).text++⟨#[46]⟩++(rwAt l i).text else(rwAt l i).text
def arnd(l:List Rw)(i:Nat):Option ByteArray:=(fnAt l i).map (qnR l)
end Go.Vg
namespace Go.Proofs.YtighfcpaplmaiaaGreatDoor
open Go Go.Vg Go.Proofs
def tgsU(u:List Un)(un nd:Int):List ByteArray:=if ¬ (chkU u).1=0∨un<0∨(u.length:Int)≤un then []else
 match(if 0≤nd then(nodes ((u[un.toNat]?.map Un.tree).getD Nd.zero))[nd.toNat]? else none)with
 | some n=>tgtU u un nd n.kind n.text
 | none=>[]
theorem KTargets(u:List Un)(hu:fitU u)(hgp:gapsU u)(un nd:Int)(hnd:nd≤9223372036854775807):VPure env 12 [sl 70 (u.map Un.enc),.agg [.int .i64 un,.int .i64 nd]] (sl 9 ((tgsU u un nd).map encTx)):=by
 refine vpure_vc (fn:=Tryz.f12) Tryz.func12 rfl (by rw[Tryz.ntmps12];simp) (by simp -implicitDefEqProofs only[go_sem];exact uns_pure _) (by simp -implicitDefEqProofs only[go_sem]) ?_
 simp -implicitDefEqProofs only[go_sem,Tryz.f12]
 refine(TCheck u hu hgp).calls (by simp -implicitDefEqProofs only[go_sem]) ?_
 simp -implicitDefEqProofs only[go_sem,encE]
 refine⟨fun h0=>⟨fun h1 _ _=>⟨fun h2=>?_,fun h2=>?_⟩,fun h1=>?_⟩,fun h0=>?_⟩
 ·rw[tgsU,if_pos (.inr (.inr h2))];rfl
 ·have h0':(chkU u).1=0:=by simpa using h0
  obtain⟨n,rfl⟩:∃ n:Nat,un=n:=⟨un.toNat,by omega⟩
  have hn:n<u.length:=by omega
  have hun:u[n]? = some u[n]:=List.getElem?_eq_getElem hn
  generalize u[n]=x at hun
  have hx:=hu.2 x (List.mem_of_getElem? hun)
  have hgx:(u.map Un.enc).getD ((n:Nat):Int).toNat []=x.enc:=by simp[List.getD_eq_getElem?_getD,hun]
  have hlt:((n:Int)<u.length)=True:=by simp;omega
  have htg:tgsU u n nd=match(if 0≤nd then(nodes x.tree)[nd.toNat]? else none)with | some m=>tgtU u n nd m.kind m.text | none=>[]:=by
   rw[tgsU,if_neg (by rintro(h | h | h) <;> first | exact h h0' | omega),Int.toNat_natCast,hun];rfl
  refine snd_draw (cs:=[]) mixed (by kernel_rfl) ?_
  simp -implicitDefEqProofs only[go_sem,hgx,hlt]
  refine vPC_of (TAt x.tree (by omega) nd hnd) (by simp -implicitDefEqProofs only[go_sem]) ?_
  cases ho:(if 0≤nd then(nodes x.tree)[nd.toNat]? else none)with
  | none =>
   rw[ho]at htg
   simp -implicitDefEqProofs only[go_sem,Option.isSome_none]
   rw[htg];rfl
  | some m =>
   rw[ho]at htg
   simp only at htg
   have h0d:0≤nd:=by
    rcases Int.lt_or_le nd 0 with h | h
    ·rw[if_neg (by omega)]at ho;cases ho
    ·exact h
   rw[if_pos h0d]at ho
   have hml:=(List.getElem?_eq_some_iff.1 ho).1
   obtain⟨mk,mt,mg,mks⟩:=m
   simp -implicitDefEqProofs only[go_sem,Option.isSome_some,Option.getD_some]
   refine(Ktargets u hu hgp n nd mk ⟨h0d,by omega⟩ mt).calls (by simp -implicitDefEqProofs only[go_sem]) ?_
   simp -implicitDefEqProofs only[go_sem]
   rw[htg];rfl
 ·rw[tgsU,if_pos (.inr (.inl h1))];rfl
 ·rw[tgsU,if_pos (.inl (by simpa using h0))];rfl
theorem Karound(l:List Rw)(hr:rowsOK l)(i:Nat)(hi:i<l.length)(hs:∀ r∈l,r.text.size≤1000000):VPure env 42 [sl 48 (l.map Rw.enc),.int .i64 i] (.tuple [.str ((arnd l i).getD ⟨#[]⟩),.bool (arnd l i).isSome]):=by
 refine vpure_vc (fn:=Tryz.f42) Tryz.func42 rfl (by rw[Tryz.ntmps42];simp) (by simp -implicitDefEqProofs only[go_sem];exact rows_pure _) rfl ?_
 simp -implicitDefEqProofs only[go_sem,Tryz.f42]
 refine snd_for (α:=Int×Nat) (fun b=>⟨[(6,.int .i64 b.1),(5,.bool false),(4,.str ⟨#[]⟩),(0,sl 48 (l.map Rw.enc))],[],[]⟩)
  (fun b => -1≤b.1∧b.1+1<b.2∧b.1<l.length∧fnAt l i=upF l b.2 b.1) (fun b=>(b.1+1).toNat) (i,l.length+1) ?_ ⟨by omega,by simp;omega,by simp;omega,rfl⟩ ?_
 ·simp -implicitDefEqProofs only[go_sem]
  try rfl
 ·rintro⟨k,f⟩ ⟨h1,h2,h3,h4⟩
  simp only at h1 h2 h3 h4 ⊢
  obtain⟨f,rfl⟩:∃ f',f=f'+1:=⟨f - 1,by omega⟩
  simp -implicitDefEqProofs only[go_sem]
  refine⟨fun hk=>?_,fun hk=>?_⟩
  ·obtain⟨k,rfl⟩:=Int.eq_ofNat_of_zero_le hk
   have hkl:k<l.length:=by omega
   have hgk:=row_getDi hkl
   have hklt:((k:Int)<l.length)=True:=by simp;omega
   have hk0:(0≤(k:Int))=True:=by simp
   have hpk:=hr.par k hkl
   rw[upF,if_neg (by omega),Int.toNat_natCast]at h4
   simp -implicitDefEqProofs only[go_sem,hgk,hklt,hk0,Rw.enc]
   refine⟨fun h2=>?_,fun h2=>?_⟩
   ·have h2':¬ (rwAt l k).kind=2:=by simpa using h2
    rw[if_neg h2']at h4
    exact⟨((rwAt l k).parent,f),by simp only;omega,⟨hpk.2,by simp only;omega,by simp only;omega,h4⟩,rfl⟩
   ·have h2':(rwAt l k).kind=2:=by simpa using h2
    rw[if_pos h2']at h4
    have har:arnd l i=some (qnR l k):=by rw[arnd,h4];rfl
    rw[har]
    have hts:∀ j:Nat,j<l.length→(rwAt l j).text.size≤1000000:=fun j hj=>by
     have:=hs l[j] (List.getElem_mem hj)
     rw[show rwAt l j=l[j]by simp[rwAt,List.getD_eq_getElem?_getD,hj]]
     exact this
    refine⟨fun hp0=>?_,fun hp0=>?_⟩
    ·obtain⟨p,hpe⟩:=Int.eq_ofNat_of_zero_le hp0
     have hpl:p<l.length:=by omega
     have hgp:=row_getDi hpl
     have hplt:((p:Int)<l.length)=True:=by simp;omega
     have hpp0:(0≤(p:Int))=True:=by simp
     have hq:qnR l k=if(rwAt l p).kind=7 then(rwAt l p).text++⟨#[46]⟩++(rwAt l k).text else(rwAt l k).text:=by
      unfold qnR;rw[hpe,Int.toNat_natCast];simp
     rw[hpe]
     rw[hq]
     simp -implicitDefEqProofs only[go_sem,hgp,hplt,hpp0,Rw.enc]
     refine⟨fun h7=>?_,fun h7=>⟨by omega,?_⟩⟩
     ·rw[if_pos h7]
      refine snd_draw (cs:=[]) mixed (by kernel_rfl) ?_
      simp -implicitDefEqProofs only[go_sem,hgp,hplt,hpp0,hgk,hklt,hk0,Rw.enc]
      have t1:=hts p hpl
      have t2:=hts k hkl
      exact⟨(show(rwAt l p).text.size+1≤1152921504606846976 by omega),(show(rwAt l p).text.size+1+(rwAt l k).text.size≤1152921504606846976 by omega),rfl⟩
     ·rw[if_neg h7]
      simp -implicitDefEqProofs only[go_sem,hgp,hplt,hpp0,hgk,hklt,hk0,Rw.enc]
      try rfl
    ·have hq:qnR l k=(rwAt l k).text:=by unfold qnR;rw[if_neg (fun h=>hp0 h.1)]
     rw[hq];rfl
  ·have hk':k<0:=by omega
   rw[upF,if_pos hk']at h4
   have:arnd l i=none:=by rw[arnd,h4];rfl
   rw[this];rfl
end Go.Proofs.YtighfcpaplmaiaaGreatDoor
set_option linter.unusedSectionVars false
namespace Go.Vg
theorem pigeonL{α:Type}[DecidableEq α]:∀ (l m:List α),l.Nodup→(∀ x∈l,x∈m)→l.length≤m.length
 | [],m,_,_=>Nat.zero_le _
 | x::l,m,hn,hm=>by
  have hx:=hm x (by simp)
  have h1:=pigeonL l (m.erase x) (List.nodup_cons.1 hn).2 fun y hy=>by
   refine(List.mem_erase_of_ne ?_).2 (hm y (by simp[hy]))
   rintro rfl;exact(List.nodup_cons.1 hn).1 hy
  have h2:=List.length_erase_of_mem hx
  have h3:=List.length_pos_of_mem hx
  simp only[List.length_cons];omega
section
variable {α : Type} [DecidableEq α] (succ : α → List α)
def flwStep(p:List α×List α)(t:α):List α×List α:=if t∈p.1 then p else(p.1++[t],p.2++[t])
def flwN:Nat→List α→List α→List α
 | 0,_,out=>out
 | _+1,[],out=>out
 | f+1,s::w,out=>flwN f ((succ s).foldl flwStep (out,w)).2 ((succ s).foldl flwStep (out,w)).1
inductive Rch(s:α):α→Prop
 | one {t}:t∈succ s→Rch s t
 | more {b t}:Rch s b→t∈succ b→Rch s t
theorem Rch.cons{succ:α→List α}{s b t:α}(hb:b∈succ s)(h:Rch succ b t):Rch succ s t:=by
 induction h with
 | one h=>exact .more (.one hb) h
 | more _ h ih=>exact .more ih h
theorem Rch.head{succ:α→List α}{s t:α}(h:Rch succ s t):∃ b∈succ s,t=b∨Rch succ b t:=by
 induction h with
 | one h=>exact⟨_,h,.inl rfl⟩
 | more _ h ih =>
  obtain⟨b,h1,h2⟩:=ih
  rcases h2 with rfl | h2
  ·exact⟨_,h1,.inr (.one h)⟩
  ·exact⟨b,h1,.inr (.more h2 h)⟩
theorem Rch.trans{succ:α→List α}{s b t:α}(h1:Rch succ s b)(h:Rch succ b t):Rch succ s t:=by
 induction h with
 | one h=>exact .more h1 h
 | more _ h ih=>exact .more ih h
theorem flwStep_facts:∀ (l out w:List α),∃ new,(l.foldl flwStep (out,w))=(out++new,w++new)∧(∀ t∈new,t∈l∧t ∉ out)∧new.Nodup∧∀ t∈l,t∈out∨t∈new
 | [],out,w=>⟨[],by simp,by simp,by simp,by simp⟩
 | x::r,out,w=>by
  rw[List.foldl_cons]
  by_cases h:x∈out
  ·have e:flwStep (out,w) x=(out,w):=by unfold flwStep;rw[if_pos h]
   rw[e]
   obtain⟨new,h1,h2,h3,h4⟩:=flwStep_facts r out w
   refine⟨new,h1,fun t ht=>⟨by simp[(h2 t ht).1],(h2 t ht).2⟩,h3,fun t ht=>?_⟩
   rcases List.mem_cons.1 ht with rfl | ht
   ·exact .inl h
   ·exact h4 t ht
  ·have e:flwStep (out,w) x=(out++[x],w++[x]):=by unfold flwStep;rw[if_neg h]
   rw[e]
   obtain⟨new,h1,h2,h3,h4⟩:=flwStep_facts r (out++[x]) (w++[x])
   refine⟨x::new,by rw[h1];simp,fun t ht=>?_,?_,fun t ht=>?_⟩
   ·rcases List.mem_cons.1 ht with rfl | ht
    ·exact⟨by simp,h⟩
    ·exact⟨by simp[(h2 t ht).1],fun hm=>(h2 t ht).2 (by simp[hm])⟩
   ·exact List.nodup_cons.2 ⟨fun hm=>(h2 x hm).2 (by simp),h3⟩
   ·rcases List.mem_cons.1 ht with rfl | ht
    ·exact .inr (by simp)
    ·rcases h4 t ht with hm | hm
     ·rcases List.mem_append.1 hm with hm | hm
      ·exact .inl hm
      ·exact .inr (by simp at hm;simp[hm])
     ·exact .inr (by simp[hm])
structure FlwI(T:List α)(s:α)(w out:List α):Prop where
 nod:out.Nodup
 sub:∀ t∈out,t∈T
 rch:∀ t∈out,Rch succ s t
 wrk:∀ t∈w,t=s∨t∈out
 cls:∀ x,(x=s∨x∈out)→x∈w∨∀ t∈succ x,t∈out
variable {succ}
theorem FlwI.start{T:List α}{s:α}:FlwI succ T s [s] []:=⟨by simp,by simp,by simp,by simp,fun x h=>by rcases h with rfl | h <;> simp_all⟩
theorem FlwI.step{T:List α}{s x:α}{w out:List α}(hT:∀ a,∀ t∈succ a,t∈T)(h:FlwI succ T s (x::w) out):FlwI succ T s ((succ x).foldl flwStep (out,w)).2 ((succ x).foldl flwStep (out,w)).1:=by
 obtain⟨new,h1,h2,h3,h4⟩:=flwStep_facts (succ x) out w
 rw[h1]
 have hxr:∀ t∈succ x,Rch succ s t:=fun t ht=>by
  rcases h.wrk x (by simp)with rfl | hx
  ·exact .one ht
  ·exact .more (h.rch x hx) ht
 refine⟨?_,fun t ht=>?_,fun t ht=>?_,fun t ht=>?_,fun y hy=>?_⟩
 ·rw[List.nodup_append]
  refine⟨h.nod,h3,fun a ha b hb=>?_⟩
  rintro rfl
  exact(h2 a hb).2 ha
 ·rcases List.mem_append.1 ht with ht | ht
  ·exact h.sub t ht
  ·exact hT x t (h2 t ht).1
 ·rcases List.mem_append.1 ht with ht | ht
  ·exact h.rch t ht
  ·exact hxr t (h2 t ht).1
 ·rcases List.mem_append.1 ht with ht | ht
  ·rcases h.wrk t (by simp[ht])with h | h
   ·exact .inl h
   ·exact .inr (List.mem_append_left _ h)
  ·exact .inr (List.mem_append_right _ ht)
 ·have hall:∀ t∈succ x,t∈out++new:=fun t ht=>by
   rcases h4 t ht with h | h
   ·exact List.mem_append_left _ h
   ·exact List.mem_append_right _ h
  have old:(y=s∨y∈out)→y∈w++new∨∀ t∈succ y,t∈out++new:=fun hy=>by
   rcases h.cls y hy with hw | hw
   ·rcases List.mem_cons.1 hw with rfl | hw
    ·exact .inr hall
    ·exact .inl (List.mem_append_left _ hw)
   ·exact .inr fun t ht=>List.mem_append_left _ (hw t ht)
  rcases hy with hy | hy
  ·exact old (.inl hy)
  ·rcases List.mem_append.1 hy with hy | hy
   ·exact old (.inr hy)
   ·exact .inl (List.mem_append_right _ hy)
theorem pigeonS{T:List α}(l:List α)(hl:l.Nodup)(hs:∀ x∈l,x∈T):l.length≤T.length:=pigeonL l T hl hs
theorem flwN_facts{T:List α}{s:α}(hT:∀ a,∀ t∈succ a,t∈T):∀ (f:Nat) (w out:List α),FlwI succ T s w out→T.length+w.length<f+out.length →
  (flwN succ f w out).Nodup∧(∀ t,t∈flwN succ f w out↔Rch succ s t)∧∀ t∈flwN succ f w out,t∈T:=by
 intro f
 induction f with
 | zero =>
  intro w out h hf
  have:=pigeonS out h.nod h.sub
  omega
 | succ f ih =>
  intro w out h hf
  cases w with
  | nil =>
   refine⟨h.nod,fun t=>⟨fun ht=>h.rch t ht,fun ht=>?_⟩,h.sub⟩
   show t∈out
   induction ht with
   | one ht=>exact(h.cls s (.inl rfl)).elim (fun h=>by cases h) (fun h=>h _ ht)
   | more _ ht ih=>exact(h.cls _ (.inr ih)).elim (fun h=>by cases h) (fun h=>h _ ht)
  | cons x w =>
   rw[flwN]
   refine ih _ _ (h.step hT) ?_
   obtain⟨new,h1,_⟩:=flwStep_facts (succ x) out w
   rw[h1]
   simp only[List.length_append,List.length_cons]at hf ⊢
   omega
end
end Go.Vg
namespace Go.Vg
theorem bl_lt:∀ x y:List UInt8,Op.bytesLess x y=true↔x<y:=by
 intro x
 induction x with
 | nil=>intro y;cases y <;> simp[Op.bytesLess]
 | cons a x ih =>
  intro y
  cases y with
  | nil=>simp[Op.bytesLess]
  | cons b y =>
   rw[bl_cons,List.cons_lt_cons_iff,Bool.or_eq_true,Bool.and_eq_true,decide_eq_true_eq,decide_eq_true_eq,ih]
   have h1:a.toNat<b.toNat↔a<b:=UInt8.lt_iff_toNat_lt.symm
   have h2:a.toNat=b.toNat↔a=b:=UInt8.toNat_inj
   rw[h1,h2]
theorem ltB_lt(a b:ByteArray):ltB a b=true↔a.data.toList<b.data.toList:=by
 unfold ltB
 rw[bl_lt,toList_data,toList_data]
theorem mergeS_pair(l:List ByteArray):(l.mergeSort fun a b=>decide (a.data.toList≤b.data.toList)).Pairwise fun a b=>ltB b a=false:=by
 have h:=List.pairwise_mergeSort (le:=fun a b:ByteArray=>decide (a.data.toList≤b.data.toList)) (fun a b c h1 h2=>by
  simp only[decide_eq_true_eq]at h1 h2 ⊢
  exact List.le_trans h1 h2) (fun a b=>by
  simp only[Bool.or_eq_true,decide_eq_true_eq]
  exact List.le_total _ _) l
 refine h.imp fun {a b} hab=>?_
 simp only[decide_eq_true_eq]at hab
 cases hl:ltB b a with
 | false=>rfl
 | true=>exact absurd ((ltB_lt b a).1 hl) (List.not_lt.2 hab)
theorem mergeS_asc{l:List ByteArray}(hn:l.Nodup):(l.mergeSort fun a b=>decide (a.data.toList≤b.data.toList)).Pairwise fun a b=>ltB a b=true:=by
 have h1:=mergeS_pair l
 have h2:(l.mergeSort fun a b=>decide (a.data.toList≤b.data.toList)).Nodup:=(List.mergeSort_perm l _).nodup_iff.2 hn
 refine(h1.and h2).imp fun {a b} ⟨hab,hne⟩=>?_
 cases hl:ltB a b with
 | true=>rfl
 | false=>exact absurd (ltB_tri hl hab) hne
end Go.Vg
set_option maxRecDepth 20000
namespace Go.Vg
structure Ed where
 fr:ByteArray
 to:ByteArray
deriving DecidableEq
def Ed.enc(c:Ed):List V:=[.str c.fr,.str c.to]
theorem ed_len(c:Ed):c.enc.length=2:=rfl
@[go_sem] theorem ed_pure(c:Ed):pureL c.enc=true:=rfl
theorem eds_pure:∀ l:List Ed,pureLL (l.map Ed.enc)=true
 | []=>rfl
 | n::r=>by show(pureL _ && pureLL (r.map Ed.enc))=true;rw[eds_pure r];rfl
abbrev SuM:=List (ByteArray×List ByteArray)
def numM:Nat→SuM→List (ByteArray×(Nat×List ByteArray))
 | _,[]=>[]
 | b,p::r=>(p.1,(b,p.2))::numM (b+1) r
theorem num_get(k:ByteArray):∀ (N:SuM) (b:Nat),
  (∃ (j:Nat) (vs:List ByteArray),getM (numM b N) k=some (b+j,vs)∧getM N k=some vs∧N[j]? = some (k,vs)∧∀ vs',setM (numM b N) k (b+j,vs')=numM b (setM N k vs')∧setM N k vs'=N.set j (k,vs')) ∨
  (getM (numM b N) k=none∧getM N k=none∧∀ vs',setM (numM b N) k (b+N.length,vs')=numM b (setM N k vs')∧setM N k vs'=N++[(k,vs')])
 | [],b => .inr ⟨rfl,rfl,fun vs'=>⟨rfl,rfl⟩⟩
 | p::r,b=>by
  by_cases h:k=p.1
  ·refine .inl ⟨0,p.2,?_,?_,?_,fun vs'=>⟨?_,?_⟩⟩
   ·rw[numM,getM];simp[h]
   ·rw[getM,if_pos h]
   ·simp[h]
   ·rw[numM,setM,if_pos h,setM,if_pos h,numM];rfl
   ·rw[setM,if_pos h];rfl
  ·rcases num_get k r (b+1)with⟨j,vs,h1,h2,h3,h4⟩ | ⟨h1,h2,h3⟩
   ·refine .inl ⟨j+1,vs,?_,?_,by simpa using h3,fun vs'=>⟨?_,?_⟩⟩
    ·rw[numM,getM,if_neg h,h1];congr 2;omega
    ·rw[getM,if_neg h,h2]
    ·rw[numM,setM,if_neg h,setM,if_neg h,numM,←(h4 vs').1,show b+(j+1)=b+1+j by omega]
    ·rw[setM,if_neg h,(h4 vs').2];rfl
   ·refine .inr ⟨?_,?_,fun vs'=>⟨?_,?_⟩⟩
    ·rw[numM,getM,if_neg h,h1]
    ·rw[getM,if_neg h,h2]
    ·rw[numM,setM,if_neg h,setM,if_neg h,numM,←(h3 vs').1,List.length_cons,show b+(r.length+1)=b+1+r.length by omega]
    ·rw[setM,if_neg h,(h3 vs').2];rfl
def scN(N:SuM)(s:ByteArray):List ByteArray:=(getM N s).getD []
def addE(N:SuM)(x:Ed):SuM:=setM N x.fr (scN N x.fr++[x.to])
def sucN(l:List Ed):SuM:=l.foldl addE []
theorem sucN_snoc(l:List Ed)(x:Ed):sucN (l++[x])=addE (sucN l) x:=by simp[sucN]
theorem scN_spec(s:ByteArray):∀ (l:List Ed) (N:SuM),scN (l.foldl addE N) s=scN N s++(l.filter fun x=>decide (x.fr=s)).map Ed.to
 | [],N=>by simp
 | x::r,N=>by
  rw[List.foldl_cons,scN_spec s r,List.filter_cons]
  unfold addE
  by_cases h:x.fr=s
  ·rw[if_pos (by simpa using h)]
   unfold scN
   rw[get_set,if_pos h.symm,h];simp
  ·rw[if_neg (by simpa using h)]
   unfold scN
   rw[get_set,if_neg (fun e=>h e.symm)]
theorem scN_suc(l:List Ed)(s:ByteArray):scN (sucN l) s=(l.filter fun x=>decide (x.fr=s)).map Ed.to:=by
 rw[sucN,scN_spec];rfl
end Go.Vg
namespace Go.Proofs.YtighfcpaplmaiaaGreatDoor
open Go Go.Vg Go.Proofs
def veS(p:Nat×List ByteArray):V := .slice (.arr p.1) 9 (p.2.map encTx)
def encSu(b:Nat)(N:SuM):List (V×V):=encM .str veS (numM b N)
theorem look_Su{b:Nat}{N:SuM}{s:ByteArray}{K:V→Prop}:vLookF env 28 (findV .string (.str s) (encSu b N) 0) false K=K (((getM (numM b N) s).map veS).getD (.slice .nil 0 [])) :=
 lookS_M1 (E:=env) (ve:=veS) (k:=s) (by kernel_rfl) (by kernel_rfl)
theorem set_Su{b:Nat}{N:SuM}{s:ByteArray}{p:Nat×List ByteArray}{h:List VObj}{id:Nat}{L:List VObj→Prop}:vSetF h id (encSu b N) (.str s) (veS p) (findV .string (.str s) (encSu b N) 0) L=L (h.set id (.map (encM .str veS (setM (numM b N) s p)))) :=
 setS_M (ve:=veS) (k:=s) (v:=p)
def wkSu:Wk := .one 0 (.one 1 (.one 3 (.one 4 (.one 5 (.one 6 (.one 7 (.one 8 (.one 9 (.br 2 (.one 10 (.one 11 (.stop))) (.br 10 (.one 2 (.one 11 (.stop))) (.stop)))))))))))
theorem Ksucc(l:List Ed)(h:List VObj)(a:List Nat){K:Cont}(hK:∀ z,K (.map h.length) (h ++ .map (encSu a.length (sucN l))::z) (a++(sucN l).map fun p=>p.2.length)) :
  VCalls env 47 [sl 38 (l.map Ed.enc)] h a K:=by
 refine vcalls_vc (fn:=Tryz.f47) Tryz.func47 rfl (by rw[Tryz.ntmps47];simp) ?_
 simp -implicitDefEqProofs only[go_sem,Tryz.f47]
 intro _ _
 refine snd_list (β:=List VObj) l (fun q z=>⟨[(9,.int .i64 q.length),(8,.int .i64 l.length),(7,sl 38 (l.map Ed.enc)),(3,.map h.length),(2,.nilmap)],
   h ++ .map (encSu a.length (sucN q))::z,a++(sucN q).map fun p=>p.2.length⟩) (fun _ _ _=>True) [] ?_ trivial ?_ ?_
 ·simp -implicitDefEqProofs only[go_sem]
  exact⟨rfl,rfl,by simp[sucN,tellA_cut0],by simp[sucN],.inl (by simp[sucN])⟩
 ·intro z _
  simp -implicitDefEqProofs only[go_sem,ap_get,ap_get0,ap_set,ap_set0,List.getElem?_cons_succ,List.set_cons_succ,List.cons_append]
  exact hK z
 ·rintro q x r z hx _
  have hpl:l.length=q.length+1+r.length:=by rw[hx];simp;omega
  have hgx:(l.map Ed.enc).getD (q.length:Int).toNat []=x.enc:=by rw[hx];simp[List.getD_eq_getElem?_getD]
  have hlt:((q.length:Int)<l.length)=True:=by simp;omega
  have hw:IntKind.i64.wrap (↑q.length+1)=↑(q.length+1):=wrap_next (by omega)
  simp -implicitDefEqProofs only[go_sem,hgx,hlt,ap_get,ap_get0,ap_set,ap_set0,List.getElem?_cons_succ,List.set_cons_succ,List.cons_append,Ed.enc,look_Su]
  refine snd_walk (cs:=[]) wkSu mixed (by kernel_rfl) ?_
  rcases num_get x.fr (sucN q) a.length with⟨j,vs,h1,h2,h3,h4⟩ | ⟨h1,h2,h3⟩
  ·have hvq:vs.length≤q.length:=by
    have e1:=scN_suc q x.fr
    rw[scN,h2,Option.getD_some]at e1
    rw[e1,List.length_map];exact List.length_filter_le _ _
   have hadd:sucN (q++[x])=setM (sucN q) x.fr (vs++[x.to]):=by rw[sucN_snoc,addE,scN,h2];rfl
   have hset:∀ (hh:List VObj) (id:Nat) (L:List VObj→Prop),vSetF hh id (encSu a.length (sucN q)) (.str x.fr) (.slice (.arr (a.length+j)) 9 (vs.map encTx++[[.str x.to]])) (findV .string (.str x.fr) (encSu a.length (sucN q)) 0) L=L (hh.set id (.map (encSu a.length (sucN (q++[x]))))):=fun hh id L=>by
    have:=@set_Su a.length (sucN q) x.fr (a.length+j,vs++[x.to]) hh id L
    rw[(h4 _).1,←hadd]at this
    refine Eq.trans ?_ this
    simp[veS,encTx]
   have hgj:(List.map (fun p:ByteArray×List ByteArray=>p.2.length) (sucN q))[j]? = some vs.length:=by rw[List.getElem?_map,h3];rfl
   have harr:(List.map (fun p:ByteArray×List ByteArray=>p.2.length) (sucN q)).set j (vs.length+1)=(sucN (q++[x])).map fun p=>p.2.length:=by
    rw[hadd,(h4 _).2,List.map_set];simp
   simp -implicitDefEqProofs only[go_sem,hgx,hlt,ap_get,ap_get0,ap_set,ap_set0,List.getElem?_cons_succ,List.set_cons_succ,List.cons_append,Ed.enc,look_Su,h1,Option.map_some,Option.getD_some,veS,wkSu,hset,hgj,harr]
   exact⟨by omega,z++[.cells [.str x.fr,.str x.to]],hw,tellH_refl,by simp,.inl (by simp)⟩
  ·have hadd:sucN (q++[x])=setM (sucN q) x.fr [x.to]:=by rw[sucN_snoc,addE,scN,h2];rfl
   have hlen:(a++List.map (fun p:ByteArray×List ByteArray=>p.2.length) (sucN q)).length=a.length+(sucN q).length:=by simp
   have hset:∀ (hh:List VObj) (id:Nat) (L:List VObj→Prop),vSetF hh id (encSu a.length (sucN q)) (.str x.fr) (.slice (.arr (a++List.map (fun p:ByteArray×List ByteArray=>p.2.length) (sucN q)).length) 9 [[.str x.to]]) (findV .string (.str x.fr) (encSu a.length (sucN q)) 0) L=L (hh.set id (.map (encSu a.length (sucN (q++[x]))))):=fun hh id L=>by
    have:=@set_Su a.length (sucN q) x.fr (a.length+(sucN q).length,[x.to]) hh id L
    rw[(h3 _).1,←hadd]at this
    refine Eq.trans ?_ this
    rw[hlen]
    simp[veS,encTx]
   have harr:a++List.map (fun p:ByteArray×List ByteArray=>p.2.length) (sucN q)++[1]=a++(sucN (q++[x])).map fun p=>p.2.length:=by
    rw[hadd,(h3 _).2];simp
   simp -implicitDefEqProofs only[go_sem,hgx,hlt,ap_get,ap_get0,ap_set,ap_set0,List.getElem?_cons_succ,List.set_cons_succ,List.cons_append,Ed.enc,look_Su,h1,Option.map_none,Option.getD_none,wkSu,hset,harr]
   exact⟨z++[.cells [.str x.fr,.str x.to]],hw,tellH_refl,by simp,.inl (by simp)⟩
end Go.Proofs.YtighfcpaplmaiaaGreatDoor
