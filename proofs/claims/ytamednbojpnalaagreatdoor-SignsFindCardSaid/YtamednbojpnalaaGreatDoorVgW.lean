/- Freezing a slice that grew. -/
import Derived.Test.YtamednbojpnalaaGreatDoorTmN
import Derived.Test.YtamednbojpnalaaGreatDoorTmC
set_option linter.unusedVariables false
set_option linter.unusedSimpArgs false
namespace Go.Vg
theorem nodes_mk{k t g ks}:(nodes (.mk k t g ks)).length=(nodesL ks).length+1:=by rw[nodes];rfl
def Nd.zero:Nd := .mk 0 ⟨#[]⟩ [] []
@[go_sem] theorem vCopyD_sl'{E:Env}{heap:List VObj}{K:V→List VObj→Prop}{id off len cap e1 e e2 e':Nat}{es:List (List V)}(hn:es≠[]):vCopyD E heap (some (.slice e)) (some (.slice e2)) (.mslice id off len cap e1) (sl e' es) K=vCopyO E heap heap[id]? e id off len e' es K:=by
 cases es with
 | nil=>exact absurd rfl hn
 | cons=>rfl
theorem flatS:∀ l:List ByteArray,(l.map encTx).flatten=l.map V.str
 | []=>rfl
 | x::r=>by simp[flatS r,encTx]
theorem chunkS:∀ (l:List ByteArray),chunk 1 l.length (l.map V.str)=l.map encTx
 | []=>rfl
 | x::r=>by simp[chunk,chunkS r,encTx]
end Go.Vg
namespace Go.Proofs.YtamednbojpnalaaGreatDoor
open Go Go.Vg Go.Proofs
theorem TSize:(n:Nd)→(nodes n).length≤1000000→VPure env 144 [.agg n.enc] (.int .i64 (nodes n).length):=by
 refine Nd.all fun k t g ks ih hs=>?_
 refine vpure_vc (fn:=Tryz.f144) Tryz.func144 rfl (by rw[Tryz.ntmps144];simp) (by simp -implicitDefEqProofs only[go_sem]) rfl ?_
 simp -implicitDefEqProofs only[go_sem,Tryz.f144]
 intro _ hl
 rw[nodes_mk]at hs ⊢
 refine snd_list (β:=Unit) ks (fun pre _=>⟨[(9,.int .i64 pre.length),(8,.int .i64 ks.length),(7,sl 32 (ks.map Nd.enc)),(3,.int .i64 ((nodesL pre).length+1:Nat))],[.dead],[]⟩) (fun _ _ _=>True) () ?_ trivial ?_ ?_
 ·simp -implicitDefEqProofs only[go_sem]
  exact⟨rfl,rfl⟩
 ·intro _ _
  simp -implicitDefEqProofs only[go_sem]
 ·rintro pre x post _ rfl _
  have hp:=mid_len hl
  have hsz:(nodesL (pre++x::post)).length=(nodesL pre).length+(nodes x).length+(nodesL post).length:=by
   rw[nodesL_app,nodesL];simp;omega
  simp -implicitDefEqProofs only[go_sem]
  refine(ih x mem_mid (by omega)).calls (by simp -implicitDefEqProofs only[go_sem]) ?_
  simp -implicitDefEqProofs only[go_sem]
  refine⟨(),wrap_next (by omega),?_⟩
  rw[nodesL_snoc,List.length_append,Vg.wrap_small (by omega) (by omega)]
  omega
theorem Ttexts(l:List ByteArray):VPure env 96 [sl 9 (l.map encTx)] (sl 9 (l.map encTx)):=by
 refine vpure_vcF (fn:=Tryz.f96) Tryz.func96 rfl (by rw[Tryz.ntmps96];simp) (by simp -implicitDefEqProofs only[go_sem]) (by simp -implicitDefEqProofs only[go_sem]) ?_
 simp -implicitDefEqProofs only[go_sem,Tryz.f96]
 intro hb hl
 refine⟨fun h0=>?_,fun h0 _ _=>?_⟩
 ·have:l=[]:=List.eq_nil_of_length_eq_zero (by omega)
  subst this;rfl
 ·have hn:l.map encTx≠[]:=by
   intro h;apply h0;simp at h;simp[h]
  refine⟨hb,?_⟩
  rw[vCopyD_sl' hn]
  simp -implicitDefEqProofs only[go_sem]
  rw[flatS,Nat.zero_add,List.drop_eq_nil_of_le (by simp),List.append_nil]
  refine⟨by simp,by simp[V.cell],by simp,by rw[chunkS]⟩
theorem Tclone:(n:Nd)→VPure env 199 [.agg n.enc] (.agg n.enc):=by
 refine Nd.all fun k t g ks ih=>?_
 refine vpure_vc (fn:=Tryz.f199) Tryz.func199 rfl (by rw[Tryz.ntmps199];simp) (by simp -implicitDefEqProofs only[go_sem]) (by simp -implicitDefEqProofs only[go_sem]) ?_
 simp -implicitDefEqProofs only[go_sem,Tryz.f199]
 refine snd_draw (cs:=[]) mixed (by kernel_rfl) ?_
 simp -implicitDefEqProofs only[go_sem]
 refine vPC_of (Ttexts g) (by simp -implicitDefEqProofs only[go_sem]) ?_
 simp -implicitDefEqProofs only[go_sem]
 intro hb hl
 refine snd_list (β:=Unit) ks (fun pre _=>⟨[(17,.int .i64 pre.length),(16,.int .i64 ks.length),(15,sl 32 (ks.map Nd.enc)),(3,.ptr 2 0),(2,.ptr 1 0)],
   [.dead,.cells [.int .i64 0,.str ⟨#[]⟩,.slice .nil 0 [],.slice .nil 0 []],.cells [.int .i64 k,.str t,sl 9 (g.map encTx),.slice (.arr 0) 32 (pre.map Nd.enc)]],[pre.length]⟩)
  (fun _ _ _=>True) () ?_ trivial ?_ ?_
 ·simp -implicitDefEqProofs only[go_sem]
  rfl
 ·intro _ _
  simp -implicitDefEqProofs only[go_sem]
 ·rintro pre x post _ rfl _
  have hp:=mid_len hl
  simp -implicitDefEqProofs only[go_sem]
  refine snd_draw (cs:=[]) mixed (by kernel_rfl) ?_
  simp -implicitDefEqProofs only[go_sem]
  refine vPC_of (ih x mem_mid) (by simp -implicitDefEqProofs only[go_sem]) ?_
  simp -implicitDefEqProofs only[go_sem]
  refine⟨by simp at hb;omega,(),wrap_next (by omega),?_⟩
  have e:List.map Nd.enc pre++[x.enc]=List.map Nd.enc (pre++[x]):=by simp
  exact .inr (by rw[e];exact ltLL_pure _ _ _ (ncs_pure _))
theorem Tlocate:(n:Nd)→(nodes n).length≤1000000→∀ (i:Nat),i≤9223372036854775807→VPure env 198 [.agg n.enc,.int .i64 i]
  (match(nodes n)[i]? with | some x => .tuple [.agg x.enc,.int .i64 0,.bool true] | none => .tuple [.agg Nd.zero.enc,.int .i64 (nodes n).length,.bool false]):=by
 refine Nd.all fun k t g ks ih hn i hi=>?_
 refine vpure_vc (fn:=Tryz.f198) Tryz.func198 rfl (by rw[Tryz.ntmps198];simp) (by simp -implicitDefEqProofs only[go_sem]) (by split <;> simp -implicitDefEqProofs only[go_sem]) ?_
 simp -implicitDefEqProofs only[go_sem,Tryz.f198]
 have hz:Nd.zero.enc=[.int .i64 0,.str ⟨#[]⟩,.slice .shared 0 [],.slice .shared 0 []]:=rfl
 rw[nodes_mk]at hn
 refine⟨fun h0=>?_,fun h0 hb hl=>?_⟩
 ·have:i=0:=by omega
  subst this
  simp[nodes,enc_mk]
 refine snd_list (β:=Unit) ks (fun pre _=>⟨[(19,.int .i64 pre.length),(18,.int .i64 ks.length),(17,sl 32 (ks.map Nd.enc)),(7,.int .i64 ((nodesL pre).length+1:Nat)),(6,.bool false),(5,.int .i64 0),(4,.ptr 1 0),(1,.int .i64 i)],
   [.dead,.cells [.int .i64 0,.str ⟨#[]⟩,.slice .nil 0 [],.slice .nil 0 []]],[]⟩) (fun pre _ _=>(nodesL pre).length<i) () ?_ ?_ ?_ ?_
 ·simp -implicitDefEqProofs only[go_sem]
  exact⟨rfl,rfl⟩
 ·show 0<i
  omega
 ·intro _ hlt
  simp -implicitDefEqProofs only[go_sem]
  have:(nodes (.mk k t g ks))[i]? = none:=by
   rw[List.getElem?_eq_none];rw[nodes_mk];omega
  rw[this,nodes_mk,hz]
 ·rintro pre x post _ rfl hlt
  have hp:=mid_len hl
  have hsz:(nodesL (pre++x::post)).length=(nodesL pre).length+(nodes x).length+(nodesL post).length:=by
   rw[nodesL_app,nodesL];simp;omega
  simp -implicitDefEqProofs only[go_sem]
  have ew:IntKind.i64.wrap (↑i - ↑((nodesL pre).length+1))=((i - ((nodesL pre).length+1):Nat):Int):=by
   rw[Vg.wrap_small (by omega) (by omega)];omega
  rw[ew]
  have hih:=ih x mem_mid (by omega) (i - ((nodesL pre).length+1)) (by omega)
  cases hq:(nodes x)[i - ((nodesL pre).length+1)]? with
  | none =>
   rw[hq]at hih
   have hql:(nodes x).length≤i - ((nodesL pre).length+1):=by simpa using hq
   refine hih.calls (by simp -implicitDefEqProofs only[go_sem]) ?_
   simp -implicitDefEqProofs only[go_sem]
   have e:(nodesL (pre++[x])).length=(nodesL pre).length+(nodes x).length:=by rw[nodesL_snoc,List.length_append]
   refine⟨(),by omega,wrap_next (by omega),?_⟩
   rw[e,Vg.wrap_small (by omega) (by omega)]
   omega
  | some y =>
   rw[hq]at hih
   have hql:=(List.getElem?_eq_some_iff.1 hq).1
   refine hih.calls (by simp -implicitDefEqProofs only[go_sem]) ?_
   simp -implicitDefEqProofs only[go_sem]
   have:(nodes (.mk k t g (pre++x::post)))[i]? = some y:=by
    rw[nodes,nodesL_app,nodesL]
    obtain⟨m,rfl⟩:∃ m,i=m+1:=⟨i - 1,by omega⟩
    rw[List.getElem?_cons_succ,List.getElem?_append_right (by omega),List.getElem?_append_left (by omega),←hq]
    congr 1
    omega
   rw[this]
theorem TAt(n:Nd)(hn:(nodes n).length≤1000000)(i:Int)(hi:i≤9223372036854775807):VPure env 143 [.agg n.enc,.int .i64 i]
  (.tuple [.agg (((if 0≤i then(nodes n)[i.toNat]? else none)).getD Nd.zero).enc,.bool ((if 0≤i then(nodes n)[i.toNat]? else none)).isSome]):=by
 refine vpure_vc (fn:=Tryz.f143) Tryz.func143 rfl (by rw[Tryz.ntmps143];simp) (by simp -implicitDefEqProofs only[go_sem]) (by simp -implicitDefEqProofs only[go_sem]) ?_
 simp -implicitDefEqProofs only[go_sem,Tryz.f143]
 have hz:Nd.zero.enc=[.int .i64 0,.str ⟨#[]⟩,.slice .shared 0 [],.slice .shared 0 []]:=rfl
 refine⟨fun h0=>?_,fun h0=>?_⟩
 ·rw[if_neg (by omega)]
  rfl
 ·rw[if_pos (by omega)]
  have hih:=Tlocate n hn i.toNat (by omega)
  rw[show((i.toNat:Nat):Int)=i by omega]at hih
  cases hq:(nodes n)[i.toNat]? with
  | none =>
   rw[hq]at hih
   refine hih.calls (by simp -implicitDefEqProofs only[go_sem]) ?_
   simp -implicitDefEqProofs only[go_sem]
   rfl
  | some y =>
   rw[hq]at hih
   refine hih.calls (by simp -implicitDefEqProofs only[go_sem]) ?_
   simp -implicitDefEqProofs only[go_sem]
   refine(Tclone y).calls (by simp -implicitDefEqProofs only[go_sem]) ?_
   simp -implicitDefEqProofs only[go_sem]
   rfl
end Go.Proofs.YtamednbojpnalaaGreatDoor
namespace Go.Vg
open Go.RowKit
theorem RelW.freezeV{E:Env}{G:Gh}{heap:List VObj}{arr:List Nat}{w0:Base}{w:World}(h:RelW E G heap arr w0 w){id k gen:Nat}{e:TypeId}{cs:List V}(hh:heap[id]? = some (.vec k gen e cs))(hpos:0<cs.length) :
  ∃ G' b hi,G.ρ[k]? = some (b,0,hi)∧arr[k]? = some gen∧Ext G arr G' (arr.set k (gen+1))∧RelW E G' (heap.set id .dead) (arr.set k (gen+1)) w0 w ∧
   ∀ (j:Nat) c,cs[j]? = some c→∃ u,G'.F b j=some u∧RV E.P G' (arr.set k (gen+1)) c u:=by
 obtain⟨hak,hgg,b,hi,hρ,hch,hcells⟩:=h.vs.at_ _ _ _ _ _ hh
 have hidl:=(List.getElem?_eq_some_iff.1 hh).1
 have hkl:=(List.getElem?_eq_some_iff.1 hak).1
 have hkρ:=(List.getElem?_eq_some_iff.1 hρ).1
 have hhi:0<hi:=by omega
 obtain⟨⟨c0,e0,r1,r2⟩,r3,r4,r5⟩:=h.reg k b 0 hi hρ hhi
 let G':Gh:=⟨fun b' o=>if b'=b∧o<cs.length then w.cell? ⟨b,o,none⟩else G.F b' o,G.φ,G.ρ.set k (b,hi,hi)⟩
 have hF:∀ b' o,G'.F b' o=if b'=b∧o<cs.length then w.cell? ⟨b,o,none⟩else G.F b' o:=fun _ _=>rfl
 have hx:Ext G arr G' (arr.set k (gen+1)):=by
  refine⟨fun b' o v hv=>?_,fun _ _ h=>h,fun j n hj=>?_⟩
  ·rw[hF,if_neg (fun hc=>by
    obtain⟨rfl,ho⟩:=hc
    rw[r4 o (Nat.zero_le _) (by omega)]at hv;cases hv)]
   exact hv
  ·by_cases ej:j=k
   ·subst ej
    rw[hak]at hj;cases hj
    exact⟨gen+1,List.getElem?_set_self hkl,by omega,fun e=>by omega⟩
   ·exact⟨n,by rw[List.getElem?_set_ne (Ne.symm ej)];exact hj,Nat.le_refl _,fun _=>by
     show(G.ρ.set k _)[j]? = _
     rw[List.getElem?_set_ne (Ne.symm ej)]⟩
 have hset:∀ (i:Nat) o,(heap.set id .dead)[i]? = some o→o ≠ .dead→i≠id∧heap[i]? = some o:=fun i o ho hn=>by
  by_cases ei:i=id
  ·subst ei
   rw[List.getElem?_set_self hidl]at ho;cases ho;exact absurd rfl hn
  ·rw[List.getElem?_set_ne (Ne.symm ei)]at ho
   exact⟨ei,ho⟩
 have hρ':∀ (j b' lo hi':Nat),G'.ρ[j]? = some (b',lo,hi')→lo<hi'→j≠k∧G.ρ[j]? = some (b',lo,hi'):=fun j b' lo hi' hj hlt=>by
  change (G.ρ.set k (b,hi,hi))[j]? = _ at hj
  by_cases ej:j=k
  ·subst ej
   rw[List.getElem?_set_self hkρ]at hj
   cases hj;omega
  ·rw[List.getElem?_set_ne (Ne.symm ej)]at hj
   exact⟨ej,hj⟩
 refine⟨G',b,hi,hρ,hak,hx,⟨fun b' o v hv hlt=>?_,fun g ds hg=>⟨(h.glob g ds hg).1,(h.glob g ds hg).2.mono hx⟩,h.below,fun b' o v hv=>?_,fun b' o v hv=>?_,fun i ob hi'=>?_,by simp[G',h.lenφ],h.nod,fun i b' o hi' hd=>?_,h.geφ,by simp[G',h.lenρ],
  fun j b' lo hi' hj hlt=>?_,fun j j' b' lo hi1 lo' hi2 hne h1 h2 hl1 hl2=>h.regd j j' b' lo hi1 lo' hi2 hne (hρ' _ _ _ _ h1 hl1).2 (hρ' _ _ _ _ h2 hl2).2 hl1 hl2,fun j b' lo hi' hj=>?_,fun i t s b' hi' hb'=>?_,h.ini,⟨fun i k1 g1 e1 cs1 hi1=>?_,fun i i' k1 g1 g1' e1 e1' cs1 cs1' h1 h2=>?_⟩⟩,fun j c hj=>?_⟩
 ·rw[hF,if_neg (fun hc=>by omega)]at hv
  exact h.newF b' o v hv hlt
 ·rw[hF]at hv
  split at hv
  ·rename_i hc;rw[hc.1];exact hv
  ·exact h.frz _ _ _ hv
 ·rw[hF]at hv
  split at hv
  ·rename_i hc
   obtain⟨v',q1,q2,q3⟩:=hcells o _ (List.getElem?_eq_getElem hc.2)
   rw[hv]at q1;cases q1;exact q3
  ·exact h.one _ _ _ hv
 ·by_cases ei:i=id
  ·subst ei
   rw[List.getElem?_set_self hidl]at hi'
   cases hi'
   obtain⟨b',hb',_⟩:=h.obj i _ hh
   exact⟨b',hb',trivial⟩
  ·rw[List.getElem?_set_ne (Ne.symm ei)]at hi'
   obtain⟨b',hb',hr⟩:=h.obj i ob hi'
   exact⟨b',hb',hr.keep hx rfl⟩
 ·have ei:i≠id:=fun ei=>by subst ei;rw[List.getElem?_set_self hidl]at hd;exact absurd rfl hd
  rw[List.getElem?_set_ne (Ne.symm ei)]at hd
  rw[hF,if_neg (fun hc=>?_)]
  ·exact h.sep i b' o hi' hd
  ·obtain⟨rfl,_⟩:=hc
   have hil:i<heap.length:=by rw[←h.lenφ];exact(List.getElem?_eq_some_iff.1 hi').1
   have hl:=r3 i hi' _ (List.getElem?_eq_getElem hil)
   cases ho:heap[i]with
   | dead=>rw[List.getElem?_eq_getElem hil,ho]at hd;exact absurd rfl hd
   | vec k1 g1 e1 cs1 =>
    rw[ho]at hl
    simp only[VObj.looseAt,beq_iff_eq]at hl
    subst hl
    exact ei (h.vs.uni i id k1 g1 gen e1 e cs1 cs (by rw[List.getElem?_eq_getElem hil,ho]) hh)
   | _=>rw[ho]at hl;cases hl
 ·obtain⟨ej,hj'⟩:=hρ' _ _ _ _ hj hlt
  obtain⟨s1,s2,s3,s4⟩:=h.reg j b' lo hi' hj' hlt
  refine⟨s1,fun i hi1 ob hob=>?_,fun o h1 h2=>?_,s4⟩
  ·by_cases ei:i=id
   ·subst ei
    rw[List.getElem?_set_self hidl]at hob;cases hob;rfl
   ·rw[List.getElem?_set_ne (Ne.symm ei)]at hob
    exact s2 i hi1 ob hob
  ·rw[hF,if_neg (fun hc=>?_)]
   ·exact s3 o h1 h2
   ·obtain⟨rfl,ho⟩:=hc
    rcases h.regd k j b' 0 hi lo hi' (Ne.symm ej) hρ hj' hhi hlt with q | q <;> omega
 ·change (G.ρ.set k (b,hi,hi))[j]? = _ at hj
  by_cases ej:j=k
  ·subst ej
   rw[List.getElem?_set_self hkρ]at hj
   cases hj;exact .inl r5
  ·rw[List.getElem?_set_ne (Ne.symm ej)]at hj
   exact h.fre j b' lo hi' hj
 ·obtain⟨ei,hi1⟩:=hset i _ hi' (by intro h;cases h)
  refine(h.bld i t s b' hi1 hb').keep rfl fun g hg ⟨s1,s2,s3⟩=>⟨rfl,fun o=>?_,s2,fun j lo hi2 hj=>?_⟩
  ·rw[hF,if_neg (fun hc=>?_)]
   ·exact s1 o
   ·have:=s3 k 0 hi (by rw[hc.1];exact hρ);omega
  ·change (G.ρ.set k (b,hi,hi))[j]? = _ at hj
   by_cases ej:j=k
   ·subst ej
    rw[List.getElem?_set_self hkρ]at hj
    cases hj;omega
   ·rw[List.getElem?_set_ne (Ne.symm ej)]at hj
    exact s3 j lo hi2 hj
 ·obtain⟨ei,hi2⟩:=hset i _ hi1 (by intro h;cases h)
  obtain⟨q1,q2,b1,hi3,q3,q4,q5⟩:=h.vs.at_ _ _ _ _ _ hi2
  have hk1:k1≠k:=fun e0=>by
   subst e0
   exact ei (h.vs.uni i id _ _ _ _ _ _ _ hi2 hh)
  refine⟨by rw[List.getElem?_set_ne (Ne.symm hk1)];exact q1,q2,b1,hi3,?_,q4,fun j x hj=>?_⟩
  ·show(G.ρ.set k (b,hi,hi))[k1]? = _
   rw[List.getElem?_set_ne (Ne.symm hk1)];exact q3
  ·obtain⟨v,p1,p2,p3⟩:=q5 j x hj
   exact⟨v,p1,p2.mono hx,p3⟩
 ·obtain⟨_,a1⟩:=hset i _ h1 (by intro h;cases h)
  obtain⟨_,a2⟩:=hset i' _ h2 (by intro h;cases h)
  exact h.vs.uni _ _ _ _ _ _ _ _ _ a1 a2
 ·have hjl:=(List.getElem?_eq_some_iff.1 hj).1
  obtain⟨v,q1,q2,q3⟩:=hcells j c hj
  exact⟨v,by rw[hF,if_pos ⟨rfl,hjl⟩];exact q1,q2.mono hx⟩
theorem RV.thawV{P:Program}{G G':Gh}{arr arr':List Nat}{id k gen len e b hi:Nat}{cs:List V}{v:Value}(h:RV P G arr (.vec id k gen len e) v)(hak:arr[k]? = some gen)(hρ:G.ρ[k]? = some (b,0,hi))(hok:elemOK P e=true)(hl:len * P.cellsOf e≤cs.length)
  (hc:∀ (j:Nat) c,cs[j]? = some c→∃ u,G'.F b j=some u∧RV P G' arr' c u):RV P G' arr' (Vg.sl e (chunk (P.cellsOf e) len cs)) v:=by
 obtain⟨i,z,hi',hz,hz1,hzs,his,hib,hs1,hb1,hb2⟩:=elemOK_spec hok
 cases h with
 | vec _ _ _ _ _ b' o cap hv h1 h2 =>
  obtain⟨n,q1,q2,q3⟩:=hv
  rw[hak]at q1
  cases q1
  obtain⟨b1,hi1,q4,q5,q6,q7,q8⟩:=q3 rfl
  rw[hρ]at q4
  cases q4
  subst q7 q8
  have hlen:=chunk_length (P.cellsOf e) len cs
  have:=RV.ofCells (P:=P) (G:=G') (arr:=arr') (o := .shared) (e:=e) (es:=chunk (P.cellsOf e) len cs) (b:=b) (off:=0) (cap:=cap) trivial (fun i el hi=>(chunk_get _ _ _ _ _ hl hi).1) (by rw[hlen];exact h2) hb1 (by rw[hlen];exact q6)
   (fun i el j c hi hj=>by
    obtain⟨u,hu,hr⟩:=hc _ _ ((chunk_get _ _ _ _ _ hl hi).2 j c hj)
    exact⟨u,by rw[Nat.zero_add];exact hu,hr⟩)
  rw[hlen]at this
  exact this.sl
theorem VCalls.thawV{E:Env}{f:FuncId}{args:List V}{heap:List VObj}{arr:List Nat}{K:Cont}
  (h:VCalls E f args heap arr fun v h' a'=>∃ id k gen len e cs,v = .vec id k gen len e∧h'[id]? = some (.vec k gen e cs)∧0<cs.length∧elemOK E.P e=true∧len * E.P.cellsOf e≤cs.length∧K (sl e (chunk (E.P.cellsOf e) len cs)) (h'.set id .dead) (a'.set k (gen+1))) :
  VCalls E f args heap arr K:=by
 intro G w0 w vals hrel ha
 refine(h G w0 w vals hrel ha).mono fun e' w' hg=>?_
 rcases hg with⟨val,he,v,heap',arr',G',hv,hx,hr,hrv⟩ | hd
 ·obtain⟨id,k,gen,len,e,cs,rfl,h1,h2,h3,h4,hK⟩:=hv
  obtain⟨G'',b,hi,g1,g2,g3,g4,g5⟩:=hr.freezeV h1 h2
  exact .inl ⟨val,he,_,_,_,G'',hK,hx.trans g3,g4,hrv.thawV g2 g1 h3 h4 g5⟩
 ·exact .inr hd
theorem snd_listW{E:Env}{hb ab n:Nat}{c:Code}{s:St}{Q:VEx→St→Prop}{α β:Type}(xs:List α)(S:List α→β→St)(I:List α→List α→β→Prop)(b0:β)(T:β→St)(h0:Told hb ab s (S [] b0))(hI:I [] xs b0)
  (hw:∀ b,I xs [] b→Weak E hb ab n (S xs b) (T b))
  (stop:∀ b,I xs [] b→vc E hb ab n c (T b) (kstop Q))
  (step:∀ pre x post b,xs=pre++x::post→I pre (x::post) b→vc E hb ab n c (S pre b) (klist hb ab S I pre x post Q)):Snd E hb ab n (.loop c) s Q:=by
 refine snd_loop (fun m t=>∃ pre post b,t=S pre b∧xs=pre++post∧I pre post b∧post.length=m) ⟨_,_,h0.weak,[],xs,b0,rfl,rfl,hI,rfl⟩ fun m t ⟨pre,post,b,ht,hx,hi,hm⟩=>?_
 subst ht
 cases post with
 | nil =>
  have:xs=pre:=by simpa using hx
  subst this
  refine(snd_weak (hw b hi) (vc_snd _ _ _ (stop b hi))).mono fun e s hq=>?_
  cases e with
  | normal=>exact hq.elim
  | exit id=>exact hq
  | ret=>exact hq
 | cons x post =>
  refine(vc_snd _ _ _ (step pre x post b hx hi)).mono fun e s hq=>?_
  cases e with
  | normal =>
   obtain⟨b',h1,h2⟩:=hq
   refine⟨post.length,S (pre++[x]) b',by simp at hm;omega,h2.weak,pre++[x],post,b',rfl,by simp[hx],h1,rfl⟩
  | exit id=>exact hq
  | ret=>exact hq
theorem Weak.freezeH{E:Env}{hb ab n:Nat}{tm:List (Nat×V)}{h:List VObj}{a:List Nat}(id:Nat){cs:List V}(hh:h[id]? = some (.cells cs))(hc:cs.all V.cell=true) :
  Weak E hb ab n ⟨tm,h,a⟩ ⟨frT E.P id cs tm,h.set id .dead,a⟩:=by
 intro B G ac w q1 q2 q3 q4
 obtain⟨G',b,hφ,hx,hr,hφ',hcs⟩:=q4.rw.freezeO hh hc
 exact⟨G',q3.trans hx,hr,⟨fun i=>by
   show RV _ _ _ (look (frT E.P id cs tm) i) _
   rw[look_frT];exact(q4.rt.tm i).frV hx hφ hcs,q4.rt.sz⟩,q4.df⟩
end Go.Vg
namespace Go.Vg
structure Rw where
 parent:Int
 kind:Int
 text:ByteArray
 gaps:List ByteArray
 kids:List Nat
def encIx(n:Nat):List V:=[.int .i64 n]
def Rw.enc(r:Rw):List V:=[.int .i64 r.parent,.int .i64 r.kind,.str r.text,sl 9 (r.gaps.map encTx),sl 3 (r.kids.map encIx)]
def encRs(l:List Rw):List V:=(l.map Rw.enc).flatten
theorem encRs_app(a b:List Rw):encRs (a++b)=encRs a++encRs b:=by simp[encRs]
theorem encRs_len:∀ l:List Rw,(encRs l).length=l.length * 5
 | []=>rfl
 | x::r=>by
  have:=encRs_len r
  simp only[encRs,List.map_cons,List.flatten_cons,List.length_append]at this ⊢
  rw[this];simp[Rw.enc];omega
mutual
def rowsN:Nd→Int→Nat→List Rw
 | .mk k t g ks,p,a=>⟨p,k,t,g,kidsAt ks (a+1)⟩::rowsL ks a (a+1)
def rowsL:List Nd→Nat→Nat→List Rw
 | [],_,_=>[]
 | x::r,p,a=>rowsN x p a++rowsL r p (a+(nodes x).length)
def kidsAt:List Nd→Nat→List Nat
 | [],_=>[]
 | x::r,a=>a::kidsAt r (a+(nodes x).length)
end
theorem kidsAt_snoc(x:Nd):∀ (pre:List Nd) a,kidsAt (pre++[x]) a=kidsAt pre a++[a+(nodesL pre).length]
 | [],a=>by simp[kidsAt,nodesL]
 | y::r,a=>by
  simp only[List.cons_append,kidsAt,kidsAt_snoc x r,nodesL,List.length_append]
  rw[Nat.add_assoc]
theorem kidsAt_len:∀ (l:List Nd) a,(kidsAt l a).length=l.length
 | [],_=>rfl
 | x::r,a=>by simp[kidsAt,kidsAt_len r]
theorem rowsL_snoc(x:Nd)(p:Nat):∀ (pre:List Nd) a,rowsL (pre++[x]) p a=rowsL pre p a++rowsN x p (a+(nodesL pre).length)
 | [],a=>by simp[rowsL,nodesL]
 | y::r,a=>by
  simp only[List.cons_append,rowsL,rowsL_snoc x p r,nodesL,List.length_append,List.append_assoc]
  rw[Nat.add_assoc]
mutual
theorem rowsN_len:∀ (n:Nd) p a,(rowsN n p a).length=(nodes n).length
 | .mk k t g ks,p,a=>by rw[rowsN,nodes_mk,List.length_cons,rowsL_len ks]
theorem rowsL_len:∀ (l:List Nd) p a,(rowsL l p a).length=(nodesL l).length
 | [],_,_=>rfl
 | x::r,p,a=>by rw[rowsL,nodesL,List.length_append,List.length_append,rowsN_len x,rowsL_len r]
end
theorem ar_set{a:List Nat}{n m:Nat}:(a++[n]).set a.length m=a++[m]:=by rw[List.set_append_right _ _ (Nat.le_refl _)];simp
theorem put_kids(rs:List Rw)(r:Rw)(q:List Rw)(kl:List Nat)(hr:r.kids=[]):List.take ((rs.length:Int).toNat * 5+4) (encRs (rs++r::q))++[sl 3 (kl.map encIx)]++List.drop ((rs.length:Int).toNat * 5+4+1) (encRs (rs++r::q))=encRs (rs++{ r with kids:=kl }::q):=by
 have hl:=encRs_len rs
 have e:encRs (rs++r::q)=(encRs rs++[.int .i64 r.parent,.int .i64 r.kind,.str r.text,sl 9 (r.gaps.map encTx)])++([sl 3 (r.kids.map encIx)]++encRs q):=by
  rw[encRs_app];simp[encRs,Rw.enc]
 have e':encRs (rs++{ r with kids:=kl }::q)=(encRs rs++[.int .i64 r.parent,.int .i64 r.kind,.str r.text,sl 9 (r.gaps.map encTx)])++([sl 3 (kl.map encIx)]++encRs q):=by
  rw[encRs_app];simp[encRs,Rw.enc]
 rw[e,e',show(rs.length:Int).toNat=rs.length by omega]
 have hlen:(encRs rs++[.int .i64 r.parent,.int .i64 r.kind,.str r.text,sl 9 (r.gaps.map encTx)]).length=rs.length * 5+4:=by simp[hl]
 rw[←hlen,List.take_left,←List.drop_drop,List.drop_left]
 simp
theorem put_kid{A:List V}{n m:Nat}(hA:A.length=n)(hm:n<m)(v:V):List.take (0+((n:Nat):Int).toNat * 1) (A++List.replicate (m - n) (.int .i64 0))++[v]++List.drop (0+((n:Nat):Int).toNat * 1+1) (A++List.replicate (m - n) (.int .i64 0)) =
  (A++[v])++List.replicate (m - (n+1)) (.int .i64 0):=by
 rw[show 0+((n:Nat):Int).toNat * 1=A.length by omega,List.take_left,←List.drop_drop,List.drop_left]
 congr 1
 rw[List.drop_replicate]
 congr 1
theorem rep_flat'(n:Nat):(List.replicate n [V.int .i64 0]).flatten=List.replicate n (V.int .i64 0):=by
 induction n with
 | zero=>rfl
 | succ n ih=>rw[List.replicate_succ,List.flatten_cons,ih];rfl
theorem chunkI:∀ (l:List Nat),chunk 1 l.length (l.map fun n:Nat=>V.int .i64 n)=l.map encIx
 | []=>rfl
 | x::r=>by simp[chunk,chunkI r,encIx]
section
variable {h l : List VObj} {id i : Nat} {x y : VObj}
theorem hp_get(ho:h[id]? = some x):(h++l)[id]? = some x:=by rw[List.getElem?_append_left (List.getElem?_eq_some_iff.1 ho).1];exact ho
theorem hp_set(ho:id<h.length):(h++l).set id x=h.set id x++l:=List.set_append_left _ _ ho
theorem hp_gets(ho:id<h.length):(h.set id x++l)[id]? = some x:=by rw[List.getElem?_append_left (by simpa using ho),List.getElem?_set_self ho]
theorem hp_sets(ho:id<h.length):(h.set id x++l).set id y=h.set id y++l:=by rw[List.set_append_left _ _ (by simpa using ho),List.set_set]
theorem hp_at:(h.set id x++l)[h.length]? = l[0]?:=by rw[List.getElem?_append_right (by simp)];simp
theorem hp_at':(h.set id x++l)[h.length+i]? = l[i]?:=by rw[List.getElem?_append_right (by simp)];simp
theorem hp_st:(h.set id x++l).set h.length y=h.set id x++l.set 0 y:=by rw[List.set_append_right _ _ (by simp)];simp
theorem hp_st':(h.set id x++l).set (h.length+i) y=h.set id x++l.set i y:=by rw[List.set_append_right _ _ (by simp)];simp
theorem hp_len:(h.set id x).length=h.length:=List.length_set
end
end Go.Vg
namespace Go.Proofs.YtamednbojpnalaaGreatDoor
open Go Go.Vg Go.Proofs
theorem Tlist:(n:Nd)→∀ (h:List VObj) (a:List Nat) (id k gen:Nat) (rs:List Rw) (p:Int),h[id]? = some (.vec k gen 100 (encRs rs))→0<rs.length→rs.length+(nodes n).length≤1000000 →
  VCalls (envV 80) 66 [.vec id k gen rs.length 100,.agg n.enc,.int .i64 p] h a fun v h' a'=>∃ gen' z,v = .vec id k gen' (rs.length+(nodes n).length) 100 ∧
   h'=h.set id (.vec k gen' 100 (encRs (rs++rowsN n p rs.length)))++z∧a'=a.set k gen':=by
 refine Nd.all fun k t g ks ih h a id kk gen rs p hid hrs hn=>?_
 refine vcalls_vc (fn:=Tryz.f66) Tryz.func66 rfl (by rw[Tryz.ntmps66];simp) ?_
 simp -implicitDefEqProofs only[go_sem,Tryz.f66]
 intro hl1
 refine snd_draw (cs:=[]) mixed (by kernel_rfl) ?_
 simp -implicitDefEqProofs only[go_sem]
 refine vPC_of (VPure.toV (Ttexts g)) (by simp -implicitDefEqProofs only[go_sem]) ?_
 have hlt:id<h.length:=(List.getElem?_eq_some_iff.1 hid).1
 simp -implicitDefEqProofs only[go_sem,hp_get hid,hp_set hlt,hp_gets hlt,hp_sets hlt,hp_at,hp_at',hp_st,hp_st',hp_len]
 rw[nodes_mk]at hn ⊢
 have hel:=encRs_len rs
 have e0:∀ kl:List Nat,encRs rs++[[V.int .i64 p,.int .i64 k,.str t,sl 9 (g.map encTx),sl 3 (kl.map encIx)]].flatten=encRs (rs++[⟨p,k,t,g,kl⟩]):=fun kl=>by
  rw[encRs_app];rfl
 have e1:encRs rs++[[V.int .i64 p,.int .i64 k,.str t,sl 9 (g.map encTx),V.slice .shared 0 []]].flatten=encRs (rs++[⟨p,k,t,g,[]⟩]):=e0 []
 rw[e1]
 refine⟨by simp,⟨hel,by omega⟩,fun _ _=>⟨fun hz=>?_,fun hz hb _=>⟨by omega,fun _ hl=>?_⟩⟩⟩
 ·have:ks=[]:=List.eq_nil_of_length_eq_zero (by omega)
  subst this
  exact⟨gen+1,[_],by simp[nodesL],by simp only[rowsN,rowsL,kidsAt];rfl,rfl⟩
 refine snd_listW (β:=Nat×List VObj) ks (fun pre b=>⟨[(37,.int .i64 pre.length),(36,.int .i64 ks.length),(35,sl 32 (ks.map Nd.enc)),(8,.mslice (h.length+1) 0 ks.length ks.length 3),(7,.int .i64 rs.length),
    (0,.vec id kk b.1 (rs.length+1+(nodesL pre).length) 100)],
   h.set id (.vec kk b.1 100 (encRs (rs++⟨p,k,t,g,[]⟩::rowsL pre rs.length (rs.length+1)))) ++ .dead :: .cells ((kidsAt pre (rs.length+1)).map (fun n:Nat => .int .i64 n)++List.replicate (ks.length - pre.length) (.int .i64 0))::b.2,a.set kk b.1⟩)
  (fun _ _ _=>True) (gen+1,[]) (fun b=>⟨[(37,.int .i64 ks.length),(36,.int .i64 ks.length),(35,sl 32 (ks.map Nd.enc)),(8,sl 3 ((kidsAt ks (rs.length+1)).map encIx)),(7,.int .i64 rs.length),
    (0,.vec id kk b.1 (rs.length+1+(nodesL ks).length) 100)],
   h.set id (.vec kk b.1 100 (encRs (rs++⟨p,k,t,g,[]⟩::rowsL ks rs.length (rs.length+1)))) ++ .dead :: .dead::b.2,a.set kk b.1⟩) ?_ trivial ?_ ?_ ?_
 ·simp -implicitDefEqProofs only[go_sem,hp_len]
  simp only[nodesL,rowsL,kidsAt,List.length_nil,Nat.add_zero,List.map_nil,List.nil_append,Nat.sub_zero,rep_flat']
  simp -implicitDefEqProofs only[go_sem]
  rfl
 ·intro b _
  have hkl:=kidsAt_len ks (rs.length+1)
  have hw:=Weak.freezeH (E:=envV 80) (hb:=h.length) (ab:=a.length) (n:=58) (tm:=[(37,.int .i64 ks.length),(36,.int .i64 ks.length),(35,sl 32 (ks.map Nd.enc)),(8,.mslice (h.length+1) 0 ks.length ks.length 3),(7,.int .i64 rs.length),
    (0,.vec id kk b.1 (rs.length+1+(nodesL ks).length) 100)]) (h:=h.set id (.vec kk b.1 100 (encRs (rs++⟨p,k,t,g,[]⟩::rowsL ks rs.length (rs.length+1)))) ++ .dead :: .cells ((kidsAt ks (rs.length+1)).map (fun n:Nat => .int .i64 n)++List.replicate (ks.length - ks.length) (.int .i64 0))::b.2) (a:=a.set kk b.1)
   (h.length+1) (cs:=(kidsAt ks (rs.length+1)).map (fun n:Nat => .int .i64 n)) (by rw[hp_at'];simp) (by simp[V.cell])
  have hch:chunk 1 ks.length ((kidsAt ks (rs.length+1)).map fun n:Nat=>V.int .i64 n)=(kidsAt ks (rs.length+1)).map encIx:=by
   have:=chunkI (kidsAt ks (rs.length+1))
   rwa [hkl]at this
  simp -implicitDefEqProofs only[frT,frV,List.map_cons,List.map_nil,go_sem,hp_st',Nat.sub_self,List.replicate_zero,List.append_nil,List.length_map,hkl,Nat.mul_one,Nat.le_refl,and_self,if_true,List.set_cons_succ,List.set_cons_zero,hch]at hw ⊢
  exact hw
 ·intro b _
  simp -implicitDefEqProofs only[go_sem,hp_get hid,hp_set hlt,hp_gets hlt,hp_sets hlt,hp_at,hp_at',hp_st,hp_st',hp_len]
  have e2:=encRs_len (rs++(⟨p,k,t,g,[]⟩:Rw)::rowsL ks rs.length (rs.length+1))
  refine⟨by omega,by rw[e2];simp;omega,b.1,.dead :: .dead::b.2,by congr 1;omega,?_,rfl⟩
  congr 3
  rw[rowsN]
  exact put_kids rs ⟨p,k,t,g,[]⟩ _ _ rfl
 ·rintro pre x post b rfl _
  have hp:=mid_len hl
  simp -implicitDefEqProofs only[go_sem,hp_get hid,hp_set hlt,hp_gets hlt,hp_sets hlt,hp_at,hp_at',hp_st,hp_st',hp_len,List.getElem?_cons_succ,List.set_cons_succ]
  intro hlen
  have hkl:=kidsAt_len pre (rs.length+1)
  refine⟨by simp[hkl],?_⟩
  rw[put_kid (by simp[hkl]) (by simp)]
  have e:(rs++(⟨p,k,t,g,[]⟩:Rw)::rowsL pre rs.length (rs.length+1)).length=rs.length+1+(nodesL pre).length:=by
   simp[rowsL_len];omega
  have hsz:(nodesL (pre++x::post)).length=(nodesL pre).length+(nodes x).length+(nodesL post).length:=by
   rw[nodesL_app,nodesL];simp;omega
  rw[←e]
  refine VCalls.mono (ih x mem_mid _ _ id kk b.1 (rs++(⟨p,k,t,g,[]⟩:Rw)::rowsL pre rs.length (rs.length+1)) rs.length (hp_gets hlt) (by omega) (by omega)) ?_
  rintro v h' a' ⟨gen',z,rfl,rfl,rfl⟩
  simp -implicitDefEqProofs only[go_sem,hp_get hid,hp_set hlt,hp_gets hlt,hp_sets hlt,hp_at,hp_at',hp_st,hp_st',hp_len,List.getElem?_cons_succ,List.set_cons_succ]
  have e2:rs.length+1+(nodesL (pre++[x])).length=rs.length+1+(nodesL pre).length+(nodes x).length:=by rw[nodesL_snoc,List.length_append];omega
  refine⟨(gen',b.2++VObj.cells x.enc::z),⟨wrap_next (by omega),?_⟩,?_⟩
  ·rw[e,e2,tell_same];trivial
  ·rw[e,rowsL_snoc,kidsAt_snoc,List.map_append,List.append_assoc rs,List.cons_append]
   exact⟨tellH_refl,by rw[tellA_same];trivial,.inl (by simp)⟩
theorem Tlist0(h:List VObj)(a:List Nat)(n:Nd)(p:Int)(hn:(nodes n).length≤1000000):VCalls (envV 80) 66 [.slice .nil 0 [],.agg n.enc,.int .i64 p] h a fun v h' a'=>∃ gen',v = .vec (h.length+1) a.length gen' (nodes n).length 100 ∧
   h'[h.length+1]? = some (.vec a.length gen' 100 (encRs (rowsN n p 0)))∧a'=a++[gen']:=by
 obtain⟨k,t,g,ks⟩:=n
 refine vcalls_vc (fn:=Tryz.f66) Tryz.func66 rfl (by rw[Tryz.ntmps66];simp) ?_
 simp -implicitDefEqProofs only[go_sem,Tryz.f66]
 refine snd_draw (cs:=[]) mixed (by kernel_rfl) ?_
 simp -implicitDefEqProofs only[go_sem]
 refine vPC_of (VPure.toV (Ttexts g)) (by simp -implicitDefEqProofs only[go_sem]) ?_
 simp -implicitDefEqProofs only[go_sem]
 rw[nodes_mk]at hn ⊢
 have e0:∀ kl:List Nat,[].flatten++[[V.int .i64 p,.int .i64 k,.str t,sl 9 (g.map encTx),sl 3 (kl.map encIx)]].flatten=encRs [⟨p,k,t,g,kl⟩]:=fun kl=>rfl
 have e1:[].flatten++[[V.int .i64 p,.int .i64 k,.str t,sl 9 (g.map encTx),V.slice .shared 0 []]].flatten=encRs [⟨p,k,t,g,[]⟩]:=e0 []
 rw[e1]
 refine⟨by simp,fun _ _=>⟨fun hz=>?_,fun hz hb _=>⟨by omega,fun _ hl=>?_⟩⟩⟩
 ·have:ks=[]:=List.eq_nil_of_length_eq_zero (by omega)
  subst this
  exact⟨gen0,by simp[nodesL],by simp only[rowsN,rowsL,kidsAt],rfl⟩
 refine snd_listW (β:=Nat×List VObj) ks (fun pre b=>⟨[(37,.int .i64 pre.length),(36,.int .i64 ks.length),(35,sl 32 (ks.map Nd.enc)),(8,.mslice (h.length+2) 0 ks.length ks.length 3),(7,.int .i64 (0:Nat)),
    (0,.vec (h.length+1) a.length b.1 (1+(nodesL pre).length) 100)],
   h ++ .dead :: .vec a.length b.1 100 (encRs (⟨p,k,t,g,[]⟩::rowsL pre 0 1)) :: .cells ((kidsAt pre 1).map (fun n:Nat => .int .i64 n)++List.replicate (ks.length - pre.length) (.int .i64 0))::b.2,a++[b.1]⟩)
  (fun _ _ _=>True) (gen0,[]) (fun b=>⟨[(37,.int .i64 ks.length),(36,.int .i64 ks.length),(35,sl 32 (ks.map Nd.enc)),(8,sl 3 ((kidsAt ks 1).map encIx)),(7,.int .i64 (0:Nat)),
    (0,.vec (h.length+1) a.length b.1 (1+(nodesL ks).length) 100)],
   h ++ .dead :: .vec a.length b.1 100 (encRs (⟨p,k,t,g,[]⟩::rowsL ks 0 1)) :: .dead::b.2,a++[b.1]⟩) ?_ trivial ?_ ?_ ?_
 ·simp only[nodesL,rowsL,kidsAt,List.length_nil,Nat.add_zero,List.map_nil,List.nil_append,Nat.sub_zero,rep_flat']
  simp -implicitDefEqProofs only[go_sem]
  rfl
 ·intro b _
  have hkl:=kidsAt_len ks 1
  have hw:=Weak.freezeH (E:=envV 80) (hb:=h.length) (ab:=a.length) (n:=58) (tm:=[(37,.int .i64 ks.length),(36,.int .i64 ks.length),(35,sl 32 (ks.map Nd.enc)),(8,.mslice (h.length+2) 0 ks.length ks.length 3),(7,.int .i64 (0:Nat)),
    (0,.vec (h.length+1) a.length b.1 (1+(nodesL ks).length) 100)]) (h:=h ++ .dead :: .vec a.length b.1 100 (encRs (⟨p,k,t,g,[]⟩::rowsL ks 0 1)) :: .cells ((kidsAt ks 1).map (fun n:Nat => .int .i64 n)++List.replicate (ks.length - ks.length) (.int .i64 0))::b.2) (a:=a++[b.1])
   (h.length+2) (cs:=(kidsAt ks 1).map (fun n:Nat => .int .i64 n)) (by rw[List.getElem?_append_right (by omega)];simp) (by simp[V.cell])
  have hch:chunk 1 ks.length ((kidsAt ks 1).map fun n:Nat=>V.int .i64 n)=(kidsAt ks 1).map encIx:=by
   have:=chunkI (kidsAt ks 1)
   rwa [hkl]at this
  simp -implicitDefEqProofs only[frT,frV,List.map_cons,List.map_nil,go_sem,Nat.sub_self,List.replicate_zero,List.append_nil,List.length_map,hkl,Nat.mul_one,Nat.le_refl,and_self,if_true,List.set_cons_succ,List.set_cons_zero,hch]at hw ⊢
  exact hw
 ·intro b _
  simp -implicitDefEqProofs only[go_sem,List.getElem?_cons_succ,List.set_cons_succ,ar_set]
  have e2:=encRs_len ((⟨p,k,t,g,[]⟩:Rw)::rowsL ks 0 1)
  refine⟨by omega,by rw[e2];simp;omega,b.1,by congr 1;omega,?_,rfl⟩
  refine congrArg (fun x=>some (VObj.vec a.length b.1 100 x)) ?_
  rw[rowsN]
  exact put_kids [] ⟨p,k,t,g,[]⟩ _ _ rfl
 ·rintro pre x post b rfl _
  have hp:=mid_len hl
  simp -implicitDefEqProofs only[go_sem,List.getElem?_cons_succ,List.set_cons_succ,ar_set]
  intro hlen
  have hkl:=kidsAt_len pre 1
  refine⟨by simp[hkl],?_⟩
  rw[put_kid (by simp[hkl]) (by simp)]
  have e:((⟨p,k,t,g,[]⟩:Rw)::rowsL pre 0 1).length=1+(nodesL pre).length:=by
   simp[rowsL_len];omega
  have hsz:(nodesL (pre++x::post)).length=(nodesL pre).length+(nodes x).length+(nodesL post).length:=by
   rw[nodesL_app,nodesL];simp;omega
  rw[←e]
  refine VCalls.mono (Tlist x _ _ (h.length+1) a.length b.1 ((⟨p,k,t,g,[]⟩:Rw)::rowsL pre 0 1) (0:Nat) (by rw[List.getElem?_append_right (by omega)];simp) (by omega) (by omega)) ?_
  rintro v h' a' ⟨gen',z,rfl,rfl,rfl⟩
  simp -implicitDefEqProofs only[go_sem,List.getElem?_cons_succ,List.set_cons_succ,ar_set]
  have e3:(rowsL pre 0 1).length+1=1+(nodesL pre).length:=by rw[rowsL_len];omega
  have e2:1+(nodesL (pre++[x])).length=1+(nodesL pre).length+(nodes x).length:=by rw[nodesL_snoc,List.length_append];omega
  refine⟨(gen',b.2++VObj.cells x.enc::z),⟨wrap_next (by omega),?_⟩,?_⟩
  ·rw[e3,e2,tell_same];trivial
  ·rw[e3,rowsL_snoc,kidsAt_snoc,List.map_append]
   exact⟨⟨by rw[tellO_same];trivial,by rw[List.map_cons,List.map_nil,tellL_same];trivial,tellH_refl⟩,by rw[tellA_same];trivial,.inl (by simp)⟩
theorem chunkR:∀ (l:List Rw),chunk 5 l.length (encRs l)=l.map Rw.enc
 | []=>rfl
 | x::r=>by
  have:=chunkR r
  have e:encRs (x::r)=x.enc++encRs r:=rfl
  rw[List.length_cons,chunk,e,List.take_left' (by rfl),List.drop_left' (by rfl),this]
  rfl
theorem kids_pure:∀ l:List Nat,pureLL (l.map encIx)=true
 | []=>rfl
 | x::r=>by simp -implicitDefEqProofs only[List.map_cons,pureLL,kids_pure r,Bool.and_true,encIx,go_sem]
theorem rows_pure(l:List Rw):pureLL (l.map Rw.enc)=true:=by
 induction l with
 | nil=>rfl
 | cons x r ih=>simp -implicitDefEqProofs only[List.map_cons,pureLL,ih,Bool.and_true,Rw.enc,go_sem];exact kids_pure _
theorem TRows(n:Nd)(hn:(nodes n).length≤1000000):VPure env 43 [.agg n.enc] (sl 100 ((rowsN n (-1) 0).map Rw.enc)):=by
 refine VPure.ofV (tv:=80) ?_
 refine vpure_vc (fn:=Tryz.f43) Tryz.func43 rfl (by rw[Tryz.ntmps43];simp) (by simp -implicitDefEqProofs only[go_sem]) (by simp -implicitDefEqProofs only[go_sem];exact rows_pure _) ?_
 simp -implicitDefEqProofs only[go_sem,Tryz.f43]
 refine VCalls.thawV (VCalls.mono (Tlist0 _ _ n (-1) hn) ?_)
 rintro v h' a' ⟨gen',rfl,h1,rfl⟩
 have hl:=rowsN_len n (-1) 0
 have hp:0<(nodes n).length:=by cases n;rw[nodes_mk];omega
 have e:=encRs_len (rowsN n (-1) 0)
 refine⟨_,_,_,_,_,_,rfl,h1,by omega,by simp -implicitDefEqProofs only[go_sem],by simp -implicitDefEqProofs only[go_sem];omega,?_⟩
 simp -implicitDefEqProofs only[go_sem]
 rw[←hl,chunkR]
end Go.Proofs.YtamednbojpnalaaGreatDoor
namespace Go.Vg
section
variable {a l : List Nat} {k i g g' n m : Nat}
end
end Go.Vg
namespace Go.Proofs.YtamednbojpnalaaGreatDoor
open Go Go.Vg Go.Proofs
end Go.Proofs.YtamednbojpnalaaGreatDoor
namespace Go.Vg
inductive Tr where
 | stop
 | br (i:Nat) (t o:Tr)
def Tr.heads:Tr→List Nat
 | .stop=>[]
 | .br i _ o=>i::o.heads
def Tr.ok(ops:List Oper):Nat→Array Bool→Tr→Bool
 | 0,_,.stop=>true
 | 0,_,.br _ _ _=>false
 | _+1,_,.stop=>true
 | n+1,listed,.br i t o=>Region.ready .any ops.toArray (listed.setIfInBounds i true) == t.heads && t.ok ops n (listed.setIfInBounds i true) && o.ok ops (n+1) listed
def kAt(d:Option Nat)(M:St→Prop)(tm:List (Nat×V)):Cont:=fun v h a=>M (St.put ⟨tm,h,a⟩ d v)
mutual
def trAlt(E:Env)(n:Nat)(ops:List Oper)(cs:List Nat)(Q:St→Prop):Tr→St→Prop
 | .stop,_=>True
 | .br i t o,s=>dAt E n ops cs i (trRun E n ops cs Q t) s∧trAlt E n ops cs Q o s
def trRun(E:Env)(n:Nat)(ops:List Oper)(cs:List Nat)(Q:St→Prop):Tr→St→Prop
 | .stop,s=>Q s
 | .br i t o,s=>dAt E n ops cs i (trRun E n ops cs Q t) s∧trAlt E n ops cs Q o s
end
section
variable {E : Env} {n : Nat} {ops : List Oper} {cs : List Nat} {Q : St → Prop}
def dOf(E:Env)(n:Nat)(ops:List Oper)(c:Bool)(M:St→Prop)(s:St):Option Oper→Prop
 | none=>M s
 | some o=>dstB n o=true∧∃ b,gst ops n o s.tmps=some b∧(b=true→vopD E c s o.op fun v h a=>M (St.put ⟨s.tmps,h,a⟩ o.dst v))∧(b=false→M (s.put o.dst (.tuple [])))
@[go_sem] theorem dAt_of{i:Nat}{M:St→Prop}{s:St}:dAt E n ops cs i M s=dOf E n ops (cs.contains i) M s ops[i]?:=by
 unfold dAt dOf
 split <;> rename_i h <;> rw[h]
@[go_sem] theorem dOf_some{c:Bool}{M:St→Prop}{s:St}{dst:Option Nat}{op:Op}{ty:TypeId}{pos:String}{after:Array Edge} :
  dOf E n ops c M s (some ⟨dst,op,ty,pos,after,none⟩)=(dstB n ⟨dst,.move (.tmp 0),ty,pos,after,none⟩=true∧vopD E c s op (kAt dst M s.tmps)):=by
 unfold dOf
 apply propext
 constructor
 ·rintro⟨h0,b,hb,h1,_⟩
  have:b=true:=by
   have:gst ops n ⟨dst,op,ty,pos,after,none⟩ s.tmps=some true:=rfl
   rw[this]at hb
   cases hb;rfl
  exact⟨h0,h1 this⟩
 ·rintro⟨h0,h1⟩
  exact⟨h0,true,rfl,fun _=>h1,fun e=>by cases e⟩
@[go_sem] theorem kAt_some{M:St→Prop}{tm:List (Nat×V)}{d:Nat}{v:V}{h:List VObj}{a:List Nat}:kAt (some d) M tm v h a=M ⟨(d,v)::tm,h,a⟩:=rfl
@[go_sem] theorem kAt_none{M:St→Prop}{tm:List (Nat×V)}{v:V}{h:List VObj}{a:List Nat}:kAt none M tm v h a=M ⟨tm,h,a⟩:=rfl
end
end Go.Vg
