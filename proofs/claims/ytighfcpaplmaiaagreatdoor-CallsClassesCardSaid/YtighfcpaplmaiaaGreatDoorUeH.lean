/- calls.Graph. -/
import Derived.Test.YtighfcpaplmaiaaGreatDoorUdJ
import Derived.Test.YtighfcpaplmaiaaGreatDoorUeD
import Derived.Test.YtighfcpaplmaiaaGreatDoorUdL
set_option linter.unusedVariables false
set_option linter.unusedSimpArgs false
set_option maxRecDepth 20000
namespace Go.Vg
theorem accV.shape{e n0 m0:Nat}{z:List VObj}{y:List Nat}{v:V}{l:List (List V)}(h:accV e n0 m0 z y v l):v.some? = true∧cellsV v=[v]∧v.cell=true:=by
 rcases h with⟨_,e0,rfl⟩ | ⟨_,j,k,gen,rfl,_,_⟩
 ·exact⟨rfl,rfl,rfl⟩
 ·exact⟨rfl,rfl,rfl⟩
def vecE(P:Program)(r:V):Cont:=fun v h' _=>share v=r∨∃ id k gen len e cs,v = .vec id k gen len e∧h'[id]? = some (.vec k gen e cs)∧0<cs.length∧elemOK P e=true∧len * P.cellsOf e≤cs.length∧sl e (chunk (P.cellsOf e) len cs)=r
theorem vpure_vecE{E:Env}{f:FuncId}{args:List V}{r:V}(hp:pureL args=true)(hr:r.pure=true)(h:VCalls E f args [] [] (vecE E.P r))(hal:E.alive=E:=by exact rfl):VPure E f args r:=by
 refine⟨hp,hr,?_⟩
 rw[hal]
 intro G w0 w vals hrel ha
 refine(h G w0 w vals hrel ha).mono fun e' w' hg=>?_
 rcases hg with⟨val,he,v,heap',arr',G',hv,hx,hr',hrv⟩ | hd
 ·rcases hv with rfl | ⟨id,k,gen,len,e,cs,rfl,h1,h2,h3,h4,rfl⟩
  ·exact .inl ⟨val,he,_,_,_,G',rfl,hx,hr',hrv.share⟩
  ·obtain⟨G'',b,hi,g1,g2,g3,g4,g5⟩:=hr'.freezeV h1 h2
   exact .inl ⟨val,he,_,_,_,G'',rfl,hx.trans g3,g4,hrv.thawV g2 g1 h3 h4 g5⟩
 ·exact .inr hd
def dedA(a:List Ed)(x:Ed):List Ed:=if a.getLast? = some x then a else a++[x]
def dedE(l:List Ed):List Ed:=l.foldl dedA []
theorem dedE_snoc(l:List Ed)(x:Ed):dedE (l++[x])=dedA (dedE l) x:=by simp[dedE]
theorem dedA_le(a:List Ed)(x:Ed):(dedA a x).length≤a.length+1:=by
 unfold dedA;split <;> simp
theorem dedF_le:∀ (l a:List Ed),(l.foldl dedA a).length≤a.length+l.length
 | [],a=>by simp
 | x::r,a=>by
  have h1:=dedF_le r (dedA a x)
  have h2:=dedA_le a x
  simp only[List.foldl_cons,List.length_cons];omega
theorem dedE_le(l:List Ed):(dedE l).length≤l.length:=by have:=dedF_le l [];simpa[dedE]using this
def blkE(S q:List Ed):List Ed:=dedE q++S.drop (dedE q).length
theorem flatEd_len:∀ l:List Ed,((l.map Ed.enc).flatten).length=l.length * 2
 | []=>rfl
 | a::r=>by rw[List.map_cons,List.flatten_cons,List.length_append,flatEd_len r,show a.enc.length=2 from rfl,List.length_cons];omega
theorem takeEd:∀ (l:List Ed) (i:Nat),((l.map Ed.enc).flatten).take (i * 2)=((l.take i).map Ed.enc).flatten
 | [],i=>by simp
 | x::r,0=>by simp
 | x::r,i+1=>by
  have e:(((x::r).map Ed.enc).flatten) = .str x.fr :: .str x.to::((r.map Ed.enc).flatten):=rfl
  rw[e,show(i+1) * 2=i * 2+1+1 by omega,List.take_succ_cons,List.take_succ_cons,takeEd r i]
  rfl
theorem dedE_ne{q:List Ed}(h:q≠[]):dedE q≠[]:=by
 rw[←List.dropLast_concat_getLast h,dedE_snoc]
 unfold dedA
 split
 ·rename_i h1
  intro h2;rw[h2]at h1;cases h1
 ·simp
theorem chunkEd:∀ (l s:List Ed),chunk 2 l.length (((l++s).map Ed.enc).flatten)=l.map Ed.enc
 | [],s=>by cases s <;> rfl
 | x::r,s=>by
  have:=chunkEd r s
  have e:(((x::r++s).map Ed.enc).flatten)=x.enc++((r++s).map Ed.enc).flatten:=rfl
  rw[List.length_cons,chunk,e,List.take_left' (by rfl),List.drop_left' (by rfl),this]
  rfl
theorem dropEd:∀ (l:List Ed) (i:Nat),((l.map Ed.enc).flatten).drop (i * 2)=((l.drop i).map Ed.enc).flatten
 | [],i=>by simp
 | x::r,0=>by simp
 | x::r,i+1=>by
  have:=dropEd r i
  rw[List.map_cons,List.flatten_cons,show(i+1) * 2=2+i * 2 by omega,←List.drop_drop,List.drop_succ_cons,←this]
  rfl
theorem blk_put{S q:List Ed}(x:Ed)(h:dedE (q++[x])=dedE q++[x]):((blkE S q).map Ed.enc).flatten.take ((dedE q).length * 2)++[.str x.fr,.str x.to]++((blkE S q).map Ed.enc).flatten.drop ((dedE q).length * 2+2)=((blkE S (q++[x])).map Ed.enc).flatten:=by
 rw[takeEd,show(dedE q).length * 2+2=((dedE q).length+1) * 2 by omega,dropEd]
 unfold blkE
 rw[h,List.take_left' rfl,←List.drop_drop,List.drop_left' rfl,List.drop_drop]
 simp[Ed.enc]
theorem blkE_drop{S q r:List Ed}{x:Ed}(hx:S=q++x::r):(blkE S q).drop q.length=x::r:=by
 have h:=dedE_le q
 unfold blkE
 rw[List.drop_append,List.drop_of_length_le h,List.nil_append,List.drop_drop,show(dedE q).length+(q.length - (dedE q).length)=q.length by omega,hx]
 simp
theorem blkE_nil(S:List Ed):blkE S []=S:=by simp[blkE,dedE]
end Go.Vg
namespace Go.Proofs.YtighfcpaplmaiaaGreatDoor
open Go Go.Vg Go.Proofs
def edRow(u:List Un)(un:Nat)(l:List Rw)(k:Nat):List Ed:=if(rwAt l k).kind=20∨(rwAt l k).kind=21 then match arnd l k with
 | some f=>(tgtU u un k (rwAt l k).kind (rwAt l k).text).map (Ed.mk f)
 | none=>[]else []
def edRows(u:List Un)(un:Nat)(l:List Rw):Nat→List Ed
 | 0=>[]
 | k+1=>edRows u un l k++edRow u un l k
def rwsU(u:List Un)(i:Nat):List Rw:=(u[i]?.map fun x=>rowsN x.tree (-1) 0).getD []
def edAll(u:List Un):Nat→List Ed
 | 0=>[]
 | i+1=>edAll u i++edRows u i (rwsU u i) (rwsU u i).length
theorem edRows_le(u:List Un)(un:Nat)(l:List Rw){i j:Nat}(h:i≤j):(edRows u un l i).length≤(edRows u un l j).length:=by
 induction h with
 | refl=>exact Nat.le_refl _
 | step _ ih=>rw[edRows,List.length_append];omega
theorem edAll_le(u:List Un){i j:Nat}(h:i≤j):(edAll u i).length≤(edAll u j).length:=by
 induction h with
 | refl=>exact Nat.le_refl _
 | step _ ih=>rw[edAll,List.length_append];omega
theorem elem_ed:elemOK Tryz.prog 38=true:=by kernel_rfl
theorem bytes_ed:(envV 32).P.bytesOf 38=32:=by
 rw[show(envV 32).P=Tryz.prog from rfl];kernel_rfl
theorem ed_lens{l:List Ed}:∀ el∈l.map Ed.enc,el.length=(envV 32).P.cellsOf 38:=by
 rw[show(envV 32).P.cellsOf 38=2 by rw[show(envV 32).P=Tryz.prog from rfl];kernel_rfl]
 intro el h
 obtain⟨c,_,rfl⟩:=List.mem_map.1 h
 rfl
theorem SortNilEd{o:Own}{e:TypeId}(f:Nat)(caps:List V)(h:List VObj)(a:List Nat)(K:Cont)(hK:K (.tuple []) h a):VCalls (envV 32) 43 [.iface 32 (.slice o e []),.func f caps] h a K:=by
 intro G w0 w vals hr ha
 obtain⟨v,vs,rfl,hv,ha⟩:=ha.cons
 obtain⟨v2,vs,rfl,hv2,ha⟩:=ha.cons
 rw[ha.nil]
 cases hv with
 | iface _ _ x hx =>
 cases hv2 with
 | func _ _ cs h1 h2 =>
 have key:∀ (p:Option Addr) (c:Nat),Calls (envV 32).P 43 #[.iface 32 (.slice p 0 c),.func (.func f) #[] cs] w fun e w'=>Goes (envV 32) G a w0 K e w':=fun p c=>by
  have hf:∃ g,Tryz.prog.funcs.findIdx? (·.name == "internal/reflectlite" ++ ".Swapper$" ++ toString (Lib.swapperK 0 sdE 25))=some g:=Option.isSome_iff_exists.1 (by kernel_rfl)
  obtain⟨g,hf⟩:=hf
  refine(Any.sort_Slice_tiny Tryz.laysGg6 32 38 sdT sdE (by kernel_rfl) (by kernel_rfl) (by kernel_rfl) (by kernel_rfl) 25 (fun _=>by kernel_rfl) p 0 c (by omega) g hf (.func f) #[] cs w).mono ?_
  rintro e w' ⟨rfl,os,rfl⟩
  refine .inl ⟨_,rfl,_,_,_,G,hK,Ext.refl _ _,hr.belowW ⟨rfl,rfl,rfl,?_,fun i hi=>?_⟩,.tuple _ _ rfl (by simp)⟩
  ·show w.heap.size≤(w.heap++os).size
   simp
  ·show(w.heap++os)[i]? = w.heap[i]?
   rw[Array.getElem?_append_left hi]
 cases hx with
 | snil=>exact key none 0
 | sodd _ b c=>exact key b c
 | slice _ _ _ b off cap=>exact key _ cap
def graphU(u:List Un):List Ed:=if(chkU u).1=0 then dedE (sortEd (edAll u u.length))else []
theorem KGraph(u:List Un)(hu:fitU u)(hgp:gapsU u)(hE:(edAll u u.length).length≤1000000):VPure env 15 [sl 70 (u.map Un.enc)] (sl 38 ((graphU u).map Ed.enc)):=by
 refine VPure.ofV (tv:=32) ?_
 refine vpure_vecE (by simp -implicitDefEqProofs only[go_sem];exact uns_pure _) (by simp -implicitDefEqProofs only[go_sem];exact eds_pure _) ?_
 refine vcalls_vc (fn:=Tryz.f15) Tryz.func15 rfl (by rw[Tryz.ntmps15];simp) ?_
 simp -implicitDefEqProofs only[go_sem,Tryz.f15]
 refine VCalls.toV ((TCheck u hu hgp).calls (by simp -implicitDefEqProofs only[go_sem]) ?_)
 simp -implicitDefEqProofs only[go_sem,encE]
 refine⟨fun h0=>?_,fun h0 _ _=>?_⟩
 ·have hc0:¬ (chkU u).1=0:=by simpa using h0
  rw[graphU,if_neg hc0]
  exact .inl rfl
 have hc0:(chkU u).1=0:=by simpa using h0
 refine snd_list (β:=V×List VObj×List Nat) u (fun pre b=>⟨[(26,.int .i64 pre.length),(25,.int .i64 u.length),(24,sl 70 (u.map Un.enc)),(5,.ptr 1 0),(2,.slice .nil 0 []),(0,sl 70 (u.map Un.enc))],[.dead,.cells [b.1]]++b.2.1,b.2.2⟩)
  (fun pre post b=>accV 38 2 0 b.2.1 b.2.2 b.1 ((edAll u pre.length).map Ed.enc)) (.slice .nil 0 [],[],[]) ?_ accV.nil ?_ ?_
 ·simp -implicitDefEqProofs only[go_sem]
  rfl
 ·rintro⟨v,z,y⟩ hacc
  simp only at hacc ⊢
  have hgr:graphU u=dedE (sortEd (edAll u u.length)):=by rw[graphU,if_pos hc0]
  generalize edAll u u.length=L at hgr hE hacc
  rw[hgr]
  simp -implicitDefEqProofs only[go_sem,ap_get,ap_get0,ap_set,ap_set0,List.getElem?_cons_succ,List.set_cons_succ,List.cons_append]
  rcases hacc with⟨hnil,e0,rfl⟩ | ⟨hne,j,k,gen,rfl,h3,h4⟩
  ·have hL:L=[]:=by simpa using hnil
   subst hL
   refine SortNilEd _ _ _ _ _ ?_
   simp -implicitDefEqProofs only[go_sem,ap_get,ap_get0,ap_set,ap_set0,List.getElem?_cons_succ,List.set_cons_succ,List.cons_append]
   intro _
   refine snd_list (β:=Unit) ([]:List Ed) (fun q b=>⟨[(87,.int .i64 q.length),(86,.int .i64 0),(85,.slice .nil e0 []),(14,.int .i64 0),(5,.ptr 1 0)],[.dead,.cells [.slice .nil e0 []]]++z,y⟩)
    (fun q post b=>True) () ?_ trivial ?_ ?_
   ·simp -implicitDefEqProofs only[go_sem,ap_get,ap_get0,ap_set,ap_set0,List.getElem?_cons_succ,List.set_cons_succ,List.cons_append]
    exact⟨rfl,rfl⟩
   ·intro _ _
    simp -implicitDefEqProofs only[go_sem,ap_get,ap_get0,ap_set,ap_set0,List.getElem?_cons_succ,List.set_cons_succ,List.cons_append]
    refine⟨fun h=>absurd h (by simp),fun _=>?_⟩
    rw[show dedE (sortEd [])=[]by simp[sortEd,dedE]]
    exact .inl rfl
   ·rintro q x r b hx _
    exact absurd hx (by simp)
  ·have hL1:1≤L.length:=by
    cases L with
    | nil=>exact absurd rfl hne
    | cons=>simp
   have hLm:(L.map Ed.enc).length=L.length:=List.length_map ..
   rw[hLm]
   clear hLm hne
   obtain⟨i,hi⟩:∃ i,i=2+j:=⟨_,rfl⟩
   have hij:i=j+1+1:=by omega
   rw[←hi]
   subst hij
   rw[Nat.zero_add]at h3 ⊢
   refine SortEdges (h:=_) (id:=j+1+1) (k:=k) (gen:=gen) (o:=1) (l:=L) h3 rfl hL1 ?_
   generalize hS:sortEd L=S
   have hSl:S.length=L.length:=hS ▸ (sortEd_perm L).length_eq
   have hjz:=lt_of_get h3
   simp -implicitDefEqProofs only[go_sem,ap_get,ap_get0,ap_set,ap_set0,List.getElem?_cons_succ,List.set_cons_succ,List.cons_append]
   intro _
   refine snd_list (β:=List VObj) S (fun q ex=>⟨[(87,.int .i64 q.length),(86,.int .i64 L.length),(85,.vec (j+1+1) k gen L.length 38),(14,.int .i64 (dedE q).length),(5,.ptr 1 0)],[.dead,.cells [.vec (j+1+1) k gen L.length 38]]++(z.set j (.vec k gen 38 ((blkE S q).map Ed.enc).flatten)++ex),y⟩)
    (fun q post b=>True) [] ?_ trivial ?_ ?_
   ·simp -implicitDefEqProofs only[go_sem,ap_get,ap_get0,ap_set,ap_set0,List.getElem?_cons_succ,List.set_cons_succ,List.cons_append,blkE_nil,List.append_nil]
    exact⟨rfl,rfl⟩
   ·intro ex _
    simp -implicitDefEqProofs only[go_sem,ap_get,ap_get0,ap_set,ap_set0,List.getElem?_cons_succ,List.set_cons_succ,List.cons_append]
    refine⟨fun h=>absurd h (by omega),fun _=>?_⟩
    have hds:=dedE_le S
    refine⟨⟨by omega,h4⟩,?_⟩
    unfold vecE
    right
    have hget:∀ (X:VObj) (ex:List VObj),(z.set j X++ex)[j]? = some X:=fun X ex=>by rw[List.getElem?_append_left (by simpa using hjz)];simp[hjz]
    have hbl:blkE S S=dedE S++S.drop (dedE S).length:=rfl
    have hfl:∀ l:List Ed,((l.map Ed.enc).flatten).length=l.length * 2:=fun l=>by
     induction l with
     | nil=>rfl
     | cons a r ih=>rw[List.map_cons,List.flatten_cons,List.length_append,ih,ed_len,List.length_cons];omega
    have hce:(envV 32).P.cellsOf 38=2:=by rw[show(envV 32).P=Tryz.prog from rfl];kernel_rfl
    have hce':Tryz.prog.cellsOf 38=2:=by kernel_rfl
    refine⟨j+1+1,k,gen,(dedE S).length,38,((blkE S S).map Ed.enc).flatten,by rw[Int.toNat_natCast],?_,?_,elem_ed,?_,?_⟩
    ·show(z.set j _++ex)[j]? = _
     exact hget _ ex
    ·rw[hfl,hbl,List.length_append,List.length_drop];omega
    ·rw[hce',hfl,hbl,List.length_append];omega
    ·rw[hce',hbl,chunkEd]
   ·rintro q x r ex hx _
    have hpq:S.length=q.length+1+r.length:=by rw[hx];simp;omega
    have hlt:((q.length:Int)<L.length)=True:=by simp;omega
    have hw:IntKind.i64.wrap (↑q.length+1)=↑(q.length+1):=wrap_next (by omega)
    have hdq:=dedE_le q
    have hget:∀ (X:VObj) (ex:List VObj),(z.set j X++ex)[j]? = some X:=fun X ex=>by rw[List.getElem?_append_left (by simpa using hjz)];simp[hjz]
    have hdr:(((blkE S q).map Ed.enc).flatten).drop (q.length * 2) = .str x.fr :: .str x.to::(r.map Ed.enc).flatten:=by
     rw[dropEd,blkE_drop hx];rfl
    simp -implicitDefEqProofs only[go_sem,ap_get,ap_get0,ap_set,ap_set0,List.getElem?_cons_succ,List.set_cons_succ,List.cons_append,hlt,hget,hdr,Int.toNat_natCast]
    have hset:∀ (X Y:VObj) (e:List VObj),(z.set j X++e).set j Y=z.set j Y++e:=fun X Y e=>by
     rw[List.set_append_left _ _ (by simpa using hjz),List.set_set]
    have hfl:=flatEd_len
    by_cases hq:q=[]
    ·subst hq
     have hd0:(dedE []).length=0:=rfl
     refine snd_draw (cs:=[]) mixed (by kernel_rfl) ?_
     simp -implicitDefEqProofs only[go_sem,ap_get,ap_get0,ap_set,ap_set0,List.getElem?_cons_succ,List.set_cons_succ,List.cons_append,hlt,hget,hdr,Int.toNat_natCast,List.length_nil,hd0]
     have hb:V.str x.fr::V.str x.to::List.drop 2 (List.map Ed.enc (blkE S [])).flatten=(List.map Ed.enc (blkE S [x])).flatten:=blk_put (S:=S) (q:=[]) x rfl
     refine⟨fun h=>absurd rfl h,fun _=>⟨by omega,?_,ex++[.cells [.str x.fr,.str x.to]],?_,?_,Or.inl (by simp)⟩⟩
     ·rw[blkE_nil,hfl];omega
     ·rfl
     ·rw[hset,hb]
      exact tellH_refl
    ·obtain⟨dp,la,hdl⟩:∃ dp la,dedE q=dp++[la]:=⟨_,_,(List.dropLast_concat_getLast (dedE_ne hq)).symm⟩
     have hq0:((q.length:Int)=0)=False:=by simpa using hq
     have hdl1:(dedE q).length=dp.length+1:=by rw[hdl];simp
     have hwm:IntKind.i64.wrap (((dp.length+1:Nat):Int) - 1)=dp.length:=by rw[wrap_ok] <;> omega
     have hdm:(((blkE S q).map Ed.enc).flatten).drop (dp.length * 2) = .str la.fr :: .str la.to::((S.drop (dp.length+1)).map Ed.enc).flatten:=by
      rw[dropEd,blkE,hdl1,hdl,List.append_assoc,List.drop_left' rfl];rfl
     rw[hdl1]
     refine snd_draw (cs:=[]) mixed (by kernel_rfl) ?_
     simp -implicitDefEqProofs only[go_sem,ap_get,ap_get0,ap_set,ap_set0,List.getElem?_cons_succ,List.set_cons_succ,List.cons_append,hlt,hget,hdr,hdm,hq0,hwm,Int.toNat_natCast]
     have hfk:flatK Tryz.prog 38=some [0,0]:=by kernel_rfl
     have hd1:(dedE (q++[x]))=if la=x then dedE q else dedE q++[x]:=by
      rw[dedE_snoc,dedA,hdl];simp
     have hla:la=x↔(x.fr=la.fr∧x.to=la.to):=by
      obtain⟨a1,a2⟩:=la
      obtain⟨b1,b2⟩:=x
      simp only[Ed.mk.injEq]
      exact⟨fun h=>⟨h.1.symm,h.2.symm⟩,fun h=>⟨h.1.symm,h.2.symm⟩⟩
     refine⟨by omega,by rw[hfk];rfl,fun hne=>?_,fun heq=>?_⟩
     ·have hn:¬ la=x:=by
       rw[hla]
       rintro⟨h1,h2⟩
       rw[h1,h2]at hne
       simp at hne
      rw[if_neg hn]at hd1
      have hb:=blk_put (S:=S) (q:=q) x hd1
      rw[hdl1]at hb
      refine⟨by omega,?_,ex++[.cells [.str x.fr,.str x.to]],⟨hw,?_⟩,?_,Or.inl (by simp)⟩
      ·rw[hfl,blkE,List.length_append,List.length_drop];omega
      ·rw[hd1,List.length_append,hdl1]
       exact wrap_next (by omega)
      ·rw[hset,hb]
       exact tellH_refl
     ·have hn:la=x:=by
       rw[hla]
       have h2:=heq
       simp only[Bool.not_eq_false',Bool.and_eq_true,decide_eq_true_eq]at h2
       exact h2
      rw[if_pos hn]at hd1
      refine⟨ex++[.cells [.str x.fr,.str x.to]],⟨hw,?_⟩,?_,Or.inl (by simp)⟩
      ·rw[hd1,hdl1]
      ·rw[show blkE S (q++[x])=blkE S q by unfold blkE;rw[hd1]]
       exact tellH_refl
 ·rintro pre x post ⟨v,z,y⟩ hx hacc
  have hpl:u.length=pre.length+1+post.length:=by rw[hx];simp;omega
  have hgx:(u.map Un.enc).getD (pre.length:Int).toNat []=x.enc:=by rw[hx];simp[List.getD_eq_getElem?_getD]
  have hlt:((pre.length:Int)<u.length)=True:=by simp;omega
  have hw:IntKind.i64.wrap (↑pre.length+1)=↑(pre.length+1):=wrap_next (by omega)
  have hxm:x∈u:=by rw[hx];simp
  have hux:u[pre.length]? = some x:=by rw[hx];simp
  obtain⟨hxn,hxs⟩:=hu.2 x hxm
  simp only at hacc ⊢
  simp -implicitDefEqProofs only[go_sem,hgx,hlt,ap_get,ap_get0,ap_set,ap_set0,List.getElem?_cons_succ,List.set_cons_succ,List.cons_append]
  refine VCalls.toV ((TRows x.tree (by omega)).calls (by simp -implicitDefEqProofs only[go_sem]) ?_)
  generalize hl:rowsN x.tree (-1) 0=l
  have hll:l.length=(nodes x.tree).length:=by rw[←hl];exact rowsN_len ..
  have hro:rowsOK l:=hl ▸ rowsOK_of (by omega)
  have hrw:rwsU u pre.length=l:=by rw[rwsU,hux,←hl];rfl
  have hall:edAll u (pre.length+1)=edAll u pre.length++edRows u pre.length l l.length:=by rw[edAll,hrw]
  have hle1:=edAll_le u (show pre.length+1≤u.length by omega)
  rw[hall,List.length_append]at hle1
  have hts:∀ r∈l,r.text.size≤1000000:=fun r hr=>by
   obtain⟨i,hi,rfl⟩:=List.getElem_of_mem hr
   obtain⟨k,t,g,ks,e1,_,e3,_⟩:=row_node (n:=x.tree) (i:=i) (by rw[hl];exact hi)
   have e4:rwAt (rowsN x.tree (-1) 0) i=l[i]:=by rw[hl];simp[rwAt,List.getD_eq_getElem?_getD,hi]
   rw[e4]at e3
   rw[e3]
   exact hxs _ (List.mem_of_getElem? e1)
  simp -implicitDefEqProofs only[go_sem,hgx,hlt,ap_get,ap_get0,ap_set,ap_set0,List.getElem?_cons_succ,List.set_cons_succ,List.cons_append]
  intro _ _
  refine snd_list (β:=V×List VObj×List Nat) l (fun q b=>⟨[(37,.int .i64 q.length),(36,.int .i64 l.length),(35,sl 48 (l.map Rw.enc)),(7,sl 48 (l.map Rw.enc)),(6,.int .i64 pre.length),(26,.int .i64 pre.length),(25,.int .i64 u.length),(24,sl 70 (u.map Un.enc)),(5,.ptr 1 0),(2,.slice .nil 0 []),(0,sl 70 (u.map Un.enc))],[.dead,.cells [b.1]]++b.2.1,b.2.2⟩)
   (fun q post b=>accV 38 2 0 b.2.1 b.2.2 b.1 ((edAll u pre.length++edRows u pre.length l q.length).map Ed.enc)) (v,z,y) ?_ (by simpa[edRows]using hacc) ?_ ?_
  ·simp -implicitDefEqProofs only[go_sem]
   rfl
  ·rintro⟨v,z,y⟩ hacc
   simp only at hacc ⊢
   simp -implicitDefEqProofs only[go_sem,ap_get,ap_get0,ap_set,ap_set0,List.getElem?_cons_succ,List.set_cons_succ,List.cons_append]
   rw[←hall]at hacc
   exact⟨(v,z,y),hacc,hw,⟨tell1_rfl,tellH_refl⟩,tellA_cut0,.inl ⟨Nat.le_refl _,Nat.le_refl _⟩⟩
  ·rintro q r post2 ⟨v,z,y⟩ hx2 hacc
   have hpl2:l.length=q.length+1+post2.length:=by rw[hx2];simp;omega
   have hgx2:(l.map Rw.enc).getD (q.length:Int).toNat []=r.enc:=by rw[hx2];simp[List.getD_eq_getElem?_getD]
   have hlt2:((q.length:Int)<l.length)=True:=by simp;omega
   have hw2:IntKind.i64.wrap (↑q.length+1)=↑(q.length+1):=wrap_next (by omega)
   have hrq:rwAt l q.length=r:=by rw[hx2];simp[rwAt,List.getD_eq_getElem?_getD]
   have hle2:=edRows_le u pre.length l (show q.length+1≤l.length by omega)
   have hrow:edRows u pre.length l (q.length+1)=edRows u pre.length l q.length++edRow u pre.length l q.length:=rfl
   rw[edRows,List.length_append]at hle2
   simp only at hacc ⊢
   simp -implicitDefEqProofs only[go_sem,hgx2,hlt2,ap_get,ap_get0,ap_set,ap_set0,List.getElem?_cons_succ,List.set_cons_succ,List.cons_append,Rw.enc]
   refine⟨fun h20=>⟨fun h21=>?_,fun h21=>?_⟩,fun h20=>?_⟩
   ·have he:edRow u pre.length l q.length=[]:=by
     rw[edRow,hrq,if_neg]
     simp at h20 h21
     rintro(h | h) <;> contradiction
    rw[hrow,he,List.append_nil]
    exact⟨(v,z++[_],y),hacc.heap _,hw2,⟨tell1_rfl,tellH_refl⟩,tellA_cut0,.inl ⟨by simp,Nat.le_refl _⟩⟩
   all_goals
    have hkk:r.kind=20∨r.kind=21:=by first | exact .inr (by simpa using h21) | exact .inl (by simpa using h20)
    refine VCalls.toV ((Karound l hro q.length (by omega) hts).calls (by simp -implicitDefEqProofs only[go_sem]) ?_)
    cases har:arnd l q.length with
    | none =>
     have he:edRow u pre.length l q.length=[]:=by rw[edRow,hrq,if_pos hkk,har]
     simp -implicitDefEqProofs only[go_sem,Option.isSome_none,Option.getD_none,hgx2,hlt2,ap_get,ap_get0,ap_set,ap_set0,List.getElem?_cons_succ,List.set_cons_succ,List.cons_append,Rw.enc]
     rw[hrow,he,List.append_nil]
     exact⟨(v,z++[_],y),hacc.heap _,hw2,⟨tell1_rfl,tellH_refl⟩,tellA_cut0,.inl ⟨by simp,Nat.le_refl _⟩⟩
    | some f =>
     have he:edRow u pre.length l q.length=(tgtU u pre.length q.length r.kind r.text).map (Ed.mk f):=by rw[edRow,hrq,if_pos hkk,har]
     simp -implicitDefEqProofs only[go_sem,Option.isSome_some,Option.getD_some,hgx2,hlt2,ap_get,ap_get0,ap_set,ap_set0,List.getElem?_cons_succ,List.set_cons_succ,List.cons_append,Rw.enc]
     try refine VCalls.toV ((Ktargets u hu hgp pre.length q.length r.kind ⟨by omega,by omega⟩ r.text).calls (by simp -implicitDefEqProofs only[go_sem]) ?_)
     generalize tgtU u pre.length q.length r.kind r.text=ts at he
     simp -implicitDefEqProofs only[go_sem,hgx2,hlt2,ap_get,ap_get0,ap_set,ap_set0,List.getElem?_cons_succ,List.set_cons_succ,List.cons_append,Rw.enc]
     intro _ _
     have hle3:(edAll u pre.length).length+(edRows u pre.length l q.length).length+ts.length≤1000000:=by
      rw[he,List.length_map]at hle2
      omega
     refine snd_list (β:=V×List VObj×List Nat) ts (fun s b=>⟨[(68,.int .i64 s.length),(67,.int .i64 ts.length),(66,sl 9 (ts.map encTx)),(10,.str f),(37,.int .i64 q.length),(36,.int .i64 l.length),(35,sl 48 (l.map Rw.enc)),(7,sl 48 (l.map Rw.enc)),(6,.int .i64 pre.length),(26,.int .i64 pre.length),(25,.int .i64 u.length),(24,sl 70 (u.map Un.enc)),(5,.ptr 1 0),(2,.slice .nil 0 []),(0,sl 70 (u.map Un.enc))],[.dead,.cells [b.1]]++b.2.1,b.2.2⟩)
      (fun s post b=>accV 38 2 0 b.2.1 b.2.2 b.1 ((edAll u pre.length++edRows u pre.length l q.length++s.map (Ed.mk f)).map Ed.enc)∧z.length+1≤b.2.1.length∧y.length≤b.2.2.length) (v,z++[.cells r.enc],y) ?_ ⟨by simpa using hacc.heap [.cells r.enc],by simp,Nat.le_refl _⟩ ?_ ?_
     ·simp -implicitDefEqProofs only[go_sem,Rw.enc]
      rfl
     ·rintro⟨v',z',y'⟩ ⟨hacc',hz1,hy1⟩
      simp only at hacc' hz1 hy1 ⊢
      simp -implicitDefEqProofs only[go_sem,ap_get,ap_get0,ap_set,ap_set0,List.getElem?_cons_succ,List.set_cons_succ,List.cons_append]
      rw[hrow,he,←List.append_assoc]
      exact⟨(v',z',y'),hacc',hw2,⟨tell1_rfl,tellH_refl⟩,tellA_cut0,.inl ⟨Nat.le_refl _,Nat.le_refl _⟩⟩
     ·rintro s t0 post3 ⟨v',z',y'⟩ hx3 ⟨hacc',hz1,hy1⟩
      have hpl3:ts.length=s.length+1+post3.length:=by rw[hx3];simp;omega
      have hgx3:(ts.map encTx).getD (s.length:Int).toNat []=encTx t0:=by rw[hx3];simp[List.getD_eq_getElem?_getD]
      have hlt3:((s.length:Int)<ts.length)=True:=by simp;omega
      have hw3:IntKind.i64.wrap (↑s.length+1)=↑(s.length+1):=wrap_next (by omega)
      simp only at hacc' hz1 hy1 ⊢
      simp -implicitDefEqProofs only[go_sem,hgx3,hlt3,ap_get,ap_get0,ap_set,ap_set0,List.getElem?_cons_succ,List.set_cons_succ,List.cons_append,encTx,hacc'.asl]
      have hb1:(((edAll u pre.length++edRows u pre.length l q.length++s.map (Ed.mk f)).map Ed.enc).length+1) * (envV 32).P.bytesOf 38≤140737488355328:=by
       rw[bytes_ed];simp only[List.length_map,List.length_append];omega
      refine append_acc (h0:=[.dead,.cells [v']]) (a0:=[]) hacc' ed_lens elem_ed hb1 fun v2 z2 y2 hacc2 hz1' hz2' hy1'=>?_
      have hs:(edAll u pre.length++edRows u pre.length l q.length++s.map (Ed.mk f)).map Ed.enc++[[.str f,.str t0]]=(edAll u pre.length++edRows u pre.length l q.length++(s++[t0]).map (Ed.mk f)).map Ed.enc:=by simp[Ed.enc]
      rw[hs]at hacc2
      obtain⟨c1,c2,c3⟩:=hacc2.shape
      simp -implicitDefEqProofs only[go_sem,hgx3,hlt3,ap_get,ap_get0,ap_set,ap_set0,List.getElem?_cons_succ,List.set_cons_succ,List.cons_append,encTx,c1,c2,c3]
      refine⟨(v2,z2,y2),⟨by simpa using hacc2,?_,?_⟩,hw3,⟨tell1_rfl,tellH_refl⟩,tellA_cut0,.inl ⟨Nat.le_refl _,Nat.le_refl _⟩⟩
      ·exact Nat.le_trans hz1 hz1'
      ·exact Nat.le_trans hy1 hy1'
end Go.Proofs.YtighfcpaplmaiaaGreatDoor
namespace Go.Proofs.YtighfcpaplmaiaaGreatDoor
open Go Go.Vg Go.Proofs
open Classical in
theorem recI_fold(s:ByteArray):∀ (r o:List ByteArray),r.foldl (recI s) o=if s∈r∧o.getLast?≠some s then o++[s]else o
 | [],o=>by rw[if_neg (by rintro⟨h,_⟩;cases h)];rfl
 | t::r,o=>by
  rw[List.foldl_cons,recI_fold s r]
  by_cases h1:o.getLast? = some s
  ·rw[show recI s o t=o from if_neg (fun h=>h.2 h1),if_neg (fun h=>h.2 h1),if_neg (fun h=>h.2 h1)]
  ·by_cases h2:t=s
   ·rw[show recI s o t=o++[s]from if_pos ⟨h2,h1⟩,if_neg (fun h=>h.2 (by simp)),if_pos ⟨by rw[h2];simp,h1⟩]
   ·rw[show recI s o t=o from if_neg (fun h=>h2 h.1)]
    by_cases h3:s∈r
    ·rw[if_pos ⟨h3,h1⟩,if_pos ⟨by simp[h3],h1⟩]
    ·rw[if_neg (fun h=>h3 h.1),if_neg (fun h=>(List.mem_cons.1 h.1).elim (fun e=>h2 e.symm) h3)]
open Classical in
theorem recJ_eq(l:List Ed)(o:List ByteArray)(s:ByteArray):recJ l o s=if s∈sortS (flwS l s)∧o.getLast?≠some s then o++[s]else o:=recI_fold s _ _
theorem recF_asc(l:List Ed):∀ (c o:List ByteArray),(c.Pairwise fun a b=>ltB b a=false)→Asc o→(∀ a∈o,∀ b∈c,ltB b a=false)→Asc (c.foldl (recJ l) o)∧∀ x,x∈c.foldl (recJ l) o↔x∈o∨(x∈c∧x∈sortS (flwS l x))
 | [],o,_,ho,_=>⟨ho,by simp⟩
 | s::c,o,hc,ho,hoc=>by
  rw[List.foldl_cons,recJ_eq]
  obtain⟨hc1,hc2⟩:=List.pairwise_cons.1 hc
  by_cases h:s∈sortS (flwS l s)∧o.getLast?≠some s
  ·rw[if_pos h]
   have hlt:∀ a∈o,ltB a s=true:=fun a ha=>by
    cases hl:ltB a s with
    | true=>rfl
    | false =>
     have e:a=s:=ltB_tri hl (hoc a ha s (by simp))
     subst e
     exfalso
     have hne:o≠[]:=by intro h0;rw[h0]at ha;cases ha
     have hcl:=List.dropLast_concat_getLast hne
     have hlast:o.getLast? = some (o.getLast hne):=List.getLast?_eq_some_getLast hne
     rw[←hcl]at ha
     rcases List.mem_append.1 ha with h1 | h1
     ·have h2:ltB a (o.getLast hne)=true:=by
       have h3:=ho
       unfold Asc at h3
       rw[←hcl]at h3
       exact(List.pairwise_append.1 h3).2.2 a h1 _ (by simp)
      rw[hoc _ (List.getLast_mem hne) a (by simp)]at h2
      cases h2
     ·simp only[List.mem_singleton]at h1
      rw[←h1]at hlast
      exact h.2 hlast
   have hasc:Asc (o++[s]):=by
    refine List.pairwise_append.2 ⟨ho,by simp,fun a ha b hb=>?_⟩
    simp only[List.mem_singleton]at hb
    subst hb
    exact hlt a ha
   obtain⟨g1,g2⟩:=recF_asc l c (o++[s]) hc2 hasc (fun a ha b hb=>by
    rcases List.mem_append.1 ha with h1 | h1
    ·exact hoc a h1 b (by simp[hb])
    ·simp only[List.mem_singleton]at h1
     subst h1
     exact hc1 b hb)
   refine⟨g1,fun x=>?_⟩
   rw[g2 x]
   simp only[List.mem_append,List.mem_cons,List.not_mem_nil,or_false]
   constructor
   ·rintro((h1 | rfl) | h1)
    ·exact .inl h1
    ·exact .inr ⟨.inl rfl,h.1⟩
    ·exact .inr ⟨.inr h1.1,h1.2⟩
   ·rintro(h1 | ⟨rfl | h1,h2⟩)
    ·exact .inl (.inl h1)
    ·exact .inl (.inr rfl)
    ·exact .inr ⟨h1,h2⟩
  ·rw[if_neg h]
   obtain⟨g1,g2⟩:=recF_asc l c o hc2 ho (fun a ha b hb=>hoc a ha b (by simp[hb]))
   refine⟨g1,fun x=>?_⟩
   rw[g2 x]
   simp only[List.mem_cons]
   constructor
   ·rintro(h1 | h1)
    ·exact .inl h1
    ·exact .inr ⟨.inr h1.1,h1.2⟩
   ·rintro(h1 | ⟨rfl | h1,h2⟩)
    ·exact .inl h1
    ·by_cases hl:o.getLast? = some x
     ·exact .inl (List.mem_of_getLast? hl)
     ·exact absurd ⟨h2,hl⟩ h
    ·exact .inr ⟨h1,h2⟩
theorem recS_facts(u:List Un)(l:List Ed):Asc (recS u l)∧∀ x,x∈recS u l↔l≠[]∧x∈calN u∧Rch (scN (sucN l)) x x:=by
 unfold recS
 split
 ·rename_i h
  exact⟨List.Pairwise.nil,fun x=>by simp[h]⟩
 ·rename_i h
  obtain⟨h1,h2⟩:=recF_asc l (calS u) [] (mergeS_pair _) List.Pairwise.nil (by simp)
  refine⟨h1,fun x=>?_⟩
  rw[h2 x,(sortS_perm _).mem_iff,(flwS_facts l x).2.1,calS,(sortS_perm _).mem_iff]
  simp[h]
end Go.Proofs.YtighfcpaplmaiaaGreatDoor
set_option maxRecDepth 20000
namespace Go.Vg
def fnCov(R:List Rw)(b m:Nat)(W:List Dl)(u p:Int)(x:Ar):Prop:=∀ (i:Nat) r,R[i]? = some r→r.kind=2→∃ a d,d∈W∧declT 2 r.text u ((m+i:Nat):Int) a=some d ∧
 ((r.parent=p∧a=x)∨∃ (q:Nat) (r':Rw),R[q]? = some r'∧r.parent=((b+q:Nat):Int)∧a.method=decide (r'.kind=7)∧a.cls=r'.text)
theorem walkD_fn:∀ (n:Nd) (p:Int) (b m:Nat) (u:Int) (x:Ar),fnCov (rowsN n p b) b m (walkD n u m x) u p x:=by
 refine Nd.all fun k t g ks ih p b m u x=>?_
 have hs:∀ l:List Nd,(∀ y∈l,∀ (p:Int) (b m:Nat) (u:Int) (x:Ar),fnCov (rowsN y p b) b m (walkD y u m x) u p x)→∀ (p b m:Nat) (u:Int) (x:Ar),fnCov (rowsL l p b) b m (walkDs l u m x) u p x:=by
  intro l
  induction l with
  | nil=>intro _ p b m u x i r h;simp[rowsL]at h
  | cons y l ihl =>
   intro hx p b m u x i r hi hk
   have hlen:(rowsN y p b).length=(nodes y).length:=rowsN_len ..
   rw[rowsL]at hi
   rw[walkDs]
   rcases Nat.lt_or_ge i (rowsN y p b).length with hl | hl
   ·rw[List.getElem?_append_left hl]at hi
    obtain⟨a,d,h1,h2,h3⟩:=hx y (by simp) p b m u x i r hi hk
    refine⟨a,d,List.mem_append_left _ h1,h2,?_⟩
    rcases h3 with h3 | ⟨q,r',h4,h5⟩
    ·exact .inl h3
    ·refine .inr ⟨q,r',?_,h5⟩
     rw[rowsL,List.getElem?_append_left (List.getElem?_eq_some_iff.1 h4).1]
     exact h4
   ·rw[List.getElem?_append_right hl]at hi
    obtain⟨a,d,h1,h2,h3⟩:=ihl (fun z hz=>hx z (by simp[hz])) p (b+(nodes y).length) (m+(nodes y).length) u x _ r hi hk
    refine⟨a,d,List.mem_append_right _ h1,?_,?_⟩
    ·rw[←h2];congr 2;omega
    rcases h3 with h3 | ⟨q,r',h4,h5,h6⟩
    ·exact .inl h3
    ·refine .inr ⟨(rowsN y p b).length+q,r',?_,by rw[h5,hlen];omega,h6⟩
     rw[rowsL,List.getElem?_append_right (by omega),Nat.add_sub_cancel_left]
     exact h4
 intro i r hi hk
 rw[rowsN]at hi
 rw[walkD]
 cases i with
 | zero =>
  simp at hi
  subst hi
  simp only at hk
  subst hk
  exact⟨x,(if x.method=true then⟨4,x.cls,t,u,m⟩else⟨1,⟨#[]⟩,t,u,m⟩),List.mem_append_left _ (by rw[declT,if_pos rfl];simp),by rw[declT,if_pos rfl];rfl,.inl ⟨rfl,rfl⟩⟩
 | succ i =>
  rw[List.getElem?_cons_succ]at hi
  obtain⟨a,d,h1,h2,h3⟩:=hs ks ih b (b+1) (m+1) u (belowT k t x) i r hi hk
  refine⟨a,d,List.mem_append_right _ h1,?_,?_⟩
  ·rw[←h2];congr 2;omega
  rcases h3 with⟨h3,rfl⟩ | ⟨q,r',h4,h5,h6⟩
  ·exact .inr ⟨0,_,rfl,h3,rfl,rfl⟩
  ·refine .inr ⟨q+1,r',?_,by rw[h5];omega,h6⟩
   rw[rowsN,List.getElem?_cons_succ];exact h4
theorem mem_declsU:∀ (u:List Un) (i un:Nat) (x:Un) (d:Dl),u[un]? = some x→x.broken=false→d∈walkD x.tree ((i+un:Nat):Int) 0 Ar.none→d∈declsU u i
 | [],i,un,x,d,h,_,_=>by simp at h
 | y::r,i,0,x,d,h,hb,hd=>by
  simp at h
  subst h
  rw[declsU,if_neg (by rw[hb];simp)]
  exact List.mem_append_left _ hd
 | y::r,i,un+1,x,d,h,hb,hd=>by
  rw[List.getElem?_cons_succ]at h
  rw[declsU]
  exact List.mem_append_right _ (mem_declsU r (i+1) un x d h hb (by rw[show i+1+un=i+(un+1)by omega];exact hd))
end Go.Vg
namespace Go.Proofs.YtighfcpaplmaiaaGreatDoor
open Go Go.Vg Go.Proofs
theorem fn_call{u:List Un}{un i:Nat}{x:Un}(hx:u[un]? = some x)(hb:x.broken=false)(hi:i<(rowsN x.tree (-1) 0).length)(hk:(rwAt (rowsN x.tree (-1) 0) i).kind=2):qnR (rowsN x.tree (-1) 0) i∈calN u:=by
 have hg:(rowsN x.tree (-1) 0)[i]? = some (rwAt (rowsN x.tree (-1) 0) i):=by
  simp[rwAt,List.getD_eq_getElem?_getD,hi]
 obtain⟨a,d,h1,h2,h3⟩:=walkD_fn x.tree (-1) 0 0 (un:Int) Ar.none i _ hg hk
 have hd:d∈declsU u 0:=mem_declsU u 0 un x d hx hb (by rw[Nat.zero_add];exact h1)
 refine List.mem_filterMap.2 ⟨d,hd,?_⟩
 rw[declT,if_pos rfl]at h2
 cases h2
 rcases h3 with⟨h3,rfl⟩ | ⟨q,r',h4,h5,h6,h7⟩
 ·rw[if_neg (by simp[Ar.none]),callN,if_pos rfl]
  unfold qnR
  rw[if_neg (by rw[h3];rintro⟨h,_⟩;omega)]
 ·have hr':rwAt (rowsN x.tree (-1) 0) q=r':=rwAt_some h4
  unfold qnR
  rw[Nat.zero_add]at h5
  rw[h5,Int.toNat_natCast,hr']
  by_cases h7k:r'.kind=7
  ·rw[if_pos (by rw[h6];simp[h7k]),callN,if_neg (by simp),if_pos rfl,if_pos ⟨by omega,h7k⟩,h7]
  ·rw[if_neg (by rw[h6];simp[h7k]),callN,if_pos rfl,if_neg (fun h=>h7k h.2)]
end Go.Proofs.YtighfcpaplmaiaaGreatDoor
set_option maxRecDepth 20000
namespace Go.Vg
theorem foldA_mem:∀ (l a:List Ed) (y:Ed),y∈l.foldl dedA a↔y∈a∨y∈l
 | [],a,y=>by simp
 | x::r,a,y=>by
  rw[List.foldl_cons,foldA_mem r]
  unfold dedA
  split
  ·rename_i h
   have:=List.mem_of_getLast? h
   simp only[List.mem_cons]
   constructor
   ·rintro(h1 | h1)
    ·exact .inl h1
    ·exact .inr (.inr h1)
   ·rintro(h1 | rfl | h1)
    ·exact .inl h1
    ·exact .inl this
    ·exact .inr h1
  ·simp only[List.mem_append,List.mem_cons,List.not_mem_nil,or_false]
   exact or_assoc
theorem dedE_mem(l:List Ed)(y:Ed):y∈dedE l↔y∈l:=by rw[dedE,foldA_mem];simp
theorem upF_fn{l:List Rw}:∀ (f:Nat) (i:Int) {j:Nat},i<l.length→(∀ r∈l,r.parent<l.length)→upF l f i=some j→j<l.length∧(rwAt l j).kind=2
 | 0,i,j,_,_,h=>by simp[upF]at h
 | f+1,i,j,hi,hl,h=>by
  rw[upF]at h
  split at h
  ·cases h
  ·rename_i h0
   split at h
   ·rename_i h2
    cases h
    exact⟨by omega,h2⟩
   ·refine upF_fn f _ ?_ hl h
    have hn:i.toNat<l.length:=by omega
    have:rwAt l i.toNat=l[i.toNat]:=by simp[rwAt,List.getD_eq_getElem?_getD,hn]
    rw[this]
    exact hl _ (List.getElem_mem hn)
end Go.Vg
namespace Go.Proofs.YtighfcpaplmaiaaGreatDoor
open Go Go.Vg Go.Proofs
theorem edRows_mem{u:List Un}{un:Nat}{l:List Rw}{e:Ed}:∀ k,e∈edRows u un l k↔∃ i,i<k∧e∈edRow u un l i
 | 0=>by simp[edRows]
 | k+1=>by
  rw[edRows,List.mem_append,edRows_mem k]
  constructor
  ·rintro(⟨i,h1,h2⟩ | h)
   ·exact⟨i,by omega,h2⟩
   ·exact⟨k,by omega,h⟩
  ·rintro⟨i,h1,h2⟩
   by_cases h:i=k
   ·subst h;exact .inr h2
   ·exact .inl ⟨i,by omega,h2⟩
theorem edAll_mem{u:List Un}{e:Ed}:∀ n,e∈edAll u n↔∃ un,un<n∧∃ i,i<(rwsU u un).length∧e∈edRow u un (rwsU u un) i
 | 0=>by simp[edAll]
 | n+1=>by
  rw[edAll,List.mem_append,edAll_mem n,edRows_mem]
  constructor
  ·rintro(⟨i,h1,h2⟩ | h)
   ·exact⟨i,by omega,h2⟩
   ·exact⟨n,by omega,h⟩
  ·rintro⟨i,h1,h2⟩
   by_cases h:i=n
   ·subst h;exact .inr h2
   ·exact .inl ⟨i,by omega,h2⟩
theorem graph_mem{u:List Un}{e:Ed}:e∈graphU u↔(chkU u).1=0∧∃ (un:Nat) (x:Un) (i:Nat),u[un]? = some x∧i<(rowsN x.tree (-1) 0).length∧e∈edRow u un (rowsN x.tree (-1) 0) i:=by
 unfold graphU
 split
 ·rename_i h0
  rw[dedE_mem,(sortEd_perm _).mem_iff,edAll_mem]
  constructor
  ·rintro⟨un,h1,i,h2,h3⟩
   have hx:u[un]? = some u[un]:=List.getElem?_eq_getElem h1
   have hr:rwsU u un=rowsN (u[un]).tree (-1) 0:=by rw[rwsU,hx];rfl
   rw[hr]at h2 h3
   exact⟨h0,un,_,i,hx,h2,h3⟩
  ·rintro⟨_,un,x,i,hx,h2,h3⟩
   have hr:rwsU u un=rowsN x.tree (-1) 0:=by rw[rwsU,hx];rfl
   refine⟨un,(List.getElem?_eq_some_iff.1 hx).1,i,?_,?_⟩ <;> rw[hr] <;> assumption
 ·rename_i h0
  constructor
  ·intro h;cases h
  ·rintro⟨h,_⟩;exact absurd h h0
theorem edRow_mem{u:List Un}{un i:Nat}{l:List Rw}{e:Ed}:e∈edRow u un l i↔((rwAt l i).kind=20∨(rwAt l i).kind=21)∧arnd l i=some e.fr∧e.to∈tgtU u un i (rwAt l i).kind (rwAt l i).text:=by
 unfold edRow
 split
 ·rename_i hk
  cases ha:arnd l i with
  | none=>simp
  | some f =>
   simp only[List.mem_map,Option.some.injEq]
   constructor
   ·rintro⟨t,ht,rfl⟩;exact⟨hk,rfl,ht⟩
   ·rintro⟨_,h1,h2⟩;exact⟨e.to,h2,by rw[h1]⟩
 ·rename_i hk
  constructor
  ·intro h;cases h
  ·rintro⟨h,_⟩;exact absurd h hk
theorem graph_from{u:List Un}(hu:fitU u){e:Ed}(h:e∈graphU u):e.fr∈calN u:=by
 obtain⟨h0,un,x,i,hx,hi,he⟩:=graph_mem.1 h
 obtain⟨_,ha,_⟩:=edRow_mem.1 he
 have hxm:=List.mem_of_getElem? hx
 have hb:=(chkU_snd hu h0).br x hxm
 have hn:=(hu.2 x hxm).1
 have hro:=rowsOK_of (n:=x.tree) (by omega)
 unfold arnd at ha
 obtain⟨j,hj,hq⟩:=Option.map_eq_some_iff.1 ha
 obtain⟨h1,h2⟩:=upF_fn _ _ (by omega) (fun r hr=>by
  obtain⟨k,hk,rfl⟩:=List.getElem_of_mem hr
  have:=hro.par k hk
  have e1:rwAt (rowsN x.tree (-1) 0) k=(rowsN x.tree (-1) 0)[k]:=by simp[rwAt,List.getD_eq_getElem?_getD,hk]
  rw[e1]at this
  omega) hj
 rw[←hq]
 exact fn_call hx hb h1 h2
end Go.Proofs.YtighfcpaplmaiaaGreatDoor
