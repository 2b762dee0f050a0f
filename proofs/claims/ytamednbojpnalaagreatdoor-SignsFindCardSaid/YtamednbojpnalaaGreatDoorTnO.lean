/- What functions of the program compute, as pure functions of their arguments. Conditions: those that each theorem names. -/
import Derived.Test.YtamednbojpnalaaGreatDoorTnF
set_option linter.unusedVariables false
set_option linter.unusedSimpArgs false
namespace Go.Vg
mutual
theorem rowsN_par:∀ (n:Nd) (p:Int) (a j:Nat) (r:Rw),(rowsN n p a)[j]? = some r→(j=0∧r.parent=p)∨((a:Int)≤r.parent∧r.parent<a+j)
 | .mk k t g ks,p,a,j,r,h=>by
  rw[rowsN]at h
  cases j with
  | zero=>simp at h;subst h;exact .inl ⟨rfl,rfl⟩
  | succ j =>
   rw[List.getElem?_cons_succ]at h
   have:=rowsL_par ks a (a+1) j r (Nat.lt_succ_self _) h
   exact .inr ⟨this.1,by omega⟩
theorem rowsL_par:∀ (ks:List Nd) (p a j:Nat) (r:Rw),p<a→(rowsL ks p a)[j]? = some r→(p:Int)≤r.parent∧r.parent<a+j
 | [],p,a,j,r,_,h=>by simp[rowsL]at h
 | x::q,p,a,j,r,hpa,h=>by
  rw[rowsL]at h
  have hl:=rowsN_len x p a
  by_cases hj:j<(rowsN x p a).length
  ·rw[List.getElem?_append_left hj]at h
   rcases rowsN_par x p a j r h with⟨h1,h2⟩ | ⟨h1,h2⟩
   ·omega
   ·omega
  ·rw[List.getElem?_append_right (by omega)]at h
   have:=rowsL_par q p (a+(nodes x).length) _ r (by omega) h
   omega
end
mutual
theorem rowsN_text:∀ (n:Nd) (p:Int) (a:Nat),(rowsN n p a).map Rw.text=(nodes n).map Nd.text
 | .mk k t g ks,p,a=>by rw[rowsN,nodes,List.map_cons,List.map_cons,rowsL_text ks];rfl
theorem rowsL_text:∀ (ks:List Nd) (p a:Nat),(rowsL ks p a).map Rw.text=(nodesL ks).map Nd.text
 | [],_,_=>rfl
 | x::q,p,a=>by rw[rowsL,nodesL,List.map_append,List.map_append,rowsN_text x,rowsL_text q]
end
theorem rows_ok(n:Nd)(hn:(nodes n).length≤1000000)(hs:short n):okR (rowsN n (-1) 0):=by
 refine⟨by rw[rowsN_len];exact hn,fun i r h=>?_⟩
 have hp:=rowsN_par n (-1) 0 i r h
 have ht:r.text∈(nodes n).map Nd.text:=by
  rw[←rowsN_text n (-1) 0]
  exact List.mem_map.2 ⟨r,List.mem_of_getElem? h,rfl⟩
 obtain⟨x,hx,he⟩:=List.mem_map.1 ht
 have:=hs x hx
 rw[he]at this
 refine⟨by omega,by omega,this⟩
end Go.Vg
namespace Go.Proofs.YtamednbojpnalaaGreatDoor
open Go Go.Vg Go.Proofs
def declP(l:List Rw)(u:Int)(at_:Nat)(r:Rw):Option Dl:=(kindP r.kind).map fun kd =>
 ⟨if kd=1∧(classR l at_).isSome=true then 4 else kd,if kd=1 then(classR l at_).getD ⟨#[]⟩else if kd=5∨kd=6 then fnR l (l.length+1) r.parent else⟨#[]⟩,r.text,u,at_⟩
def declsR(l:List Rw)(u:Int):List Rw→Nat→List Dl
 | [],_=>[]
 | r::q,i=>(declP l u i r).toList++declsR l u q (i+1)
theorem declsR_snoc(l:List Rw)(u:Int)(x:Rw):∀ (pre:List Rw) i,declsR l u (pre++[x]) i=declsR l u pre i++(declP l u (i+pre.length) x).toList
 | [],i=>by simp[declsR]
 | y::r,i=>by
  simp only[List.cons_append,declsR,declsR_snoc l u x r,List.append_assoc,List.length_cons]
  rw[show i+1+r.length=i+(r.length+1)by omega]
def declsPU:List Un→Nat→List Dl
 | [],_=>[]
 | x::r,i=>(if x.broken=true then []else declsR (rowsN x.tree (-1) 0) i (rowsN x.tree (-1) 0) 0)++declsPU r (i+1)
theorem declP_len{l u i r}:(declP l u i r).toList.length≤1:=by cases declP l u i r <;> simp
theorem declsR_len(l:List Rw)(u:Int):∀ (q:List Rw) i,(declsR l u q i).length≤q.length
 | [],_=>Nat.le_refl _
 | r::q,i=>by
  have:=declsR_len l u q (i+1)
  have:=declP_len (l:=l) (u:=u) (i:=i) (r:=r)
  rw[declsR,List.length_append,List.length_cons];omega
theorem declsPU_snoc(x:Un):∀ (pre:List Un) i,declsPU (pre++[x]) i=declsPU pre i++(if x.broken=true then []else declsR (rowsN x.tree (-1) 0) (i+pre.length:Nat) (rowsN x.tree (-1) 0) 0)
 | [],i=>by simp[declsPU]
 | y::r,i=>by
  simp only[List.cons_append,declsPU,declsPU_snoc x r,List.append_assoc,List.length_cons]
  rw[show i+1+r.length=i+(r.length+1)by omega]
theorem declsPU_len:∀ (u:List Un) i,(∀ x∈u,(nodes x.tree).length≤1000)→(declsPU u i).length≤u.length * 1000
 | [],_,_=>by simp[declsPU]
 | x::r,i,h=>by
  have h1:=declsPU_len r (i+1) fun y hy=>h y (by simp[hy])
  have h2:=declsR_len (rowsN x.tree (-1) 0) i (rowsN x.tree (-1) 0) 0
  have h3:=h x (by simp)
  rw[rowsN_len]at h2
  rw[declsPU,List.length_append,List.length_cons]
  have h4:(if x.broken=true then []else declsR (rowsN x.tree (-1) 0) i (rowsN x.tree (-1) 0) 0).length≤1000:=by
   by_cases hb:x.broken=true
   ·rw[if_pos hb,List.length_nil];omega
   ·rw[if_neg hb];omega
  omega
theorem find_kinds(k:Int):∃ o,findC (.int .i64) (.int .i64 k) (.int .i64 1) [(.int .i64 7,.int .i64 2),(.int .i64 9,.int .i64 3),(.int .i64 4,.int .i64 5),(.int .i64 10,.int .i64 6)] 0 (some (k == 2))=some o∧(kindP k=none→o=none)∧∀ kd,kindP k=some kd→∃ i,o=some (i,.int .i64 kd):=by
 by_cases h1:k=2
 ·subst h1;exact⟨_,rfl,by simp[kindP],fun kd h=>⟨0,by simp[kindP]at h;subst h;rfl⟩⟩
 by_cases h2:k=7
 ·subst h2;exact⟨_,rfl,by simp[kindP],fun kd h=>⟨1,by simp[kindP]at h;subst h;rfl⟩⟩
 by_cases h3:k=9
 ·subst h3;exact⟨_,rfl,by simp[kindP],fun kd h=>⟨2,by simp[kindP]at h;subst h;rfl⟩⟩
 by_cases h4:k=4
 ·subst h4;exact⟨_,rfl,by simp[kindP],fun kd h=>⟨3,by simp[kindP]at h;subst h;rfl⟩⟩
 by_cases h5:k=10
 ·subst h5;exact⟨_,rfl,by simp[kindP],fun kd h=>⟨4,by simp[kindP]at h;subst h;rfl⟩⟩
 have b1:=beq_false_of_ne h1
 have b2:=beq_false_of_ne h2
 have b3:=beq_false_of_ne h3
 have b4:=beq_false_of_ne h4
 have b5:=beq_false_of_ne h5
 refine⟨none,?_,fun _=>rfl,fun kd h=>by simp[kindP,h1,h2,h3,h4,h5]at h⟩
 simp -implicitDefEqProofs only[go_sem,b1,b2,b3,b4,b5]
theorem PDecls(u:List Un)(hu:fitU u):VPure env 29 [sl 34 (u.map Un.enc)] (sl 61 ((declsPU u 0).map Dl.enc)):=by
 refine vpure_vc (fn:=Tryz.f29) Tryz.func29 rfl (by rw[Tryz.ntmps29];simp) (by simp -implicitDefEqProofs only[go_sem];exact uns_pure _) (by simp -implicitDefEqProofs only[go_sem];exact dls_pure _) ?_
 simp -implicitDefEqProofs only[go_sem,Tryz.f29]
 refine Pkinds _ _ _ ?_
 simp -implicitDefEqProofs only[go_sem]
 intro _ _
 have hul:=hu.1
 refine snd_list (β:=Unit) u (fun pre _=>⟨[(18,.int .i64 pre.length),(17,.int .i64 u.length),(16,sl 34 (u.map Un.enc)),(4,.slice (.arr 0) 61 ((declsPU pre 0).map Dl.enc)),(3,.map 0),(2,.slice .nil 0 [])],[kindsM],[(declsPU pre 0).length]⟩)
  (fun _ _ _=>True) () ?_ trivial ?_ ?_
 ·simp only[declsPU]
  simp -implicitDefEqProofs only[go_sem,kindsM]
  rfl
 ·intro _ _
  simp -implicitDefEqProofs only[go_sem]
 ·rintro pre x post _ rfl _
  have hx:=hu.2 x mem_mid
  have hpl:(pre++x::post).length=pre.length+1+post.length:=by simp;omega
  simp -implicitDefEqProofs only[go_sem,kindsM]
  have hdl:=declsPU_len pre 0 fun y hy=>(hu.2 y (by simp[hy])).1
  have hsn:=declsPU_snoc x pre 0
  refine⟨fun hbr=>?_,fun hbr=>?_⟩
  ·rw[if_pos hbr,List.append_nil]at hsn
   exact⟨(),⟨wrap_next (by omega),by rw[hsn]⟩,by rw[hsn],.inr ⟨rfl,by rw[ltLL_pure _ _ _ (dls_pure _),ltLL_pure _ _ _ (uns_pure _)];rfl⟩⟩
  ·rw[if_neg (by rw[hbr];decide),Nat.zero_add]at hsn
   have hok:=rows_ok x.tree (by omega) hx.2
   have hrl:=rowsN_len x.tree (-1) 0
   refine(TRows x.tree (by omega)).calls (by simp -implicitDefEqProofs only[go_sem]) ?_
   generalize rowsN x.tree (-1) 0=R at hsn hok hrl ⊢
   simp -implicitDefEqProofs only[go_sem]
   intro hb2 hl2
   refine snd_list (β:=Unit) R (fun p2 _=>⟨[(30,.int .i64 p2.length),(29,.int .i64 R.length),(28,sl 100 (R.map Rw.enc)),(7,sl 100 (R.map Rw.enc)),(5,.int .i64 pre.length),(18,.int .i64 pre.length),(17,.int .i64 (pre++x::post).length),(16,sl 34 ((pre++x::post).map Un.enc)),
     (4,.slice (.arr 0) 61 ((declsPU pre 0++declsR R pre.length p2 0).map Dl.enc)),(3,.map 0),(2,.slice .nil 0 [])],[kindsM,.dead],[(declsPU pre 0++declsR R pre.length p2 0).length]⟩) (fun _ _ _=>True) () ?_ trivial ?_ ?_
   ·simp only[declsR,List.append_nil]
    simp -implicitDefEqProofs only[go_sem,kindsM]
    rfl
   ·intro _ _
    simp -implicitDefEqProofs only[go_sem,kindsM]
    exact⟨(),⟨wrap_next (by omega),by rw[hsn]⟩,by rw[hsn],.inr ⟨rfl,by rw[ltLL_pure _ _ _ (dls_pure _),ltLL_pure _ _ _ (uns_pure _)];rfl⟩⟩
   ·intro p2 r q _ hR _
    have hg:R[p2.length]? = some r:=by rw[hR];simp
    have hlp:R.length=p2.length+1+q.length:=by rw[hR];simp;omega
    simp -implicitDefEqProofs only[go_sem,kindsM,rw_getDn hg,rw_getD hg]
    refine⟨fun _=>⟨by omega,?_⟩,fun h=>absurd (show(p2.length:Int)<R.length by omega) h⟩
    obtain⟨o,ho,hn0,hs0⟩:=find_kinds r.kind
    rw[ho]
    have hsr:=declsR_snoc R pre.length r p2 0
    rw[Nat.zero_add]at hsr
    have hd:declP R pre.length p2.length r=(kindP r.kind).map fun kd=>⟨if kd=1∧(classR R p2.length).isSome=true then 4 else kd,if kd=1 then(classR R p2.length).getD ⟨#[]⟩else if kd=5∨kd=6 then fnR R (R.length+1) r.parent else⟨#[]⟩,r.text,pre.length,p2.length⟩:=rfl
    cases hk:kindP r.kind with
    | none =>
     rw[hn0 hk]
     rw[hk,Option.map_none]at hd
     rw[hd]at hsr
     simp only[Option.toList,List.append_nil]at hsr
     simp -implicitDefEqProofs only[go_sem]
     exact⟨(),⟨wrap_next (by omega),by rw[hsr]⟩,by rw[hsr],.inr ⟨rfl,by rw[ltLL_pure _ _ _ (rows_pure _),ltLL_pure _ _ _ (dls_pure _),ltLL_pure _ _ _ (uns_pure _)];rfl⟩⟩
    | some kd =>
     obtain⟨i,rfl⟩:=hs0 kd hk
     rw[hk,Option.map_some]at hd
     rw[hd]at hsr
     simp only[Option.toList]at hsr
     simp -implicitDefEqProofs only[go_sem,rw_getDn hg,rw_getD hg]
     have hcl:=Pclass R hok p2.length (by omega)
     have hkd:kd=1∨kd=2∨kd=3∨kd=5∨kd=6:=by
      unfold kindP at hk
      repeat' split at hk
      all_goals(cases hk <;> simp)
     have hln:(declsPU pre 0++declsR R pre.length p2 0).length+1≤100000000:=by
      have:=declsR_len R pre.length p2 0
      rw[List.length_append];omega
     have hfn:=Pfunction R hok p2.length r hg
     refine hcl.calls (by simp -implicitDefEqProofs only[go_sem]) ?_
     generalize classR R p2.length=co at hsr ⊢
     generalize fnR R (R.length+1) r.parent=fo at hsr hfn ⊢
     rcases hkd with rfl | rfl | rfl | rfl | rfl
     ·cases co with
      | none =>
       simp -implicitDefEqProofs only[go_sem,encSO,Option.isSome,Option.getD,Int.reduceEq,Int.reduceBEq]
       refine⟨by omega,(),⟨wrap_next (by omega),?_⟩,?_,.inr ⟨rfl,by rw[ltLL_pure _ _ _ (rows_pure _),ltLL_pure _ _ _ (dls_pure _),ltLL_pure _ _ _ (uns_pure _)];rfl⟩⟩
       ·rw[hsr];simp[Dl.enc]
       ·rw[hsr];simp;try omega
      | some c =>
       simp -implicitDefEqProofs only[go_sem,encSO,Option.isSome,Option.getD,Int.reduceEq,Int.reduceBEq]
       refine⟨by omega,(),⟨wrap_next (by omega),?_⟩,?_,.inr ⟨rfl,by rw[ltLL_pure _ _ _ (rows_pure _),ltLL_pure _ _ _ (dls_pure _),ltLL_pure _ _ _ (uns_pure _)];rfl⟩⟩
       ·rw[hsr];simp[Dl.enc]
       ·rw[hsr];simp;try omega
     ·simp -implicitDefEqProofs only[go_sem,encSO,Int.reduceEq,Int.reduceBEq]
      refine⟨fun _=>?_,fun _=>?_⟩
      all_goals
       refine⟨by omega,(),⟨wrap_next (by omega),?_⟩,?_,.inr ⟨rfl,by rw[ltLL_pure _ _ _ (rows_pure _),ltLL_pure _ _ _ (dls_pure _),ltLL_pure _ _ _ (uns_pure _)];rfl⟩⟩
       ·rw[hsr];simp[Dl.enc]
       ·rw[hsr];simp;try omega
     ·simp -implicitDefEqProofs only[go_sem,encSO,Int.reduceEq,Int.reduceBEq]
      refine⟨fun _=>?_,fun _=>?_⟩
      all_goals
       refine⟨by omega,(),⟨wrap_next (by omega),?_⟩,?_,.inr ⟨rfl,by rw[ltLL_pure _ _ _ (rows_pure _),ltLL_pure _ _ _ (dls_pure _),ltLL_pure _ _ _ (uns_pure _)];rfl⟩⟩
       ·rw[hsr];simp[Dl.enc]
       ·rw[hsr];simp;try omega
     ·simp -implicitDefEqProofs only[go_sem,encSO,Int.reduceEq,Int.reduceBEq]
      refine⟨fun _=>?_,fun _=>?_⟩
      all_goals
       refine hfn.calls (by simp -implicitDefEqProofs only[go_sem]) ?_
       simp -implicitDefEqProofs only[go_sem,encSO,Int.reduceEq,Int.reduceBEq]
       refine⟨by omega,(),⟨wrap_next (by omega),?_⟩,?_,.inr ⟨rfl,by rw[ltLL_pure _ _ _ (rows_pure _),ltLL_pure _ _ _ (dls_pure _),ltLL_pure _ _ _ (uns_pure _)];rfl⟩⟩
       ·rw[hsr];simp[Dl.enc]
       ·rw[hsr];simp;try omega
     ·simp -implicitDefEqProofs only[go_sem,encSO,Int.reduceEq,Int.reduceBEq]
      refine⟨fun _=>?_,fun _=>?_⟩
      all_goals
       refine hfn.calls (by simp -implicitDefEqProofs only[go_sem]) ?_
       simp -implicitDefEqProofs only[go_sem,encSO,Int.reduceEq,Int.reduceBEq]
       refine⟨by omega,(),⟨wrap_next (by omega),?_⟩,?_,.inr ⟨rfl,by rw[ltLL_pure _ _ _ (rows_pure _),ltLL_pure _ _ _ (dls_pure _),ltLL_pure _ _ _ (uns_pure _)];rfl⟩⟩
       ·rw[hsr];simp[Dl.enc]
       ·rw[hsr];simp;try omega
end Go.Proofs.YtamednbojpnalaaGreatDoor
namespace Go.Proofs.YtamednbojpnalaaGreatDoor
open Go Go.Vg Go.Proofs
theorem PFind(u:List Un)(hu:fitU u)(kind:Int)(owner name:ByteArray):VPure env 42 [sl 34 (u.map Un.enc),.int .i64 kind,.str owner,.str name] (encDO (findD (declsPU u 0) kind owner name)):=by
 refine vpure_vc (fn:=Tryz.f42) Tryz.func42 rfl (by rw[Tryz.ntmps42];simp) (by simp -implicitDefEqProofs only[go_sem];exact uns_pure _) (by simp -implicitDefEqProofs only[go_sem,encDO]) ?_
 simp -implicitDefEqProofs only[go_sem,Tryz.f42]
 refine(PDecls u hu).calls (by simp -implicitDefEqProofs only[go_sem]) ?_
 have hdl:=declsPU_len u 0 fun y hy=>(hu.2 y hy).1
 have hul:=hu.1
 generalize declsPU u 0=l at hdl ⊢
 simp -implicitDefEqProofs only[go_sem]
 intro _ _
 refine snd_list (β:=Unit) l (fun pre _=>⟨[(15,.int .i64 pre.length),(14,.int .i64 l.length),(13,sl 61 (l.map Dl.enc)),(9,.bool false),(8,.ptr 0 0),(1,.int .i64 kind),(2,.str owner),(3,.str name)],[.cells [.int .i64 0,.str ⟨#[]⟩,.str ⟨#[]⟩,.int .i64 0,.int .i64 0]],[]⟩)
  (fun pre post _=>findD l kind owner name=findD post kind owner name) () ?_ rfl ?_ ?_
 ·simp -implicitDefEqProofs only[go_sem]
  rfl
 ·intro _ hi
  simp -implicitDefEqProofs only[go_sem]
  rw[hi]
  rfl
 ·rintro pre x post _ hl hi
  have hxl:l.length=pre.length+1+post.length:=by rw[hl];simp;omega
  simp -implicitDefEqProofs only[go_sem,hl]
  rw[hl]at hi
  have hw:IntKind.i64.wrap (↑pre.length+1)=↑(pre.length+1):=wrap_next (by omega)
  rw[hi]
  refine⟨fun h1=>⟨fun h2=>⟨fun h3=>?_,fun h3=>⟨(),?_,hw,.inr (ltLL_pure _ _ _ (dls_pure _))⟩⟩,fun h2=>⟨(),?_,hw,.inr (ltLL_pure _ _ _ (dls_pure _))⟩⟩,fun h1=>⟨(),?_,hw,.inr (ltLL_pure _ _ _ (dls_pure _))⟩⟩
  ·simp[findD,h1,h2,h3,encDO]
  ·simp[findD,h3]
  ·simp[findD,h2]
  ·simp[findD,h1]
/-! ### Declarations by rows are those by walking -/
def clsAt(l:List Rw)(p:Int):Option ByteArray:=if p<0 then none else match l[p.toNat]? with
 | none=>none
 | some q=>if q.kind=7 then some q.text else none
theorem classR_at{l:List Rw}{i:Nat}{r:Rw}(h:l[i]? = some r):classR l i=clsAt l r.parent:=by rw[classR,h];rfl
def agree(R:List Rw)(p:Int)(x:Ar):Prop:=clsAt R p=(if x.method=true then some x.cls else none)∧∀ f:Nat,p<f→fnR R f p=x.fn
theorem declsR_app(l:List Rw)(u:Int):∀ (X Y:List Rw) i,declsR l u (X++Y) i=declsR l u X i++declsR l u Y (i+X.length)
 | [],Y,i=>by simp[declsR]
 | r::X,Y,i=>by
  simp only[List.cons_append,declsR,declsR_app l u X Y,List.append_assoc,List.length_cons]
  rw[show i+1+X.length=i+(X.length+1)by omega]
theorem agree_below{R:List Rw}{p:Int}{a:Nat}{r:Rw}{x:Ar}(hg:R[a]? = some r)(hp:r.parent=p)(hpa:p<a)(h:agree R p x):agree R a (belowT r.kind r.text x):=by
 obtain⟨h1,h2⟩:=h
 refine⟨?_,fun f hf=>?_⟩
 ·rw[clsAt,if_neg (by omega),show(a:Int).toNat=a by omega,hg]
  simp[belowT]
 ·obtain⟨g,rfl⟩:∃ g,f=g+1:=⟨f - 1,by omega⟩
  rw[fnR,if_neg (by omega),show(a:Int).toNat=a by omega,hg,classR_at hg,hp,h1]
  simp only[belowT]
  by_cases hk:r.kind=2
  ·rw[if_pos hk,if_pos hk]
   cases hm:x.method <;> simp
  ·rw[if_neg hk,if_neg hk]
   show fnR R g r.parent=x.fn
   rw[hp]
   exact h2 g (by omega)
theorem declP_eq{R:List Rw}{u:Int}{p:Int}{a:Nat}{r:Rw}{x:Ar}(hg:R[a]? = some r)(hp:r.parent=p)(hpa:p<a)(h:agree R p x):declP R u a r=declT r.kind r.text u a x:=by
 obtain⟨h1,h2⟩:=h
 have hal:=(List.getElem?_eq_some_iff.1 hg).1
 rw[declP,classR_at hg,hp,h1,h2 _ (by omega)]
 unfold kindP declT
 by_cases k1:r.kind=2
 ·simp only[k1,if_true,Option.map_some]
  cases hm:x.method <;> simp
 rw[if_neg k1,if_neg k1]
 by_cases k2:r.kind=7
 ·simp[k2]
 rw[if_neg k2,if_neg k2]
 by_cases k3:r.kind=9
 ·simp[k3]
 rw[if_neg k3,if_neg k3]
 by_cases k4:r.kind=4
 ·simp[k4]
 rw[if_neg k4,if_neg k4]
 by_cases k5:r.kind=10
 ·simp[k5]
 rw[if_neg k5,if_neg k5]
 rfl
mutual
theorem eqN(R:List Rw)(u:Int):∀ (n:Nd) (p:Int) (a:Nat) (x:Ar) (A B:List Rw),R=A++rowsN n p a++B→A.length=a→p<a→agree R p x→declsR R u (rowsN n p a) a=walkD n u a x
 | .mk k t g ks,p,a,x,A,B,hR,hA,hpa,hag=>by
  have hg:R[a]? = some ⟨p,k,t,g,kidsAt ks (a+1)⟩:=by
   rw[hR,rowsN,List.append_assoc,List.getElem?_append_right (by omega),hA];simp
  rw[rowsN]at hR ⊢
  rw[declsR,walkD,declP_eq hg rfl hpa hag]
  congr 1
  refine eqL R u ks a (a+1) (belowT k t x) (A++[⟨p,k,t,g,kidsAt ks (a+1)⟩]) B (by rw[hR];simp) (by simp[hA]) (by omega) (agree_below hg rfl hpa hag)
theorem eqL(R:List Rw)(u:Int):∀ (ks:List Nd) (p a:Nat) (x:Ar) (A B:List Rw),R=A++rowsL ks p a++B→A.length=a→p<a→agree R p x→declsR R u (rowsL ks p a) a=walkDs ks u a x
 | [],p,a,x,A,B,_,_,_,_=>rfl
 | y::q,p,a,x,A,B,hR,hA,hpa,hag=>by
  have hl:=rowsN_len y p a
  rw[rowsL]at hR ⊢
  rw[declsR_app,walkDs,hl]
  rw[eqN R u y p a x A (rowsL q p (a+(nodes y).length)++B) (by rw[hR];simp) hA (by omega) hag]
  rw[eqL R u q p (a+(nodes y).length) x (A++rowsN y p a) B (by rw[hR];simp) (by rw[List.length_append,hA,hl]) (by omega) hag]
end
theorem decls_eq(n:Nd)(u:Int):declsR (rowsN n (-1) 0) u (rowsN n (-1) 0) 0=walkD n u 0 Ar.none:=by
 refine eqN (rowsN n (-1) 0) u n (-1) 0 Ar.none [] [] (by simp) rfl (by omega) ⟨?_,fun f hf=>?_⟩
 ·simp[clsAt,Ar.none]
 ·cases f <;> simp[fnR,Ar.none]
theorem declsPU_eq:∀ (u:List Un) i,declsPU u i=declsU u i
 | [],_=>rfl
 | x::r,i=>by rw[declsPU,declsU,decls_eq,declsPU_eq r]
end Go.Proofs.YtamednbojpnalaaGreatDoor
set_option maxRecDepth 20000
namespace Go.Vg
def Nd.node(n:Nd):Int:=if !n.shape then 7 else if(decide (n.kind=17) && !intB n.text) || (!decide (n.kind=17) && namedK n.kind n.text && !validName n.text)then 4
 else if 0<n.gaps.length∧(n.gaps.length:Int)≠n.own then 7 else if n.gaps.all triviaB then 0 else 7
end Go.Vg
namespace Go.Proofs.YtamednbojpnalaaGreatDoor
open Go Go.Vg Go.Proofs
theorem R07node(n:Nd)(hg:∀ s∈n.gaps,s.size≤1000000000):VPure env 95 [.agg n.enc] (.int .i64 n.node):=by
 obtain⟨k,t,g,ks⟩:=n
 refine vpure_snd (fn:=Tryz.f95) Tryz.func95 rfl (by rw[Tryz.ntmps95];simp) (by simp -implicitDefEqProofs only[go_sem]) rfl ?_
 simp only[Tryz.f95]
 have e:List.map share [V.agg [V.int .i64 k,V.str t,sl 9 (g.map encTx),sl 32 (ks.map Nd.enc)]]=[V.agg (Nd.mk k t g ks).enc]:=by simp -implicitDefEqProofs only[go_sem]
 have hI:=R07Integer t
 have hN:=R07named (.mk k t g ks)
 have hV:=R03Valid t
 have hO:=R07Own (.mk k t g ks)
 refine snd_cut ⟨[(1,.ptr 0 0)],[VObj.cells (Nd.mk k t g ks).enc],[]⟩ (by simp -implicitDefEqProofs only[go_sem]) ?_
 by_cases hsh:(Nd.mk k t g ks).shape=true
 ·refine snd_cut ⟨[(1,.ptr 0 0)],[VObj.cells (Nd.mk k t g ks).enc],[]⟩ ?_ ?_
  ·simp -implicitDefEqProofs only[go_sem]
   refine(R07shape (.mk k t g ks)).calls e ?_
   simp -implicitDefEqProofs only[go_sem,hsh]
  ·have hnode:(Nd.mk k t g ks).node=if((decide (k=17) && !intB t) || (!decide (k=17) && namedK k t && !validName t))=true then 4 else if 0<g.length∧(g.length:Int)≠(Nd.mk k t g ks).own then 7 else if g.all triviaB=true then 0 else 7:=by
    unfold Nd.node
    rw[hsh]
    rfl
   have hN':VPure env 133 [.agg (Nd.mk k t g ks).enc] (.bool (namedK k t)):=hN
   by_cases hb:((decide (k=17) && !intB t) || (!decide (k=17) && namedK k t && !validName t))=true
   ·rw[if_pos hb]at hnode
    rw[hnode]
    refine vc_snd _ _ _ ?_
    simp -implicitDefEqProofs only[go_sem]
    refine⟨fun h17=>?_,fun h17=>⟨fun _=>?_,fun h=>absurd h (by simp[h17])⟩⟩
    ·refine hI.calls rfl ?_
     simp -implicitDefEqProofs only[go_sem,h17]
     refine fun h=>?_
     exfalso
     simp_all
    ·refine hN'.calls e ?_
     simp -implicitDefEqProofs only[go_sem,h17]
     refine⟨fun hnm=>?_,fun hnm=>?_⟩
     ·refine hV.calls rfl ?_
      simp -implicitDefEqProofs only[go_sem,h17]
      refine fun h=>?_
      exfalso
      simp_all
     ·exfalso
      simp_all
   ·rw[if_neg hb]at hnode
    refine snd_cut ⟨[(1,.ptr 0 0)],[VObj.cells (Nd.mk k t g ks).enc],[]⟩ ?_ ?_
    ·simp -implicitDefEqProofs only[go_sem]
     refine⟨fun h17=>?_,fun h17 _=>?_⟩
     ·refine hI.calls rfl ?_
      simp -implicitDefEqProofs only[go_sem,h17]
      refine fun h=>?_
      exfalso
      simp[h17]at hb
      simp[hb]at h
     ·refine hN'.calls e ?_
      simp -implicitDefEqProofs only[go_sem,h17]
      refine fun hnm=>?_
      refine hV.calls rfl ?_
      simp -implicitDefEqProofs only[go_sem,h17]
      refine fun h=>?_
      exfalso
      simp[h17,hnm]at hb
      simp[hb]at h
    ·rw[hnode]
     by_cases hgo:0<g.length∧(g.length:Int)≠(Nd.mk k t g ks).own
     ·rw[if_pos hgo]
      refine vc_snd _ _ _ ?_
      simp -implicitDefEqProofs only[go_sem]
      refine snd_draw (cs:=[]) mixed (by kernel_rfl) ?_
      simp -implicitDefEqProofs only[go_sem]
      refine⟨fun h0=>vPC_of hO e ?_,fun h0=>absurd (show(0:Int)<g.length by omega) h0⟩
      simp -implicitDefEqProofs only[go_sem]
      intro h
      exfalso
      have:=hgo.2
      simp_all
     ·rw[if_neg hgo]
      refine snd_cut ⟨[(1,.ptr 0 0)],[VObj.cells (Nd.mk k t g ks).enc],[]⟩ ?_ ?_
      ·simp -implicitDefEqProofs only[go_sem]
       refine snd_draw (cs:=[]) mixed (by kernel_rfl) ?_
       simp -implicitDefEqProofs only[go_sem]
       intro h0
       refine vPC_of hO e ?_
       simp -implicitDefEqProofs only[go_sem]
       intro h
       exfalso
       refine hgo ⟨by omega,?_⟩
       simpa using h
      ·refine vc_snd _ _ _ ?_
       simp -implicitDefEqProofs only[go_sem]
       refine snd_list (β:=Unit) g (fun pre _=>⟨[(3,.int .i64 pre.length),(1,.ptr 0 0)],[VObj.cells (Nd.mk k t g ks).enc],[]⟩) (fun pre post _=>g.all triviaB=post.all triviaB) () ?_ rfl ?_ ?_
       ·simp -implicitDefEqProofs only[go_sem]
        rfl
       ·intro _ hi
        simp -implicitDefEqProofs only[go_sem]
        intro _ _
        rw[hi]
        rfl
       ·intro pre x post _ hgg hi
        have hxl:g.length=pre.length+1+post.length:=by rw[hgg];simp;omega
        simp -implicitDefEqProofs only[go_sem,hgg]
        intro hb1 hb2
        have hgx:x.size≤1000000000:=hg x (by show x∈g;rw[hgg];simp)
        have hpl:(pre++x::post).length=pre.length+1+post.length:=by simp;omega
        rw[hgg]at hi
        simp -implicitDefEqProofs only[go_sem,encTx]
        refine(R04Valid x hgx).calls rfl ?_
        simp -implicitDefEqProofs only[go_sem]
        refine⟨fun h=>?_,fun h=>?_⟩
        ·rw[hi]
         simp_all
        ·refine⟨(),?_,wrap_next (by omega)⟩
         rw[hi]
         simp_all
 ·refine vc_snd _ _ _ ?_
  simp -implicitDefEqProofs only[go_sem]
  refine(R07shape (.mk k t g ks)).calls e ?_
  have hsh':(Nd.mk k t g ks).shape=false:=by simpa using hsh
  simp -implicitDefEqProofs only[go_sem,hsh']
  simp[Nd.node,hsh']
end Go.Proofs.YtamednbojpnalaaGreatDoor
namespace Go.Vg
mutual
def firstN:Nd→Int
 | .mk k t g ks=>if(Nd.mk k t g ks).node=0 then firstNs ks else(Nd.mk k t g ks).node
def firstNs:List Nd→Int
 | []=>0
 | x::r=>if firstN x=0 then firstNs r else firstN x
end
def shortG(n:Nd):Prop:=∀ x∈nodes n,∀ s∈x.gaps,s.size≤1000000000
theorem mem_kid{k t g}{ks:List Nd}{x y:Nd}(hx:x∈ks)(hy:y∈nodes x):y∈nodes (.mk k t g ks):=by
 rw[nodes]
 refine List.mem_cons_of_mem _ ?_
 induction ks with
 | nil=>cases hx
 | cons z r ih =>
  rw[nodesL]
  rcases List.mem_cons.1 hx with rfl | hx
  ·exact List.mem_append_left _ hy
  ·exact List.mem_append_right _ (ih hx)
theorem shortG_kid{k t g}{ks:List Nd}{x:Nd}(h:shortG (.mk k t g ks))(hx:x∈ks):shortG x:=fun y hy=>h y (mem_kid hx hy)
def checkN(n:Nd):Int:=if 4000<sizeN n 1 then 3 else firstN n
end Go.Vg
namespace Go.Proofs.YtamednbojpnalaaGreatDoor
open Go Go.Vg Go.Proofs
theorem R07first:(n:Nd)→shortG n→VPure env 65 [.agg n.enc] (.int .i64 (firstN n)):=by
 refine Nd.all fun k t g ks ih hs=>?_
 have hnd:=R07node (.mk k t g ks) (hs _ (by rw[nodes];exact List.mem_cons_self ..))
 refine vpure_vc (fn:=Tryz.f65) Tryz.func65 rfl (by rw[Tryz.ntmps65];simp) (by simp -implicitDefEqProofs only[go_sem]) rfl ?_
 simp -implicitDefEqProofs only[go_sem,Tryz.f65]
 refine hnd.calls (by simp -implicitDefEqProofs only[go_sem]) ?_
 simp -implicitDefEqProofs only[go_sem]
 refine snd_list (β:=Int) ks (fun pre e=>⟨[(4,.int .i64 pre.length),(3,.int .i64 e),(2,.int .i64 0),(1,.ptr 0 0)],[VObj.cells (Nd.mk k t g ks).enc],[]⟩)
  (fun pre post e=>firstN (.mk k t g ks)=if e=0 then firstNs post else e) (Nd.mk k t g ks).node ?_ ?_ ?_ ?_
 ·simp -implicitDefEqProofs only[go_sem]
  rfl
 ·rw[firstN]
 ·intro e hi
  simp -implicitDefEqProofs only[go_sem]
  intro _ _
  rw[hi,firstNs]
  congr 1
  split <;> simp_all
 ·rintro pre x post e rfl hi
  have hxl:(pre++x::post).length=pre.length+1+post.length:=by simp;omega
  simp -implicitDefEqProofs only[go_sem]
  intro hb hl
  refine⟨fun he=>?_,fun he=>by rw[hi,if_neg he]⟩
  refine(ih x mem_mid (shortG_kid hs mem_mid)).calls (by simp -implicitDefEqProofs only[go_sem]) ?_
  simp -implicitDefEqProofs only[go_sem]
  refine⟨_,?_,wrap_next (by omega),rfl⟩
  rw[hi,if_pos he,firstNs]
theorem R07Check(n:Nd)(hs:shortG n):VPure env 39 [.agg n.enc] (.int .i64 (checkN n)):=by
 refine vpure_vc (fn:=Tryz.f39) Tryz.func39 rfl (by rw[Tryz.ntmps39];simp) (by simp -implicitDefEqProofs only[go_sem]) rfl ?_
 simp -implicitDefEqProofs only[go_sem,Tryz.f39]
 refine(R07size n 1 (by omega) (by omega)).calls (by simp -implicitDefEqProofs only[go_sem]) ?_
 simp -implicitDefEqProofs only[go_sem]
 refine⟨fun h=>?_,fun h=>?_⟩
 ·rw[checkN,if_pos (by omega)]
 ·refine(R07first n hs).calls (by simp -implicitDefEqProofs only[go_sem]) ?_
  simp -implicitDefEqProofs only[go_sem]
  rw[checkN,if_neg (by omega)]
end Go.Proofs.YtamednbojpnalaaGreatDoor
namespace Go.Vg
def soundB(x:Un):Bool := !x.broken && decide (x.tree.kind=1) && decide (checkN x.tree=0)
def Un.sound(x:Un):Un:=if soundB x=true then x else { x with tree:=Nd.zero,broken:=true }
@[go_sem] theorem un_take2(d:Un):List.take 2 d.enc=[.str d.path,.str d.text]:=rfl
def gapsU(u:List Un):Prop:=∀ x∈u,shortG x.tree
end Go.Vg
namespace Go.Proofs.YtamednbojpnalaaGreatDoor
open Go Go.Vg Go.Proofs
theorem R14Sound(x:Un)(hs:shortG x.tree):VPure env 13 [.agg x.enc] (.bool (soundB x)):=by
 refine vpure_vc (fn:=Tryz.f13) Tryz.func13 rfl (by rw[Tryz.ntmps13];simp) (by simp -implicitDefEqProofs only[go_sem]) rfl ?_
 simp -implicitDefEqProofs only[go_sem,Tryz.f13]
 refine⟨fun hb=>⟨fun hk=>?_,fun hk=>by simp[soundB,hk]⟩,fun hb=>by simp_all [soundB]⟩
 refine(R07Check x.tree hs).calls (by simp -implicitDefEqProofs only[go_sem]) ?_
 simp -implicitDefEqProofs only[go_sem]
 simp_all [soundB]
end Go.Proofs.YtamednbojpnalaaGreatDoor
namespace Go.Vg
structure Fi where
 kind:Int
 path:ByteArray
 name:ByteArray
 text:ByteArray
 deriving DecidableEq
def Fi.enc(x:Fi):List V:=[.int .i64 x.kind,.str x.path,.str x.name,.str x.text]
@[go_sem] theorem fi_len(d:Fi):d.enc.length=4:=rfl
@[go_sem] theorem fi_take(d:Fi):List.take 4 d.enc=d.enc:=rfl
@[go_sem] theorem fi_pure(d:Fi):pureL d.enc=true:=rfl
theorem fis_pure:∀ l:List Fi,pureLL (l.map Fi.enc)=true
 | []=>rfl
 | x::r=>by simp only[List.map_cons,pureLL,fis_pure r,Bool.and_true,fi_pure]
def sInt:ByteArray:=⟨#[105,110,116]⟩
def sBool:ByteArray:=⟨#[98,111,111,108]⟩
def plainT:Nd→ByteArray
 | .mk k t g ks=>if k=17 then sInt else if k=18 then sBool else if k=22 then t else if k=26 then(match ks with | []=>⟨#[]⟩ | x::_=>plainT x)
  else if k=24 then(if t=⟨#[43]⟩∨t=⟨#[45]⟩∨t=⟨#[42]⟩∨t=⟨#[47]⟩then sInt else sBool)else if k=25 then(if t=⟨#[45]⟩then sInt else sBool)else⟨#[]⟩
def parOK(n:Nd):Prop:=∀ x∈nodes n,x.kind=26→x.kids≠[]
theorem parOK_kid{k t g}{ks:List Nd}{x:Nd}(h:parOK (.mk k t g ks))(hx:x∈ks):parOK x:=fun y hy=>h y (mem_kid hx hy)
def fitsU(u:List Un)(m n b:Int):Bool:=decide ((u.length:Int)≤m) && u.all fun x=>decide (0≤left x.tree n 60) && decide (0≤weigh x.tree b)
end Go.Vg
namespace Go.Proofs.YtamednbojpnalaaGreatDoor
open Go Go.Vg Go.Proofs
theorem R12Fits(u:List Un)(m n b:Int)(hn:n≤1000000)(hb:b≤1000000):VPure env 26 [sl 34 (u.map Un.enc),.int .i64 m,.int .i64 n,.int .i64 b] (.bool (fitsU u m n b)):=by
 refine vpure_vc (fn:=Tryz.f26) Tryz.func26 rfl (by rw[Tryz.ntmps26];simp) (by simp -implicitDefEqProofs only[go_sem,uns_pure]) rfl ?_
 simp -implicitDefEqProofs only[go_sem,Tryz.f26]
 intro _ hl
 refine⟨fun h=>by simp[fitsU];omega,fun h=>?_⟩
 have hm:decide ((u.length:Int)≤m)=true:=by simp;omega
 rw[fitsU,hm,Bool.true_and]
 refine snd_list (β:=Unit) u (fun pre _=>⟨[(9,.int .i64 pre.length),(8,.bool false),(0,sl 34 (u.map Un.enc)),(1,.int .i64 m),(2,.int .i64 n),(3,.int .i64 b)],[],[]⟩) (fun pre post _=>(u.all fun x=>decide (0≤left x.tree n 60) && decide (0≤weigh x.tree b))=post.all fun x=>decide (0≤left x.tree n 60) && decide (0≤weigh x.tree b)) () ?_ rfl ?_ ?_
 ·simp -implicitDefEqProofs only[go_sem]
  rfl
 ·intro _ hi
  simp -implicitDefEqProofs only[go_sem]
  rw[hi]
  intro _ _
  rfl
 ·rintro pre x post _ rfl hi
  have hpl:(pre++x::post).length=pre.length+1+post.length:=by simp;omega
  simp -implicitDefEqProofs only[go_sem]
  intro _ _
  refine(R06Light x.tree n 60 b hn (by omega) hb).calls (by simp -implicitDefEqProofs only[go_sem]) ?_
  simp -implicitDefEqProofs only[go_sem]
  have hw:IntKind.i64.wrap (↑pre.length+1)=↑(pre.length+1):=wrap_next (by omega)
  rw[hi,List.all_cons]
  generalize(decide (0≤left x.tree n 60) && decide (0≤weigh x.tree b))=c
  refine⟨fun h=>?_,fun h=>⟨(),?_,hw⟩⟩
  ·have h':c=false:=by simpa using h
   rw[h'];rfl
  ·have h':c=true:=by simpa using h
   rw[h'];rfl
end Go.Proofs.YtamednbojpnalaaGreatDoor
namespace Go.Vg
def Rw.zero:Rw:=⟨0,0,⟨#[]⟩,[],[]⟩
def rwAt(l:List Rw)(i:Nat):Rw:=l.getD i Rw.zero
def kdAt(l:List Rw)(i j:Nat):Nat:=(rwAt l i).kids.getD j 0
def parsR(l:List Rw)(ks:List Nat):List ByteArray:=ks.map fun k=>(rwAt l (kdAt l k 0)).text
def signOK(l:List Rw)(i:Nat):Prop:=l.length≤1000000∧i<l.length∧2≤(rwAt l i).kids.length∧kdAt l i 0<l.length∧kdAt l i 1<l.length∧(rwAt l (kdAt l i 0)).kids.length≤1000000 ∧
 ∀ k∈(rwAt l (kdAt l i 0)).kids,k<l.length∧0<(rwAt l k).kids.length∧kdAt l k 0<l.length
structure Sg where
 params:List ByteArray
 result:ByteArray
def Sg.enc(s:Sg):List V:=[sl 9 (s.params.map encTx),.str s.result]
@[go_sem] theorem sg_len(d:Sg):d.enc.length=2:=rfl
@[go_sem] theorem sg_take(d:Sg):List.take 2 d.enc=d.enc:=rfl
@[go_sem] theorem sg_share(d:Sg):List.map share1 d.enc=d.enc:=by simp -implicitDefEqProofs only[Sg.enc,go_sem]
@[go_sem] theorem sg_cell(d:Sg):d.enc.all V.cell=true:=by simp -implicitDefEqProofs only[Sg.enc,go_sem]
def signR(l:List Rw)(i:Nat):Sg:=⟨parsR l (rwAt l (kdAt l i 0)).kids,(rwAt l (kdAt l i 1)).text⟩
theorem row_getD{l:List Rw}{i:Nat}(h:i<l.length):(l.map Rw.enc).getD i []=(rwAt l i).enc:=by
 simp[rwAt,List.getD_eq_getElem?_getD,h]
theorem row_getDi{l:List Rw}{i:Nat}(h:i<l.length):(l.map Rw.enc).getD (i:Int).toNat []=(rwAt l i).enc:=row_getD h
theorem kid_getD{l:List Rw}{i j:Nat}(h:j<(rwAt l i).kids.length):((rwAt l i).kids.map encIx).getD j []=[.int .i64 (kdAt l i j)]:=by
 simp[kdAt,List.getD_eq_getElem?_getD,h,encIx]
theorem kid_getDi{l:List Rw}{i j:Nat}(h:j<(rwAt l i).kids.length):((rwAt l i).kids.map encIx).getD (j:Int).toNat []=[.int .i64 (kdAt l i j)]:=kid_getD h
end Go.Vg
namespace Go.Proofs.YtamednbojpnalaaGreatDoor
open Go Go.Vg Go.Proofs
def declOK(u:List Un)(d:Dl):Prop:=0≤d.unit∧0≤d.node∧∃ x,u[d.unit.toNat]? = some x∧signOK (rowsN x.tree (-1) 0) d.node.toNat
def ofU(u:List Un)(kind:Int)(owner name:ByteArray):Option Sg:=(findD (declsU u 0) kind owner name).bind fun d=>(u[d.unit.toNat]?).map fun x=>signR (rowsN x.tree (-1) 0) d.node.toNat
theorem un_getD{u:List Un}{i:Int}{x:Un}(h:u[i.toNat]? = some x):(u.map Un.enc).getD i.toNat []=x.enc:=by
 rw[List.getD_eq_getElem?_getD,List.getElem?_map,h];rfl
end Go.Proofs.YtamednbojpnalaaGreatDoor
namespace Go.Vg
theorem fit_sound{u:List Un}(hu:fitU u):fitU (u.map Un.sound):=by
 refine⟨by rw[List.length_map];exact hu.1,fun x hx=>?_⟩
 obtain⟨y,hy,rfl⟩:=List.mem_map.1 hx
 rw[Un.sound]
 split
 ·exact hu.2 y hy
 ·refine⟨by simp[Nd.zero,nodes,nodesL],fun z hz=>?_⟩
  simp[Nd.zero,nodes,nodesL]at hz
  subst hz
  exact Nat.zero_le _
def kindOf(owner:ByteArray):Int:=if owner=⟨#[]⟩then 1 else 4
end Go.Vg
namespace Go.Proofs.YtamednbojpnalaaGreatDoor
open Go Go.Vg Go.Proofs
def sigU(u:List Un)(owner name:ByteArray):Option Sg:=ofU (u.map Un.sound) (kindOf owner) owner name
def encSig(o:Option Sg):V := .tuple [.agg (match o with | some s=>s.enc | none=>[sl 9 [],.str ⟨#[]⟩]),.int .i64 (match o with | some _=>0 | none=>5)]
end Go.Proofs.YtamednbojpnalaaGreatDoor
namespace Go.Proofs.YtamednbojpnalaaGreatDoor
open Go Go.Vg Go.Proofs
theorem Gknown(k:Int):VPure env 118 [.int .i64 k] (.bool (decide (1≤k) && decide (k<27))):=by
 refine vpure_vc (fn:=Tryz.f118) Tryz.func118 rfl (by rw[Tryz.ntmps118];simp) (by simp -implicitDefEqProofs only[go_sem]) rfl ?_
 simp -implicitDefEqProofs only[go_sem,Tryz.f118]
 exact⟨fun h=>by simp[h],fun h=>by simp[h]⟩
theorem GGroup(k:Int):VPure env 205 [.int .i64 k] (.int .i64 (groupK k)):=by
 refine vpure_vc (fn:=Tryz.f205) Tryz.func205 rfl (by rw[Tryz.ntmps205];simp) (by simp -implicitDefEqProofs only[go_sem]) rfl ?_
 simp -implicitDefEqProofs only[go_sem,Tryz.f205]
 repeat' (first | apply And.intro | intro)
 all_goals(first | contradiction | omega | (congr 1;unfold groupK;grind))
theorem Gmost(k:Int):VPure env 117 [.int .i64 k] (.int .i64 (mostK k)):=by
 refine vpure_vc (fn:=Tryz.f117) Tryz.func117 rfl (by rw[Tryz.ntmps117];simp) (by simp -implicitDefEqProofs only[go_sem]) rfl ?_
 simp -implicitDefEqProofs only[go_sem,Tryz.f117]
 repeat' (first | apply And.intro | intro)
 all_goals(first | contradiction | omega | (congr 1;unfold mostK;grind))
theorem GLevel(n:Nd):VPure env 155 [.agg n.enc] (.int .i64 n.level):=by
 obtain⟨k,t,g,ks⟩:=n
 refine vpure_vc (fn:=Tryz.f155) Tryz.func155 rfl (by rw[Tryz.ntmps155];simp) (by simp -implicitDefEqProofs only[go_sem]) rfl ?_
 simp -implicitDefEqProofs only[go_sem,Tryz.f155]
 refine(GGroup k).calls (by simp -implicitDefEqProofs only[go_sem]) ?_
 simp -implicitDefEqProofs only[go_sem]
 have e:(Nd.mk k t g ks).level=levelK k t:=rfl
 rw[e]
 have h24:groupK 24=3:=by decide
 have h25:groupK 25=3:=by decide
 repeat' (first | apply And.intro | intro)
 all_goals(first | contradiction | (congr 1;unfold levelK opLevel;grind))
end Go.Proofs.YtamednbojpnalaaGreatDoor
namespace Go.Vg
mutual
def withinN:Nd→Int→Int→Int
 | .mk k t g ks,l,d=>if l≤0∨d≤0∨mostK k<(ks.length:Int)then -1 else withinNs ks (l - 1) (d - 1)
def withinNs:List Nd→Int→Int→Int
 | [],l,_=>l
 | x::r,l,d=>if withinN x l d<0 then -1 else withinNs r (withinN x l d) d
end
mutual
theorem withinN_le:∀ (n:Nd) (l d:Int),l≤1000000 → -1≤withinN n l d∧withinN n l d≤1000000
 | .mk k t g ks,l,d,h=>by
  rw[withinN]
  split
  ·omega
  ·rename_i hc
   exact withinNs_le ks (l - 1) (d - 1) (by omega) (by omega)
theorem withinNs_le:∀ (ks:List Nd) (l d:Int),-1≤l→l≤1000000 → -1≤withinNs ks l d∧withinNs ks l d≤1000000
 | [],l,d,h0,h=>⟨h0,h⟩
 | x::r,l,d,h0,h=>by
  have h1:=withinN_le x l d h
  rw[withinNs]
  split
  ·omega
  ·exact withinNs_le r _ d h1.1 h1.2
end
end Go.Vg
namespace Go.Proofs.YtamednbojpnalaaGreatDoor
open Go Go.Vg Go.Proofs
theorem Gwithin:(n:Nd)→∀ (l d:Int),l≤1000000→d≤1000000 → -1000000≤d→VPure env 83 [.agg n.enc,.int .i64 l,.int .i64 d] (.int .i64 (withinN n l d)):=by
 refine Nd.all fun k t g ks ih l d h1 h2 h3=>?_
 refine vpure_vc (fn:=Tryz.f83) Tryz.func83 rfl (by rw[Tryz.ntmps83];simp) (by simp -implicitDefEqProofs only[go_sem]) rfl ?_
 simp -implicitDefEqProofs only[go_sem,Tryz.f83]
 rw[withinN]
 refine snd_draw (cs:=[]) mixed (by kernel_rfl) ?_
 simp -implicitDefEqProofs only[go_sem]
 refine⟨fun a1=>⟨fun a2=>?_,fun a2=>by rw[if_pos (by omega)]⟩,fun a1=>by rw[if_pos (by omega)]⟩
 refine vPC_of (Gmost k) rfl ?_
 simp -implicitDefEqProofs only[go_sem]
 refine⟨fun a3=>by rw[if_pos (by omega)],fun a3=>?_⟩
 rw[if_neg (by omega)]
 intro hb hl
 refine snd_list (β:=Int) ks (fun pre m=>⟨[(29,.int .i64 pre.length),(28,.int .i64 ks.length),(27,sl 32 (ks.map Nd.enc)),(1,.int .i64 m),(2,.int .i64 d)],[.dead],[]⟩)
  (fun pre post m=>withinNs ks (l - 1) (d - 1)=withinNs post m (d - 1)∧0≤m∧m≤1000000) (l - 1) ?_ ⟨rfl,by omega,by omega⟩ ?_ ?_
 ·simp -implicitDefEqProofs only[go_sem]
  exact⟨rfl,Vg.wrap_small (by omega) (by omega)⟩
 ·rintro m ⟨hi,_⟩
  simp -implicitDefEqProofs only[go_sem]
  rw[hi];rfl
 ·rintro pre x post m rfl ⟨hi,hm0,hm⟩
  have hpl:(pre++x::post).length=pre.length+1+post.length:=by simp;omega
  simp -implicitDefEqProofs only[go_sem]
  rw[Vg.wrap_small (x:=d - 1) (by omega) (by omega)]
  have hle:=withinN_le x m (d - 1) hm
  refine(ih x mem_mid m (d - 1) hm (by omega) (by omega)).calls (by simp -implicitDefEqProofs only[go_sem]) ?_
  simp -implicitDefEqProofs only[go_sem]
  rw[hi,withinNs]
  refine⟨fun h=>by rw[if_pos h],fun h=>⟨_,⟨?_,?_,?_⟩,wrap_next (by omega),rfl⟩⟩
  ·rw[if_neg h]
  ·omega
  ·omega
end Go.Proofs.YtamednbojpnalaaGreatDoor
