/- Drawing regions, every order walked: for calls that turn something which stands beside what others read. -/
import Derived.Test.YtighfcpaplmaiaaGreatDoorTnB
import Derived.Test.YtighfcpaplmaiaaGreatDoorTmI
set_option linter.unusedVariables false
set_option linter.unusedSimpArgs false
namespace Go.Vg
section
variable {a l : List Nat} {k i g g' n m : Nat}
theorem as_sets(hk:k<a.length):(a.set k g++l).set k g'=a.set k g'++l:=by rw[List.set_append_left _ _ (by simpa using hk),List.set_set]
theorem as_at:(a.set k g++l)[a.length]? = l[0]?:=by rw[List.getElem?_append_right (by simp)];simp
theorem as_st:(a.set k g++l).set a.length n=a.set k g++l.set 0 n:=by rw[List.set_append_right _ _ (by simp)];simp
theorem as_len:(a.set k g).length=a.length:=List.length_set
theorem as_get(hk:k<a.length):(a.set k g++l)[k]? = some g:=by rw[List.getElem?_append_left (by simpa using hk),List.getElem?_set_self hk]
theorem ar_at'{m:Nat}:(a++l)[a.length+m]? = l[m]?:=by rw[List.getElem?_append_right (by omega)];simp
theorem ar_set'{m:Nat}:(a++l).set (a.length+m) n=a++l.set m n:=by rw[List.set_append_right _ _ (by omega)];simp
theorem ar_set0:(a++l).set a.length n=a++l.set 0 n:=by rw[List.set_append_right _ _ (by omega)];simp
theorem tellA_grow:∀ {a l:List Nat},tellA a (a++l)
 | [],l=>by cases l <;> trivial
 | x::r,l=>⟨rfl,tellA_grow⟩
theorem as_app:(l++a).length=l.length+a.length:=List.length_append
end
end Go.Vg
namespace Go.Proofs.YtighfcpaplmaiaaGreatDoor
open Go Go.Vg Go.Proofs
theorem R06rows:(n:Nd)→∀ (h:List VObj) (a:List Nat) (id k gen:Nat) (rs:List Rw) (p:Int),h[id]? = some (.vec k gen 48 (encRs rs))→a[k]? = some gen→0<rs.length→rs.length+(nodes n).length≤1000000 →
  VCalls (envV 45) 86 [.vec id k gen rs.length 48,.agg n.enc,.int .i64 p] h a fun v h' a'=>∃ gen' z y,v = .vec id k gen' (rs.length+(nodes n).length) 48 ∧
   h'=h.set id (.vec k gen' 48 (encRs (rs++rowsN n p rs.length)))++z∧a'=a.set k gen'++y:=by
 refine Nd.all fun k t g ks ih h a id kk gen rs p hid hak hrs hn=>?_
 have hlt:id<h.length:=(List.getElem?_eq_some_iff.1 hid).1
 refine vcalls_vc (fn:=Tryz.f86) Tryz.func86 rfl (by rw[Tryz.ntmps86];simp) ?_
 simp -implicitDefEqProofs only[go_sem,Tryz.f86]
 intro hl1
 simp -implicitDefEqProofs only[go_sem,hp_get hid,hp_set hlt,hp_gets hlt,hp_sets hlt,hp_at,hp_at',hp_st,hp_st',hp_len]
 rw[nodes_mk]at hn ⊢
 have hkl0:kk<a.length:=(List.getElem?_eq_some_iff.1 hak).1
 have hel:=encRs_len rs
 have e0:∀ kl:List Nat,encRs rs++[[V.int .i64 p,.int .i64 k,.str t,sl 9 (g.map encTx),sl 3 (kl.map encIx)]].flatten=encRs (rs++[⟨p,k,t,g,kl⟩]):=fun kl=>by
  rw[encRs_app];rfl
 have e1:encRs rs++[[V.int .i64 p,.int .i64 k,.str t,sl 9 (g.map encTx),V.slice .shared 0 []]].flatten=encRs (rs++[⟨p,k,t,g,[]⟩]):=e0 []
 rw[e1]
 refine⟨by simp,⟨hel,by omega⟩,?_⟩
 refine snd_listW (β:=Nat×List VObj×List Nat) ks (fun pre b=>⟨[(9,.int .i64 pre.length),(8,.slice (.arr a.length) 3 ((kidsAt pre (rs.length+1)).map encIx)),(7,.int .i64 rs.length),(4,.ptr h.length 0),
    (0,.vec id kk b.1 (rs.length+1+(nodesL pre).length) 48)],
   h.set id (.vec kk b.1 48 (encRs (rs++⟨p,k,t,g,[]⟩::rowsL pre rs.length (rs.length+1)))) ++ .cells (Nd.mk k t g ks).enc::b.2.1,a.set kk b.1++pre.length::b.2.2⟩)
  (fun _ _ _=>True) (gen+1,[],[]) (fun b=>⟨[(9,.int .i64 ks.length),(8,sl 3 ((kidsAt ks (rs.length+1)).map encIx)),(7,.int .i64 rs.length),(4,.ptr h.length 0),
    (0,.vec id kk b.1 (rs.length+1+(nodesL ks).length) 48)],
   h.set id (.vec kk b.1 48 (encRs (rs++⟨p,k,t,g,[]⟩::rowsL ks rs.length (rs.length+1)))) ++ .cells (Nd.mk k t g ks).enc::b.2.1,a.set kk b.1++ks.length::b.2.2⟩) ?_ trivial ?_ ?_ ?_
 ·simp only[nodesL,rowsL,kidsAt,List.length_nil,Nat.add_zero,List.map_nil]
  simp -implicitDefEqProofs only[go_sem,hp_len,as_len]
  exact⟨⟨rfl,by omega⟩,tellA_grow⟩
 ·intro b _
  refine Told.weak ?_
  simp -implicitDefEqProofs only[go_sem,hp_len,as_len]
  rw[as_app,as_len]
  omega
 ·intro b _
  simp -implicitDefEqProofs only[go_sem,hp_get hid,hp_set hlt,hp_gets hlt,hp_sets hlt,hp_at,hp_at',hp_st,hp_st',hp_len,List.getElem?_cons_succ,List.set_cons_succ]
  intro _ _
  have e2:=encRs_len (rs++(⟨p,k,t,g,[]⟩:Rw)::rowsL ks rs.length (rs.length+1))
  refine⟨by omega,by rw[e2];simp;omega,b.1,.cells (Nd.mk k t g ks).enc::b.2.1,ks.length::b.2.2,by congr 1;omega,?_,rfl⟩
  rw[enc_mk]
  congr 3
  rw[rowsN]
  exact put_kids rs ⟨p,k,t,g,[]⟩ _ _ rfl
 ·rintro pre x post b rfl _
  have hsz:(nodesL (pre++x::post)).length=(nodesL pre).length+(nodes x).length+(nodesL post).length:=by
   rw[nodesL_app,nodesL];simp;omega
  simp -implicitDefEqProofs only[go_sem,hp_get hid,hp_set hlt,hp_gets hlt,hp_sets hlt,hp_at,hp_at',hp_st,hp_st',hp_len,List.getElem?_cons_succ,List.set_cons_succ,as_at,as_st,as_len]
  intro hb hl hlen
  have hp:=mid_len hl
  have hkl:=kidsAt_len pre (rs.length+1)
  have hpl:pre.length<(pre++x::post).length:=by simp
  refine⟨by rw[hkl];omega,by rw[hkl],?_⟩
  have e:(rs++(⟨p,k,t,g,[]⟩:Rw)::rowsL pre rs.length (rs.length+1)).length=rs.length+1+(nodesL pre).length:=by
   simp[rowsL_len];omega
  rw[←e]
  refine VCalls.mono (ih x mem_mid _ _ id kk b.1 (rs++(⟨p,k,t,g,[]⟩:Rw)::rowsL pre rs.length (rs.length+1)) rs.length (hp_gets hlt) (as_get hkl0) (by omega) (by omega)) ?_
  rintro v h' a' ⟨gen',z,y,rfl,rfl,rfl⟩
  simp -implicitDefEqProofs only[go_sem,hp_get hid,hp_set hlt,hp_gets hlt,hp_sets hlt,hp_at,hp_at',hp_st,hp_st',hp_len,List.getElem?_cons_succ,List.set_cons_succ,as_at,as_st,as_len,as_sets hkl0]
  have e2:rs.length+1+(nodesL (pre++[x])).length=rs.length+1+(nodesL pre).length+(nodes x).length:=by rw[nodesL_snoc,List.length_append];omega
  have e3:rs++(⟨p,k,t,g,[]⟩:Rw)::rowsL pre rs.length (rs.length+1)++rowsN x rs.length (rs.length+1+(nodesL pre).length)=rs++⟨p,k,t,g,[]⟩::rowsL (pre++[x]) rs.length (rs.length+1):=by
   rw[rowsL_snoc,List.append_assoc,List.cons_append]
  refine⟨(gen',b.2.1++z,b.2.2++y),⟨wrap_next (by omega),?_,?_⟩,?_⟩
  ·rw[e,kidsAt_snoc,List.map_append];rfl
  ·rw[e,e2,tell_same];trivial
  ·rw[e,e3,hkl,List.append_assoc,List.cons_append]
   refine⟨tellH_refl,by rw[tellA_same];trivial,by rw[as_app,as_len];omega,.inl ⟨?_,Nat.le_refl _⟩⟩
   simp only[List.length_append]
   omega
theorem R06rows0(h:List VObj)(a:List Nat)(n:Nd)(p:Int)(hn:(nodes n).length≤1000000):VCalls (envV 45) 86 [.slice .nil 0 [],.agg n.enc,.int .i64 p] h a fun v h' a'=>∃ gen' y,v = .vec (h.length+1) a.length gen' (nodes n).length 48 ∧
   h'[h.length+1]? = some (.vec a.length gen' 48 (encRs (rowsN n p 0)))∧a'=a++gen'::y:=by
 obtain⟨k,t,g,ks⟩:=n
 refine vcalls_vc (fn:=Tryz.f86) Tryz.func86 rfl (by rw[Tryz.ntmps86];simp) ?_
 simp -implicitDefEqProofs only[go_sem,Tryz.f86]
 rw[nodes_mk]at hn ⊢
 have e1:[].flatten++[[V.int .i64 p,.int .i64 k,.str t,sl 9 (g.map encTx),V.slice .shared 0 []]].flatten=encRs [⟨p,k,t,g,[]⟩]:=rfl
 rw[e1]
 refine⟨by simp,?_⟩
 refine snd_listW (β:=Nat×List VObj×List Nat) ks (fun pre b=>⟨[(9,.int .i64 pre.length),(8,.slice (.arr (a.length+1)) 3 ((kidsAt pre 1).map encIx)),(7,.int .i64 (0:Nat)),(4,.ptr h.length 0),
    (0,.vec (h.length+1) a.length b.1 (1+(nodesL pre).length) 48)],
   h ++ .cells (Nd.mk k t g ks).enc :: .vec a.length b.1 48 (encRs (⟨p,k,t,g,[]⟩::rowsL pre 0 1))::b.2.1,a++b.1::pre.length::b.2.2⟩)
  (fun _ _ _=>True) (gen0,[],[]) (fun b=>⟨[(9,.int .i64 ks.length),(8,sl 3 ((kidsAt ks 1).map encIx)),(7,.int .i64 (0:Nat)),(4,.ptr h.length 0),
    (0,.vec (h.length+1) a.length b.1 (1+(nodesL ks).length) 48)],
   h ++ .cells (Nd.mk k t g ks).enc :: .vec a.length b.1 48 (encRs (⟨p,k,t,g,[]⟩::rowsL ks 0 1))::b.2.1,a++b.1::ks.length::b.2.2⟩) ?_ trivial ?_ ?_ ?_
 ·simp only[nodesL,rowsL,kidsAt,List.length_nil,Nat.add_zero,List.map_nil]
  simp -implicitDefEqProofs only[go_sem]
  exact⟨⟨rfl,by simp⟩,by rw[show a++[gen0,0]=(a++[gen0])++[0]by simp];exact tellA_grow,by simp,.inl (by simp)⟩
 ·intro b _
  refine Told.weak ?_
  simp -implicitDefEqProofs only[go_sem]
  simp
 ·intro b _
  simp -implicitDefEqProofs only[go_sem,List.getElem?_cons_succ,List.set_cons_succ]
  intro _ _
  have e2:=encRs_len ((⟨p,k,t,g,[]⟩:Rw)::rowsL ks 0 1)
  refine⟨by omega,by rw[e2];simp;omega,b.1,ks.length::b.2.2,by congr 1;omega,?_,rfl⟩
  refine congrArg (fun x=>some (VObj.vec a.length b.1 48 x)) ?_
  rw[rowsN]
  exact put_kids [] ⟨p,k,t,g,[]⟩ _ _ rfl
 ·rintro pre x post b rfl _
  have hsz:(nodesL (pre++x::post)).length=(nodesL pre).length+(nodes x).length+(nodesL post).length:=by
   rw[nodesL_app,nodesL];simp;omega
  simp -implicitDefEqProofs only[go_sem,List.getElem?_cons_succ,List.set_cons_succ,ar_at',ar_set']
  intro hb hl hlen
  have hp:=mid_len hl
  have hkl:=kidsAt_len pre 1
  have hpl:pre.length<(pre++x::post).length:=by simp
  refine⟨by rw[hkl];omega,by rw[hkl],?_⟩
  have e:((⟨p,k,t,g,[]⟩:Rw)::rowsL pre 0 1).length=1+(nodesL pre).length:=by
   simp[rowsL_len];omega
  rw[←e]
  refine VCalls.mono (R06rows x _ _ (h.length+1) a.length b.1 ((⟨p,k,t,g,[]⟩:Rw)::rowsL pre 0 1) (0:Nat) (by rw[List.getElem?_append_right (by omega)];simp) (by rw[List.getElem?_append_right (by omega)];simp) (by omega) (by omega)) ?_
  rintro v h' a' ⟨gen',z,y,rfl,rfl,rfl⟩
  simp -implicitDefEqProofs only[go_sem,List.getElem?_cons_succ,List.set_cons_succ,ar_at',ar_set',ar_set0]
  have e3:(rowsL pre 0 1).length+1=1+(nodesL pre).length:=by rw[rowsL_len];omega
  have e2:1+(nodesL (pre++[x])).length=1+(nodesL pre).length+(nodes x).length:=by rw[nodesL_snoc,List.length_append];omega
  refine⟨(gen',b.2.1++z,b.2.2++y),⟨wrap_next (by omega),?_,?_⟩,⟨?_,tellH_refl⟩,?_,by simp,.inl ⟨?_,?_⟩⟩
  ·rw[e3,kidsAt_snoc,List.map_append];rfl
  ·rw[e3,e2,tell_same];trivial
  ·rw[e3,rowsL_snoc,tellO_same];trivial
  ·rw[hkl,List.append_assoc,List.cons_append,List.cons_append,tellA_same];trivial
  ·simp only[List.length_append]
   omega
  ·rw[hkl];simp
theorem R06Rows(n:Nd)(hn:(nodes n).length≤1000000):VPure env 53 [.agg n.enc] (sl 48 ((rowsN n (-1) 0).map Rw.enc)):=by
 refine VPure.ofV (tv:=45) ?_
 refine vpure_vc (fn:=Tryz.f53) Tryz.func53 rfl (by rw[Tryz.ntmps53];simp) (by simp -implicitDefEqProofs only[go_sem]) (by simp -implicitDefEqProofs only[go_sem];exact rows_pure _) ?_
 simp -implicitDefEqProofs only[go_sem,Tryz.f53]
 refine VCalls.thawV (VCalls.mono (R06rows0 _ _ n (-1) hn) ?_)
 rintro v h' a' ⟨gen',y,rfl,h1,rfl⟩
 have hl:=rowsN_len n (-1) 0
 have hp:0<(nodes n).length:=by cases n;rw[nodes_mk];omega
 have e:=encRs_len (rowsN n (-1) 0)
 refine⟨_,_,_,_,_,_,rfl,h1,by omega,by simp -implicitDefEqProofs only[go_sem],by simp -implicitDefEqProofs only[go_sem];omega,?_⟩
 simp -implicitDefEqProofs only[go_sem]
 rw[←hl,chunkR]
end Go.Proofs.YtighfcpaplmaiaaGreatDoor
namespace Go.Vg
inductive Tr where
 | stop
 | br (i:Nat) (t o:Tr)
def Tr.heads:Tr→List Nat
 | .stop=>[]
 | .br i _ o=>i::o.heads
def Tr.ok(ops:List Oper):Nat→Array Bool→Tr→Bool
 | 0,_,.stop=>true
 | 0,_,.br _ _ _=>false
 | _+1,_,.stop=>true
 | n+1,listed,.br i t o=>Region.ready .any ops.toArray (listed.setIfInBounds i true) == t.heads && t.ok ops n (listed.setIfInBounds i true) && o.ok ops (n+1) listed
def kAt(d:Option Nat)(M:St→Prop)(tm:List (Nat×V)):Cont:=fun v h a=>M (St.put ⟨tm,h,a⟩ d v)
mutual
def trAlt(E:Env)(n:Nat)(ops:List Oper)(cs:List Nat)(Q:St→Prop):Tr→St→Prop
 | .stop,_=>True
 | .br i t o,s=>dAt E n ops cs i (trRun E n ops cs Q t) s∧trAlt E n ops cs Q o s
def trRun(E:Env)(n:Nat)(ops:List Oper)(cs:List Nat)(Q:St→Prop):Tr→St→Prop
 | .stop,s=>Q s
 | .br i t o,s=>dAt E n ops cs i (trRun E n ops cs Q t) s∧trAlt E n ops cs Q o s
end
section
variable {E : Env} {n : Nat} {ops : List Oper} {cs : List Nat} {Q : St → Prop}
def dOf(E:Env)(n:Nat)(ops:List Oper)(c:Bool)(M:St→Prop)(s:St):Option Oper→Prop
 | none=>M s
 | some o=>dstB n o=true∧∃ b,gst ops n o s.tmps=some b∧(b=true→vopD E c s o.op fun v h a=>M (St.put ⟨s.tmps,h,a⟩ o.dst v))∧(b=false→M (s.put o.dst (.tuple [])))
@[go_sem] theorem dAt_of{i:Nat}{M:St→Prop}{s:St}:dAt E n ops cs i M s=dOf E n ops (cs.contains i) M s ops[i]?:=by
 unfold dAt dOf
 split <;> rename_i h <;> rw[h]
@[go_sem] theorem dOf_some{c:Bool}{M:St→Prop}{s:St}{dst:Option Nat}{op:Op}{ty:TypeId}{pos:String}{after:Array Edge} :
  dOf E n ops c M s (some ⟨dst,op,ty,pos,after,none⟩)=(dstB n ⟨dst,.move (.tmp 0),ty,pos,after,none⟩=true∧vopD E c s op (kAt dst M s.tmps)):=by
 unfold dOf
 apply propext
 constructor
 ·rintro⟨h0,b,hb,h1,_⟩
  have:b=true:=by
   have:gst ops n ⟨dst,op,ty,pos,after,none⟩ s.tmps=some true:=rfl
   rw[this]at hb
   cases hb;rfl
  exact⟨h0,h1 this⟩
 ·rintro⟨h0,h1⟩
  exact⟨h0,true,rfl,fun _=>h1,fun e=>by cases e⟩
@[go_sem] theorem kAt_some{M:St→Prop}{tm:List (Nat×V)}{d:Nat}{v:V}{h:List VObj}{a:List Nat}:kAt (some d) M tm v h a=M ⟨(d,v)::tm,h,a⟩:=rfl
@[go_sem] theorem kAt_none{M:St→Prop}{tm:List (Nat×V)}{v:V}{h:List VObj}{a:List Nat}:kAt none M tm v h a=M ⟨tm,h,a⟩:=rfl
end
end Go.Vg
namespace Go.Vg
inductive Wk where
 | stop
 | one (i:Nat) (t:Wk)
 | br (i:Nat) (t o:Wk)
def Wk.heads:Wk→List Nat
 | .stop=>[]
 | .one _ _=>[]
 | .br i _ o=>i::o.heads
def Wk.ok(ops:List Oper)(cs:List Nat):Bool→Nat→Array Bool→Wk→Bool
 | true,_,l,.stop=>(Region.ready .any ops.toArray l).isEmpty
 | false,_,_,.stop=>true
 | true,f+1,l,.one i t=>(Region.ready .any ops.toArray l).contains i && okAll ops cs l i && t.ok ops cs true f (l.setIfInBounds i true)
 | b,f+1,l,.br i t o=>(!b || Region.ready .any ops.toArray l == i::o.heads) && (Region.ready .any ops.toArray l).contains i && t.ok ops cs true f (l.setIfInBounds i true) && o.ok ops cs false (f+1) l
 | _,_,_,_=>false
def wkOK(ops:List Oper)(cs:List Nat)(t:Wk):Bool:=t.ok ops cs true ops.length (Array.replicate ops.length false)
mutual
def wkAlt(E:Env)(n:Nat)(ops:List Oper)(cs:List Nat)(Q:St→Prop):Wk→St→Prop
 | .stop,_=>True
 | .one _ _,_=>False
 | .br i t o,s=>dAt E n ops cs i (wkRun E n ops cs Q t) s∧wkAlt E n ops cs Q o s
def wkRun(E:Env)(n:Nat)(ops:List Oper)(cs:List Nat)(Q:St→Prop):Wk→St→Prop
 | .stop,s=>Q s
 | .one i t,s=>dAt E n ops cs i (wkRun E n ops cs Q t) s
 | .br i t o,s=>dAt E n ops cs i (wkRun E n ops cs Q t) s∧wkAlt E n ops cs Q o s
end
theorem wk_any{E:Env}{n:Nat}{ops:List Oper}{cs:List Nat}{Q:St→Prop}(hQ:∀ s t,St.eqv s t→Q s→Q t):∀ (t:Wk) (fuel:Nat) (l:Array Bool) (s:St),Closed ops l→l.size=ops.length →
  (t.ok ops cs true fuel l=true→wkRun E n ops cs Q t s→anyV E n ops cs Q fuel l s) ∧
  (t.ok ops cs false fuel l=true→wkAlt E n ops cs Q t s→∀ i∈t.heads,∀ f,fuel=f+1→dAt E n ops cs i (anyV E n ops cs Q f (l.setIfInBounds i true)) s)
 | .stop,fuel,l,s,hcl,hsz=>by
  refine⟨fun hr h=>?_,fun _ _ i hi=>by simp[Wk.heads]at hi⟩
  simp only[Wk.ok,List.isEmpty_iff]at hr
  rw[wkRun]at h
  cases fuel with
  | zero=>exact⟨hr,h⟩
  | succ f=>exact⟨fun _=>h,fun i hi=>by rw[hr]at hi;cases hi⟩
 | .one i t,0,l,s,hcl,hsz=>⟨fun h=>by simp[Wk.ok]at h,fun h=>by simp[Wk.ok]at h⟩
 | .br i t o,0,l,s,hcl,hsz=>⟨fun h=>by simp[Wk.ok]at h,fun h=>by simp[Wk.ok]at h⟩
 | .one i t,fuel+1,l,s,hcl,hsz=>by
  refine⟨fun hok h=>?_,fun hok=>by simp[Wk.ok]at hok⟩
  simp only[Wk.ok,Bool.and_eq_true]at hok
  obtain⟨⟨hr,ho⟩,hB'⟩:=hok
  have hr':i∈Region.ready .any ops.toArray l:=by simpa using hr
  rw[wkRun]at h
  unfold okAll at ho
  cases hk:ops[i]? with
  | none=>rw[hk]at ho;cases ho
  | some ok =>
   rw[hk]at ho
   simp only[List.all_eq_true,List.mem_range]at ho
   refine first hQ hk fuel l s hcl hsz (fun j oj hj hjk hun hno=>?_) hr' (dAt_mono h fun u hu=>(wk_any hQ t fuel _ u (closed_set hcl hr') (by simpa using hsz)).1 hB' hu)
   have:=ho j (List.getElem?_eq_some_iff.1 hj).1
   simp only[hj,Bool.or_eq_true,beq_iff_eq,hjk,false_or,hun,Bool.false_eq_true,hno,Bool.and_eq_true]at this
   exact this
 | .br i t o,f+1,l,s,hcl,hsz=>by
  have key:∀ b,(Wk.br i t o).ok ops cs b (f+1) l=true→dAt E n ops cs i (wkRun E n ops cs Q t) s→wkAlt E n ops cs Q o s→∀ j∈Wk.heads (.br i t o),dAt E n ops cs j (anyV E n ops cs Q f (l.setIfInBounds j true)) s:=by
   intro b hok ha hb j hj
   have hok':((Region.ready .any ops.toArray l).contains i=true∧t.ok ops cs true f (l.setIfInBounds i true)=true)∧o.ok ops cs false (f+1) l=true:=by
    cases b <;> simp only[Wk.ok,Bool.and_eq_true]at hok
    ·exact⟨⟨hok.1.1.2,hok.1.2⟩,hok.2⟩
    ·exact⟨⟨hok.1.1.2,hok.1.2⟩,hok.2⟩
   obtain⟨⟨hr,ht⟩,ho⟩:=hok'
   have hr':i∈Region.ready .any ops.toArray l:=by simpa using hr
   rcases List.mem_cons.1 hj with e | e
   ·subst e
    exact dAt_mono ha fun s' hs'=>(wk_any hQ t f _ s' (closed_set hcl hr') (by simpa using hsz)).1 ht hs'
   ·exact(wk_any hQ o (f+1) l s hcl hsz).2 ho hb j e f rfl
  refine⟨fun hok h=>?_,fun hok h j hj g hg=>?_⟩
  ·rw[wkRun]at h
   have hh:Region.ready .any ops.toArray l=i::o.heads:=by
    simp only[Wk.ok,Bool.and_eq_true,Bool.not_true,Bool.false_or,beq_iff_eq]at hok
    exact hok.1.1.1
   refine⟨fun e=>(by rw[hh]at e;cases e),fun j hj=>?_⟩
   rw[hh]at hj
   exact key true hok h.1 h.2 j hj
  ·rw[wkAlt]at h
   cases hg
   exact key false hok h.1 h.2 j hj
theorem wk_mono{E:Env}{n:Nat}{ops:List Oper}{cs:List Nat}{Q R:St→Prop}(hQ:∀ s,Q s→R s):∀ (t:Wk) (s:St),(wkRun E n ops cs Q t s→wkRun E n ops cs R t s)∧(wkAlt E n ops cs Q t s→wkAlt E n ops cs R t s)
 | .stop,s=>by simp only[wkRun,wkAlt];exact⟨hQ s,fun h=>h⟩
 | .one i t,s=>by
  simp only[wkRun,wkAlt]
  exact⟨fun h=>dAt_mono h fun u hu=>(wk_mono hQ t u).1 hu,fun h=>h⟩
 | .br i t o,s=>by
  simp only[wkRun,wkAlt]
  exact⟨fun h=>⟨dAt_mono h.1 fun u hu=>(wk_mono hQ t u).1 hu,(wk_mono hQ o s).2 h.2⟩,fun h=>⟨dAt_mono h.1 fun u hu=>(wk_mono hQ t u).1 hu,(wk_mono hQ o s).2 h.2⟩⟩
theorem snd_walk{E:Env}{n:Nat}{ops:List Oper}{cs:List Nat}{hb ab:Nat}{s:St}{Q:VEx→St→Prop}{id:Nat}(t:Wk)(hm:E.P.follows .mixedOrders=true)(hB:wkOK ops cs t=true)
  (h:wkRun E n ops cs (Q .normal) t s):Snd E hb ab n (.region id ops.toArray true) s Q:=by
 intro B G a w h1 h2 h3 h4
 have h5:Rel E G s B.w0 n a { w with drawn:=w.drawn+1 }:=⟨h4.rw.drew _,h4.rt,h4.df⟩
 refine wp_region_any hm ?_
 have hany:=(wk_any (E:=E) (n:=n) (cs:=cs) (Q:=fun s=>∃ t,St.eqv t s∧Q .normal t) (fun s t he ⟨u,hu,hq⟩=>⟨u,⟨fun i=>(hu.1 i).trans (he.1 i),hu.2.1.trans he.2.1,hu.2.2.trans he.2.2⟩,hq⟩) t ops.length (Array.replicate ops.length false) s
  (fun j o ho hj=>by
   have:(Array.replicate ops.length false).getD j false=false:=by simp[Array.getD_eq_getD_getElem?,Array.getElem?_replicate];split <;> rfl
   rw[this]at hj;cases hj) (by simp)).1 hB ((wk_mono (fun u hu=>⟨u,.refl _,hu⟩) t s).1 h)
 have:=anyV_sound (w0:=B.w0) (QQ:=Mean E n B Q) ops.length _ s G a _ h5 hany (fun s' G' a' w' ⟨t,ht,hq⟩ q2 q3 => .inl ⟨.normal,t,G',rfl,hq,by rw[ht.2.2];exact h3.trans q2,⟨by rw[ht.2.1,ht.2.2];exact q3.rw,⟨fun i=>by
   show RV _ _ _ (look t.tmps i) _
   rw[ht.1 i,ht.2.2];exact q3.rt.tm i,q3.rt.sz⟩,q3.df⟩⟩)
  fun ch a' w' q1 q2 => .inr ⟨ch,rfl,q1,q2.ext h3⟩
 simpa using this
section
variable {E : Env} {n : Nat} {ops : List Oper} {cs : List Nat} {Q : St → Prop}
@[go_sem] theorem wkRun_stop{s:St}:wkRun E n ops cs Q .stop s=Q s:=by rw[wkRun]
@[go_sem] theorem wkAlt_stop{s:St}:wkAlt E n ops cs Q .stop s=True:=by rw[wkAlt]
@[go_sem] theorem wkRun_one{i:Nat}{t:Wk}{s:St}:wkRun E n ops cs Q (.one i t) s=dAt E n ops cs i (wkRun E n ops cs Q t) s:=by rw[wkRun]
@[go_sem] theorem wkRun_br{i:Nat}{t o:Wk}{s:St}:wkRun E n ops cs Q (.br i t o) s=(dAt E n ops cs i (wkRun E n ops cs Q t) s∧wkAlt E n ops cs Q o s):=by rw[wkRun]
@[go_sem] theorem wkAlt_br{i:Nat}{t o:Wk}{s:St}:wkAlt E n ops cs Q (.br i t o) s=(dAt E n ops cs i (wkRun E n ops cs Q t) s∧wkAlt E n ops cs Q o s):=by rw[wkAlt]
end
def dGd(E:Env)(c:Bool)(M:St→Prop)(s:St)(dst:Option Nat)(op:Op)(want:Bool)(x:V):Prop:=match x with
 | .bool b=>(b=want→vopD E c s op (kAt dst M s.tmps))∧(b = !want→M (s.put dst (.tuple [])))
 | .tuple []=>M (s.put dst (.tuple []))
 | _=>False
def dGo(E:Env)(n:Nat)(c:Bool)(M:St→Prop)(s:St)(dst:Option Nat)(op:Op)(want:Bool)(o:Option Nat):Prop:=match o with
 | some d=>d<n∧dGd E c M s dst op want (look s.tmps d)
 | none=>False
section
variable {E : Env} {n : Nat} {ops : List Oper} {c : Bool} {M : St → Prop} {s : St} {dst : Option Nat} {op : Op} {want : Bool}
@[go_sem] theorem dOf_guard{j:Nat}{ty:TypeId}{pos:String}{after:Array Edge} :
  dOf E n ops c M s (some ⟨dst,op,ty,pos,after,some (j,want)⟩)=(dstB n ⟨dst,.move (.tmp 0),ty,pos,after,none⟩=true∧dGo E n c M s dst op want (dstOf ops j)):=by
 unfold dOf dGo
 have hd:dstB n ⟨dst,op,ty,pos,after,some (j,want)⟩=dstB n ⟨dst,.move (.tmp 0),ty,pos,after,none⟩:=rfl
 simp only[hd,gst]
 congr 1
 cases hj:dstOf ops j with
 | none=>simp
 | some d =>
  simp only
  by_cases hdn:d<n
  ·simp only[hdn,if_true,true_and]
   unfold dGd
   generalize look s.tmps d=x
   cases x
   case bool b =>
    apply propext
    constructor
    ·rintro⟨q,h1,h2,h3⟩
     simp only[Option.some.injEq]at h1
     refine⟨fun e=>h2 (by rw[←h1,e];simp),fun e=>h3 (by rw[←h1,e];cases want <;> rfl)⟩
    ·rintro⟨h1,h2⟩
     refine⟨_,rfl,fun e=>h1 (by simpa using e),fun e=>h2 (by cases b <;> cases want <;> simp_all)⟩
   case tuple vs =>
    cases vs with
    | nil=>simp
    | cons=>simp
   all_goals simp
  ·simp[hdn]
@[go_sem] theorem dGo_some{d:Nat}:dGo E n c M s dst op want (some d)=(d<n∧dGd E c M s dst op want (look s.tmps d)):=rfl
@[go_sem] theorem dGd_tt:dGd E c M s dst op true (.bool true)=vopD E c s op (kAt dst M s.tmps):=by simp[dGd]
@[go_sem] theorem dGd_tf{tm:List (Nat×V)}{h:List VObj}{a:List Nat}:dGd E c M ⟨tm,h,a⟩ dst op true (.bool false)=kAt dst M tm (.tuple []) h a:=by simp[dGd,kAt]
end
end Go.Vg
namespace Go.Vg
structure Dl where
 kind:Int
 owner:ByteArray
 name:ByteArray
 unit:Int
 node:Int
def Dl.enc(d:Dl):List V:=[.int .i64 d.kind,.str d.owner,.str d.name,.int .i64 d.unit,.int .i64 d.node]
def Dl.zero:Dl:=⟨0,⟨#[]⟩,⟨#[]⟩,0,0⟩
@[go_sem] theorem dl_len(d:Dl):d.enc.length=5:=rfl
@[go_sem] theorem dl_take(d:Dl):List.take 5 d.enc=d.enc:=rfl
@[go_sem] theorem dl_share(d:Dl):List.map share1 d.enc=d.enc:=rfl
@[go_sem] theorem dl_cell(d:Dl):d.enc.all V.cell=true:=rfl
@[go_sem] theorem dl_pure(d:Dl):pureL d.enc=true:=rfl
@[go_sem] theorem dl_head(d:Dl){K:V→Prop}:vHead d.enc K=K (.int .i64 d.kind):=rfl
@[go_sem] theorem dl_d1(d:Dl):List.drop 1 d.enc=[.str d.owner,.str d.name,.int .i64 d.unit,.int .i64 d.node]:=rfl
@[go_sem] theorem dl_d2(d:Dl):List.drop 2 d.enc=[.str d.name,.int .i64 d.unit,.int .i64 d.node]:=rfl
@[go_sem] theorem dl_d3(d:Dl):List.drop 3 d.enc=[.int .i64 d.unit,.int .i64 d.node]:=rfl
@[go_sem] theorem dl_d4(d:Dl):List.drop 4 d.enc=[.int .i64 d.node]:=rfl
theorem dls_pure:∀ l:List Dl,pureLL (l.map Dl.enc)=true
 | []=>rfl
 | x::r=>by simp only[List.map_cons,pureLL,dls_pure r,Bool.and_true,dl_pure]
structure Ar where
 fn:ByteArray
 cls:ByteArray
 method:Bool
def Ar.enc(x:Ar):List V:=[.str x.fn,.str x.cls,.bool x.method]
@[go_sem] theorem ar_len(d:Ar):d.enc.length=3:=rfl
@[go_sem] theorem ar_take(d:Ar):List.take 3 d.enc=d.enc:=rfl
def declT(k:Int)(t:ByteArray)(u m:Int)(x:Ar):Option Dl :=
 if k=2 then some (if x.method=true then⟨4,x.cls,t,u,m⟩else⟨1,⟨#[]⟩,t,u,m⟩)
 else if k=7 then some ⟨2,⟨#[]⟩,t,u,m⟩
 else if k=9 then some ⟨3,⟨#[]⟩,t,u,m⟩
 else if k=4 then some ⟨5,x.fn,t,u,m⟩
 else if k=10 then some ⟨6,x.fn,t,u,m⟩
 else none
def belowT(k:Int)(t:ByteArray)(x:Ar):Ar :=
 ⟨if k=2 then(if x.method=true then x.cls++⟨#[46]⟩++t else t)else x.fn,t,decide (k=7)⟩
mutual
def walkD:Nd→Int→Nat→Ar→List Dl
 | .mk k t g ks,u,m,x=>(declT k t u m x).toList++walkDs ks u (m+1) (belowT k t x)
def walkDs:List Nd→Int→Nat→Ar→List Dl
 | [],_,_,_=>[]
 | y::r,u,m,x=>walkD y u m x++walkDs r u (m+(nodes y).length) x
end
theorem walkDs_snoc(y:Nd)(u:Int)(x:Ar):∀ (pre:List Nd) m,walkDs (pre++[y]) u m x=walkDs pre u m x++walkD y u (m+(nodesL pre).length) x
 | [],m=>by simp[walkDs,nodesL]
 | z::r,m=>by
  simp only[List.cons_append,walkDs,walkDs_snoc y u x r,nodesL,List.length_append,List.append_assoc]
  rw[Nat.add_assoc]
mutual
theorem walkD_len:∀ (n:Nd) u m x,(walkD n u m x).length≤(nodes n).length
 | .mk k t g ks,u,m,x=>by
  have:=walkDs_len ks u (m+1) (belowT k t x)
  rw[walkD,nodes_mk,List.length_append]
  have:(declT k t u m x).toList.length≤1:=by cases declT k t u m x <;> simp
  omega
theorem walkDs_len:∀ (l:List Nd) u m x,(walkDs l u m x).length≤(nodesL l).length
 | [],_,_,_=>Nat.le_refl _
 | y::r,u,m,x=>by
  have h1:=walkD_len y u m x
  have h2:=walkDs_len r u (m+(nodes y).length) x
  rw[walkDs,nodesL,List.length_append,List.length_append];omega
end
def short(n:Nd):Prop:=∀ x∈nodes n,x.text.size≤1000000
theorem short_kid{k t g}{ks:List Nd}{x:Nd}(h:short (.mk k t g ks))(hx:x∈ks):short x:=by
 intro y hy
 refine h y ?_
 rw[nodes]
 refine List.mem_cons_of_mem _ ?_
 clear h
 induction ks with
 | nil=>cases hx
 | cons z r ih =>
  rw[nodesL]
  rcases List.mem_cons.1 hx with rfl | hx
  ·exact List.mem_append_left _ hy
  ·exact List.mem_append_right _ (ih hx)
theorem short_text{k t g}{ks:List Nd}(h:short (.mk k t g ks)):t.size≤1000000:=h (.mk k t g ks) (by rw[nodes];exact List.mem_cons_self ..)
def Ar.ok(x:Ar):Prop:=x.cls.size≤1000000
theorem belowT_ok{k t g}{ks:List Nd}{x:Ar}(h:short (.mk k t g ks)):(belowT k t x).ok:=short_text h
end Go.Vg
namespace Go.Proofs.YtighfcpaplmaiaaGreatDoor
open Go Go.Vg Go.Proofs
theorem R11decl(n:Nd)(u m:Int)(x:Ar):VPure env 138 [.agg n.enc,.agg [.int .i64 u,.int .i64 m],.agg x.enc]
  (.tuple [.agg ((declT n.kind n.text u m x).getD Dl.zero).enc,.bool (declT n.kind n.text u m x).isSome]):=by
 obtain⟨k,t,g,ks⟩:=n
 refine vpure_vc (fn:=Tryz.f138) Tryz.func138 rfl (by rw[Tryz.ntmps138];simp) (by simp -implicitDefEqProofs only[go_sem,Ar.enc]) (by simp -implicitDefEqProofs only[go_sem]) ?_
 simp -implicitDefEqProofs only[go_sem,Tryz.f138,Ar.enc]
 simp only[Nd.kind,Nd.text,declT]
 repeat' (first | apply And.intro | intro)
 all_goals(simp_all [Dl.enc,Dl.zero];done)
theorem R11below(n:Nd)(x:Ar)(hx:x.ok)(ht:n.text.size≤1000000):VPure env 139 [.agg n.enc,.agg x.enc] (.agg (belowT n.kind n.text x).enc):=by
 obtain⟨k,t,g,ks⟩:=n
 refine vpure_vc (fn:=Tryz.f139) Tryz.func139 rfl (by rw[Tryz.ntmps139];simp) (by simp -implicitDefEqProofs only[go_sem,Ar.enc]) (by simp -implicitDefEqProofs only[go_sem,Ar.enc]) ?_
 simp -implicitDefEqProofs only[go_sem,Tryz.f139,Ar.enc]
 simp only[Nd.kind,Nd.text,belowT]at ht ⊢
 unfold Ar.ok at hx
 have h1:(ByteArray.mk #[46]).size=1:=rfl
 refine⟨fun h=>⟨fun hb=>⟨by omega,by rw[ByteArray.size_append,h1];omega,?_⟩,fun hb=>?_⟩,fun h=>?_⟩ <;> simp_all <;> (try rfl)
theorem app_len'{α:Type}{a b:List α}:(a++b).length=a.length+b.length:=List.length_append
def wkWalk:Wk := .one 0 (.one 1 (.one 2 (.one 3 (.one 4 (.one 5 (.one 6 (.one 7 (.br 8 (.one 9 (.one 10 (.one 11 (.one 12 (.one 13 (.one 14 .stop)))))) (.br 12 (.one 8 (.one 9 (.one 10 (.one 11 (.one 13 (.one 14 .stop)))))) .stop)))))))))
theorem R11walk:(n:Nd)→∀ (h:List VObj) (a:List Nat) (kk:Nat) (es:List Dl) (u:Int) (m:Nat) (x:Ar),a[kk]? = some es.length→es.length+(nodes n).length≤1000000→m+(nodes n).length≤1000000→short n→x.ok →
  VCalls env 85 [.slice (.arr kk) 54 (es.map Dl.enc),.agg n.enc,.agg [.int .i64 u,.int .i64 m],.agg x.enc] h a fun v h' a' =>
   v = .tuple [.slice (.arr kk) 54 ((es++walkD n u m x).map Dl.enc),.agg [.int .i64 u,.int .i64 (m+(nodes n).length:Nat)]]∧(∃ z,h'=h++z)∧a'=a.set kk (es.length+(walkD n u m x).length):=by
 refine Nd.all fun k t g ks ih h a kk es u m x ha hn hm hs hx=>?_
 refine vcalls_vc (fn:=Tryz.f85) Tryz.func85 rfl (by rw[Tryz.ntmps85];simp) ?_
 simp -implicitDefEqProofs only[go_sem,Tryz.f85,Ar.enc]
 have ht:=short_text hs
 rw[nodes_mk]at hn hm ⊢
 have hbl:VPure env 139 [.agg (Nd.mk k t g ks).enc,.agg x.enc] (.agg (belowT k t x).enc):=R11below (.mk k t g ks) x hx ht
 have hdl:=R11decl (.mk k t g ks) u m x
 simp only[Nd.kind,Nd.text]at hdl
 rw[walkD]
 have hbk:=belowT_ok (x:=x) hs
 generalize belowT k t x=y at hbl hbk ⊢
 generalize declT k t u m x=o at hdl ⊢
 have ha2:a.set kk es.length=a:=by
  apply List.ext_getElem?
  intro i
  by_cases hi:kk=i
  ·subst hi;rw[List.getElem?_set_self (List.getElem?_eq_some_iff.1 ha).1,ha]
  ·rw[List.getElem?_set_ne hi]
 refine hdl.calls (by simp -implicitDefEqProofs only[go_sem,Ar.enc]) ?_
 simp -implicitDefEqProofs only[go_sem,Option.isSome,Ar.enc]
 cases o with
 | none =>
  simp only[Option.isSome_none,Option.toList,List.nil_append]
  simp -implicitDefEqProofs only[go_sem]
  refine hbl.calls (by simp -implicitDefEqProofs only[go_sem,Ar.enc]) ?_
  simp -implicitDefEqProofs only[go_sem,Ar.enc]
  refine snd_list (β:=List VObj) ks (fun pre z=>⟨[(15,.int .i64 pre.length),(14,.ptr (h.length+6) 0),(13,.ptr (h.length+5) 0),(10,.slice (.arr kk) 54 ((es++walkDs pre u (m+1) y).map Dl.enc)),(9,.ptr (h.length+3) 0),(8,.slice .nil 0 []),(5,.ptr h.length 0)],
    h ++ .cells (Nd.mk k t g ks).enc :: .dead :: .dead :: .cells [.int .i64 0,.int .i64 0] :: .dead :: .cells y.enc :: .cells [.int .i64 u,.int .i64 (m+1+(nodesL pre).length:Nat)]::z,a.set kk (es++walkDs pre u (m+1) y).length⟩)
   (fun _ _ _=>True) [] ?_ trivial ?_ ?_
  ·simp only[walkDs,nodesL,List.length_nil,Nat.add_zero,List.append_nil]
   simp -implicitDefEqProofs only[go_sem,Ar.enc,List.map_append]
   exact⟨rfl,Vg.wrap_small (by omega) (by omega),by rw[ha2,tellA_same];trivial⟩
  ·intro z _
   simp -implicitDefEqProofs only[go_sem,List.getElem?_cons_succ,List.set_cons_succ]
   intro _ _
   refine snd_draw (cs:=[]) mixed (by kernel_rfl) ?_
   simp -implicitDefEqProofs only[go_sem,List.getElem?_cons_succ,List.set_cons_succ]
   exact⟨by rw[show m+1+(nodesL ks).length=m+((nodesL ks).length+1)by omega],⟨_,rfl⟩,by rw[List.length_append]⟩
  ·rintro pre w post z rfl _
   have hsz:(nodesL (pre++w::post)).length=(nodesL pre).length+(nodes w).length+(nodesL post).length:=by
    rw[nodesL_app,nodesL];simp;omega
   have hwl:=walkDs_len pre u (m+1) y
   simp -implicitDefEqProofs only[go_sem,List.getElem?_cons_succ,List.set_cons_succ]
   intro hb hl
   have hp:=mid_len hl
   have hel:(es++walkDs pre u (m+1) y).length+(nodes w).length≤1000000:=by simp at hn ⊢;omega
   refine snd_walk (cs:=[8]) wkWalk mixed (by kernel_rfl) ?_
   simp -implicitDefEqProofs only[go_sem,wkWalk,List.getElem?_cons_succ,List.set_cons_succ]
   have e1:(nodesL (pre++[w])).length=(nodesL pre).length+(nodes w).length:=by rw[nodesL_snoc,List.length_append]
   have e2:(es++walkDs pre u (m+1) y)++walkD w u (m+1+(nodesL pre).length) y=es++walkDs (pre++[w]) u (m+1) y:=by rw[walkDs_snoc,List.append_assoc]
   refine⟨?_,?_⟩
   ·refine VCalls.mono (ih w mem_mid _ _ kk (es++walkDs pre u (m+1) y) u (m+1+(nodesL pre).length) y (arr_get ha) hel (by omega) (short_kid hs mem_mid) hbk) ?_
    rintro v h' a' ⟨rfl,⟨z',rfl⟩,rfl⟩
    simp -implicitDefEqProofs only[go_sem,List.getElem?_cons_succ,List.set_cons_succ]
    exact⟨_,⟨wrap_next (by omega),by rw[e2]⟩,⟨by rw[e1];omega,tellH_refl⟩,by rw[←app_len',e2,tellA_same];trivial,.inl (by simp only[List.length_append,List.length_cons,List.length_nil];omega)⟩
   ·refine VCalls.mono (ih w mem_mid _ _ kk (es++walkDs pre u (m+1) y) u (m+1+(nodesL pre).length) y (arr_get ha) hel (by omega) (short_kid hs mem_mid) hbk) ?_
    rintro v h' a' ⟨rfl,⟨z',rfl⟩,rfl⟩
    simp -implicitDefEqProofs only[go_sem,List.getElem?_cons_succ,List.set_cons_succ]
    exact⟨_,⟨wrap_next (by omega),by rw[e2]⟩,⟨by rw[e1];omega,tellH_refl⟩,by rw[←app_len',e2,tellA_same];trivial,.inl (by simp only[List.length_append,List.length_cons,List.length_nil];omega)⟩
 | some d =>
  simp only[Option.isSome_some,Option.getD_some,Option.toList]
  simp -implicitDefEqProofs only[go_sem]
  refine⟨by omega,ha,?_⟩
  refine hbl.calls (by simp -implicitDefEqProofs only[go_sem,Ar.enc]) ?_
  simp -implicitDefEqProofs only[go_sem,Ar.enc]
  refine snd_list (β:=List VObj) ks (fun pre z=>⟨[(15,.int .i64 pre.length),(14,.ptr (h.length+6) 0),(13,.ptr (h.length+5) 0),(10,.slice (.arr kk) 54 (((es++[d])++walkDs pre u (m+1) y).map Dl.enc)),(9,.ptr (h.length+3) 0),(8,.slice .nil 0 []),(5,.ptr h.length 0)],
    h ++ .cells (Nd.mk k t g ks).enc :: .dead :: .dead :: .cells [.int .i64 0,.int .i64 0] :: .dead :: .cells y.enc :: .cells [.int .i64 u,.int .i64 (m+1+(nodesL pre).length:Nat)]::z,a.set kk ((es++[d])++walkDs pre u (m+1) y).length⟩)
   (fun _ _ _=>True) [] ?_ trivial ?_ ?_
  ·simp only[walkDs,nodesL,List.length_nil,Nat.add_zero,List.append_nil]
   simp -implicitDefEqProofs only[go_sem,Ar.enc,List.map_append]
   exact⟨rfl,Vg.wrap_small (by omega) (by omega)⟩
  ·intro z _
   simp -implicitDefEqProofs only[go_sem,List.getElem?_cons_succ,List.set_cons_succ]
   intro _ _
   refine snd_draw (cs:=[]) mixed (by kernel_rfl) ?_
   simp -implicitDefEqProofs only[go_sem,List.getElem?_cons_succ,List.set_cons_succ]
   exact⟨by rw[show m+1+(nodesL ks).length=m+((nodesL ks).length+1)by omega,List.append_assoc];rfl,⟨_,rfl⟩,by rw[List.length_append,List.length_append];congr 1;simp;omega⟩
  ·rintro pre w post z rfl _
   have hsz:(nodesL (pre++w::post)).length=(nodesL pre).length+(nodes w).length+(nodesL post).length:=by
    rw[nodesL_app,nodesL];simp;omega
   have hwl:=walkDs_len pre u (m+1) y
   simp -implicitDefEqProofs only[go_sem,List.getElem?_cons_succ,List.set_cons_succ]
   intro hb hl
   have hp:=mid_len hl
   have hel:((es++[d])++walkDs pre u (m+1) y).length+(nodes w).length≤1000000:=by simp at hn ⊢;omega
   refine snd_walk (cs:=[8]) wkWalk mixed (by kernel_rfl) ?_
   simp -implicitDefEqProofs only[go_sem,wkWalk,List.getElem?_cons_succ,List.set_cons_succ]
   have e1:(nodesL (pre++[w])).length=(nodesL pre).length+(nodes w).length:=by rw[nodesL_snoc,List.length_append]
   have e2:((es++[d])++walkDs pre u (m+1) y)++walkD w u (m+1+(nodesL pre).length) y=(es++[d])++walkDs (pre++[w]) u (m+1) y:=by rw[walkDs_snoc,List.append_assoc]
   refine⟨?_,?_⟩
   ·refine VCalls.mono (ih w mem_mid _ _ kk ((es++[d])++walkDs pre u (m+1) y) u (m+1+(nodesL pre).length) y (arr_get ha) hel (by omega) (short_kid hs mem_mid) hbk) ?_
    rintro v h' a' ⟨rfl,⟨z',rfl⟩,rfl⟩
    simp -implicitDefEqProofs only[go_sem,List.getElem?_cons_succ,List.set_cons_succ]
    exact⟨_,⟨wrap_next (by omega),by rw[e2]⟩,⟨by rw[e1];omega,tellH_refl⟩,by rw[←app_len',e2,tellA_same];trivial,.inl (by simp only[List.length_append,List.length_cons,List.length_nil];omega)⟩
   ·refine VCalls.mono (ih w mem_mid _ _ kk ((es++[d])++walkDs pre u (m+1) y) u (m+1+(nodesL pre).length) y (arr_get ha) hel (by omega) (short_kid hs mem_mid) hbk) ?_
    rintro v h' a' ⟨rfl,⟨z',rfl⟩,rfl⟩
    simp -implicitDefEqProofs only[go_sem,List.getElem?_cons_succ,List.set_cons_succ]
    exact⟨_,⟨wrap_next (by omega),by rw[e2]⟩,⟨by rw[e1];omega,tellH_refl⟩,by rw[←app_len',e2,tellA_same];trivial,.inl (by simp only[List.length_append,List.length_cons,List.length_nil];omega)⟩
end Go.Proofs.YtighfcpaplmaiaaGreatDoor
