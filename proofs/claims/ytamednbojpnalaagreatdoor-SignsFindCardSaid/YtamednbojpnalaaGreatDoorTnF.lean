/- Drawing regions: where what comes next is apart from all others it is walked alone; elsewhere every order. -/
import Derived.Test.YtamednbojpnalaaGreatDoorVgW
set_option linter.unusedVariables false
set_option linter.unusedSimpArgs false
namespace Go.Vg
inductive Wk where
 | stop
 | one (i:Nat) (t:Wk)
 | br (i:Nat) (t o:Wk)
def Wk.heads:Wk→List Nat
 | .stop=>[]
 | .one _ _=>[]
 | .br i _ o=>i::o.heads
def Wk.ok(ops:List Oper)(cs:List Nat):Bool→Nat→Array Bool→Wk→Bool
 | true,_,l,.stop=>(Region.ready .any ops.toArray l).isEmpty
 | false,_,_,.stop=>true
 | true,f+1,l,.one i t=>(Region.ready .any ops.toArray l).contains i && okAll ops cs l i && t.ok ops cs true f (l.setIfInBounds i true)
 | b,f+1,l,.br i t o=>(!b || Region.ready .any ops.toArray l == i::o.heads) && (Region.ready .any ops.toArray l).contains i && t.ok ops cs true f (l.setIfInBounds i true) && o.ok ops cs false (f+1) l
 | _,_,_,_=>false
def wkOK(ops:List Oper)(cs:List Nat)(t:Wk):Bool:=t.ok ops cs true ops.length (Array.replicate ops.length false)
mutual
def wkAlt(E:Env)(n:Nat)(ops:List Oper)(cs:List Nat)(Q:St→Prop):Wk→St→Prop
 | .stop,_=>True
 | .one _ _,_=>False
 | .br i t o,s=>dAt E n ops cs i (wkRun E n ops cs Q t) s∧wkAlt E n ops cs Q o s
def wkRun(E:Env)(n:Nat)(ops:List Oper)(cs:List Nat)(Q:St→Prop):Wk→St→Prop
 | .stop,s=>Q s
 | .one i t,s=>dAt E n ops cs i (wkRun E n ops cs Q t) s
 | .br i t o,s=>dAt E n ops cs i (wkRun E n ops cs Q t) s∧wkAlt E n ops cs Q o s
end
theorem wk_any{E:Env}{n:Nat}{ops:List Oper}{cs:List Nat}{Q:St→Prop}(hQ:∀ s t,St.eqv s t→Q s→Q t):∀ (t:Wk) (fuel:Nat) (l:Array Bool) (s:St),Closed ops l→l.size=ops.length →
  (t.ok ops cs true fuel l=true→wkRun E n ops cs Q t s→anyV E n ops cs Q fuel l s) ∧
  (t.ok ops cs false fuel l=true→wkAlt E n ops cs Q t s→∀ i∈t.heads,∀ f,fuel=f+1→dAt E n ops cs i (anyV E n ops cs Q f (l.setIfInBounds i true)) s)
 | .stop,fuel,l,s,hcl,hsz=>by
  refine⟨fun hr h=>?_,fun _ _ i hi=>by simp[Wk.heads]at hi⟩
  simp only[Wk.ok,List.isEmpty_iff]at hr
  rw[wkRun]at h
  cases fuel with
  | zero=>exact⟨hr,h⟩
  | succ f=>exact⟨fun _=>h,fun i hi=>by rw[hr]at hi;cases hi⟩
 | .one i t,0,l,s,hcl,hsz=>⟨fun h=>by simp[Wk.ok]at h,fun h=>by simp[Wk.ok]at h⟩
 | .br i t o,0,l,s,hcl,hsz=>⟨fun h=>by simp[Wk.ok]at h,fun h=>by simp[Wk.ok]at h⟩
 | .one i t,fuel+1,l,s,hcl,hsz=>by
  refine⟨fun hok h=>?_,fun hok=>by simp[Wk.ok]at hok⟩
  simp only[Wk.ok,Bool.and_eq_true]at hok
  obtain⟨⟨hr,ho⟩,hB'⟩:=hok
  have hr':i∈Region.ready .any ops.toArray l:=by simpa using hr
  rw[wkRun]at h
  unfold okAll at ho
  cases hk:ops[i]? with
  | none=>rw[hk]at ho;cases ho
  | some ok =>
   rw[hk]at ho
   simp only[List.all_eq_true,List.mem_range]at ho
   refine first hQ hk fuel l s hcl hsz (fun j oj hj hjk hun hno=>?_) hr' (dAt_mono h fun u hu=>(wk_any hQ t fuel _ u (closed_set hcl hr') (by simpa using hsz)).1 hB' hu)
   have:=ho j (List.getElem?_eq_some_iff.1 hj).1
   simp only[hj,Bool.or_eq_true,beq_iff_eq,hjk,false_or,hun,Bool.false_eq_true,hno,Bool.and_eq_true]at this
   exact this
 | .br i t o,f+1,l,s,hcl,hsz=>by
  have key:∀ b,(Wk.br i t o).ok ops cs b (f+1) l=true→dAt E n ops cs i (wkRun E n ops cs Q t) s→wkAlt E n ops cs Q o s→∀ j∈Wk.heads (.br i t o),dAt E n ops cs j (anyV E n ops cs Q f (l.setIfInBounds j true)) s:=by
   intro b hok ha hb j hj
   have hok':((Region.ready .any ops.toArray l).contains i=true∧t.ok ops cs true f (l.setIfInBounds i true)=true)∧o.ok ops cs false (f+1) l=true:=by
    cases b <;> simp only[Wk.ok,Bool.and_eq_true]at hok
    ·exact⟨⟨hok.1.1.2,hok.1.2⟩,hok.2⟩
    ·exact⟨⟨hok.1.1.2,hok.1.2⟩,hok.2⟩
   obtain⟨⟨hr,ht⟩,ho⟩:=hok'
   have hr':i∈Region.ready .any ops.toArray l:=by simpa using hr
   rcases List.mem_cons.1 hj with e | e
   ·subst e
    exact dAt_mono ha fun s' hs'=>(wk_any hQ t f _ s' (closed_set hcl hr') (by simpa using hsz)).1 ht hs'
   ·exact(wk_any hQ o (f+1) l s hcl hsz).2 ho hb j e f rfl
  refine⟨fun hok h=>?_,fun hok h j hj g hg=>?_⟩
  ·rw[wkRun]at h
   have hh:Region.ready .any ops.toArray l=i::o.heads:=by
    simp only[Wk.ok,Bool.and_eq_true,Bool.not_true,Bool.false_or,beq_iff_eq]at hok
    exact hok.1.1.1
   refine⟨fun e=>(by rw[hh]at e;cases e),fun j hj=>?_⟩
   rw[hh]at hj
   exact key true hok h.1 h.2 j hj
  ·rw[wkAlt]at h
   cases hg
   exact key false hok h.1 h.2 j hj
theorem wk_mono{E:Env}{n:Nat}{ops:List Oper}{cs:List Nat}{Q R:St→Prop}(hQ:∀ s,Q s→R s):∀ (t:Wk) (s:St),(wkRun E n ops cs Q t s→wkRun E n ops cs R t s)∧(wkAlt E n ops cs Q t s→wkAlt E n ops cs R t s)
 | .stop,s=>by simp only[wkRun,wkAlt];exact⟨hQ s,fun h=>h⟩
 | .one i t,s=>by
  simp only[wkRun,wkAlt]
  exact⟨fun h=>dAt_mono h fun u hu=>(wk_mono hQ t u).1 hu,fun h=>h⟩
 | .br i t o,s=>by
  simp only[wkRun,wkAlt]
  exact⟨fun h=>⟨dAt_mono h.1 fun u hu=>(wk_mono hQ t u).1 hu,(wk_mono hQ o s).2 h.2⟩,fun h=>⟨dAt_mono h.1 fun u hu=>(wk_mono hQ t u).1 hu,(wk_mono hQ o s).2 h.2⟩⟩
theorem snd_walk{E:Env}{n:Nat}{ops:List Oper}{cs:List Nat}{hb ab:Nat}{s:St}{Q:VEx→St→Prop}{id:Nat}(t:Wk)(hm:E.P.follows .mixedOrders=true)(hB:wkOK ops cs t=true)
  (h:wkRun E n ops cs (Q .normal) t s):Snd E hb ab n (.region id ops.toArray true) s Q:=by
 intro B G a w h1 h2 h3 h4
 have h5:Rel E G s B.w0 n a { w with drawn:=w.drawn+1 }:=⟨h4.rw.drew _,h4.rt,h4.df⟩
 refine wp_region_any hm ?_
 have hany:=(wk_any (E:=E) (n:=n) (cs:=cs) (Q:=fun s=>∃ t,St.eqv t s∧Q .normal t) (fun s t he ⟨u,hu,hq⟩=>⟨u,⟨fun i=>(hu.1 i).trans (he.1 i),hu.2.1.trans he.2.1,hu.2.2.trans he.2.2⟩,hq⟩) t ops.length (Array.replicate ops.length false) s
  (fun j o ho hj=>by
   have:(Array.replicate ops.length false).getD j false=false:=by simp[Array.getD_eq_getD_getElem?,Array.getElem?_replicate];split <;> rfl
   rw[this]at hj;cases hj) (by simp)).1 hB ((wk_mono (fun u hu=>⟨u,.refl _,hu⟩) t s).1 h)
 have:=anyV_sound (w0:=B.w0) (QQ:=Mean E n B Q) ops.length _ s G a _ h5 hany (fun s' G' a' w' ⟨t,ht,hq⟩ q2 q3 => .inl ⟨.normal,t,G',rfl,hq,by rw[ht.2.2];exact h3.trans q2,⟨by rw[ht.2.1,ht.2.2];exact q3.rw,⟨fun i=>by
   show RV _ _ _ (look t.tmps i) _
   rw[ht.1 i,ht.2.2];exact q3.rt.tm i,q3.rt.sz⟩,q3.df⟩⟩)
  fun ch a' w' q1 q2 => .inr ⟨ch,rfl,q1,q2.ext h3⟩
 simpa using this
section
variable {E : Env} {n : Nat} {ops : List Oper} {cs : List Nat} {Q : St → Prop}
@[go_sem] theorem wkRun_stop{s:St}:wkRun E n ops cs Q .stop s=Q s:=by rw[wkRun]
@[go_sem] theorem wkAlt_stop{s:St}:wkAlt E n ops cs Q .stop s=True:=by rw[wkAlt]
@[go_sem] theorem wkRun_one{i:Nat}{t:Wk}{s:St}:wkRun E n ops cs Q (.one i t) s=dAt E n ops cs i (wkRun E n ops cs Q t) s:=by rw[wkRun]
@[go_sem] theorem wkRun_br{i:Nat}{t o:Wk}{s:St}:wkRun E n ops cs Q (.br i t o) s=(dAt E n ops cs i (wkRun E n ops cs Q t) s∧wkAlt E n ops cs Q o s):=by rw[wkRun]
@[go_sem] theorem wkAlt_br{i:Nat}{t o:Wk}{s:St}:wkAlt E n ops cs Q (.br i t o) s=(dAt E n ops cs i (wkRun E n ops cs Q t) s∧wkAlt E n ops cs Q o s):=by rw[wkAlt]
end
def dGd(E:Env)(c:Bool)(M:St→Prop)(s:St)(dst:Option Nat)(op:Op)(want:Bool)(x:V):Prop:=match x with
 | .bool b=>(b=want→vopD E c s op (kAt dst M s.tmps))∧(b = !want→M (s.put dst (.tuple [])))
 | .tuple []=>M (s.put dst (.tuple []))
 | _=>False
def dGo(E:Env)(n:Nat)(c:Bool)(M:St→Prop)(s:St)(dst:Option Nat)(op:Op)(want:Bool)(o:Option Nat):Prop:=match o with
 | some d=>d<n∧dGd E c M s dst op want (look s.tmps d)
 | none=>False
section
variable {E : Env} {n : Nat} {ops : List Oper} {c : Bool} {M : St → Prop} {s : St} {dst : Option Nat} {op : Op} {want : Bool}
@[go_sem] theorem dOf_guard{j:Nat}{ty:TypeId}{pos:String}{after:Array Edge} :
  dOf E n ops c M s (some ⟨dst,op,ty,pos,after,some (j,want)⟩)=(dstB n ⟨dst,.move (.tmp 0),ty,pos,after,none⟩=true∧dGo E n c M s dst op want (dstOf ops j)):=by
 unfold dOf dGo
 have hd:dstB n ⟨dst,op,ty,pos,after,some (j,want)⟩=dstB n ⟨dst,.move (.tmp 0),ty,pos,after,none⟩:=rfl
 simp only[hd,gst]
 congr 1
 cases hj:dstOf ops j with
 | none=>simp
 | some d =>
  simp only
  by_cases hdn:d<n
  ·simp only[hdn,if_true,true_and]
   unfold dGd
   generalize look s.tmps d=x
   cases x
   case bool b =>
    apply propext
    constructor
    ·rintro⟨q,h1,h2,h3⟩
     simp only[Option.some.injEq]at h1
     refine⟨fun e=>h2 (by rw[←h1,e];simp),fun e=>h3 (by rw[←h1,e];cases want <;> rfl)⟩
    ·rintro⟨h1,h2⟩
     refine⟨_,rfl,fun e=>h1 (by simpa using e),fun e=>h2 (by cases b <;> cases want <;> simp_all)⟩
   case tuple vs =>
    cases vs with
    | nil=>simp
    | cons=>simp
   all_goals simp
  ·simp[hdn]
@[go_sem] theorem dGo_some{d:Nat}:dGo E n c M s dst op want (some d)=(d<n∧dGd E c M s dst op want (look s.tmps d)):=rfl
@[go_sem] theorem dGd_tt:dGd E c M s dst op true (.bool true)=vopD E c s op (kAt dst M s.tmps):=by simp[dGd]
@[go_sem] theorem dGd_tf{tm:List (Nat×V)}{h:List VObj}{a:List Nat}:dGd E c M ⟨tm,h,a⟩ dst op true (.bool false)=kAt dst M tm (.tuple []) h a:=by simp[dGd,kAt]
end
end Go.Vg
namespace Go.Vg
structure Dl where
 kind:Int
 owner:ByteArray
 name:ByteArray
 unit:Int
 node:Int
def Dl.enc(d:Dl):List V:=[.int .i64 d.kind,.str d.owner,.str d.name,.int .i64 d.unit,.int .i64 d.node]
def Dl.zero:Dl:=⟨0,⟨#[]⟩,⟨#[]⟩,0,0⟩
@[go_sem] theorem dl_len(d:Dl):d.enc.length=5:=rfl
@[go_sem] theorem dl_take(d:Dl):List.take 5 d.enc=d.enc:=rfl
@[go_sem] theorem dl_share(d:Dl):List.map share1 d.enc=d.enc:=rfl
@[go_sem] theorem dl_cell(d:Dl):d.enc.all V.cell=true:=rfl
@[go_sem] theorem dl_pure(d:Dl):pureL d.enc=true:=rfl
@[go_sem] theorem dl_head(d:Dl){K:V→Prop}:vHead d.enc K=K (.int .i64 d.kind):=rfl
@[go_sem] theorem dl_d1(d:Dl):List.drop 1 d.enc=[.str d.owner,.str d.name,.int .i64 d.unit,.int .i64 d.node]:=rfl
@[go_sem] theorem dl_d2(d:Dl):List.drop 2 d.enc=[.str d.name,.int .i64 d.unit,.int .i64 d.node]:=rfl
@[go_sem] theorem dl_d3(d:Dl):List.drop 3 d.enc=[.int .i64 d.unit,.int .i64 d.node]:=rfl
@[go_sem] theorem dl_d4(d:Dl):List.drop 4 d.enc=[.int .i64 d.node]:=rfl
theorem dls_pure:∀ l:List Dl,pureLL (l.map Dl.enc)=true
 | []=>rfl
 | x::r=>by simp only[List.map_cons,pureLL,dls_pure r,Bool.and_true,dl_pure]
structure Ar where
 fn:ByteArray
 cls:ByteArray
 method:Bool
def Ar.enc(x:Ar):List V:=[.str x.fn,.str x.cls,.bool x.method]
@[go_sem] theorem ar_len(d:Ar):d.enc.length=3:=rfl
@[go_sem] theorem ar_take(d:Ar):List.take 3 d.enc=d.enc:=rfl
def declT(k:Int)(t:ByteArray)(u m:Int)(x:Ar):Option Dl :=
 if k=2 then some (if x.method=true then⟨4,x.cls,t,u,m⟩else⟨1,⟨#[]⟩,t,u,m⟩)
 else if k=7 then some ⟨2,⟨#[]⟩,t,u,m⟩
 else if k=9 then some ⟨3,⟨#[]⟩,t,u,m⟩
 else if k=4 then some ⟨5,x.fn,t,u,m⟩
 else if k=10 then some ⟨6,x.fn,t,u,m⟩
 else none
def belowT(k:Int)(t:ByteArray)(x:Ar):Ar :=
 ⟨if k=2 then(if x.method=true then x.cls++⟨#[46]⟩++t else t)else x.fn,t,decide (k=7)⟩
mutual
def walkD:Nd→Int→Nat→Ar→List Dl
 | .mk k t g ks,u,m,x=>(declT k t u m x).toList++walkDs ks u (m+1) (belowT k t x)
def walkDs:List Nd→Int→Nat→Ar→List Dl
 | [],_,_,_=>[]
 | y::r,u,m,x=>walkD y u m x++walkDs r u (m+(nodes y).length) x
end
theorem walkDs_snoc(y:Nd)(u:Int)(x:Ar):∀ (pre:List Nd) m,walkDs (pre++[y]) u m x=walkDs pre u m x++walkD y u (m+(nodesL pre).length) x
 | [],m=>by simp[walkDs,nodesL]
 | z::r,m=>by
  simp only[List.cons_append,walkDs,walkDs_snoc y u x r,nodesL,List.length_append,List.append_assoc]
  rw[Nat.add_assoc]
mutual
theorem walkD_len:∀ (n:Nd) u m x,(walkD n u m x).length≤(nodes n).length
 | .mk k t g ks,u,m,x=>by
  have:=walkDs_len ks u (m+1) (belowT k t x)
  rw[walkD,nodes_mk,List.length_append]
  have:(declT k t u m x).toList.length≤1:=by cases declT k t u m x <;> simp
  omega
theorem walkDs_len:∀ (l:List Nd) u m x,(walkDs l u m x).length≤(nodesL l).length
 | [],_,_,_=>Nat.le_refl _
 | y::r,u,m,x=>by
  have h1:=walkD_len y u m x
  have h2:=walkDs_len r u (m+(nodes y).length) x
  rw[walkDs,nodesL,List.length_append,List.length_append];omega
end
def short(n:Nd):Prop:=∀ x∈nodes n,x.text.size≤1000000
theorem short_kid{k t g}{ks:List Nd}{x:Nd}(h:short (.mk k t g ks))(hx:x∈ks):short x:=by
 intro y hy
 refine h y ?_
 rw[nodes]
 refine List.mem_cons_of_mem _ ?_
 clear h
 induction ks with
 | nil=>cases hx
 | cons z r ih =>
  rw[nodesL]
  rcases List.mem_cons.1 hx with rfl | hx
  ·exact List.mem_append_left _ hy
  ·exact List.mem_append_right _ (ih hx)
theorem short_text{k t g}{ks:List Nd}(h:short (.mk k t g ks)):t.size≤1000000:=h (.mk k t g ks) (by rw[nodes];exact List.mem_cons_self ..)
def Ar.ok(x:Ar):Prop:=x.cls.size≤1000000
theorem belowT_ok{k t g}{ks:List Nd}{x:Ar}(h:short (.mk k t g ks)):(belowT k t x).ok:=short_text h
end Go.Vg
namespace Go.Proofs.YtamednbojpnalaaGreatDoor
open Go Go.Vg Go.Proofs
theorem R11decl(n:Nd)(u m:Int)(x:Ar):VPure env 88 [.agg n.enc,.agg [.int .i64 u,.int .i64 m],.agg x.enc]
  (.tuple [.agg ((declT n.kind n.text u m x).getD Dl.zero).enc,.bool (declT n.kind n.text u m x).isSome]):=by
 obtain⟨k,t,g,ks⟩:=n
 refine vpure_vc (fn:=Tryz.f88) Tryz.func88 rfl (by rw[Tryz.ntmps88];simp) (by simp -implicitDefEqProofs only[go_sem,Ar.enc]) (by simp -implicitDefEqProofs only[go_sem]) ?_
 simp -implicitDefEqProofs only[go_sem,Tryz.f88,Ar.enc]
 simp only[Nd.kind,Nd.text,declT]
 repeat' (first | apply And.intro | intro)
 all_goals(simp_all [Dl.enc,Dl.zero];done)
theorem R11below(n:Nd)(x:Ar)(hx:x.ok)(ht:n.text.size≤1000000):VPure env 89 [.agg n.enc,.agg x.enc] (.agg (belowT n.kind n.text x).enc):=by
 obtain⟨k,t,g,ks⟩:=n
 refine vpure_vc (fn:=Tryz.f89) Tryz.func89 rfl (by rw[Tryz.ntmps89];simp) (by simp -implicitDefEqProofs only[go_sem,Ar.enc]) (by simp -implicitDefEqProofs only[go_sem,Ar.enc]) ?_
 simp -implicitDefEqProofs only[go_sem,Tryz.f89,Ar.enc]
 simp only[Nd.kind,Nd.text,belowT]at ht ⊢
 unfold Ar.ok at hx
 have h1:(ByteArray.mk #[46]).size=1:=rfl
 refine⟨fun h=>⟨fun hb=>⟨by omega,by rw[ByteArray.size_append,h1];omega,?_⟩,fun hb=>?_⟩,fun h=>?_⟩ <;> simp_all <;> (try rfl)
theorem app_len'{α:Type}{a b:List α}:(a++b).length=a.length+b.length:=List.length_append
def wkWalk:Wk := .one 0 (.one 1 (.one 2 (.one 3 (.one 4 (.one 5 (.one 6 (.one 7 (.br 8 (.one 9 (.one 10 (.one 11 (.one 12 (.one 13 (.one 14 .stop)))))) (.br 12 (.one 8 (.one 9 (.one 10 (.one 11 (.one 13 (.one 14 .stop)))))) .stop)))))))))
theorem R11walk:(n:Nd)→∀ (h:List VObj) (a:List Nat) (kk:Nat) (es:List Dl) (u:Int) (m:Nat) (x:Ar),a[kk]? = some es.length→es.length+(nodes n).length≤1000000→m+(nodes n).length≤1000000→short n→x.ok →
  VCalls env 60 [.slice (.arr kk) 61 (es.map Dl.enc),.agg n.enc,.agg [.int .i64 u,.int .i64 m],.agg x.enc] h a fun v h' a' =>
   v = .tuple [.slice (.arr kk) 61 ((es++walkD n u m x).map Dl.enc),.agg [.int .i64 u,.int .i64 (m+(nodes n).length:Nat)]]∧(∃ z,h'=h++z)∧a'=a.set kk (es.length+(walkD n u m x).length):=by
 refine Nd.all fun k t g ks ih h a kk es u m x ha hn hm hs hx=>?_
 refine vcalls_vc (fn:=Tryz.f60) Tryz.func60 rfl (by rw[Tryz.ntmps60];simp) ?_
 simp -implicitDefEqProofs only[go_sem,Tryz.f60,Ar.enc]
 have ht:=short_text hs
 rw[nodes_mk]at hn hm ⊢
 have hbl:VPure env 89 [.agg (Nd.mk k t g ks).enc,.agg x.enc] (.agg (belowT k t x).enc):=R11below (.mk k t g ks) x hx ht
 have hdl:=R11decl (.mk k t g ks) u m x
 simp only[Nd.kind,Nd.text]at hdl
 rw[walkD]
 have hbk:=belowT_ok (x:=x) hs
 generalize belowT k t x=y at hbl hbk ⊢
 generalize declT k t u m x=o at hdl ⊢
 have ha2:a.set kk es.length=a:=by
  apply List.ext_getElem?
  intro i
  by_cases hi:kk=i
  ·subst hi;rw[List.getElem?_set_self (List.getElem?_eq_some_iff.1 ha).1,ha]
  ·rw[List.getElem?_set_ne hi]
 refine hdl.calls (by simp -implicitDefEqProofs only[go_sem,Ar.enc]) ?_
 simp -implicitDefEqProofs only[go_sem,Option.isSome,Ar.enc]
 cases o with
 | none =>
  simp only[Option.isSome_none,Option.toList,List.nil_append]
  simp -implicitDefEqProofs only[go_sem]
  refine hbl.calls (by simp -implicitDefEqProofs only[go_sem,Ar.enc]) ?_
  simp -implicitDefEqProofs only[go_sem,Ar.enc]
  refine snd_list (β:=List VObj) ks (fun pre z=>⟨[(15,.int .i64 pre.length),(14,.ptr (h.length+6) 0),(13,.ptr (h.length+5) 0),(10,.slice (.arr kk) 61 ((es++walkDs pre u (m+1) y).map Dl.enc)),(9,.ptr (h.length+3) 0),(8,.slice .nil 0 []),(5,.ptr h.length 0)],
    h ++ .cells (Nd.mk k t g ks).enc :: .dead :: .dead :: .cells [.int .i64 0,.int .i64 0] :: .dead :: .cells y.enc :: .cells [.int .i64 u,.int .i64 (m+1+(nodesL pre).length:Nat)]::z,a.set kk (es++walkDs pre u (m+1) y).length⟩)
   (fun _ _ _=>True) [] ?_ trivial ?_ ?_
  ·simp only[walkDs,nodesL,List.length_nil,Nat.add_zero,List.append_nil]
   simp -implicitDefEqProofs only[go_sem,Ar.enc,List.map_append]
   exact⟨rfl,Vg.wrap_small (by omega) (by omega),by rw[ha2,tellA_same];trivial⟩
  ·intro z _
   simp -implicitDefEqProofs only[go_sem,List.getElem?_cons_succ,List.set_cons_succ]
   intro _ _
   refine snd_draw (cs:=[]) mixed (by kernel_rfl) ?_
   simp -implicitDefEqProofs only[go_sem,List.getElem?_cons_succ,List.set_cons_succ]
   exact⟨by rw[show m+1+(nodesL ks).length=m+((nodesL ks).length+1)by omega],⟨_,rfl⟩,by rw[List.length_append]⟩
  ·rintro pre w post z rfl _
   have hsz:(nodesL (pre++w::post)).length=(nodesL pre).length+(nodes w).length+(nodesL post).length:=by
    rw[nodesL_app,nodesL];simp;omega
   have hwl:=walkDs_len pre u (m+1) y
   simp -implicitDefEqProofs only[go_sem,List.getElem?_cons_succ,List.set_cons_succ]
   intro hb hl
   have hp:=mid_len hl
   have hel:(es++walkDs pre u (m+1) y).length+(nodes w).length≤1000000:=by simp at hn ⊢;omega
   refine snd_walk (cs:=[8]) wkWalk mixed (by kernel_rfl) ?_
   simp -implicitDefEqProofs only[go_sem,wkWalk,List.getElem?_cons_succ,List.set_cons_succ]
   have e1:(nodesL (pre++[w])).length=(nodesL pre).length+(nodes w).length:=by rw[nodesL_snoc,List.length_append]
   have e2:(es++walkDs pre u (m+1) y)++walkD w u (m+1+(nodesL pre).length) y=es++walkDs (pre++[w]) u (m+1) y:=by rw[walkDs_snoc,List.append_assoc]
   refine⟨?_,?_⟩
   ·refine VCalls.mono (ih w mem_mid _ _ kk (es++walkDs pre u (m+1) y) u (m+1+(nodesL pre).length) y (arr_get ha) hel (by omega) (short_kid hs mem_mid) hbk) ?_
    rintro v h' a' ⟨rfl,⟨z',rfl⟩,rfl⟩
    simp -implicitDefEqProofs only[go_sem,List.getElem?_cons_succ,List.set_cons_succ]
    exact⟨_,⟨wrap_next (by omega),by rw[e2]⟩,⟨by rw[e1];omega,tellH_refl⟩,by rw[←app_len',e2,tellA_same];trivial,.inl (by simp only[List.length_append,List.length_cons,List.length_nil];omega)⟩
   ·refine VCalls.mono (ih w mem_mid _ _ kk (es++walkDs pre u (m+1) y) u (m+1+(nodesL pre).length) y (arr_get ha) hel (by omega) (short_kid hs mem_mid) hbk) ?_
    rintro v h' a' ⟨rfl,⟨z',rfl⟩,rfl⟩
    simp -implicitDefEqProofs only[go_sem,List.getElem?_cons_succ,List.set_cons_succ]
    exact⟨_,⟨wrap_next (by omega),by rw[e2]⟩,⟨by rw[e1];omega,tellH_refl⟩,by rw[←app_len',e2,tellA_same];trivial,.inl (by simp only[List.length_append,List.length_cons,List.length_nil];omega)⟩
 | some d =>
  simp only[Option.isSome_some,Option.getD_some,Option.toList]
  simp -implicitDefEqProofs only[go_sem]
  refine⟨by omega,ha,?_⟩
  refine hbl.calls (by simp -implicitDefEqProofs only[go_sem,Ar.enc]) ?_
  simp -implicitDefEqProofs only[go_sem,Ar.enc]
  refine snd_list (β:=List VObj) ks (fun pre z=>⟨[(15,.int .i64 pre.length),(14,.ptr (h.length+6) 0),(13,.ptr (h.length+5) 0),(10,.slice (.arr kk) 61 (((es++[d])++walkDs pre u (m+1) y).map Dl.enc)),(9,.ptr (h.length+3) 0),(8,.slice .nil 0 []),(5,.ptr h.length 0)],
    h ++ .cells (Nd.mk k t g ks).enc :: .dead :: .dead :: .cells [.int .i64 0,.int .i64 0] :: .dead :: .cells y.enc :: .cells [.int .i64 u,.int .i64 (m+1+(nodesL pre).length:Nat)]::z,a.set kk ((es++[d])++walkDs pre u (m+1) y).length⟩)
   (fun _ _ _=>True) [] ?_ trivial ?_ ?_
  ·simp only[walkDs,nodesL,List.length_nil,Nat.add_zero,List.append_nil]
   simp -implicitDefEqProofs only[go_sem,Ar.enc,List.map_append]
   exact⟨rfl,Vg.wrap_small (by omega) (by omega)⟩
  ·intro z _
   simp -implicitDefEqProofs only[go_sem,List.getElem?_cons_succ,List.set_cons_succ]
   intro _ _
   refine snd_draw (cs:=[]) mixed (by kernel_rfl) ?_
   simp -implicitDefEqProofs only[go_sem,List.getElem?_cons_succ,List.set_cons_succ]
   exact⟨by rw[show m+1+(nodesL ks).length=m+((nodesL ks).length+1)by omega,List.append_assoc];rfl,⟨_,rfl⟩,by rw[List.length_append,List.length_append];congr 1;simp;omega⟩
  ·rintro pre w post z rfl _
   have hsz:(nodesL (pre++w::post)).length=(nodesL pre).length+(nodes w).length+(nodesL post).length:=by
    rw[nodesL_app,nodesL];simp;omega
   have hwl:=walkDs_len pre u (m+1) y
   simp -implicitDefEqProofs only[go_sem,List.getElem?_cons_succ,List.set_cons_succ]
   intro hb hl
   have hp:=mid_len hl
   have hel:((es++[d])++walkDs pre u (m+1) y).length+(nodes w).length≤1000000:=by simp at hn ⊢;omega
   refine snd_walk (cs:=[8]) wkWalk mixed (by kernel_rfl) ?_
   simp -implicitDefEqProofs only[go_sem,wkWalk,List.getElem?_cons_succ,List.set_cons_succ]
   have e1:(nodesL (pre++[w])).length=(nodesL pre).length+(nodes w).length:=by rw[nodesL_snoc,List.length_append]
   have e2:((es++[d])++walkDs pre u (m+1) y)++walkD w u (m+1+(nodesL pre).length) y=(es++[d])++walkDs (pre++[w]) u (m+1) y:=by rw[walkDs_snoc,List.append_assoc]
   refine⟨?_,?_⟩
   ·refine VCalls.mono (ih w mem_mid _ _ kk ((es++[d])++walkDs pre u (m+1) y) u (m+1+(nodesL pre).length) y (arr_get ha) hel (by omega) (short_kid hs mem_mid) hbk) ?_
    rintro v h' a' ⟨rfl,⟨z',rfl⟩,rfl⟩
    simp -implicitDefEqProofs only[go_sem,List.getElem?_cons_succ,List.set_cons_succ]
    exact⟨_,⟨wrap_next (by omega),by rw[e2]⟩,⟨by rw[e1];omega,tellH_refl⟩,by rw[←app_len',e2,tellA_same];trivial,.inl (by simp only[List.length_append,List.length_cons,List.length_nil];omega)⟩
   ·refine VCalls.mono (ih w mem_mid _ _ kk ((es++[d])++walkDs pre u (m+1) y) u (m+1+(nodesL pre).length) y (arr_get ha) hel (by omega) (short_kid hs mem_mid) hbk) ?_
    rintro v h' a' ⟨rfl,⟨z',rfl⟩,rfl⟩
    simp -implicitDefEqProofs only[go_sem,List.getElem?_cons_succ,List.set_cons_succ]
    exact⟨_,⟨wrap_next (by omega),by rw[e2]⟩,⟨by rw[e1];omega,tellH_refl⟩,by rw[←app_len',e2,tellA_same];trivial,.inl (by simp only[List.length_append,List.length_cons,List.length_nil];omega)⟩
end Go.Proofs.YtamednbojpnalaaGreatDoor
namespace Go.Vg
structure Un where
 path:ByteArray
 text:ByteArray
 tree:Nd
 broken:Bool
def Un.enc(x:Un):List V:=[.str x.path,.str x.text]++x.tree.enc++[.bool x.broken]
@[go_sem] theorem un_len(d:Un):d.enc.length=7:=by simp[Un.enc,enc_len]
@[go_sem] theorem un_take(d:Un):List.take 7 d.enc=d.enc:=by rw[List.take_of_length_le (by rw[un_len];exact Nat.le_refl _)]
@[go_sem] theorem un_share(d:Un):List.map share1 d.enc=d.enc:=by simp only[Un.enc,List.map_append,enc_share];rfl
@[go_sem] theorem un_cell(d:Un):d.enc.all V.cell=true:=by simp only[Un.enc,List.all_append,enc_cell];rfl
@[go_sem] theorem un_pure(d:Un):pureL d.enc=true:=by
 obtain⟨p,t,⟨k,x,g,ks⟩,b⟩:=d
 simp -implicitDefEqProofs only[Un.enc,Nd.enc,List.cons_append,List.nil_append,pureL,V.pure,Bool.true_and,go_sem]
@[go_sem] theorem un_drop6(d:Un):List.drop 6 d.enc=[.bool d.broken]:=by
 obtain⟨p,t,⟨k,x,g,ks⟩,b⟩:=d;rfl
@[go_sem] theorem un_drop2l(d:Un):(List.drop 2 d.enc).length=5:=by rw[List.length_drop,un_len]
@[go_sem] theorem un_drop2(d:Un):List.take 4 (List.drop 2 d.enc)=d.tree.enc:=by
 obtain⟨p,t,⟨k,x,g,ks⟩,b⟩:=d;rfl
@[go_sem] theorem un_head(d:Un){K:V→Prop}:vHead d.enc K=K (.str d.path):=rfl
@[go_sem] theorem un_drop2h(d:Un){K:V→Prop}:vHead (List.drop 2 d.enc) K=K (.int .i64 d.tree.kind):=by
 obtain⟨p,t,⟨k,x,g,ks⟩,b⟩:=d;rfl
theorem uns_pure:∀ l:List Un,pureLL (l.map Un.enc)=true
 | []=>rfl
 | x::r=>by simp only[List.map_cons,pureLL,uns_pure r,Bool.and_true,un_pure]
def Ar.none:Ar:=⟨⟨#[]⟩,⟨#[]⟩,false⟩
def declsU:List Un→Nat→List Dl
 | [],_=>[]
 | x::r,i=>(if x.broken=true then []else walkD x.tree i 0 Ar.none)++declsU r (i+1)
theorem declsU_snoc(x:Un):∀ (pre:List Un) i,declsU (pre++[x]) i=declsU pre i++(if x.broken=true then []else walkD x.tree (i+pre.length:Nat) 0 Ar.none)
 | [],i=>by simp[declsU]
 | y::r,i=>by
  simp only[List.cons_append,declsU,declsU_snoc x r,List.append_assoc,List.length_cons]
  rw[show i+1+r.length=i+(r.length+1)by omega]
def fitU(u:List Un):Prop:=u.length≤1000∧∀ x∈u,(nodes x.tree).length≤1000∧short x.tree
theorem declsU_len:∀ (u:List Un) i,(∀ x∈u,(nodes x.tree).length≤1000)→(declsU u i).length≤u.length * 1000
 | [],_,_=>by simp[declsU]
 | x::r,i,h=>by
  have h1:=declsU_len r (i+1) fun y hy=>h y (by simp[hy])
  have h2:=walkD_len x.tree i 0 Ar.none
  have h3:=h x (by simp)
  rw[declsU,List.length_append,List.length_cons]
  have h4:(if x.broken=true then []else walkD x.tree i 0 Ar.none).length≤1000:=by
   by_cases hb:x.broken=true
   ·rw[if_pos hb,List.length_nil];omega
   ·rw[if_neg hb];omega
  omega
end Go.Vg
namespace Go.Proofs.YtamednbojpnalaaGreatDoor
open Go Go.Vg Go.Proofs
theorem R11Decls(u:List Un)(hu:fitU u):VPure env 36 [sl 34 (u.map Un.enc)] (sl 61 ((declsU u 0).map Dl.enc)):=by
 refine vpure_vc (fn:=Tryz.f36) Tryz.func36 rfl (by rw[Tryz.ntmps36];simp) (by simp -implicitDefEqProofs only[go_sem];exact uns_pure _) (by simp -implicitDefEqProofs only[go_sem];exact dls_pure _) ?_
 simp -implicitDefEqProofs only[go_sem,Tryz.f36]
 have hul:=hu.1
 refine snd_list (β:=Unit) u (fun pre _=>⟨[(4,.int .i64 pre.length),(3,.slice (.arr 0) 61 ((declsU pre 0).map Dl.enc)),(2,.slice .nil 0 []),(0,sl 34 (u.map Un.enc))],[],[(declsU pre 0).length]⟩)
  (fun _ _ _=>True) () ?_ trivial ?_ ?_
 ·simp only[declsU]
  simp -implicitDefEqProofs only[go_sem]
  rfl
 ·intro _ _
  simp -implicitDefEqProofs only[go_sem]
 ·rintro pre x post _ rfl _
  have hx:=hu.2 x mem_mid
  have hpl:(pre++x::post).length=pre.length+1+post.length:=by simp;omega
  have hdl:=declsU_len pre 0 fun y hy=>(hu.2 y (by simp[hy])).1
  have hsn:=declsU_snoc x pre 0
  simp -implicitDefEqProofs only[go_sem]
  intro hb hl
  refine⟨fun hbr=>?_,fun hbr=>?_⟩
  ·have hbf:x.broken=false:=by simpa using hbr
   rw[hbf]at hsn
   simp only[Bool.false_eq_true,if_false,Nat.zero_add]at hsn
   refine VCalls.mono (R11walk x.tree [] [(declsU pre 0).length] 0 (declsU pre 0) pre.length 0 Ar.none rfl (by omega) (by omega) hx.2 (Nat.zero_le _)) ?_
   rintro v h' a' ⟨rfl,⟨z,rfl⟩,rfl⟩
   simp -implicitDefEqProofs only[go_sem]
   exact⟨(),⟨wrap_next (by omega),by rw[hsn]⟩,by rw[hsn,List.length_append],.inr (by rw[ltLL_pure _ _ _ (dls_pure _),ltLL_pure _ _ _ (uns_pure _)];rfl)⟩
  ·have hbt:x.broken=true:=by simpa using hbr
   rw[hbt]at hsn
   simp only[if_true,List.append_nil]at hsn
   exact⟨(),⟨wrap_next (by omega),by rw[hsn]⟩,by rw[hsn]⟩
def findD(l:List Dl)(kind:Int)(owner name:ByteArray):Option Dl:=l.find? fun d=>decide (d.kind=kind) && decide (d.owner=owner) && decide (d.name=name)
def encDO(o:Option Dl):V := .tuple [.agg (o.getD Dl.zero).enc,.bool o.isSome]
end Go.Proofs.YtamednbojpnalaaGreatDoor
namespace Go.Vg
@[go_sem] theorem rw_len(d:Rw):d.enc.length=5:=rfl
@[go_sem] theorem rw_take(d:Rw):List.take 5 d.enc=d.enc:=rfl
@[go_sem] theorem rw_head(d:Rw){K:V→Prop}:vHead d.enc K=K (.int .i64 d.parent):=rfl
@[go_sem] theorem rw_d1(d:Rw):List.drop 1 d.enc=[.int .i64 d.kind,.str d.text,sl 9 (d.gaps.map encTx),sl 3 (d.kids.map encIx)]:=rfl
@[go_sem] theorem rw_d2(d:Rw):List.drop 2 d.enc=[.str d.text,sl 9 (d.gaps.map encTx),sl 3 (d.kids.map encIx)]:=rfl
@[go_sem] theorem rw_d4(d:Rw):List.drop 4 d.enc=[sl 3 (d.kids.map encIx)]:=rfl
@[go_sem] theorem rw_cell(d:Rw):d.enc.all V.cell=true:=rfl
theorem rw_getD{l:List Rw}{i:Nat}{r:Rw}(h:l[i]? = some r):(l.map Rw.enc).getD i []=r.enc:=by
 rw[List.getD_eq_getElem?_getD,List.getElem?_map,h];rfl
theorem rw_getD'{l:List Rw}{i:Int}{r:Rw}(h:l[i.toNat]? = some r):(l.map Rw.enc).getD i.toNat []=r.enc:=rw_getD h
theorem rw_getDn{l:List Rw}{i:Nat}{r:Rw}(h:l[i]? = some r):(l.map Rw.enc).getD (i:Int).toNat []=r.enc:=rw_getD h
def okR(l:List Rw):Prop:=l.length≤1000000∧∀ (i:Nat) r,l[i]? = some r → -1≤r.parent∧r.parent<i∧r.text.size≤1000000
def classR(l:List Rw)(at_:Nat):Option ByteArray:=match l[at_]? with
 | none=>none
 | some r=>if r.parent<0 then none else match l[r.parent.toNat]? with
  | none=>none
  | some q=>if q.kind=7 then some q.text else none
def fnR(l:List Rw):Nat→Int→ByteArray
 | 0,_=>⟨#[]⟩
 | f+1,p=>if p<0 then⟨#[]⟩else match l[p.toNat]? with
  | none=>⟨#[]⟩
  | some r=>if r.kind=2 then(match classR l p.toNat with | some c=>c++⟨#[46]⟩++r.text | none=>r.text)else fnR l f r.parent
end Go.Vg
namespace Go.Proofs.YtamednbojpnalaaGreatDoor
open Go Go.Vg Go.Proofs
def encSO(o:Option ByteArray):V := .tuple [.str (o.getD ⟨#[]⟩),.bool o.isSome]
theorem Pclass(l:List Rw)(hl:okR l)(at_:Nat)(ha:at_<l.length):VPure env 55 [sl 100 (l.map Rw.enc),.int .i64 at_] (encSO (classR l at_)):=by
 have hg:=List.getElem?_eq_getElem ha
 generalize l[at_]=r at hg
 have hp:=hl.2 at_ r hg
 have hln:=hl.1
 refine vpure_vc (fn:=Tryz.f55) Tryz.func55 rfl (by rw[Tryz.ntmps55];simp) (by simp -implicitDefEqProofs only[go_sem];exact rows_pure _) (by simp -implicitDefEqProofs only[go_sem,encSO]) ?_
 simp -implicitDefEqProofs only[go_sem,Tryz.f55,rw_getDn hg]
 refine⟨by omega,?_⟩
 by_cases h0:r.parent<0
 ·have:classR l at_=none:=by rw[classR,hg];simp[h0]
  rw[this]
  exact⟨fun h=>absurd h0 h,fun _=>rfl⟩
 ·have hq:r.parent.toNat<l.length:=by omega
  have hgq:=List.getElem?_eq_getElem hq
  generalize l[r.parent.toNat]=q at hgq
  have hp2:=hl.2 _ q hgq
  have:classR l at_=if q.kind=7 then some q.text else none:=by rw[classR,hg];simp[h0,hgq]
  rw[this]
  refine⟨fun _=>?_,fun h=>absurd h h0⟩
  simp -implicitDefEqProofs only[go_sem,rw_getD' hgq,rw_getDn hg]
  refine⟨by omega,fun h=>?_,fun h=>⟨by omega,?_⟩⟩
  ·have h7:¬ q.kind=7:=by simpa using h
   rw[if_neg h7];rfl
  ·have h7:q.kind=7:=by simpa using h
   rw[if_pos h7];rfl
theorem Pfunction(l:List Rw)(hl:okR l)(at_:Nat)(r:Rw)(hg:l[at_]? = some r):VPure env 56 [sl 100 (l.map Rw.enc),.int .i64 at_] (.str (fnR l (l.length+1) r.parent)):=by
 have hp:=hl.2 at_ r hg
 have ha:=(List.getElem?_eq_some_iff.1 hg).1
 have hln:=hl.1
 refine vpure_vc (fn:=Tryz.f56) Tryz.func56 rfl (by rw[Tryz.ntmps56];simp) (by simp -implicitDefEqProofs only[go_sem];exact rows_pure _) (by simp -implicitDefEqProofs only[go_sem]) ?_
 simp -implicitDefEqProofs only[go_sem,Tryz.f56,rw_getDn hg]
 refine⟨by omega,?_⟩
 refine snd_for (α:=Int×Nat) (fun b=>⟨[(5,.int .i64 b.1),(4,.str ⟨#[]⟩),(0,sl 100 (l.map Rw.enc))],[],[]⟩) (fun b => -1≤b.1∧b.1+1<b.2∧b.1<l.length∧fnR l b.2 b.1=fnR l (l.length+1) r.parent) (fun b=>(b.1+1).toNat) (r.parent,l.length+1) ?_ ⟨hp.1,by simp;omega,by simp;omega,rfl⟩ ?_
 ·simp -implicitDefEqProofs only[go_sem]
 ·rintro⟨p,f⟩ ⟨i1,i2,i3,i4⟩
  simp only at i1 i2 i3 i4
  rw[←i4]
  simp -implicitDefEqProofs only[go_sem]
  obtain⟨f,rfl⟩:∃ f',f=f'+1:=⟨f - 1,by omega⟩
  refine⟨fun h0=>⟨by omega,?_⟩,fun h0=>by rw[fnR,if_pos (by omega)]⟩
  have hq:p.toNat<l.length:=by omega
  have hgq:=List.getElem?_eq_getElem hq
  generalize l[p.toNat]=q at hgq
  have hp2:=hl.2 _ q hgq
  have hpn:((p.toNat:Nat):Int)=p:=by omega
  have hcl:=Pclass l hl p.toNat hq
  rw[hpn]at hcl
  rw[fnR,if_neg (by omega),hgq]
  simp -implicitDefEqProofs only[go_sem,rw_getD' hgq]
  have hcs:∀ c,classR l p.toNat=some c→c.size≤1000000:=fun c hc=>by
   rw[classR,hgq]at hc
   simp only at hc
   split at hc
   ·cases hc
   ·split at hc
    ·cases hc
    ·rename_i q2 hq2
     split at hc
     ·cases hc;exact(hl.2 _ _ hq2).2.2
     ·cases hc
  refine⟨fun h=>?_,fun h=>?_⟩
  ·have h2:¬ q.kind=2:=by simpa using h
   refine⟨by omega,(q.parent,f),by simp only;omega,⟨by simp only;omega,by simp only;omega,by simp only;omega,by rw[if_neg h2]⟩,rfl⟩
  ·have h2:q.kind=2:=by simpa using h
   simp only[h2,if_true]
   cases hc:classR l p.toNat with
   | none =>
    rw[hc]at hcl
    refine hcl.calls (by simp -implicitDefEqProofs only[go_sem]) ?_
    simp -implicitDefEqProofs only[go_sem,encSO,Option.isSome,Option.getD,rw_getD' hgq]
    omega
   | some c =>
    have:=hcs c hc
    rw[hc]at hcl
    refine hcl.calls (by simp -implicitDefEqProofs only[go_sem]) ?_
    simp -implicitDefEqProofs only[go_sem,encSO,Option.isSome,Option.getD,rw_getD' hgq]
    have h1:(ByteArray.mk #[46]).size=1:=rfl
    exact⟨by omega,by omega,by rw[ByteArray.size_append,h1];omega⟩
def kindP(k:Int):Option Int:=if k=2 then some 1 else if k=7 then some 2 else if k=9 then some 3 else if k=4 then some 5 else if k=10 then some 6 else none
def kindsM:VObj := .map [(.int .i64 2,.int .i64 1),(.int .i64 7,.int .i64 2),(.int .i64 9,.int .i64 3),(.int .i64 4,.int .i64 5),(.int .i64 10,.int .i64 6)]
theorem Pkinds(h:List VObj)(a:List Nat)(K:Cont)(hK:K (.map h.length) (h++[kindsM]) a):VCalls env 54 [] h a K:=by
 refine vcalls_vc (fn:=Tryz.f54) Tryz.func54 rfl (by rw[Tryz.ntmps54];simp) ?_
 simp -implicitDefEqProofs only[go_sem,Tryz.f54,Int.reduceBEq]
 exact hK
end Go.Proofs.YtamednbojpnalaaGreatDoor
