import Derived.Test.YtighfcpaplmaiaaGreatDoorTnB
import Derived.Test.YtighfcpaplmaiaaGreatDoorTmL
set_option linter.unusedVariables false
set_option linter.unusedSimpArgs false
namespace Go.Vg
section
variable {a l : List Nat} {k i g g' n m : Nat}
theorem d8e(hk:k<a.length):(a.set k g++l).set k g'=a.set k g'++l:=by rw[List.set_append_left _ _ (by simpa using hk),List.set_set]
theorem f5u:(a.set k g++l)[a.length]? = l[0]?:=by rw[g9c (by simp)];simp
theorem f3x:(a.set k g++l).set a.length n=a.set k g++l.set 0 n:=by rw[g9J _ _ (by simp)];simp
theorem c1e:(a.set k g).length=a.length:=List.length_set
theorem f3P(hk:k<a.length):(a.set k g++l)[k]? = some g:=by rw[g9a (by simpa using hk),g9e hk]
theorem d7o{m:Nat}:(a++l)[a.length+m]? = l[m]?:=by rw[g9c (by omega)];simp
theorem c9u{m:Nat}:(a++l).set (a.length+m) n=a++l.set m n:=by rw[g9J _ _ (by omega)];simp
theorem d9X:(a++l).set a.length n=a++l.set 0 n:=by rw[g9J _ _ (by omega)];simp
theorem b7D:∀ {a l:List Nat},b8q a (a++l)
 | [],l=>by cases l <;> trivial
 | x::r,l=>⟨rfl,b7D⟩
theorem d7m:(l++a).length=l.length+a.length:=g9d
end
end Go.Vg
namespace Go.Proofs.YtighfcpaplmaiaaGreatDoor
open Go Go.Vg Go.Proofs
theorem d9N:(n:Nd)→∀ (h:List VObj) (a:List Nat) (id k gen:Nat) (rs:List Rw) (p:Int),h[id]? = some (.vec k gen 48 (b1r rs))→a[k]? = some gen→0<rs.length→rs.length+(b0o n).length≤1000000 →
  b0r (envV 45) 86 [.vec id k gen rs.length 48,.agg n.enc,.int .i64 p] h a fun v h' a'=>∃ gen' z y,v = .vec id k gen' (rs.length+(b0o n).length) 48 ∧
   h'=h.set id (.vec k gen' 48 (b1r (rs++b0z n p rs.length)))++z∧a'=a.set k gen'++y:=by
 refine Nd.all fun k t g ks ih h a id kk gen rs p hid hak hrs hn=>?_
 have hlt:id<h.length:=(g8Y.1 hid).1
 refine b0A (fn:=Tryz.f86) Tryz.func86 rfl (by rw[Tryz.ntmps86];simp) ?_
 simp -implicitDefEqProofs only[go_sem,Tryz.f86]
 intro hl1
 simp -implicitDefEqProofs only[go_sem,b0K hid,b1h hlt,b4m hlt,b5K hlt,b3C,b1N,b3B,b1P,b1I]
 rw[b0Y]at hn ⊢
 have hkl0:kk<a.length:=(g8Y.1 hak).1
 have hel:=b2w rs
 have e0:∀ kl:List Nat,b1r rs++[[V.int .i64 p,.int .i64 k,.str t,sl 9 (g.map b0p),sl 3 (kl.map b0M)]].flatten=b1r (rs++[⟨p,k,t,g,kl⟩]):=fun kl=>by
  rw[b7e];rfl
 have e1:b1r rs++[[V.int .i64 p,.int .i64 k,.str t,sl 9 (g.map b0p),V.slice .shared 0 []]].flatten=b1r (rs++[⟨p,k,t,g,[]⟩]):=e0 []
 rw[e1]
 refine⟨by simp,⟨hel,by omega⟩,?_⟩
 refine b7n (β:=Nat×List VObj×List Nat) ks (fun pre b=>⟨[(9,.int .i64 pre.length),(8,.slice (.arr a.length) 3 ((b0H pre (rs.length+1)).map b0M)),(7,.int .i64 rs.length),(4,.ptr h.length 0),
    (0,.vec id kk b.1 (rs.length+1+(b0l pre).length) 48)],
   h.set id (.vec kk b.1 48 (b1r (rs++⟨p,k,t,g,[]⟩::b1b pre rs.length (rs.length+1)))) ++ .cells (Nd.mk k t g ks).enc::b.2.1,a.set kk b.1++pre.length::b.2.2⟩)
  (fun _ _ _=>True) (gen+1,[],[]) (fun b=>⟨[(9,.int .i64 ks.length),(8,sl 3 ((b0H ks (rs.length+1)).map b0M)),(7,.int .i64 rs.length),(4,.ptr h.length 0),
    (0,.vec id kk b.1 (rs.length+1+(b0l ks).length) 48)],
   h.set id (.vec kk b.1 48 (b1r (rs++⟨p,k,t,g,[]⟩::b1b ks rs.length (rs.length+1)))) ++ .cells (Nd.mk k t g ks).enc::b.2.1,a.set kk b.1++ks.length::b.2.2⟩) ?_ trivial ?_ ?_ ?_
 ·simp only[b0l,b1b,b0H,g9F,h0h,g9P]
  simp -implicitDefEqProofs only[go_sem,b1I,c1e]
  exact⟨⟨rfl,by omega⟩,b7D⟩
 ·intro b _
  refine c5T.weak ?_
  simp -implicitDefEqProofs only[go_sem,b1I,c1e]
  rw[d7m,c1e]
  omega
 ·intro b _
  simp -implicitDefEqProofs only[go_sem,b0K hid,b1h hlt,b4m hlt,b5K hlt,b3C,b1N,b3B,b1P,b1I,g8V,g8W]
  intro _ _
  have e2:=b2w (rs++(⟨p,k,t,g,[]⟩:Rw)::b1b ks rs.length (rs.length+1))
  refine⟨by omega,by rw[e2];simp;omega,b.1,.cells (Nd.mk k t g ks).enc::b.2.1,ks.length::b.2.2,by congr 1;omega,?_,rfl⟩
  rw[b8i]
  congr 3
  rw[b0z]
  exact b8B rs ⟨p,k,t,g,[]⟩ _ _ rfl
 ·rintro pre x post b rfl _
  have hsz:(b0l (pre++x::post)).length=(b0l pre).length+(b0o x).length+(b0l post).length:=by
   rw[b1n,b0l];simp;omega
  simp -implicitDefEqProofs only[go_sem,b0K hid,b1h hlt,b4m hlt,b5K hlt,b3C,b1N,b3B,b1P,b1I,g8V,g8W,f5u,f3x,c1e]
  intro hb hl hlen
  have hp:=b2p hl
  have hkl:=b0V pre (rs.length+1)
  have hpl:pre.length<(pre++x::post).length:=by simp
  refine⟨by rw[hkl];omega,by rw[hkl],?_⟩
  have e:(rs++(⟨p,k,t,g,[]⟩:Rw)::b1b pre rs.length (rs.length+1)).length=rs.length+1+(b0l pre).length:=by
   simp[b3l];omega
  rw[←e]
  refine b0r.mono (ih x b1w _ _ id kk b.1 (rs++(⟨p,k,t,g,[]⟩:Rw)::b1b pre rs.length (rs.length+1)) rs.length (b4m hlt) (f3P hkl0) (by omega) (by omega)) ?_
  rintro v h' a' ⟨gen',z,y,rfl,rfl,rfl⟩
  simp -implicitDefEqProofs only[go_sem,b0K hid,b1h hlt,b4m hlt,b5K hlt,b3C,b1N,b3B,b1P,b1I,g8V,g8W,f5u,f3x,c1e,d8e hkl0]
  have e2:rs.length+1+(b0l (pre++[x])).length=rs.length+1+(b0l pre).length+(b0o x).length:=by rw[b1u,g9d];omega
  have e3:rs++(⟨p,k,t,g,[]⟩:Rw)::b1b pre rs.length (rs.length+1)++b0z x rs.length (rs.length+1+(b0l pre).length)=rs++⟨p,k,t,g,[]⟩::b1b (pre++[x]) rs.length (rs.length+1):=by
   rw[b4w,g9t,g8X]
  refine⟨(gen',b.2.1++z,b.2.2++y),⟨b0g (by omega),?_,?_⟩,?_⟩
  ·rw[e,b3U,g9I];rfl
  ·rw[e,e2,b6Y];trivial
  ·rw[e,e3,hkl,g9t,g8X]
   refine⟨b0s,by rw[b2h];trivial,by rw[d7m,c1e];omega,.inl ⟨?_,g9m _⟩⟩
   simp only[g9d]
   omega
theorem d4t(h:List VObj)(a:List Nat)(n:Nd)(p:Int)(hn:(b0o n).length≤1000000):b0r (envV 45) 86 [.slice .nil 0 [],.agg n.enc,.int .i64 p] h a fun v h' a'=>∃ gen' y,v = .vec (h.length+1) a.length gen' (b0o n).length 48 ∧
   h'[h.length+1]? = some (.vec a.length gen' 48 (b1r (b0z n p 0)))∧a'=a++gen'::y:=by
 obtain⟨k,t,g,ks⟩:=n
 refine b0A (fn:=Tryz.f86) Tryz.func86 rfl (by rw[Tryz.ntmps86];simp) ?_
 simp -implicitDefEqProofs only[go_sem,Tryz.f86]
 rw[b0Y]at hn ⊢
 have e1:[].flatten++[[V.int .i64 p,.int .i64 k,.str t,sl 9 (g.map b0p),V.slice .shared 0 []]].flatten=b1r [⟨p,k,t,g,[]⟩]:=rfl
 rw[e1]
 refine⟨by simp,?_⟩
 refine b7n (β:=Nat×List VObj×List Nat) ks (fun pre b=>⟨[(9,.int .i64 pre.length),(8,.slice (.arr (a.length+1)) 3 ((b0H pre 1).map b0M)),(7,.int .i64 (0:Nat)),(4,.ptr h.length 0),
    (0,.vec (h.length+1) a.length b.1 (1+(b0l pre).length) 48)],
   h ++ .cells (Nd.mk k t g ks).enc :: .vec a.length b.1 48 (b1r (⟨p,k,t,g,[]⟩::b1b pre 0 1))::b.2.1,a++b.1::pre.length::b.2.2⟩)
  (fun _ _ _=>True) (b8w,[],[]) (fun b=>⟨[(9,.int .i64 ks.length),(8,sl 3 ((b0H ks 1).map b0M)),(7,.int .i64 (0:Nat)),(4,.ptr h.length 0),
    (0,.vec (h.length+1) a.length b.1 (1+(b0l ks).length) 48)],
   h ++ .cells (Nd.mk k t g ks).enc :: .vec a.length b.1 48 (b1r (⟨p,k,t,g,[]⟩::b1b ks 0 1))::b.2.1,a++b.1::ks.length::b.2.2⟩) ?_ trivial ?_ ?_ ?_
 ·simp only[b0l,b1b,b0H,g9F,h0h,g9P]
  simp -implicitDefEqProofs only[go_sem]
  exact⟨⟨rfl,by simp⟩,by rw[show a++[b8w,0]=(a++[b8w])++[0]by simp];exact b7D,by simp,.inl (by simp)⟩
 ·intro b _
  refine c5T.weak ?_
  simp -implicitDefEqProofs only[go_sem]
  simp
 ·intro b _
  simp -implicitDefEqProofs only[go_sem,g8V,g8W]
  intro _ _
  have e2:=b2w ((⟨p,k,t,g,[]⟩:Rw)::b1b ks 0 1)
  refine⟨by omega,by rw[e2];simp;omega,b.1,ks.length::b.2.2,by congr 1;omega,?_,rfl⟩
  refine congrArg (fun x=>some (VObj.vec a.length b.1 48 x)) ?_
  rw[b0z]
  exact b8B [] ⟨p,k,t,g,[]⟩ _ _ rfl
 ·rintro pre x post b rfl _
  have hsz:(b0l (pre++x::post)).length=(b0l pre).length+(b0o x).length+(b0l post).length:=by
   rw[b1n,b0l];simp;omega
  simp -implicitDefEqProofs only[go_sem,g8V,g8W,d7o,c9u]
  intro hb hl hlen
  have hp:=b2p hl
  have hkl:=b0V pre 1
  have hpl:pre.length<(pre++x::post).length:=by simp
  refine⟨by rw[hkl];omega,by rw[hkl],?_⟩
  have e:((⟨p,k,t,g,[]⟩:Rw)::b1b pre 0 1).length=1+(b0l pre).length:=by
   simp[b3l];omega
  rw[←e]
  refine b0r.mono (d9N x _ _ (h.length+1) a.length b.1 ((⟨p,k,t,g,[]⟩:Rw)::b1b pre 0 1) (0:Nat) (by rw[g9c (by omega)];simp) (by rw[g9c (by omega)];simp) (by omega) (by omega)) ?_
  rintro v h' a' ⟨gen',z,y,rfl,rfl,rfl⟩
  simp -implicitDefEqProofs only[go_sem,g8V,g8W,d7o,c9u,d9X]
  have e3:(b1b pre 0 1).length+1=1+(b0l pre).length:=by rw[b3l];omega
  have e2:1+(b0l (pre++[x])).length=1+(b0l pre).length+(b0o x).length:=by rw[b1u,g9d];omega
  refine⟨(gen',b.2.1++z,b.2.2++y),⟨b0g (by omega),?_,?_⟩,⟨?_,b0s⟩,?_,by simp,.inl ⟨?_,?_⟩⟩
  ·rw[e3,b3U,g9I];rfl
  ·rw[e3,e2,b6Y];trivial
  ·rw[e3,b4w,b5V];trivial
  ·rw[hkl,g9t,g8X,g8X,b2h];trivial
  ·simp only[g9d]
   omega
  ·rw[hkl];simp
theorem c5V(n:Nd)(hn:(b0o n).length≤1000000):b0u env 53 [.agg n.enc] (sl 48 ((b0z n (-1) 0).map Rw.enc)):=by
 refine b0u.ofV (tv:=45) ?_
 refine b0i (fn:=Tryz.f53) Tryz.func53 rfl (by rw[Tryz.ntmps53];simp) (by simp -implicitDefEqProofs only[go_sem]) (by simp -implicitDefEqProofs only[go_sem];exact b0X _) ?_
 simp -implicitDefEqProofs only[go_sem,Tryz.f53]
 refine b0r.thawV (b0r.mono (d4t _ _ n (-1) hn) ?_)
 rintro v h' a' ⟨gen',y,rfl,h1,rfl⟩
 have hl:=b0N n (-1) 0
 have hp:0<(b0o n).length:=by cases n;rw[b0Y];omega
 have e:=b2w (b0z n (-1) 0)
 refine⟨_,_,_,_,_,_,rfl,h1,by omega,by simp -implicitDefEqProofs only[go_sem],by simp -implicitDefEqProofs only[go_sem];omega,?_⟩
 simp -implicitDefEqProofs only[go_sem]
 rw[←hl,c9X]
end Go.Proofs.YtighfcpaplmaiaaGreatDoor
namespace Go.Vg
inductive Tr where
 | stop
 | br (i:Nat) (t o:Tr)
def Tr.heads:Tr→List Nat
 | .stop=>[]
 | .br i _ o=>i::o.heads
def Tr.ok(ops:List Oper):Nat→Array Bool→Tr→Bool
 | 0,_,.stop=>true
 | 0,_,.br _ _ _=>false
 | _+1,_,.stop=>true
 | n+1,listed,.br i t o=>Region.ready .any ops.toArray (listed.setIfInBounds i true) == t.heads && t.ok ops n (listed.setIfInBounds i true) && o.ok ops (n+1) listed
def kAt(d:Option Nat)(M:St→Prop)(tm:List (Nat×V)):b1z:=fun v h a=>M (St.put ⟨tm,h,a⟩ d v)
mutual
def f2Q(E:Env)(n:Nat)(ops:List Oper)(cs:List Nat)(Q:St→Prop):Tr→St→Prop
 | .stop,_=>True
 | .br i t o,s=>dAt E n ops cs i (f4H E n ops cs Q t) s∧f2Q E n ops cs Q o s
def f4H(E:Env)(n:Nat)(ops:List Oper)(cs:List Nat)(Q:St→Prop):Tr→St→Prop
 | .stop,s=>Q s
 | .br i t o,s=>dAt E n ops cs i (f4H E n ops cs Q t) s∧f2Q E n ops cs Q o s
end
section
variable {E : Env} {n : Nat} {ops : List Oper} {cs : List Nat} {Q : St → Prop}
def dOf(E:Env)(n:Nat)(ops:List Oper)(c:Bool)(M:St→Prop)(s:St):Option Oper→Prop
 | none=>M s
 | some o=>c2Z n o=true∧∃ b,gst ops n o s.tmps=some b∧(b=true→b1m E c s o.op fun v h a=>M (St.put ⟨s.tmps,h,a⟩ o.dst v))∧(b=false→M (s.put o.dst (.tuple [])))
@[go_sem] theorem g5U{i:Nat}{M:St→Prop}{s:St}:dAt E n ops cs i M s=dOf E n ops (cs.contains i) M s ops[i]?:=by
 unfold dAt dOf
 split <;> rename_i h <;> rw[h]
@[go_sem] theorem f7D{c:Bool}{M:St→Prop}{s:St}{dst:Option Nat}{op:Op}{ty:TypeId}{pos:String}{after:Array Edge} :
  dOf E n ops c M s (some ⟨dst,op,ty,pos,after,none⟩)=(c2Z n ⟨dst,.move (.tmp 0),ty,pos,after,none⟩=true∧b1m E c s op (kAt dst M s.tmps)):=by
 unfold dOf
 apply propext
 constructor
 ·rintro⟨h0,b,hb,h1,_⟩
  have:b=true:=by
   have:gst ops n ⟨dst,op,ty,pos,after,none⟩ s.tmps=some true:=rfl
   rw[this]at hb
   cases hb;rfl
  exact⟨h0,h1 this⟩
 ·rintro⟨h0,h1⟩
  exact⟨h0,true,rfl,fun _=>h1,fun e=>by cases e⟩
@[go_sem] theorem f6Z{M:St→Prop}{tm:List (Nat×V)}{d:Nat}{v:V}{h:List VObj}{a:List Nat}:kAt (some d) M tm v h a=M ⟨(d,v)::tm,h,a⟩:=rfl
@[go_sem] theorem f7P{M:St→Prop}{tm:List (Nat×V)}{v:V}{h:List VObj}{a:List Nat}:kAt none M tm v h a=M ⟨tm,h,a⟩:=rfl
end
inductive Wk where
 | stop
 | one (i:Nat) (t:Wk)
 | br (i:Nat) (t o:Wk)
def Wk.heads:Wk→List Nat
 | .stop=>[]
 | .one _ _=>[]
 | .br i _ o=>i::o.heads
def Wk.ok(ops:List Oper)(cs:List Nat):Bool→Nat→Array Bool→Wk→Bool
 | true,_,l,.stop=>(Region.ready .any ops.toArray l).isEmpty
 | false,_,_,.stop=>true
 | true,f+1,l,.one i t=>(Region.ready .any ops.toArray l).contains i && d4F ops cs l i && t.ok ops cs true f (l.setIfInBounds i true)
 | b,f+1,l,.br i t o=>(!b || Region.ready .any ops.toArray l == i::o.heads) && (Region.ready .any ops.toArray l).contains i && t.ok ops cs true f (l.setIfInBounds i true) && o.ok ops cs false (f+1) l
 | _,_,_,_=>false
def g8z(ops:List Oper)(cs:List Nat)(t:Wk):Bool:=t.ok ops cs true ops.length (Array.replicate ops.length false)
mutual
def b6n(E:Env)(n:Nat)(ops:List Oper)(cs:List Nat)(Q:St→Prop):Wk→St→Prop
 | .stop,_=>True
 | .one _ _,_=>False
 | .br i t o,s=>dAt E n ops cs i (b3J E n ops cs Q t) s∧b6n E n ops cs Q o s
def b3J(E:Env)(n:Nat)(ops:List Oper)(cs:List Nat)(Q:St→Prop):Wk→St→Prop
 | .stop,s=>Q s
 | .one i t,s=>dAt E n ops cs i (b3J E n ops cs Q t) s
 | .br i t o,s=>dAt E n ops cs i (b3J E n ops cs Q t) s∧b6n E n ops cs Q o s
end
theorem c7G{E:Env}{n:Nat}{ops:List Oper}{cs:List Nat}{Q:St→Prop}(hQ:∀ s t,St.eqv s t→Q s→Q t):∀ (t:Wk) (fuel:Nat) (l:Array Bool) (s:St),b9A ops l→l.size=ops.length →
  (t.ok ops cs true fuel l=true→b3J E n ops cs Q t s→c8T E n ops cs Q fuel l s) ∧
  (t.ok ops cs false fuel l=true→b6n E n ops cs Q t s→∀ i∈t.heads,∀ f,fuel=f+1→dAt E n ops cs i (c8T E n ops cs Q f (l.setIfInBounds i true)) s)
 | .stop,fuel,l,s,hcl,hsz=>by
  refine⟨fun hr h=>?_,fun _ _ i hi=>by simp[Wk.heads]at hi⟩
  simp only[Wk.ok,List.isEmpty_iff]at hr
  rw[b3J]at h
  cases fuel with
  | zero=>exact⟨hr,h⟩
  | succ f=>exact⟨fun _=>h,fun i hi=>by rw[hr]at hi;cases hi⟩
 | .one i t,0,l,s,hcl,hsz=>⟨fun h=>by simp[Wk.ok]at h,fun h=>by simp[Wk.ok]at h⟩
 | .br i t o,0,l,s,hcl,hsz=>⟨fun h=>by simp[Wk.ok]at h,fun h=>by simp[Wk.ok]at h⟩
 | .one i t,fuel+1,l,s,hcl,hsz=>by
  refine⟨fun hok h=>?_,fun hok=>by simp[Wk.ok]at hok⟩
  simp only[Wk.ok,g9g]at hok
  obtain⟨⟨hr,ho⟩,hB'⟩:=hok
  have hr':i∈Region.ready .any ops.toArray l:=by simpa using hr
  rw[b3J]at h
  unfold d4F at ho
  cases hk:ops[i]? with
  | none=>rw[hk]at ho;cases ho
  | some ok =>
   rw[hk]at ho
   simp only[List.all_eq_true,List.mem_range]at ho
   refine first hQ hk fuel l s hcl hsz (fun j oj hj hjk hun hno=>?_) hr' (b3Z h fun u hu=>(c7G hQ t fuel _ u (b5W hcl hr') (by simpa using hsz)).1 hB' hu)
   have:=ho j (g8Y.1 hj).1
   simp only[hj,h0p,beq_iff_eq,hjk,false_or,hun,g9n,hno,g9g]at this
   exact this
 | .br i t o,f+1,l,s,hcl,hsz=>by
  have key:∀ b,(Wk.br i t o).ok ops cs b (f+1) l=true→dAt E n ops cs i (b3J E n ops cs Q t) s→b6n E n ops cs Q o s→∀ j∈Wk.heads (.br i t o),dAt E n ops cs j (c8T E n ops cs Q f (l.setIfInBounds j true)) s:=by
   intro b hok ha hb j hj
   have hok':((Region.ready .any ops.toArray l).contains i=true∧t.ok ops cs true f (l.setIfInBounds i true)=true)∧o.ok ops cs false (f+1) l=true:=by
    cases b <;> simp only[Wk.ok,g9g]at hok
    ·exact⟨⟨hok.1.1.2,hok.1.2⟩,hok.2⟩
    ·exact⟨⟨hok.1.1.2,hok.1.2⟩,hok.2⟩
   obtain⟨⟨hr,ht⟩,ho⟩:=hok'
   have hr':i∈Region.ready .any ops.toArray l:=by simpa using hr
   rcases g9y.1 hj with e | e
   ·subst e
    exact b3Z ha fun s' hs'=>(c7G hQ t f _ s' (b5W hcl hr') (by simpa using hsz)).1 ht hs'
   ·exact(c7G hQ o (f+1) l s hcl hsz).2 ho hb j e f rfl
  refine⟨fun hok h=>?_,fun hok h j hj g hg=>?_⟩
  ·rw[b3J]at h
   have hh:Region.ready .any ops.toArray l=i::o.heads:=by
    simp only[Wk.ok,g9g,Bool.not_true,g9U,beq_iff_eq]at hok
    exact hok.1.1.1
   refine⟨fun e=>(by rw[hh]at e;cases e),fun j hj=>?_⟩
   rw[hh]at hj
   exact key true hok h.1 h.2 j hj
  ·rw[b6n]at h
   cases hg
   exact key false hok h.1 h.2 j hj
theorem b7E{E:Env}{n:Nat}{ops:List Oper}{cs:List Nat}{Q R:St→Prop}(hQ:∀ s,Q s→R s):∀ (t:Wk) (s:St),(b3J E n ops cs Q t s→b3J E n ops cs R t s)∧(b6n E n ops cs Q t s→b6n E n ops cs R t s)
 | .stop,s=>by simp only[b3J,b6n];exact⟨hQ s,fun h=>h⟩
 | .one i t,s=>by
  simp only[b3J,b6n]
  exact⟨fun h=>b3Z h fun u hu=>(b7E hQ t u).1 hu,fun h=>h⟩
 | .br i t o,s=>by
  simp only[b3J,b6n]
  exact⟨fun h=>⟨b3Z h.1 fun u hu=>(b7E hQ t u).1 hu,(b7E hQ o s).2 h.2⟩,fun h=>⟨b3Z h.1 fun u hu=>(b7E hQ t u).1 hu,(b7E hQ o s).2 h.2⟩⟩
theorem b1g{E:Env}{n:Nat}{ops:List Oper}{cs:List Nat}{hb ab:Nat}{s:St}{Q:VEx→St→Prop}{id:Nat}(t:Wk)(hm:E.P.follows .mixedOrders=true)(hB:g8z ops cs t=true)
  (h:b3J E n ops cs (Q .normal) t s):Snd E hb ab n (.region id ops.toArray true) s Q:=by
 intro B G a w h1 h2 h3 h4
 have h5:Rel E G s B.w0 n a { w with drawn:=w.drawn+1 }:=⟨h4.rw.drew _,h4.rt,h4.df⟩
 refine wp_region_any hm ?_
 have hany:=(c7G (E:=E) (n:=n) (cs:=cs) (Q:=fun s=>∃ t,St.eqv t s∧Q .normal t) (fun s t he ⟨u,hu,hq⟩=>⟨u,⟨fun i=>(hu.1 i).trans (he.1 i),hu.2.1.trans he.2.1,hu.2.2.trans he.2.2⟩,hq⟩) t ops.length (Array.replicate ops.length false) s
  (fun j o ho hj=>by
   have:(Array.replicate ops.length false).getD j false=false:=by simp[h0r,Array.getElem?_replicate];split <;> rfl
   rw[this]at hj;cases hj) (by simp)).1 hB ((b7E (fun u hu=>⟨u,.refl _,hu⟩) t s).1 h)
 have:=b4x (w0:=B.w0) (QQ:=f0s E n B Q) ops.length _ s G a _ h5 hany (fun s' G' a' w' ⟨t,ht,hq⟩ q2 q3 => .inl ⟨.normal,t,G',rfl,hq,by rw[ht.2.2];exact h3.trans q2,⟨by rw[ht.2.1,ht.2.2];exact q3.rw,⟨fun i=>by
   show RV _ _ _ (b1S t.tmps i) _
   rw[ht.1 i,ht.2.2];exact q3.rt.tm i,q3.rt.sz⟩,q3.df⟩⟩)
  fun ch a' w' q1 q2 => .inr ⟨ch,rfl,q1,q2.ext h3⟩
 simpa using this
section
variable {E : Env} {n : Nat} {ops : List Oper} {cs : List Nat} {Q : St → Prop}
@[go_sem] theorem f1S{s:St}:b3J E n ops cs Q .stop s=Q s:=by rw[b3J]
@[go_sem] theorem f1v{s:St}:b6n E n ops cs Q .stop s=True:=by rw[b6n]
@[go_sem] theorem f2L{i:Nat}{t:Wk}{s:St}:b3J E n ops cs Q (.one i t) s=dAt E n ops cs i (b3J E n ops cs Q t) s:=by rw[b3J]
@[go_sem] theorem f6U{i:Nat}{t o:Wk}{s:St}:b3J E n ops cs Q (.br i t o) s=(dAt E n ops cs i (b3J E n ops cs Q t) s∧b6n E n ops cs Q o s):=by rw[b3J]
@[go_sem] theorem f8r{i:Nat}{t o:Wk}{s:St}:b6n E n ops cs Q (.br i t o) s=(dAt E n ops cs i (b3J E n ops cs Q t) s∧b6n E n ops cs Q o s):=by rw[b6n]
end
def dGd(E:Env)(c:Bool)(M:St→Prop)(s:St)(dst:Option Nat)(op:Op)(want:Bool)(x:V):Prop:=match x with
 | .bool b=>(b=want→b1m E c s op (kAt dst M s.tmps))∧(b = !want→M (s.put dst (.tuple [])))
 | .tuple []=>M (s.put dst (.tuple []))
 | _=>False
def dGo(E:Env)(n:Nat)(c:Bool)(M:St→Prop)(s:St)(dst:Option Nat)(op:Op)(want:Bool)(o:Option Nat):Prop:=match o with
 | some d=>d<n∧dGd E c M s dst op want (b1S s.tmps d)
 | none=>False
section
variable {E : Env} {n : Nat} {ops : List Oper} {c : Bool} {M : St → Prop} {s : St} {dst : Option Nat} {op : Op} {want : Bool}
@[go_sem] theorem f3N{j:Nat}{ty:TypeId}{pos:String}{after:Array Edge} :
  dOf E n ops c M s (some ⟨dst,op,ty,pos,after,some (j,want)⟩)=(c2Z n ⟨dst,.move (.tmp 0),ty,pos,after,none⟩=true∧dGo E n c M s dst op want (b5M ops j)):=by
 unfold dOf dGo
 have hd:c2Z n ⟨dst,op,ty,pos,after,some (j,want)⟩=c2Z n ⟨dst,.move (.tmp 0),ty,pos,after,none⟩:=rfl
 simp only[hd,gst]
 congr 1
 cases hj:b5M ops j with
 | none=>simp
 | some d =>
  simp only
  by_cases hdn:d<n
  ·simp only[hdn,if_true,true_and]
   unfold dGd
   generalize b1S s.tmps d=x
   cases x
   case bool b =>
    apply propext
    constructor
    ·rintro⟨q,h1,h2,h3⟩
     simp only[Option.some.injEq]at h1
     refine⟨fun e=>h2 (by rw[←h1,e];simp),fun e=>h3 (by rw[←h1,e];cases want <;> rfl)⟩
    ·rintro⟨h1,h2⟩
     refine⟨_,rfl,fun e=>h1 (by simpa using e),fun e=>h2 (by cases b <;> cases want <;> simp_all)⟩
   case tuple vs =>
    cases vs with
    | nil=>simp
    | cons=>simp
   all_goals simp
  ·simp[hdn]
@[go_sem] theorem f8B{d:Nat}:dGo E n c M s dst op want (some d)=(d<n∧dGd E c M s dst op want (b1S s.tmps d)):=rfl
@[go_sem] theorem g4s:dGd E c M s dst op true (.bool true)=b1m E c s op (kAt dst M s.tmps):=by simp[dGd]
@[go_sem] theorem g4x{tm:List (Nat×V)}{h:List VObj}{a:List Nat}:dGd E c M ⟨tm,h,a⟩ dst op true (.bool false)=kAt dst M tm (.tuple []) h a:=by simp[dGd,kAt]
end
structure Dl where
 kind:Int
 owner:ByteArray
 name:ByteArray
 unit:Int
 node:Int
def Dl.enc(d:Dl):List V:=[.int .i64 d.kind,.str d.owner,.str d.name,.int .i64 d.unit,.int .i64 d.node]
def Dl.zero:Dl:=⟨0,⟨#[]⟩,⟨#[]⟩,0,0⟩
@[go_sem] theorem g4I(d:Dl):d.enc.length=5:=rfl
@[go_sem] theorem f9Z(d:Dl):List.take 5 d.enc=d.enc:=rfl
@[go_sem] theorem f6l(d:Dl):List.map share1 d.enc=d.enc:=rfl
@[go_sem] theorem g2J(d:Dl):d.enc.all V.cell=true:=rfl
@[go_sem] theorem f0f(d:Dl):b1a d.enc=true:=rfl
@[go_sem] theorem g2l(d:Dl){K:V→Prop}:vHead d.enc K=K (.int .i64 d.kind):=rfl
@[go_sem] theorem g8i(d:Dl):List.drop 1 d.enc=[.str d.owner,.str d.name,.int .i64 d.unit,.int .i64 d.node]:=rfl
@[go_sem] theorem g8s(d:Dl):List.drop 2 d.enc=[.str d.name,.int .i64 d.unit,.int .i64 d.node]:=rfl
@[go_sem] theorem g7T(d:Dl):List.drop 3 d.enc=[.int .i64 d.unit,.int .i64 d.node]:=rfl
@[go_sem] theorem g8K(d:Dl):List.drop 4 d.enc=[.int .i64 d.node]:=rfl
theorem b0G:∀ l:List Dl,b0R (l.map Dl.enc)=true
 | []=>rfl
 | x::r=>by simp only[g9o,b0R,b0G r,h0b,f0f]
structure Ar where
 fn:ByteArray
 cls:ByteArray
 method:Bool
def Ar.enc(x:Ar):List V:=[.str x.fn,.str x.cls,.bool x.method]
@[go_sem] theorem g5J(d:Ar):d.enc.length=3:=rfl
@[go_sem] theorem g0v(d:Ar):List.take 3 d.enc=d.enc:=rfl
def b2S(k:Int)(t:ByteArray)(u m:Int)(x:Ar):Option Dl :=
 if k=2 then some (if x.method=true then⟨4,x.cls,t,u,m⟩else⟨1,⟨#[]⟩,t,u,m⟩)
 else if k=7 then some ⟨2,⟨#[]⟩,t,u,m⟩
 else if k=9 then some ⟨3,⟨#[]⟩,t,u,m⟩
 else if k=4 then some ⟨5,x.fn,t,u,m⟩
 else if k=10 then some ⟨6,x.fn,t,u,m⟩
 else none
def b4e(k:Int)(t:ByteArray)(x:Ar):Ar :=
 ⟨if k=2 then(if x.method=true then x.cls++⟨#[46]⟩++t else t)else x.fn,t,decide (k=7)⟩
mutual
def b1J:Nd→Int→Nat→Ar→List Dl
 | .mk k t g ks,u,m,x=>(b2S k t u m x).toList++b0Z ks u (m+1) (b4e k t x)
def b0Z:List Nd→Int→Nat→Ar→List Dl
 | [],_,_,_=>[]
 | y::r,u,m,x=>b1J y u m x++b0Z r u (m+(b0o y).length) x
end
theorem b6x(y:Nd)(u:Int)(x:Ar):∀ (pre:List Nd) m,b0Z (pre++[y]) u m x=b0Z pre u m x++b1J y u (m+(b0l pre).length) x
 | [],m=>by simp[b0Z,b0l]
 | z::r,m=>by
  simp only[g8X,b0Z,b6x y u x r,b0l,g9d,g9t]
  rw[h0n]
mutual
theorem b8V:∀ (n:Nd) u m x,(b1J n u m x).length≤(b0o n).length
 | .mk k t g ks,u,m,x=>by
  have:=b5X ks u (m+1) (b4e k t x)
  rw[b1J,b0Y,g9d]
  have:(b2S k t u m x).toList.length≤1:=by cases b2S k t u m x <;> simp
  omega
theorem b5X:∀ (l:List Nd) u m x,(b0Z l u m x).length≤(b0l l).length
 | [],_,_,_=>g9m _
 | y::r,u,m,x=>by
  have h1:=b8V y u m x
  have h2:=b5X r u (m+(b0o y).length) x
  rw[b0Z,b0l,g9d,g9d];omega
end
def b8Y(n:Nd):Prop:=∀ x∈b0o n,x.text.size≤1000000
theorem b7h{k t g}{ks:List Nd}{x:Nd}(h:b8Y (.mk k t g ks))(hx:x∈ks):b8Y x:=by
 intro y hy
 refine h y ?_
 rw[b0o]
 refine List.mem_cons_of_mem _ ?_
 clear h
 induction ks with
 | nil=>cases hx
 | cons z r ih =>
  rw[b0l]
  rcases g9y.1 hx with rfl | hx
  ·exact g9Z _ hy
  ·exact h0f _ (ih hx)
theorem c1z{k t g}{ks:List Nd}(h:b8Y (.mk k t g ks)):t.size≤1000000:=h (.mk k t g ks) (by rw[b0o];exact List.mem_cons_self ..)
def Ar.ok(x:Ar):Prop:=x.cls.size≤1000000
theorem d1Z{k t g}{ks:List Nd}{x:Ar}(h:b8Y (.mk k t g ks)):(b4e k t x).ok:=c1z h
end Go.Vg
namespace Go.Proofs.YtighfcpaplmaiaaGreatDoor
open Go Go.Vg Go.Proofs
theorem d9t(n:Nd)(u m:Int)(x:Ar):b0u env 138 [.agg n.enc,.agg [.int .i64 u,.int .i64 m],.agg x.enc]
  (.tuple [.agg ((b2S n.kind n.text u m x).getD Dl.zero).enc,.bool (b2S n.kind n.text u m x).isSome]):=by
 obtain⟨k,t,g,ks⟩:=n
 refine b0i (fn:=Tryz.f138) Tryz.func138 rfl (by rw[Tryz.ntmps138];simp) (by simp -implicitDefEqProofs only[go_sem,Ar.enc]) (by simp -implicitDefEqProofs only[go_sem]) ?_
 simp -implicitDefEqProofs only[go_sem,Tryz.f138,Ar.enc]
 simp only[Nd.kind,Nd.text,b2S]
 repeat' (first | apply And.intro | intro)
 all_goals(simp_all [Dl.enc,Dl.zero];done)
theorem d5v(n:Nd)(x:Ar)(hx:x.ok)(ht:n.text.size≤1000000):b0u env 139 [.agg n.enc,.agg x.enc] (.agg (b4e n.kind n.text x).enc):=by
 obtain⟨k,t,g,ks⟩:=n
 refine b0i (fn:=Tryz.f139) Tryz.func139 rfl (by rw[Tryz.ntmps139];simp) (by simp -implicitDefEqProofs only[go_sem,Ar.enc]) (by simp -implicitDefEqProofs only[go_sem,Ar.enc]) ?_
 simp -implicitDefEqProofs only[go_sem,Tryz.f139,Ar.enc]
 simp only[Nd.kind,Nd.text,b4e]at ht ⊢
 unfold Ar.ok at hx
 have h1:(ByteArray.mk #[46]).size=1:=rfl
 refine⟨fun h=>⟨fun hb=>⟨by omega,by rw[ByteArray.size_append,h1];omega,?_⟩,fun hb=>?_⟩,fun h=>?_⟩ <;> simp_all <;> (try rfl)
theorem b8C{α:Type}{a b:List α}:(a++b).length=a.length+b.length:=g9d
def c7k:Wk := .one 0 (.one 1 (.one 2 (.one 3 (.one 4 (.one 5 (.one 6 (.one 7 (.br 8 (.one 9 (.one 10 (.one 11 (.one 12 (.one 13 (.one 14 .stop)))))) (.br 12 (.one 8 (.one 9 (.one 10 (.one 11 (.one 13 (.one 14 .stop)))))) .stop)))))))))
theorem d8N:(n:Nd)→∀ (h:List VObj) (a:List Nat) (kk:Nat) (es:List Dl) (u:Int) (m:Nat) (x:Ar),a[kk]? = some es.length→es.length+(b0o n).length≤1000000→m+(b0o n).length≤1000000→b8Y n→x.ok →
  b0r env 85 [.slice (.arr kk) 54 (es.map Dl.enc),.agg n.enc,.agg [.int .i64 u,.int .i64 m],.agg x.enc] h a fun v h' a' =>
   v = .tuple [.slice (.arr kk) 54 ((es++b1J n u m x).map Dl.enc),.agg [.int .i64 u,.int .i64 (m+(b0o n).length:Nat)]]∧(∃ z,h'=h++z)∧a'=a.set kk (es.length+(b1J n u m x).length):=by
 refine Nd.all fun k t g ks ih h a kk es u m x ha hn hm hs hx=>?_
 refine b0A (fn:=Tryz.f85) Tryz.func85 rfl (by rw[Tryz.ntmps85];simp) ?_
 simp -implicitDefEqProofs only[go_sem,Tryz.f85,Ar.enc]
 have ht:=c1z hs
 rw[b0Y]at hn hm ⊢
 have hbl:b0u env 139 [.agg (Nd.mk k t g ks).enc,.agg x.enc] (.agg (b4e k t x).enc):=d5v (.mk k t g ks) x hx ht
 have hdl:=d9t (.mk k t g ks) u m x
 simp only[Nd.kind,Nd.text]at hdl
 rw[b1J]
 have hbk:=d1Z (x:=x) hs
 generalize b4e k t x=y at hbl hbk ⊢
 generalize b2S k t u m x=o at hdl ⊢
 have ha2:a.set kk es.length=a:=by
  apply List.ext_getElem?
  intro i
  by_cases hi:kk=i
  ·subst hi;rw[g9e (g8Y.1 ha).1,ha]
  ·rw[g9i hi]
 refine hdl.calls (by simp -implicitDefEqProofs only[go_sem,Ar.enc]) ?_
 simp -implicitDefEqProofs only[go_sem,Option.isSome,Ar.enc]
 cases o with
 | none =>
  simp only[g9u,Option.toList,g9M]
  simp -implicitDefEqProofs only[go_sem]
  refine hbl.calls (by simp -implicitDefEqProofs only[go_sem,Ar.enc]) ?_
  simp -implicitDefEqProofs only[go_sem,Ar.enc]
  refine b0n (β:=List VObj) ks (fun pre z=>⟨[(15,.int .i64 pre.length),(14,.ptr (h.length+6) 0),(13,.ptr (h.length+5) 0),(10,.slice (.arr kk) 54 ((es++b0Z pre u (m+1) y).map Dl.enc)),(9,.ptr (h.length+3) 0),(8,.slice .nil 0 []),(5,.ptr h.length 0)],
    h ++ .cells (Nd.mk k t g ks).enc :: .dead :: .dead :: .cells [.int .i64 0,.int .i64 0] :: .dead :: .cells y.enc :: .cells [.int .i64 u,.int .i64 (m+1+(b0l pre).length:Nat)]::z,a.set kk (es++b0Z pre u (m+1) y).length⟩)
   (fun _ _ _=>True) [] ?_ trivial ?_ ?_
  ·simp only[b0Z,b0l,g9F,h0h,g9B]
   simp -implicitDefEqProofs only[go_sem,Ar.enc,g9I]
   exact⟨rfl,Vg.wrap_small (by omega) (by omega),by rw[ha2,b2h];trivial⟩
  ·intro z _
   simp -implicitDefEqProofs only[go_sem,g8V,g8W]
   intro _ _
   refine b0h (cs:=[]) b0v (by kernel_rfl) ?_
   simp -implicitDefEqProofs only[go_sem,g8V,g8W]
   exact⟨by rw[show m+1+(b0l ks).length=m+((b0l ks).length+1)by omega],⟨_,rfl⟩,by rw[g9d]⟩
  ·rintro pre w post z rfl _
   have hsz:(b0l (pre++w::post)).length=(b0l pre).length+(b0o w).length+(b0l post).length:=by
    rw[b1n,b0l];simp;omega
   have hwl:=b5X pre u (m+1) y
   simp -implicitDefEqProofs only[go_sem,g8V,g8W]
   intro hb hl
   have hp:=b2p hl
   have hel:(es++b0Z pre u (m+1) y).length+(b0o w).length≤1000000:=by simp at hn ⊢;omega
   refine b1g (cs:=[8]) c7k b0v (by kernel_rfl) ?_
   simp -implicitDefEqProofs only[go_sem,c7k,g8V,g8W]
   have e1:(b0l (pre++[w])).length=(b0l pre).length+(b0o w).length:=by rw[b1u,g9d]
   have e2:(es++b0Z pre u (m+1) y)++b1J w u (m+1+(b0l pre).length) y=es++b0Z (pre++[w]) u (m+1) y:=by rw[b6x,g9t]
   refine⟨?_,?_⟩
   ·refine b0r.mono (ih w b1w _ _ kk (es++b0Z pre u (m+1) y) u (m+1+(b0l pre).length) y (c1L ha) hel (by omega) (b7h hs b1w) hbk) ?_
    rintro v h' a' ⟨rfl,⟨z',rfl⟩,rfl⟩
    simp -implicitDefEqProofs only[go_sem,g8V,g8W]
    exact⟨_,⟨b0g (by omega),by rw[e2]⟩,⟨by rw[e1];omega,b0s⟩,by rw[←b8C,e2,b2h];trivial,.inl (by simp only[g9d,g9k,g9F];omega)⟩
   ·refine b0r.mono (ih w b1w _ _ kk (es++b0Z pre u (m+1) y) u (m+1+(b0l pre).length) y (c1L ha) hel (by omega) (b7h hs b1w) hbk) ?_
    rintro v h' a' ⟨rfl,⟨z',rfl⟩,rfl⟩
    simp -implicitDefEqProofs only[go_sem,g8V,g8W]
    exact⟨_,⟨b0g (by omega),by rw[e2]⟩,⟨by rw[e1];omega,b0s⟩,by rw[←b8C,e2,b2h];trivial,.inl (by simp only[g9d,g9k,g9F];omega)⟩
 | some d =>
  simp only[g9H,g9w,Option.toList]
  simp -implicitDefEqProofs only[go_sem]
  refine⟨by omega,ha,?_⟩
  refine hbl.calls (by simp -implicitDefEqProofs only[go_sem,Ar.enc]) ?_
  simp -implicitDefEqProofs only[go_sem,Ar.enc]
  refine b0n (β:=List VObj) ks (fun pre z=>⟨[(15,.int .i64 pre.length),(14,.ptr (h.length+6) 0),(13,.ptr (h.length+5) 0),(10,.slice (.arr kk) 54 (((es++[d])++b0Z pre u (m+1) y).map Dl.enc)),(9,.ptr (h.length+3) 0),(8,.slice .nil 0 []),(5,.ptr h.length 0)],
    h ++ .cells (Nd.mk k t g ks).enc :: .dead :: .dead :: .cells [.int .i64 0,.int .i64 0] :: .dead :: .cells y.enc :: .cells [.int .i64 u,.int .i64 (m+1+(b0l pre).length:Nat)]::z,a.set kk ((es++[d])++b0Z pre u (m+1) y).length⟩)
   (fun _ _ _=>True) [] ?_ trivial ?_ ?_
  ·simp only[b0Z,b0l,g9F,h0h,g9B]
   simp -implicitDefEqProofs only[go_sem,Ar.enc,g9I]
   exact⟨rfl,Vg.wrap_small (by omega) (by omega)⟩
  ·intro z _
   simp -implicitDefEqProofs only[go_sem,g8V,g8W]
   intro _ _
   refine b0h (cs:=[]) b0v (by kernel_rfl) ?_
   simp -implicitDefEqProofs only[go_sem,g8V,g8W]
   exact⟨by rw[show m+1+(b0l ks).length=m+((b0l ks).length+1)by omega,g9t];rfl,⟨_,rfl⟩,by rw[g9d,g9d];congr 1;simp;omega⟩
  ·rintro pre w post z rfl _
   have hsz:(b0l (pre++w::post)).length=(b0l pre).length+(b0o w).length+(b0l post).length:=by
    rw[b1n,b0l];simp;omega
   have hwl:=b5X pre u (m+1) y
   simp -implicitDefEqProofs only[go_sem,g8V,g8W]
   intro hb hl
   have hp:=b2p hl
   have hel:((es++[d])++b0Z pre u (m+1) y).length+(b0o w).length≤1000000:=by simp at hn ⊢;omega
   refine b1g (cs:=[8]) c7k b0v (by kernel_rfl) ?_
   simp -implicitDefEqProofs only[go_sem,c7k,g8V,g8W]
   have e1:(b0l (pre++[w])).length=(b0l pre).length+(b0o w).length:=by rw[b1u,g9d]
   have e2:((es++[d])++b0Z pre u (m+1) y)++b1J w u (m+1+(b0l pre).length) y=(es++[d])++b0Z (pre++[w]) u (m+1) y:=by rw[b6x,g9t]
   refine⟨?_,?_⟩
   ·refine b0r.mono (ih w b1w _ _ kk ((es++[d])++b0Z pre u (m+1) y) u (m+1+(b0l pre).length) y (c1L ha) hel (by omega) (b7h hs b1w) hbk) ?_
    rintro v h' a' ⟨rfl,⟨z',rfl⟩,rfl⟩
    simp -implicitDefEqProofs only[go_sem,g8V,g8W]
    exact⟨_,⟨b0g (by omega),by rw[e2]⟩,⟨by rw[e1];omega,b0s⟩,by rw[←b8C,e2,b2h];trivial,.inl (by simp only[g9d,g9k,g9F];omega)⟩
   ·refine b0r.mono (ih w b1w _ _ kk ((es++[d])++b0Z pre u (m+1) y) u (m+1+(b0l pre).length) y (c1L ha) hel (by omega) (b7h hs b1w) hbk) ?_
    rintro v h' a' ⟨rfl,⟨z',rfl⟩,rfl⟩
    simp -implicitDefEqProofs only[go_sem,g8V,g8W]
    exact⟨_,⟨b0g (by omega),by rw[e2]⟩,⟨by rw[e1];omega,b0s⟩,by rw[←b8C,e2,b2h];trivial,.inl (by simp only[g9d,g9k,g9F];omega)⟩
end Go.Proofs.YtighfcpaplmaiaaGreatDoor
namespace Go.Vg
structure Un where
 path:ByteArray
 text:ByteArray
 tree:Nd
 broken:Bool
def Un.enc(x:Un):List V:=[.str x.path,.str x.text]++x.tree.enc++[.bool x.broken]
@[go_sem] theorem d6Q(d:Un):d.enc.length=7:=by simp[Un.enc,b3s]
@[go_sem] theorem f9e(d:Un):List.take 7 d.enc=d.enc:=by rw[List.take_of_length_le (by rw[d6Q];exact g9m _)]
@[go_sem] theorem f8h(d:Un):List.map share1 d.enc=d.enc:=by simp only[Un.enc,g9I,d0L];rfl
@[go_sem] theorem f9T(d:Un):d.enc.all V.cell=true:=by simp only[Un.enc,List.all_append,d5y];rfl
@[go_sem] theorem d9y(d:Un):b1a d.enc=true:=by
 obtain⟨p,t,⟨k,x,g,ks⟩,b⟩:=d
 simp -implicitDefEqProofs only[Un.enc,Nd.enc,g8X,g9M,b1a,V.pure,g9O,go_sem]
@[go_sem] theorem f8w(d:Un):List.drop 6 d.enc=[.bool d.broken]:=by
 obtain⟨p,t,⟨k,x,g,ks⟩,b⟩:=d;rfl
@[go_sem] theorem f3B(d:Un):(List.drop 2 d.enc).length=5:=by rw[h0e,d6Q]
@[go_sem] theorem f6J(d:Un):List.take 4 (List.drop 2 d.enc)=d.tree.enc:=by
 obtain⟨p,t,⟨k,x,g,ks⟩,b⟩:=d;rfl
@[go_sem] theorem f3T(d:Un){K:V→Prop}:vHead (List.drop 2 d.enc) K=K (.int .i64 d.tree.kind):=by
 obtain⟨p,t,⟨k,x,g,ks⟩,b⟩:=d;rfl
theorem b0x:∀ l:List Un,b0R (l.map Un.enc)=true
 | []=>rfl
 | x::r=>by simp only[g9o,b0R,b0x r,h0b,d9y]
def Ar.none:Ar:=⟨⟨#[]⟩,⟨#[]⟩,false⟩
def b0f:List Un→Nat→List Dl
 | [],_=>[]
 | x::r,i=>(if x.broken=true then []else b1J x.tree i 0 Ar.none)++b0f r (i+1)
theorem c0o(x:Un):∀ (pre:List Un) i,b0f (pre++[x]) i=b0f pre i++(if x.broken=true then []else b1J x.tree (i+pre.length:Nat) 0 Ar.none)
 | [],i=>by simp[b0f]
 | y::r,i=>by
  simp only[g8X,b0f,c0o x r,g9t,g9k]
  rw[show i+1+r.length=i+(r.length+1)by omega]
def b2T(u:List Un):Prop:=u.length≤1000∧∀ x∈u,(b0o x.tree).length≤1000∧b8Y x.tree
theorem b0L:∀ (u:List Un) i,(∀ x∈u,(b0o x.tree).length≤1000)→(b0f u i).length≤u.length * 1000
 | [],_,_=>by simp[b0f]
 | x::r,i,h=>by
  have h1:=b0L r (i+1) fun y hy=>h y (by simp[hy])
  have h2:=b8V x.tree i 0 Ar.none
  have h3:=h x (by simp)
  rw[b0f,g9d,g9k]
  have h4:(if x.broken=true then []else b1J x.tree i 0 Ar.none).length≤1000:=by
   by_cases hb:x.broken=true
   ·rw[if_pos hb,g9F];omega
   ·rw[if_neg hb];omega
  omega
end Go.Vg
namespace Go.Proofs.YtighfcpaplmaiaaGreatDoor
open Go Go.Vg Go.Proofs
theorem b6P(u:List Un)(hu:b2T u):b0u env 52 [sl 70 (u.map Un.enc)] (sl 54 ((b0f u 0).map Dl.enc)):=by
 refine b0i (fn:=Tryz.f52) Tryz.func52 rfl (by rw[Tryz.ntmps52];simp) (by simp -implicitDefEqProofs only[go_sem];exact b0x _) (by simp -implicitDefEqProofs only[go_sem];exact b0G _) ?_
 simp -implicitDefEqProofs only[go_sem,Tryz.f52]
 have hul:=hu.1
 refine b0n (β:=Unit) u (fun pre _=>⟨[(4,.int .i64 pre.length),(3,.slice (.arr 0) 54 ((b0f pre 0).map Dl.enc)),(2,.slice .nil 0 []),(0,sl 70 (u.map Un.enc))],[],[(b0f pre 0).length]⟩)
  (fun _ _ _=>True) () ?_ trivial ?_ ?_
 ·simp only[b0f]
  simp -implicitDefEqProofs only[go_sem]
  rfl
 ·intro _ _
  simp -implicitDefEqProofs only[go_sem]
 ·rintro pre x post _ rfl _
  have hx:=hu.2 x b1w
  have hpl:(pre++x::post).length=pre.length+1+post.length:=by simp;omega
  have hdl:=b0L pre 0 fun y hy=>(hu.2 y (by simp[hy])).1
  have hsn:=c0o x pre 0
  simp -implicitDefEqProofs only[go_sem]
  intro hb hl
  refine⟨fun hbr=>?_,fun hbr=>?_⟩
  ·have hbf:x.broken=false:=by simpa using hbr
   rw[hbf]at hsn
   simp only[g9n,if_false,g9s]at hsn
   refine b0r.mono (d8N x.tree [] [(b0f pre 0).length] 0 (b0f pre 0) pre.length 0 Ar.none rfl (by omega) (by omega) hx.2 (Nat.zero_le _)) ?_
   rintro v h' a' ⟨rfl,⟨z,rfl⟩,rfl⟩
   simp -implicitDefEqProofs only[go_sem]
   exact⟨(),⟨b0g (by omega),by rw[hsn]⟩,by rw[hsn,g9d],.inr (by rw[b0m _ _ _ (b0G _),b0m _ _ _ (b0x _)];rfl)⟩
  ·have hbt:x.broken=true:=by simpa using hbr
   rw[hbt]at hsn
   simp only[if_true,g9B]at hsn
   exact⟨(),⟨b0g (by omega),by rw[hsn]⟩,by rw[hsn]⟩
def c4I(l:List Dl)(kind:Int)(owner name:ByteArray):Option Dl:=l.find? fun d=>decide (d.kind=kind) && decide (d.owner=owner) && decide (d.name=name)
def b2s(o:Option Dl):V := .tuple [.agg (o.getD Dl.zero).enc,.bool o.isSome]
end Go.Proofs.YtighfcpaplmaiaaGreatDoor
namespace Go.Vg
@[go_sem] theorem g6k(d:Rw):d.enc.length=5:=rfl
@[go_sem] theorem g2i(d:Rw):List.take 5 d.enc=d.enc:=rfl
@[go_sem] theorem g0h(d:Rw){K:V→Prop}:vHead d.enc K=K (.int .i64 d.parent):=rfl
@[go_sem] theorem g7N(d:Rw):List.drop 1 d.enc=[.int .i64 d.kind,.str d.text,sl 9 (d.gaps.map b0p),sl 3 (d.kids.map b0M)]:=rfl
@[go_sem] theorem g8a(d:Rw):List.drop 2 d.enc=[.str d.text,sl 9 (d.gaps.map b0p),sl 3 (d.kids.map b0M)]:=rfl
@[go_sem] theorem g8h(d:Rw):List.drop 4 d.enc=[sl 3 (d.kids.map b0M)]:=rfl
@[go_sem] theorem g2N(d:Rw):d.enc.all V.cell=true:=rfl
theorem c1W{l:List Rw}{i:Nat}{r:Rw}(h:l[i]? = some r):(l.map Rw.enc).getD i []=r.enc:=by
 rw[g8Z,g9q,h];rfl
theorem b8D{l:List Rw}{i:Int}{r:Rw}(h:l[i.toNat]? = some r):(l.map Rw.enc).getD i.toNat []=r.enc:=c1W h
theorem b6M{l:List Rw}{i:Nat}{r:Rw}(h:l[i]? = some r):(l.map Rw.enc).getD (i:Int).toNat []=r.enc:=c1W h
def okR(l:List Rw):Prop:=l.length≤1000000∧∀ (i:Nat) r,l[i]? = some r → -1≤r.parent∧r.parent<i∧r.text.size≤1000000
def b3x(l:List Rw)(at_:Nat):Option ByteArray:=match l[at_]? with
 | none=>none
 | some r=>if r.parent<0 then none else match l[r.parent.toNat]? with
  | none=>none
  | some q=>if q.kind=7 then some q.text else none
def fnR(l:List Rw):Nat→Int→ByteArray
 | 0,_=>⟨#[]⟩
 | f+1,p=>if p<0 then⟨#[]⟩else match l[p.toNat]? with
  | none=>⟨#[]⟩
  | some r=>if r.kind=2 then(match b3x l p.toNat with | some c=>c++⟨#[46]⟩++r.text | none=>r.text)else fnR l f r.parent
end Go.Vg
namespace Go.Proofs.YtighfcpaplmaiaaGreatDoor
open Go Go.Vg Go.Proofs
def b8o(o:Option ByteArray):V := .tuple [.str (o.getD ⟨#[]⟩),.bool o.isSome]
theorem d6A(l:List Rw)(hl:okR l)(at_:Nat)(ha:at_<l.length):b0u env 56 [sl 48 (l.map Rw.enc),.int .i64 at_] (b8o (b3x l at_)):=by
 have hg:=g9b ha
 generalize l[at_]=r at hg
 have hp:=hl.2 at_ r hg
 have hln:=hl.1
 refine b0i (fn:=Tryz.f56) Tryz.func56 rfl (by rw[Tryz.ntmps56];simp) (by simp -implicitDefEqProofs only[go_sem];exact b0X _) (by simp -implicitDefEqProofs only[go_sem,b8o]) ?_
 simp -implicitDefEqProofs only[go_sem,Tryz.f56,b6M hg]
 refine⟨by omega,?_⟩
 by_cases h0:r.parent<0
 ·have:b3x l at_=none:=by rw[b3x,hg];simp[h0]
  rw[this]
  exact⟨fun h=>absurd h0 h,fun _=>rfl⟩
 ·have hq:r.parent.toNat<l.length:=by omega
  have hgq:=g9b hq
  generalize l[r.parent.toNat]=q at hgq
  have hp2:=hl.2 _ q hgq
  have:b3x l at_=if q.kind=7 then some q.text else none:=by rw[b3x,hg];simp[h0,hgq]
  rw[this]
  refine⟨fun _=>?_,fun h=>absurd h h0⟩
  simp -implicitDefEqProofs only[go_sem,b8D hgq,b6M hg]
  refine⟨by omega,fun h=>?_,fun h=>⟨by omega,?_⟩⟩
  ·have h7:¬ q.kind=7:=by simpa using h
   rw[if_neg h7];rfl
  ·have h7:q.kind=7:=by simpa using h
   rw[if_pos h7];rfl
theorem d2J(l:List Rw)(hl:okR l)(at_:Nat)(r:Rw)(hg:l[at_]? = some r):b0u env 57 [sl 48 (l.map Rw.enc),.int .i64 at_] (.str (fnR l (l.length+1) r.parent)):=by
 have hp:=hl.2 at_ r hg
 have ha:=(g8Y.1 hg).1
 have hln:=hl.1
 refine b0i (fn:=Tryz.f57) Tryz.func57 rfl (by rw[Tryz.ntmps57];simp) (by simp -implicitDefEqProofs only[go_sem];exact b0X _) (by simp -implicitDefEqProofs only[go_sem]) ?_
 simp -implicitDefEqProofs only[go_sem,Tryz.f57,b6M hg]
 refine⟨by omega,?_⟩
 refine b1A (α:=Int×Nat) (fun b=>⟨[(5,.int .i64 b.1),(4,.str ⟨#[]⟩),(0,sl 48 (l.map Rw.enc))],[],[]⟩) (fun b => -1≤b.1∧b.1+1<b.2∧b.1<l.length∧fnR l b.2 b.1=fnR l (l.length+1) r.parent) (fun b=>(b.1+1).toNat) (r.parent,l.length+1) ?_ ⟨hp.1,by simp;omega,by simp;omega,rfl⟩ ?_
 ·simp -implicitDefEqProofs only[go_sem]
 ·rintro⟨p,f⟩ ⟨i1,i2,i3,i4⟩
  simp only at i1 i2 i3 i4
  rw[←i4]
  simp -implicitDefEqProofs only[go_sem]
  obtain⟨f,rfl⟩:∃ f',f=f'+1:=⟨f - 1,by omega⟩
  refine⟨fun h0=>⟨by omega,?_⟩,fun h0=>by rw[fnR,if_pos (by omega)]⟩
  have hq:p.toNat<l.length:=by omega
  have hgq:=g9b hq
  generalize l[p.toNat]=q at hgq
  have hp2:=hl.2 _ q hgq
  have hpn:((p.toNat:Nat):Int)=p:=by omega
  have hcl:=d6A l hl p.toNat hq
  rw[hpn]at hcl
  rw[fnR,if_neg (by omega),hgq]
  simp -implicitDefEqProofs only[go_sem,b8D hgq]
  have hcs:∀ c,b3x l p.toNat=some c→c.size≤1000000:=fun c hc=>by
   rw[b3x,hgq]at hc
   simp only at hc
   split at hc
   ·cases hc
   ·split at hc
    ·cases hc
    ·rename_i q2 hq2
     split at hc
     ·cases hc;exact(hl.2 _ _ hq2).2.2
     ·cases hc
  refine⟨fun h=>?_,fun h=>?_⟩
  ·have h2:¬ q.kind=2:=by simpa using h
   refine⟨by omega,(q.parent,f),by simp only;omega,⟨by simp only;omega,by simp only;omega,by simp only;omega,by rw[if_neg h2]⟩,rfl⟩
  ·have h2:q.kind=2:=by simpa using h
   simp only[h2,if_true]
   cases hc:b3x l p.toNat with
   | none =>
    rw[hc]at hcl
    refine hcl.calls (by simp -implicitDefEqProofs only[go_sem]) ?_
    simp -implicitDefEqProofs only[go_sem,b8o,Option.isSome,Option.getD,b8D hgq]
    omega
   | some c =>
    have:=hcs c hc
    rw[hc]at hcl
    refine hcl.calls (by simp -implicitDefEqProofs only[go_sem]) ?_
    simp -implicitDefEqProofs only[go_sem,b8o,Option.isSome,Option.getD,b8D hgq]
    have h1:(ByteArray.mk #[46]).size=1:=rfl
    exact⟨by omega,by omega,by rw[ByteArray.size_append,h1];omega⟩
def b5l(k:Int):Option Int:=if k=2 then some 1 else if k=7 then some 2 else if k=9 then some 3 else if k=4 then some 5 else if k=10 then some 6 else none
def b7W:VObj := .map [(.int .i64 2,.int .i64 1),(.int .i64 7,.int .i64 2),(.int .i64 9,.int .i64 3),(.int .i64 4,.int .i64 5),(.int .i64 10,.int .i64 6)]
theorem f4p(h:List VObj)(a:List Nat)(K:b1z)(hK:K (.map h.length) (h++[b7W]) a):b0r env 55 [] h a K:=by
 refine b0A (fn:=Tryz.f55) Tryz.func55 rfl (by rw[Tryz.ntmps55];simp) ?_
 simp -implicitDefEqProofs only[go_sem,Tryz.f55,Int.reduceBEq]
 exact hK
end Go.Proofs.YtighfcpaplmaiaaGreatDoor
