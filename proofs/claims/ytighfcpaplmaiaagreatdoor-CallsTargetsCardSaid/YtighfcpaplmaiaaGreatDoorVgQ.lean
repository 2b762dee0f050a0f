import Derived.Test.YtighfcpaplmaiaaGreatDoorVgM
set_option linter.unusedVariables false
set_option linter.unusedSimpArgs false
namespace Go.Vg
open Go.RowKit
def St.eqv(s t:St):Prop:=(∀ i,b1S s.tmps i=b1S t.tmps i)∧s.heap=t.heap∧s.arr=t.arr
theorem St.eqv.refl(s:St):s.eqv s:=⟨fun _=>rfl,rfl,rfl⟩
theorem St.eqv.put{s t:St}(h:s.eqv t)(d:Option Nat)(x:V):(s.put d x).eqv (t.put d x):=by
 cases d with
 | none=>exact h
 | some d=>exact⟨fun i=>by simp only[St.put,b1S];rw[h.1 i],h.2.1,h.2.2⟩
theorem c6h(s:St){x y:Option Nat}(v u:V)(h:∀ d,x=some d→y≠some d):((s.put x v).put y u).eqv ((s.put y u).put x v):=by
 cases x with
 | none=>cases y <;> exact .refl _
 | some d =>
  cases y with
  | none=>exact .refl _
  | some e =>
   refine⟨fun i=>?_,rfl,rfl⟩
   simp only[St.put,b1S]
   by_cases h1:i=e
   ·by_cases h2:i=d
    ·exact absurd (by rw[←h1,←h2]) (h d rfl)
    ·rw[if_pos h1,if_neg h2,if_pos h1]
   ·rw[if_neg h1,if_neg h1]
theorem f3s{E:Env}{tm tm':List (Nat×V)}(h:∀ i,b1S tm i=b1S tm' i)(x:Operand):ev E tm x=ev E tm' x:=by
 cases x <;> first | exact h _ | rfl
def gst(ops:List Oper)(n:Nat)(o:Oper)(tm:List (Nat×V)):Option Bool :=
 match o.guard with
 | none=>some true
 | some (g,want)=>match b5M ops g with
  | some d=>if d<n then(match b1S tm d with | .bool b=>some (b == want) | .tuple []=>some false | _=>none)else none
  | none=>none
def dAt(E:Env)(n:Nat)(ops:List Oper)(cs:List Nat)(i:Nat)(K:St→Prop)(s:St):Prop :=
 match ops[i]? with
 | none=>K s
 | some o=>c2Z n o=true∧∃ b,gst ops n o s.tmps=some b∧(b=true→b1m E (cs.contains i) s o.op fun v h a=>K (St.put ⟨s.tmps,h,a⟩ o.dst v))∧(b=false→K (s.put o.dst (.tuple [])))
section
variable {E : Env} {n : Nat} {ops : List Oper} {cs : List Nat}
theorem b3Z{i:Nat}{K K':St→Prop}{s:St}(h:dAt E n ops cs i K s)(hk:∀ s,K s→K' s):dAt E n ops cs i K' s:=by
 unfold dAt at *
 split
 ·rename_i ho;rw[ho]at h;exact hk _ h
 ·rename_i o ho
  rw[ho]at h
  obtain⟨h0,b,h1,h2,h3⟩:=h
  exact⟨h0,b,h1,fun e=>b2t (h2 e) fun _ _ _=>hk _,fun e=>hk _ (h3 e)⟩
theorem b9x{o:Oper}{tm tm':List (Nat×V)}(h:∀ d∈o.looksAt ops.toArray,b1S tm d=b1S tm' d):gst ops n o tm=gst ops n o tm':=by
 unfold gst
 cases hg:o.guard with
 | none=>rfl
 | some p =>
  obtain⟨g,want⟩:=p
  simp only
  cases hd:b5M ops g with
  | none=>rfl
  | some d =>
   simp only
   have:b1S tm d=b1S tm' d:=by
    refine h d ?_
    unfold Oper.looksAt
    rw[hg]
    refine g9A.2 (.inr ?_)
    unfold b5M at hd
    cases ho:ops[g]? with
    | none=>rw[ho]at hd;cases hd
    | some og=>rw[ho]at hd;simp only at hd;simp[ho,hd]
   rw[this]
theorem c7s{o:Oper}{tm tm':List (Nat×V)}(h:∀ d∈o.looksAt ops.toArray,b1S tm d=b1S tm' d):∀ x∈o.op.operands,ev E tm x=ev E tm' x:=by
 intro x hx
 cases x with
 | tmp t =>
  refine h t ?_
  unfold Oper.looksAt
  refine g9A.2 (.inl (List.mem_filterMap.2 ⟨.tmp t,by simpa using hx,rfl⟩))
 | _=>rfl
theorem c2F{i:Nat}{K:St→Prop}{s t:St}(hk:∀ s t,St.eqv s t→K s→K t)(hst:s.eqv t)(h:dAt E n ops cs i K s):dAt E n ops cs i K t:=by
 unfold dAt at *
 split
 ·rename_i ho;rw[ho]at h;exact hk _ _ hst h
 ·rename_i o ho
  rw[ho]at h
  obtain⟨h0,b,h1,h2,h3⟩:=h
  obtain⟨tm,hp,a⟩:=s
  obtain⟨tm',hp',a'⟩:=t
  obtain⟨e1,e2,e3⟩:=hst
  simp only at e1 e2 e3
  subst e2 e3
  refine⟨h0,b,by rw[←h1];exact b9x fun d _=>(e1 d).symm,fun e=>?_,fun e=>hk _ _ (St.eqv.put (s:=⟨tm,hp,a⟩) (t:=⟨tm',hp,a⟩) ⟨e1,rfl,rfl⟩ _ _) (h3 e)⟩
  refine b7R (tm:=tm) (fun x _=>f3s e1 x) (b2t (h2 e) fun v h a hv=>hk _ _ (St.eqv.put (s:=⟨tm,h,a⟩) (t:=⟨tm',h,a⟩) ⟨e1,rfl,rfl⟩ _ _) hv)
def c3q(cs:List Nat)(ops:List Oper)(i j:Nat):Bool :=
 match ops[i]?,ops[j]? with
 | some x,some y=>match cls (cs.contains i) x.op,cls (cs.contains j) y.op with
  | .still,_=>true
  | .read,.still | .read,.read=>true
  | .read,.deff=>g3H y.op
  | .deff,.still=>true
  | _,_=>false
 | _,_=>false
theorem b8O{s:St}{d:Option Nat}{x:V}{i:Nat}(h:d≠some i):b1S (s.put d x).tmps i=b1S s.tmps i:=by
 cases d with
 | none=>rfl
 | some d=>simp only[St.put,b1S];rw[if_neg (fun e=>h (by rw[e]))]
theorem swap{i j:Nat}{oi oj:Oper}(hi:ops[i]? = some oi)(hj:ops[j]? = some oj)(hap:oi.apart ops.toArray oj=true)(hc:c3q cs ops i j=true){W:St→Prop}(hW:∀ s t,St.eqv s t→W s→W t){s:St}
  (h:dAt E n ops cs i (dAt E n ops cs j W) s):dAt E n ops cs j (dAt E n ops cs i W) s:=by
 obtain⟨a1,a2,a3⟩:=Oper.apart_spec hap
 -- j sees nothing of i's slot,nor i of j's
 have seej:∀ (tm:List (Nat×V)) (hp:List VObj) (ar:List Nat) v,∀ d∈oj.looksAt ops.toArray,b1S (St.put ⟨tm,hp,ar⟩ oi.dst v).tmps d=b1S tm d:=fun tm hp ar v d hd=>b8O (s:=⟨tm,hp,ar⟩) fun e=>a1 d e hd
 have seei:∀ (tm:List (Nat×V)) (hp:List VObj) (ar:List Nat) v,∀ d∈oi.looksAt ops.toArray,b1S (St.put ⟨tm,hp,ar⟩ oj.dst v).tmps d=b1S tm d:=fun tm hp ar v d hd=>b8O (s:=⟨tm,hp,ar⟩) fun e=>a3 d e hd
 obtain⟨tm,hp,ar⟩:=s
 simp only[dAt,hi]at h
 obtain⟨h0,b,h1,h2,h3⟩:=h
 -- the way back for i: from a state after j
 have goi:∀ (u:V) (h':List VObj) (a':List Nat),(b=true→b1m E (cs.contains i) ⟨tm,h',a'⟩ oi.op fun v h2 a2=>W ((St.put ⟨tm,h2,a2⟩ oi.dst v).put oj.dst u)) →
   (b=false→W ((St.put ⟨tm,h',a'⟩ oi.dst (.tuple [])).put oj.dst u))→dAt E n ops cs i W (St.put ⟨tm,h',a'⟩ oj.dst u):=by
  intro u h' a' g1 g2
  simp only[dAt,hi]
  refine⟨h0,b,by rw[←h1];exact b9x (seei tm h' a' u),fun e=>?_,fun e=>hW _ _ (c6h _ _ _ a2) (g2 e)⟩
  have:=b7R (E:=E) (tm':=(St.put ⟨tm,h',a'⟩ oj.dst u).tmps) (c7s (ops:=ops) fun d hd=>(seei tm h' a' u d hd).symm) (g1 e)
  have e2:∀ h2 a2,(⟨(St.put ⟨tm,h',a'⟩ oj.dst u).tmps,h2,a2⟩:St)=St.put ⟨tm,h2,a2⟩ oj.dst u:=fun h2 a2=>by cases oj.dst <;> rfl
  rw[e2]at this
  have e3:(⟨(St.put ⟨tm,h',a'⟩ oj.dst u).tmps,(St.put ⟨tm,h',a'⟩ oj.dst u).heap,(St.put ⟨tm,h',a'⟩ oj.dst u).arr⟩:St)=St.put ⟨tm,h',a'⟩ oj.dst u:=by cases oj.dst <;> rfl
  refine b2t this fun v h2 a2' hv=>?_
  rw[e2]
  exact hW _ _ (c6h _ _ _ a2) hv
 -- j's own part,in a state from b2u i
 have goj:∀ (v:V) (h':List VObj) (a':List Nat) (W':V→List VObj→List Nat→Prop) (W0:Prop),dAt E n ops cs j W (St.put ⟨tm,h',a'⟩ oi.dst v) →
   c2Z n oj=true∧∃ b',gst ops n oj tm=some b'∧(b'=true→b1m E (cs.contains j) ⟨tm,h',a'⟩ oj.op fun u h2 a2=>W ((St.put ⟨tm,h2,a2⟩ oi.dst v).put oj.dst u)) ∧
    (b'=false→W ((St.put ⟨tm,h',a'⟩ oi.dst v).put oj.dst (.tuple []))):=by
  intro v h' a' W' W0 hd
  simp only[dAt,hj]at hd
  obtain⟨g0,b',g1,g2,g3⟩:=hd
  refine⟨g0,b',by rw[←g1];exact(b9x (seej tm h' a' v)).symm,fun e=>?_,g3⟩
  have e2:∀ h2 a2,(⟨(St.put ⟨tm,h',a'⟩ oi.dst v).tmps,h2,a2⟩:St)=St.put ⟨tm,h2,a2⟩ oi.dst v:=fun h2 a2=>by cases oi.dst <;> rfl
  have:=g2 e
  rw[show St.put ⟨tm,h',a'⟩ oi.dst v=⟨(St.put ⟨tm,h',a'⟩ oi.dst v).tmps,h',a'⟩from(e2 h' a').symm]at this
  refine b7R (c7s (ops:=ops) (seej tm h' a' v)) (b2t this fun u h2 a2' hu=>?_)
  rw[e2]at hu
  exact hu
 -- the two cases of i
 have fin:∀ (g:c2Z n oj=true∧∃ b',gst ops n oj tm=some b' ∧
   (b'=true→b1m E (cs.contains j) ⟨tm,hp,ar⟩ oj.op fun u h2 a2=>dAt E n ops cs i W (St.put ⟨tm,h2,a2⟩ oj.dst u))∧(b'=false→dAt E n ops cs i W (St.put ⟨tm,hp,ar⟩ oj.dst (.tuple [])))),
   dAt E n ops cs j (dAt E n ops cs i W) ⟨tm,hp,ar⟩:=by
  intro g
  simp only[dAt,hj]
  exact g
 cases hb:b with
 | false =>
  have hd:=h3 hb
  obtain⟨g0,b',g1,g2,g3⟩:=goj (.tuple []) hp ar (fun _ _ _=>True) True hd
  exact fin ⟨g0,b',g1,fun e=>b2t (g2 e) fun u h2 a2' hu=>goi u h2 a2' (fun e=>by rw[hb]at e;cases e) fun _=>hu,fun e=>goi (.tuple []) hp ar (fun e=>by rw[hb]at e;cases e) fun _=>g3 e⟩
 | true =>
  have hv:=h2 hb
  unfold c3q at hc
  rw[hi,hj]at hc
  simp only at hc
  cases hci:cls (cs.contains i) oi.op with
  | still =>
   obtain⟨v,k1,k2⟩:=b4G hci hv
   obtain⟨g0,b',g1,g2,g3⟩:=goj v hp ar (fun _ _ _=>True) True k1
   exact fin ⟨g0,b',g1,fun e=>b2t (g2 e) fun u h2 a2' hu=>goi u h2 a2' (fun _=>k2 _ _ _ hu) (fun e=>by rw[hb]at e;cases e),
    fun e=>goi (.tuple []) hp ar (fun _=>k2 _ _ _ (g3 e)) (fun e=>by rw[hb]at e;cases e)⟩
  | read =>
   obtain⟨v,k1,k3⟩:=c8E hci hv
   have k2:∀ K',K' v hp ar→b1m E (cs.contains i) ⟨tm,hp,ar⟩ oi.op K':=fun K' hk=>by
    have:=k3 [] K'
    rw[g9B]at this
    exact this hk
   obtain⟨g0,b',g1,g2,g3⟩:=goj v hp ar (fun _ _ _=>True) True k1
   refine fin ⟨g0,b',g1,fun e=>?_,fun e=>goi (.tuple []) hp ar (fun _=>k2 _ (g3 e)) (fun e=>by rw[hb]at e;cases e)⟩
   rw[hci]at hc
   cases hcj:cls (cs.contains j) oj.op with
   | still =>
    obtain⟨u,m1,m2⟩:=b4G hcj (g2 e)
    exact m2 _ _ _ (goi u hp ar (fun _=>k2 _ m1) (fun e=>by rw[hb]at e;cases e))
   | read =>
    obtain⟨u,m1,m2⟩:=b9I hcj (g2 e)
    exact m2 _ (goi u hp ar (fun _=>k2 _ m1) (fun e=>by rw[hb]at e;cases e))
   | deff =>
    rw[hcj]at hc
    obtain⟨u,x,m1,m2⟩:=d4Z hc (g2 e)
    exact m2 _ (goi u (hp++[x]) ar (fun _=>k3 _ _ m1) (fun e=>by rw[hb]at e;cases e))
   | ceff=>rw[hcj]at hc;cases hc
  | deff =>
   rw[hci]at hc
   obtain⟨v,h',a',k1,k2⟩:=b9u hci hv
   obtain⟨g0,b',g1,g2,g3⟩:=goj v h' a' (fun _ _ _=>True) True k1
   cases hcj:cls (cs.contains j) oj.op with
   | still =>
    refine fin ⟨g0,b',g1,fun e=>?_,fun e=>goi (.tuple []) hp ar (fun _=>k2 _ (g3 e)) (fun e=>by rw[hb]at e;cases e)⟩
    obtain⟨u,m1,m2⟩:=b4G hcj (g2 e)
    exact m2 _ _ _ (goi u hp ar (fun _=>k2 _ m1) (fun e=>by rw[hb]at e;cases e))
   | read=>rw[hcj]at hc;cases hc
   | deff=>rw[hcj]at hc;cases hc
   | ceff=>rw[hcj]at hc;cases hc
  | ceff =>
   rw[hci]at hc
   cases hcj:cls (cs.contains j) oj.op <;> rw[hcj]at hc <;> cases hc
def c8T(E:Env)(n:Nat)(ops:List Oper)(cs:List Nat)(Q:St→Prop):Nat→Array Bool→St→Prop
 | 0,listed,s=>Region.ready .any ops.toArray listed=[]∧Q s
 | fuel+1,listed,s=>(Region.ready .any ops.toArray listed=[]→Q s)∧∀ i∈Region.ready .any ops.toArray listed,dAt E n ops cs i (c8T E n ops cs Q fuel (listed.setIfInBounds i true)) s
theorem c6J{Q:St→Prop}(hQ:∀ s t,St.eqv s t→Q s→Q t):∀ (fuel:Nat) (listed:Array Bool) (s t:St),s.eqv t→c8T E n ops cs Q fuel listed s→c8T E n ops cs Q fuel listed t
 | 0,_,s,t,he,h=>⟨h.1,hQ s t he h.2⟩
 | fuel+1,listed,s,t,he,h=>⟨fun h0=>hQ s t he (h.1 h0),fun i hi=>c2F (c6J hQ fuel _) he (h.2 i hi)⟩
def c5b(ops:List Oper):Nat→Nat→Nat→Bool
 | 0,_,_=>false
 | fuel+1,j,i=>match ops[j]? with
  | some o=>o.after.any fun e=>Region.binds .any e && (e.on == i || c5b ops fuel e.on i)
  | none=>false
def b9A(ops:List Oper)(listed:Array Bool):Prop:=∀ j o,ops[j]? = some o→listed.getD j false=true→∀ e∈o.after,Region.binds .any e=true→listed.getD e.on false=true
theorem b8T{listed:Array Bool}(hc:b9A ops listed){i:Nat}(hi:listed.getD i false=false):∀ (fuel j:Nat) o,ops[j]? = some o→(∀ e∈o.after,Region.binds .any e=true→listed.getD e.on false=true)→c5b ops fuel j i=false
 | 0,_,_,_,_=>rfl
 | fuel+1,j,o,ho,ha=>by
  cases hw:c5b ops (fuel+1) j i with
  | false=>rfl
  | true =>
   simp only[c5b,ho]at hw
   obtain⟨e,he,hb⟩:=Array.any_eq_true'.1 hw
   simp only[g9g,h0p,beq_iff_eq]at hb
   have hl:=ha e he hb.1
   rcases hb.2 with h1 | h1
   ·rw[h1,hi]at hl;cases hl
   ·cases hoe:ops[e.on]? with
    | none=>cases fuel <;> simp[c5b,hoe]at h1
    | some oe =>
     rw[b8T hc hi fuel e.on oe hoe (hc e.on oe hoe hl)]at h1
     cases h1
def d4F(ops:List Oper)(cs:List Nat)(listed:Array Bool)(i:Nat):Bool :=
 match ops[i]? with
 | none=>false
 | some oi=>(List.range ops.length).all fun j=>j == i || listed.getD j true || c5b ops ops.length j i || match ops[j]? with
   | some oj=>oi.apart ops.toArray oj && c3q cs ops i j
   | none=>true
theorem b5W{listed:Array Bool}{i:Nat}(hc:b9A ops listed)(hr:i∈Region.ready .any ops.toArray listed):b9A ops (listed.setIfInBounds i true):=by
 intro j o ho hj e he hb
 obtain⟨_,oi,hoi,hall⟩:=mem_ready.1 hr
 by_cases hij:i=j
 ·subst hij
  have:oi=o:=by
   have:ops.toArray[i]? = ops[i]?:=by simp
   rw[this,ho]at hoi
   exact(Option.some.inj hoi).symm
  subst this
  exact getD_set_true (hall e he hb)
 ·rw[getD_set_ne false hij]at hj
  exact getD_set_true (hc j o ho hj e he hb)
theorem first{Q:St→Prop}(hQ:∀ s t,St.eqv s t→Q s→Q t){i:Nat}{oi:Oper}(hi:ops[i]? = some oi) :
  ∀ (fuel:Nat) (listed:Array Bool) (s:St),b9A ops listed→listed.size=ops.length →
   (∀ j oj,ops[j]? = some oj→j≠i→listed.getD j true=false→c5b ops ops.length j i=false→oi.apart ops.toArray oj=true∧c3q cs ops i j=true) →
   i∈Region.ready .any ops.toArray listed→dAt E n ops cs i (c8T E n ops cs Q fuel (listed.setIfInBounds i true)) s→c8T E n ops cs Q (fuel+1) listed s:=by
 intro fuel
 induction fuel with
 | zero =>
  intro listed s _ hsz hfree hr H
  refine⟨fun h=>(by rw[h]at hr;cases hr),fun j hj=>?_⟩
  by_cases hji:j=i
  ·subst hji;exact H
  ·exfalso
   -- if j were ready beside i,it would be ready behind i
   have hj':=ready_mono hj hji
   have hsome:∃ t,c8T E n ops cs Q 0 (listed.setIfInBounds i true) t∨True:=⟨s,.inr trivial⟩
   have key:Region.ready .any ops.toArray (listed.setIfInBounds i true)=[]∨True := .inr trivial
   obtain⟨hjun,oj,hoj,hall⟩:=mem_ready.1 hj
   have hoj':ops[j]? = some oj:=by simpa using hoj
   obtain⟨hap,hcp⟩:=hfree j oj hoj' hji hjun (b8T ‹b9A ops listed› (by
    have:=(mem_ready.1 hr).1
    have hlt:i<listed.size:=by rw[hsz];exact(g8Y.1 hi).1
    simp[hlt]at this ⊢;exact this) _ j oj hoj' hall)
   -- H tells of a state in which nothing is ready,unless i is an effectful call
   simp only[dAt,hi]at H
   obtain⟨_,b,_,h2,h3⟩:=H
   have none_:∀ t,c8T E n ops cs Q 0 (listed.setIfInBounds i true) t→False:=fun t ht=>by rw[ht.1]at hj';cases hj'
   cases b with
   | false=>exact none_ _ (h3 rfl)
   | true =>
    have hv:=h2 rfl
    obtain⟨tm,hp,ar⟩:=s
    unfold c3q at hcp
    rw[hi,hoj']at hcp
    simp only at hcp
    cases hci:cls (cs.contains i) oi.op with
    | still=>obtain⟨v,k1,_⟩:=b4G hci hv;exact none_ _ k1
    | read=>obtain⟨v,k1,_⟩:=b9I hci hv;exact none_ _ k1
    | deff=>obtain⟨v,h',a',k1,_⟩:=b9u hci hv;exact none_ _ k1
    | ceff =>
     rw[hci]at hcp
     cases hcj:cls (cs.contains j) oj.op <;> rw[hcj]at hcp <;> cases hcp
 | succ fuel ih =>
  intro listed s hcl hsz hfree hr H
  refine⟨fun h=>(by rw[h]at hr;cases hr),fun j hj=>?_⟩
  by_cases hji:j=i
  ·subst hji;exact H
  ·obtain⟨hjun,oj,hoj,hall⟩:=mem_ready.1 hj
   have hoj':ops[j]? = some oj:=by simpa using hoj
   have hiun:listed.getD i false=false:=by
    have:=(mem_ready.1 hr).1
    have hlt:i<listed.size:=by rw[hsz];exact(g8Y.1 hi).1
    simp[hlt]at this ⊢;exact this
   obtain⟨hap,hcp⟩:=hfree j oj hoj' hji hjun (b8T hcl hiun _ j oj hoj' hall)
   have h1:dAt E n ops cs i (dAt E n ops cs j (c8T E n ops cs Q fuel ((listed.setIfInBounds i true).setIfInBounds j true))) s:=b3Z H fun t ht=>ht.2 j (ready_mono hj hji)
   have h2:=swap hi hoj' hap hcp (c6J hQ fuel _) h1
   refine b3Z h2 fun t ht=>ih (listed.setIfInBounds j true) t (b5W hcl hj) (by simpa using hsz) (fun k ok hk hki hun hno=>hfree k ok hk hki ?_ hno) (ready_mono hr (Ne.symm hji)) ?_
   ·by_cases hjk:j=k
    ·subst hjk;exact hjun
    ·rw[getD_set_ne true hjk]at hun;exact hun
   ·rw[Array.setIfInBounds_comm _ _ hji]
    exact ht
def f1x(E:Env)(n:Nat)(ops:List Oper)(cs:List Nat)(Q:St→Prop):Nat→Nat→St→Prop
 | 0,_,s=>Q s
 | fuel+1,k,s=>dAt E n ops cs k (f1x E n ops cs Q fuel (k+1)) s
def b7m(ops:List Oper)(cs:List Nat):Nat→Nat→Array Bool→Bool
 | 0,_,listed=>(Region.ready .any ops.toArray listed).isEmpty
 | fuel+1,k,listed=>(Region.ready .any ops.toArray listed).contains k && d4F ops cs listed k && b7m ops cs fuel (k+1) (listed.setIfInBounds k true)
def f5G(ops:List Oper)(cs:List Nat):Bool:=b7m ops cs ops.length 0 (Array.replicate ops.length false)
theorem c0J{Q:St→Prop}(hQ:∀ s t,St.eqv s t→Q s→Q t):∀ (fuel k:Nat) (listed:Array Bool) (s:St),b9A ops listed→listed.size=ops.length→b7m ops cs fuel k listed=true →
  f1x E n ops cs Q fuel k s→c8T E n ops cs Q fuel listed s
 | 0,k,listed,s,_,_,hB,h=>⟨by simpa[b7m]using hB,h⟩
 | fuel+1,k,listed,s,hcl,hsz,hB,h=>by
  simp only[b7m,g9g]at hB
  obtain⟨⟨hr,ho⟩,hB'⟩:=hB
  have hr':k∈Region.ready .any ops.toArray listed:=by simpa using hr
  unfold d4F at ho
  cases hk:ops[k]? with
  | none=>rw[hk]at ho;cases ho
  | some ok =>
   rw[hk]at ho
   simp only[List.all_eq_true,List.mem_range]at ho
   refine first hQ hk fuel listed s hcl hsz (fun j oj hj hjk hun hno=>?_) hr' (b3Z h fun t ht=>c0J hQ fuel (k+1) _ t (b5W hcl hr') (by simpa using hsz) hB' ht)
   have:=ho j (g8Y.1 hj).1
   simp only[hj,h0p,beq_iff_eq,hjk,false_or,hun,g9n,hno,g9g]at this
   exact this
theorem b4x{Q:St→Prop}{w0:Base}{QQ:Exit→Act→World→Prop}:∀ (fuel:Nat) (listed:Array Bool) (s:St) (G:Gh) (a:Act) (w:World),Rel E G s w0 n a w→c8T E n ops cs Q fuel listed s →
  (∀ s' G' a' w',Q s'→Ext G s.arr G' s'.arr→Rel E G' s' w0 n a' w'→QQ .normal a' w')→(∀ ch a' w',a'.defers=w0.dfs→d6p E G s.arr w0 ch w'→QQ (.panic ch) a' w')→wpAny E.P .any ops.toArray QQ fuel listed a w
 | 0,listed,s,G,a,w,hr,h,hq,_=>⟨h.1,hq s G a w h.2 (Ext.refl _ _) hr⟩
 | fuel+1,listed,s,G,a,w,hr,h,hq,hdi=>by
  refine⟨fun h0=>hq s G a w (h.1 h0) (Ext.refl _ _) hr,fun i hi=>?_⟩
  have hd:=h.2 i hi
  unfold dAt at hd
  unfold wpOp
  have e:ops.toArray[i]? = ops[i]?:=by simp
  rw[e]
  cases ho:ops[i]? with
  | none =>
   rw[ho]at hd
   exact b4x fuel _ s G a w hr hd hq hdi
  | some o =>
   rw[ho]at hd
   obtain⟨h0,b,h1,h2,h3⟩:=hd
   have hw:Region.wanted o (yielded ops.toArray a.tmps)=b:=by
    unfold gst at h1
    cases hg:o.guard with
    | none=>rw[hg]at h1;simp only[Option.some.injEq]at h1;subst h1;unfold Region.wanted;rw[hg]
    | some p =>
     obtain⟨g,want⟩:=p
     rw[hg]at h1
     simp only at h1
     split at h1
     ·rename_i d hd
      split at h1
      ·split at h1
       ·rename_i bb hbb
        simp only[Option.some.injEq]at h1
        rw[←h1]
        exact c4q hr.rt hg hd hbb
       ·rename_i hbb
        simp only[Option.some.injEq]at h1
        rw[←h1]
        exact b8l hr.rt hg hd (by assumption) hbb
       ·cases h1
      ·cases h1
     ·cases h1
   simp only[hw]
   cases b with
   | true =>
    rw[if_pos rfl]
    refine .inl ((d2n hr.rw hr.rt (d3O (h2 rfl))).wp (fun ch w' hh=>hdi ch a w' hr.df hh) fun v val heap' arr' G' w' g1 g2 g3 g4=>?_)
    exact b4x fuel _ _ G' _ w' (Rel.put hr.rt hr.df h0 g2 g3 g4) g1 (fun s' G'' a' w'' q1 q2 q3=>hq s' G'' a' w'' q1 (g2.trans (by simpa using q2)) q3)
     fun ch a' w'' q1 q2=>hdi ch a' w'' q1 (q2.ext (by simpa using g2))
   | false =>
    rw[if_neg (by simp)]
    exact b4x fuel _ _ G _ w (Rel.put (o:=o) (v := .tuple []) (val:=undef) hr.rt hr.df h0 (Ext.refl _ _) hr.rw RV.undef) (h3 rfl) (fun s' G'' a' w'' q1 q2 q3=>hq s' G'' a' w'' q1 (by simpa using q2) q3)
     fun ch a' w'' q1 q2=>hdi ch a' w'' q1 (by simpa using q2)
def b6H(E:Env)(n:Nat)(ops:List Oper)(cs:List Nat):Nat→List Oper→St→(St→Prop)→Prop
 | _,[],s,Q=>Q s
 | k,o::r,s,Q=>c2Z n o=true∧match o.guard with
  | none=>b1m E (cs.contains k) s o.op fun v heap' arr'=>b6H E n ops cs (k+1) r (St.put ⟨s.tmps,heap',arr'⟩ o.dst v) Q
  | some (j,want)=>match b5M ops j with
   | some d=>d<n∧match b1S s.tmps d with
    | .bool b=>(b=want→b1m E (cs.contains k) ⟨(d,.bool want)::s.tmps,s.heap,s.arr⟩ o.op fun v heap' arr'=>b6H E n ops cs (k+1) r (St.put ⟨(d,.bool want)::s.tmps,heap',arr'⟩ o.dst v) Q) ∧
      (b = !want→b6H E n ops cs (k+1) r (St.put ⟨(d,.bool (!want))::s.tmps,s.heap,s.arr⟩ o.dst (.tuple [])) Q)
    | .tuple []=>b6H E n ops cs (k+1) r (s.put o.dst (.tuple [])) Q
    | _=>False
   | none=>False
theorem c4f{s:St}{d:Nat}{x:V}(h:b1S s.tmps d=x):St.eqv ⟨(d,x)::s.tmps,s.heap,s.arr⟩ s:=by
 refine⟨fun i=>?_,rfl,rfl⟩
 simp only[b1S]
 split
 ·rename_i e;subst e;exact h.symm
 ·rfl
theorem f4c{Q:St→Prop}(hQ:∀ s t,St.eqv s t→Q s→Q t):∀ (l:List Oper) (k:Nat) (s:St),(∀ j,l[j]? = ops[k+j]?)→b6H E n ops cs k l s Q→f1x E n ops cs Q l.length k s:=by
 intro l
 induction l with
 | nil=>intro k s _ h;exact h
 | cons o l ih =>
  intro k s hl h
  obtain⟨hd,hg⟩:=h
  have h0:ops[k]? = some o:=by have:=hl 0;simp at this;exact this.symm
  have hl':∀ j,l[j]? = ops[k+1+j]?:=fun j=>by have:=hl (j+1);simpa[h0n,Nat.add_comm 1 j]using this
  have heq:∀ (fuel k:Nat) (s t:St),St.eqv s t→f1x E n ops cs Q fuel k s→f1x E n ops cs Q fuel k t:=by
   intro fuel
   induction fuel with
   | zero=>intro k s t he h;exact hQ s t he h
   | succ fuel ihf=>intro k s t he h;exact c2F (ihf (k+1)) he h
  simp only[g9k,f1x]
  cases hgu:o.guard with
  | none =>
   rw[hgu]at hg
   simp only[dAt,h0]
   exact⟨hd,true,by unfold gst;rw[hgu],fun _=>b2t hg fun v h a hv=>ih (k+1) _ hl' hv,fun e=>by cases e⟩
  | some p =>
   obtain⟨j,want⟩:=p
   rw[hgu]at hg
   simp only at hg
   split at hg
   case h_2=>exact hg.elim
   rename_i d hdo
   obtain⟨hdn,hg⟩:=hg
   split at hg
   case h_3=>exact hg.elim
   case h_2 =>
    rename_i hlu
    simp only[dAt,h0]
    refine⟨hd,false,?_,(fun e=>by cases e),fun _=>ih (k+1) _ hl' hg⟩
    unfold gst
    rw[hgu]
    simp only[hdo,hdn,if_true,hlu]
   rename_i b hlb
   by_cases e:b=want
   ·subst e
    refine c2F (heq _ _) (c4f hlb) ?_
    simp only[dAt,h0]
    refine⟨hd,true,?_,fun _=>b2t (hg.1 rfl) fun v h a hv=>ih (k+1) _ hl' hv,fun e=>by cases e⟩
    unfold gst
    rw[hgu]
    simp only[hdo,hdn,if_true,b1S]
    simp
   ·have e':b = !want:=by cases b <;> cases want <;> simp_all
    subst e'
    refine c2F (heq _ _) (c4f hlb) ?_
    simp only[dAt,h0]
    refine⟨hd,false,?_,(fun e=>by cases e),fun _=>ih (k+1) _ hl' (hg.2 rfl)⟩
    unfold gst
    rw[hgu]
    simp only[hdo,hdn,if_true,b1S]
    simp
theorem b0h{hb ab:Nat}{s:St}{Q:VEx→St→Prop}{id:Nat}(hm:E.P.follows .mixedOrders=true)(hB:f5G ops cs=true)(h:b6H E n ops cs 0 ops s (Q .normal)) :
  Snd E hb ab n (.region id ops.toArray true) s Q:=by
 intro B G a w h1 h2 h3 h4
 have h5:Rel E G s B.w0 n a { w with drawn:=w.drawn+1 }:=⟨h4.rw.drew _,h4.rt,h4.df⟩
 refine wp_region_any hm ?_
 have hlex:=f4c (E:=E) (n:=n) (ops:=ops) (cs:=cs) (Q:=fun s=>∃ t,St.eqv t s∧Q .normal t) (fun s t he ⟨u,hu,hq⟩=>⟨u,⟨fun i=>(hu.1 i).trans (he.1 i),hu.2.1.trans he.2.1,hu.2.2.trans he.2.2⟩,hq⟩) ops 0 s (fun j=>by simp)
  (by
   have mono:∀ (l:List Oper) (k:Nat) (s:St) (M M':St→Prop),(∀ s,M s→M' s)→b6H E n ops cs k l s M→b6H E n ops cs k l s M':=by
    intro l
    induction l with
    | nil=>intro k s M M' hm h;exact hm _ h
    | cons o l ih =>
     intro k s M M' hm h
     obtain⟨h0,h⟩:=h
     refine⟨h0,?_⟩
     split
     ·rename_i hg;rw[hg]at h;exact b2t h fun _ _ _=>ih _ _ _ _ hm
     ·rename_i j want hg
      rw[hg]at h
      simp only at h
      split
      ·rename_i d hd
       rw[hd]at h
       refine⟨h.1,?_⟩
       have h':=h.2
       split
       ·rename_i b hb
        rw[hb]at h'
        exact⟨fun e=>b2t (h'.1 e) fun _ _ _=>ih _ _ _ _ hm,fun e=>ih _ _ _ _ hm (h'.2 e)⟩
       ·rename_i hb
        rw[hb]at h'
        exact ih _ _ _ _ hm h'
       ·rename_i hno hno'
        split at h'
        ·rename_i b hb;exact absurd hb (hno b)
        ·rename_i hb;exact absurd hb hno'
        ·exact h'
      ·rename_i hd
       rw[hd]at h
       exact h
   exact mono _ _ _ _ _ (fun t ht=>⟨t,.refl _,ht⟩) h)
 have hany:=c0J (E:=E) (n:=n) (cs:=cs) (Q:=fun s=>∃ t,St.eqv t s∧Q .normal t) (fun s t he ⟨u,hu,hq⟩=>⟨u,⟨fun i=>(hu.1 i).trans (he.1 i),hu.2.1.trans he.2.1,hu.2.2.trans he.2.2⟩,hq⟩) ops.length 0 (Array.replicate ops.length false) s
  (fun j o ho hj=>by
   have:(Array.replicate ops.length false).getD j false=false:=by simp[h0r,Array.getElem?_replicate];split <;> rfl
   rw[this]at hj;cases hj) (by simp) hB hlex
 have:=b4x (w0:=B.w0) (QQ:=f0s E n B Q) ops.length _ s G a _ h5 hany (fun s' G' a' w' ⟨t,ht,hq⟩ q2 q3 => .inl ⟨.normal,t,G',rfl,hq,by rw[ht.2.2];exact h3.trans q2,⟨by rw[ht.2.1,ht.2.2];exact q3.rw,⟨fun i=>by
   show RV _ _ _ (b1S t.tmps i) _
   rw[ht.1 i,ht.2.2];exact q3.rt.tm i,q3.rt.sz⟩,q3.df⟩⟩)
  fun ch a' w' q1 q2 => .inr ⟨ch,rfl,q1,q2.ext h3⟩
 simpa using this
end
open Go.RowKit
def c4J(E:Env)(n:Nat)(ops:List Oper)(cs:List Nat)(k:Nat)(r:List Oper)(d:Option Nat)(M:St→Prop)(tm:List (Nat×V)):b1z:=fun v h a=>b6H E n ops cs k r (St.put ⟨tm,h,a⟩ d v) M
def c8u(E:Env)(n:Nat)(ops:List Oper)(cs:List Nat)(k:Nat)(r:List Oper)(op:Op)(dst:Option Nat)(s:St)(M:St→Prop)(d:Nat)(want:Bool)(x:V):Prop :=
 match x with
 | .bool b=>(b=want→b1m E (cs.contains k) ⟨(d,.bool want)::s.tmps,s.heap,s.arr⟩ op (c4J E n ops cs (k+1) r dst M ((d,.bool want)::s.tmps))) ∧
   (b = !want→c4J E n ops cs (k+1) r dst M ((d,.bool (!want))::s.tmps) (.tuple []) s.heap s.arr)
 | .tuple []=>c4J E n ops cs (k+1) r dst M s.tmps (.tuple []) s.heap s.arr
 | _=>False
def f9A(E:Env)(n:Nat)(ops:List Oper)(cs:List Nat)(k:Nat)(r:List Oper)(op:Op)(dst:Option Nat)(s:St)(M:St→Prop)(want:Bool)(o:Option Nat):Prop :=
 match o with
 | some d=>d<n∧c8u E n ops cs k r op dst s M d want (b1S s.tmps d)
 | none=>False
def f3y(E:Env)(c:Bool)(x:V)(args:List V)(heap:List VObj)(arr:List Nat)(K:b1z):Prop:=match x with
 | .func fid caps=>b0t E.P fid=true∧if c=true then b0r E fid (args++caps) heap arr K else vPC E fid (args++caps) heap arr K
 | .meth fid xs=>b0t E.P fid=true∧if c=true then b0r E fid (xs++args) heap arr K else vPC E fid (xs++args) heap arr K
 | _=>False
def d6Y(d:Option TypeDesc)(x:V)(K:V→Prop):Prop:=match d,x with
 | some .string,.str s=>K (.int .i64 s.size)
 | some (.slice _),.slice _ _ es=>K (.int .i64 es.length)
 | some (.slice _),.mslice _ _ len _ _=>K (.int .i64 len)
 | some (.slice _),.vec _ _ _ len _=>K (.int .i64 len)
 | _,_=>False
theorem b0B{E:Env}{f:FuncId}{args cargs:List V}{h:List VObj}{a:List Nat}{r:V}{K:b1z}(hp:b0u E f cargs r)(ha:args.map share=cargs)(hk:K r h a):vPC E f args h a K:=⟨r,⟨_,.inl ha,hp⟩,hk⟩
@[go_sem] theorem g4m{e:TypeId}{es:List (List V)}:jk1 (sl e es)=sl e es:=by cases es <;> rfl
@[go_sem] theorem g0L{i:Nat}:jk1 (.map i) = .junk:=rfl
section
variable {E : Env} {n k j d : Nat} {ops r : List Oper} {cs : List Nat} {M : St → Prop} {tm : List (Nat × V)} {h : List VObj} {ar : List Nat} {K : b1z} {v : V} {op : Op} {dst : Option Nat} {b c want : Bool} {t t' : TypeId} {x y z : Operand}
theorem c9M{s:St}:b6H E n ops cs k [] s M=M s:=rfl
theorem c8d{ty:TypeId}{pos:String}{after:Array Edge}:b6H E n ops cs k (⟨dst,op,ty,pos,after,none⟩::r) ⟨tm,h,ar⟩ M =
  (c2Z n ⟨dst,.move (.tmp 0),ty,pos,after,none⟩=true∧b1m E (cs.contains k) ⟨tm,h,ar⟩ op (c4J E n ops cs (k+1) r dst M tm)):=rfl
theorem c5I{ty:TypeId}{pos:String}{after:Array Edge}:b6H E n ops cs k (⟨dst,op,ty,pos,after,some (j,want)⟩::r) ⟨tm,h,ar⟩ M =
  (c2Z n ⟨dst,.move (.tmp 0),ty,pos,after,none⟩=true∧f9A E n ops cs k r op dst ⟨tm,h,ar⟩ M want (b5M ops j)):=by
 simp only[b6H,f9A]
 congr 1
@[go_sem] theorem f4R:c4J E n ops cs k r none M tm v h ar=b6H E n ops cs k r ⟨tm,h,ar⟩ M:=rfl
@[go_sem] theorem f3D:c4J E n ops cs k r (some d) M tm v h ar=b6H E n ops cs k r ⟨(d,v)::tm,h,ar⟩ M:=rfl
@[go_sem] theorem f5b:f9A E n ops cs k r op dst ⟨tm,h,ar⟩ M want (some d)=(d<n∧c8u E n ops cs k r op dst ⟨tm,h,ar⟩ M d want (b1S tm d)):=rfl
@[go_sem] theorem g5x:c8u E n ops cs k r op dst ⟨tm,h,ar⟩ M d true (.bool b)=((b=true→b1m E (cs.contains k) ⟨(d,.bool true)::tm,h,ar⟩ op (c4J E n ops cs (k+1) r dst M ((d,.bool true)::tm))) ∧
 (b=false→c4J E n ops cs (k+1) r dst M ((d,.bool false)::tm) (.tuple []) h ar)):=rfl
@[go_sem] theorem g6B:c8u E n ops cs k r op dst ⟨tm,h,ar⟩ M d false (.bool b)=((b=false→b1m E (cs.contains k) ⟨(d,.bool false)::tm,h,ar⟩ op (c4J E n ops cs (k+1) r dst M ((d,.bool false)::tm))) ∧
 (b=true→c4J E n ops cs (k+1) r dst M ((d,.bool true)::tm) (.tuple []) h ar)):=rfl
@[go_sem] theorem g5H:c8u E n ops cs k r op dst ⟨tm,h,ar⟩ M d want (.tuple [])=c4J E n ops cs (k+1) r dst M tm (.tuple []) h ar:=rfl
@[go_sem high] theorem g1A:c8u E n ops cs k r op dst ⟨tm,h,ar⟩ M d true (.bool true)=b1m E (cs.contains k) ⟨(d,.bool true)::tm,h,ar⟩ op (c4J E n ops cs (k+1) r dst M ((d,.bool true)::tm)):=by simp[c8u]
@[go_sem high] theorem g2O:c8u E n ops cs k r op dst ⟨tm,h,ar⟩ M d true (.bool false)=c4J E n ops cs (k+1) r dst M ((d,.bool false)::tm) (.tuple []) h ar:=by simp[c8u]
@[go_sem high] theorem f8T:c8u E n ops cs k r op dst ⟨tm,h,ar⟩ M d false (.bool false)=b1m E (cs.contains k) ⟨(d,.bool false)::tm,h,ar⟩ op (c4J E n ops cs (k+1) r dst M ((d,.bool false)::tm)):=by simp[c8u]
@[go_sem high] theorem g2u:c8u E n ops cs k r op dst ⟨tm,h,ar⟩ M d false (.bool true)=c4J E n ops cs (k+1) r dst M ((d,.bool true)::tm) (.tuple []) h ar:=by simp[c8u]
attribute [go_sem ↓] c9M c8d c5I
variable {s : St}
theorem d5L:b1m E c s (.move x) K=vop E s (.move x) K:=rfl
theorem c8g:b1m E c s (.assign x) K=vop E s (.assign x) K:=rfl
theorem d3R:b1m E c s (.pick x y z) K=vop E s (.pick x y z) K:=rfl
theorem d2M:b1m E c s (.alloc t) K=vop E s (.alloc t) K:=rfl
theorem f0Q:b1m E c s (.box t x) K=vop E s (.box t x) K:=rfl
theorem d0t{ps:Array (Nat×Operand)}:b1m E c s (.build t ps) K=vop E s (.build t ps) K:=rfl
theorem c0B{m:Nat}{ps:Array (Nat×Operand)}:b1m E c s (.buildSlice t m ps) K=vop E s (.buildSlice t m ps) K:=rfl
theorem d5W:b1m E c s (.load t x) K=vop E s (.load t x) K:=rfl
theorem c9K:b1m E c s (.store t x y) K=vop E s (.store t x y) K:=rfl
theorem c3L:b1m E c s (.nilCheck x) K=vop E s (.nilCheck x) K:=rfl
theorem f0r{o:BinOp}:b1m E c s (.binOp o t x y t') K=vop E s (.binOp o t x y t') K:=rfl
theorem f5y{o:UnOp}:b1m E c s (.unOp o t x) K=vop E s (.unOp o t x) K:=rfl
theorem c5G:b1m E c s (.convert t t' x) K=vop E s (.convert t t' x) K:=rfl
theorem c4g{f:Fn}{l m:Array Operand}:b1m E c s (.makeFunc f l m) K=vop E s (.makeFunc f l m) K:=rfl
def g4t(E:Env)(b c:Bool)(h:List VObj)(ar:List Nat)(t:TypeId)(x:V)(lo hi mx:Option V)(K:b1z):Prop:=match b,c with
 | true,true=>False
 | _,_=>vSlice E t x lo hi mx (kv K h ar)
theorem c9P{lo hi mx:Option Operand}:b1m E c ⟨tm,h,ar⟩ (.slice t x lo hi mx) K=g4t E (E.vecT t) (b6r (ev E tm x) (evO E tm lo) (evO E tm hi) (evO E tm mx)) h ar t (ev E tm x) (evO E tm lo) (evO E tm hi) (evO E tm mx) K:=by
 have e:∀ o:Option Operand,o.map (ev E tm)=evO E tm o:=fun o=>by cases o <;> rfl
 simp only[b1m,e]
 unfold g4t
 cases E.vecT t <;> cases b6r (ev E tm x) (evO E tm lo) (evO E tm hi) (evO E tm mx) <;> simp <;> rfl
theorem c2S{f:Nat}:b1m E c s (.fieldAddr t x f) K=vop E s (.fieldAddr t x f) K:=rfl
theorem c9S{f:Nat}:b1m E c s (.field t x f) K=vop E s (.field t x f) K:=rfl
theorem c1O:b1m E c s (.indexAddr t x y) K=vop E s (.indexAddr t x y) K:=rfl
theorem d1q:b1m E c s (.index t x y) K=vop E s (.index t x y) K:=rfl
theorem c5l{f:Nat}:b1m E c s (.extract x f) K=vop E s (.extract x f) K:=rfl
theorem d6n{f:Operand}{as:List Operand}{tys:Array TypeId}:b1m E c ⟨tm,h,ar⟩ (.call ⟨.value f,as.toArray,tys⟩) K=f3y E c (ev E tm f) (evL E tm as) h ar K:=rfl
theorem d8Z{ty:TypeId}{tys:List TypeId}:b1m E c ⟨tm,h,ar⟩ (.call ⟨.builtin .len,#[x],(ty::tys).toArray⟩) K=vLenC E ty (ev E tm x) (kv K h ar):=by
 simp only[b1m,List.getElem?_toArray,List.getElem?_cons_zero];rfl
theorem c8o:b1m E c ⟨tm,h,ar⟩ (.call ⟨.builtin .append,#[x,y],#[t,t']⟩) K=d9n E h ar t t' (ev E tm x) (ev E tm y) K:=rfl
theorem d5u:b1m E c ⟨tm,h,ar⟩ (.call ⟨.builtin .copy,#[x,y],#[t,t']⟩) K=c5Z E h t t' (ev E tm x) (ev E tm y) (fun r h'=>K r h' ar):=rfl
attribute [go_sem ↓] d5u
theorem c9q{ok:Bool}:b1m E c s (.lookup t x y ok) K=vop E s (.lookup t x y ok) K:=rfl
theorem c1P:b1m E c s (.mapUpdate t x y z) K=vop E s (.mapUpdate t x y z) K:=rfl
theorem c7P:b1m E c s (.insert t x y z) K=vop E s (.insert t x y z) K:=rfl
theorem c4O{r:Option Operand}:b1m E c s (.makeMap t r) K=vop E s (.makeMap t r) K:=rfl
theorem c2O:b1m E c s (.makeSlice t x y) K=vop E s (.makeSlice t x y) K:=rfl
theorem d9r{tys:Array TypeId}:b1m E c ⟨tm,h,ar⟩ (.call ⟨.builtin .min,#[x,y],tys⟩) K=vMin (ev E tm x) (ev E tm y) (kv K h ar):=rfl
theorem f0Z{tys:Array TypeId}:b1m E c ⟨tm,h,ar⟩ (.call ⟨.builtin .max,#[x,y],tys⟩) K=vMax (ev E tm x) (ev E tm y) (kv K h ar):=rfl
theorem d3v:b1m E c s (.makeInterface t x) K=vop E s (.makeInterface t x) K:=rfl
attribute [go_sem ↓] d3v
attribute [go_sem ↓] c9q c1P c7P c4O c2O d9r f0Z d5L c8g d3R d2M f0Q d0t c0B d5W c9K c3L f0r f5y c5G c4g c9P c2S c9S c1O d1q c5l d6n d8Z c8o
variable {K : V → Prop} {caps as : List V} {f : FuncId}
@[go_sem] theorem f5Q{K:b1z}:f3y E false (.func f caps) as h ar K=(b0t E.P f=true∧vPC E f (as++caps) h ar K):=by simp[f3y]
@[go_sem] theorem f4S{K:b1z}:f3y E true (.func f caps) as h ar K=(b0t E.P f=true∧b0r E f (as++caps) h ar K):=by simp[f3y]
@[go_sem] theorem g1y{x:V}:vLenC E t x K=d6Y (E.P.underlying t) x K:=rfl
@[go_sem] theorem f2Z{e e':Nat}{es:List (List V)}:d6Y (some (.slice e)) (sl e' es) K=K (.int .i64 es.length):=rfl
end
attribute [go_sem] List.contains_nil List.contains_cons Bool.or_false Bool.or_true g9U Bool.true_or g9n Bool.true_eq_false
open Go.RowKit
theorem RV.oneCell{P:Program}{G:Gh}{arr:List Nat}{x:V}{v:Value}(h:RV P G arr x v)(hc:x.cell=true):v.oneCell'=true:=by
 obtain⟨h1,h2⟩:=h.cell_one hc
 cases v <;> first | rfl | exact absurd rfl (h1 _) | exact absurd rfl (h2 _)
theorem RelW.freezeO{E:Env}{G:Gh}{heap:List VObj}{arr:List Nat}{w0:Base}{w:World}(h:RelW E G heap arr w0 w){id:Nat}{cs:List V}(hh:heap[id]? = some (.cells cs))(hc:cs.all V.cell=true) :
  ∃ G' b,G.φ[id]? = some b∧Ext G arr G' arr∧RelW E G' (heap.set id .dead) arr w0 w∧G'.φ=G.φ∧∀ (j:Nat) c,cs[j]? = some c→∃ u,G'.F b j=some u∧RV E.P G' arr c u:=by
 obtain⟨b,hb,c,e,g1,g2,g3⟩:=h.obj id _ hh
 have hidl:=(g8Y.1 hh).1
 have hF0:∀ o,G.F b o=none:=fun o=>h.sep id b o hb (by rw[hh];simp)
 let G':Gh:=⟨fun b' o=>if b'=b then c[o]? else G.F b' o,G.φ,G.ρ⟩
 have hx:Ext G arr G' arr:=by
  refine⟨fun b' o v hv=>?_,fun _ _ h=>h,fun _ n h=>⟨n,h,g9m _,fun _=>rfl⟩⟩
  show(if b'=b then c[o]? else G.F b' o)=_
  rw[if_neg (fun e=>by subst e;rw[hF0]at hv;cases hv)]
  exact hv
 refine⟨G',b,hb,hx,⟨fun b' o v hv hlt=>h.newF b' o v ?_ hlt,fun g cs hg=>⟨(h.glob g cs hg).1,(h.glob g cs hg).2.mono hx⟩,h.below,fun b' o v hv=>?_,fun b' o v hv=>?_,fun i ob hi=>?_,by simp[G',h.lenφ],h.nod,fun i b' o hi hd=>?_,h.geφ,h.lenρ,fun k b' lo hi hk hlt=>?_,h.regd,h.fre,fun i t s b' hi hb'=>by
  by_cases ei:i=id
  ·subst ei
   rw[g9e hidl]at hi;cases hi
  ·rw[g9i (Ne.symm ei)]at hi
   exact(h.bld i t s b' hi hb').keep rfl fun g hg ⟨s1,s2,s3⟩=>⟨rfl,fun o=>by
    show(if g=b then c[o]? else G.F g o)=none
    rw[if_neg (fun e=>s2 id (by rw[e];exact hb))];exact s1 o,s2,s3⟩,h.ini,h.vs.keep hx (fun i k gen e cs hi=>by
   by_cases ei:i=id
   ·subst ei
    rw[g9e hidl]at hi;cases hi
   ·rwa [g9i (Ne.symm ei)]at hi) (fun _ _ _ _ h _ _=>h) fun _ _ _ _ _ _ _ _ _=>rfl⟩,rfl,fun j x hj=>?_⟩
 ·change (if b'=b then c[o]? else G.F b' o)=some v at hv
  rw[if_neg (fun e=>by have:=(h.geφ id b hb).1;omega)]at hv
  exact hv
 ·change (if b'=b then c[o]? else G.F b' o)=some v at hv
  by_cases eb:b'=b
  ·rw[if_pos eb]at hv;subst eb
   simp only[World.cell?,g1,g9u,g9n,if_false];exact hv
  ·rw[if_neg eb]at hv;exact h.frz _ _ _ hv
 ·change (if b'=b then c[o]? else G.F b' o)=some v at hv
  by_cases eb:b'=b
  ·rw[if_pos eb]at hv
   have ho:o<cs.length:=by rw[←g2];exact(g9x.1 hv).1
   obtain⟨u,hu,hr⟩:=g3 o _ (g9b ho)
   rw[hv]at hu
   cases hu
   exact hr.oneCell (List.all_eq_true.1 hc _ (List.getElem_mem ho))
  ·rw[if_neg eb]at hv;exact h.one _ _ _ hv
 ·by_cases ei:i=id
  ·subst ei
   rw[g9e hidl]at hi
   cases hi
   exact⟨b,hb,trivial⟩
  ·rw[g9i (Ne.symm ei)]at hi
   obtain⟨b',hb',hr⟩:=h.obj i ob hi
   exact⟨b',hb',hr.keep hx rfl⟩
 ·show(if b'=b then c[o]? else G.F b' o)=none
  by_cases ei:i=id
  ·subst ei;rw[g9e hidl]at hd;exact absurd rfl hd
  ·rw[g9i (Ne.symm ei)]at hd
   rw[if_neg (fun e=>ei (h.nod i id b' hi (by rw[e];exact hb)))]
   exact h.sep i b' o hi hd
 ·obtain⟨r1,r2,r3,r4⟩:=h.reg k b' lo hi hk hlt
  refine⟨r1,fun i hi ob hob=>?_,fun o h1 h2=>?_,r4⟩
  ·by_cases ei:i=id
   ·subst ei
    rw[g9e hidl]at hob;cases hob;rfl
   ·rw[g9i (Ne.symm ei)]at hob
    exact r2 i hi ob hob
  show(if b'=b then c[o]? else G.F b' o)=none
  rw[if_neg (fun e=>by have:=r2 id (by rw[e];exact hb) _ hh;cases this)]
  exact r3 o h1 h2
 ·obtain⟨u,hu,hr⟩:=g3 j x hj
  exact⟨u,by show(if b=b then c[j]? else _)=_;rw[if_pos rfl];exact hu,hr.mono hx⟩
def b2X(sz:Nat):Nat→List V→List (List V)
 | 0,_=>[]
 | n+1,cs=>cs.take sz::b2X sz n (cs.drop sz)
theorem b5G(sz:Nat):∀ (n:Nat) (cs:List V),(b2X sz n cs).length=n
 | 0,_=>rfl
 | n+1,cs=>by simp[b2X,b5G sz n]
theorem b5u(sz:Nat):∀ (n:Nat) (cs:List V) (i:Nat) el,n * sz≤cs.length→(b2X sz n cs)[i]? = some el→el.length=sz∧∀ (j:Nat) c,el[j]? = some c→cs[i * sz+j]? = some c
 | 0,_,i,el,_,h=>by simp[b2X]at h
 | n+1,cs,i,el,hl,h=>by
  rw[g9R,Nat.one_mul]at hl
  cases i with
  | zero =>
   simp[b2X]at h
   subst h
   refine⟨by simp;omega,fun j c hj=>?_⟩
   obtain⟨h1,h2⟩:=b1c hj
   simpa using h2
  | succ i =>
   simp only[b2X,g8V]at h
   obtain⟨h1,h2⟩:=b5u sz n (cs.drop sz) i el (by simp;omega) h
   refine⟨h1,fun j c hj=>?_⟩
   have:=h2 j c hj
   rw[g9Y]at this
   rw[←this];congr 1
   rw[g9R];omega
theorem RV.thaw{P:Program}{G G':Gh}{arr:List Nat}{id len cap e b:Nat}{cs:List V}{v:Value}(h:RV P G arr (.mslice id 0 len cap e) v)(hb:G.φ[id]? = some b)(hok:b0W P e=true)(hl:len * P.cellsOf e≤cs.length)
  (hc:∀ (j:Nat) c,cs[j]? = some c→∃ u,G'.F b j=some u∧RV P G' arr c u):RV P G' arr (Vg.sl e (b2X (P.cellsOf e) len cs)) v:=by
 obtain⟨i,z,hi,hz,hz1,hzs,his,hib,hs1,hb1,hb2⟩:=b2F hok
 cases h with
 | mslice _ _ _ _ _ b' hb' h1 h2 h3 =>
  rw[hb]at hb'
  cases hb'
  have hlen:=b5G (P.cellsOf e) len cs
  have:=RV.ofCells (P:=P) (G:=G') (arr:=arr) (o := .shared) (e:=e) (es:=b2X (P.cellsOf e) len cs) (b:=b) (off:=0) (cap:=cap) trivial (fun i el hi=>(b5u _ _ _ _ _ hl hi).1) (by rw[hlen];exact h3) hb1 (by rw[hlen];exact h2)
   (fun i el j c hi hj=>by
    obtain⟨u,hu,hr⟩:=hc _ _ ((b5u _ _ _ _ _ hl hi).2 j c hj)
    exact⟨u,by rw[g9s];exact hu,hr⟩)
  rw[hlen]at this
  exact this.sl
def f7y(P:Program)(o:Option VObj)(len e:Nat)(r:V):Prop:=match o with
 | some (.cells cs)=>cs.all V.cell=true∧b0W P e=true∧len * P.cellsOf e≤cs.length∧sl e (b2X (P.cellsOf e) len cs)=r
 | _=>False
def f4P(P:Program)(h:List VObj)(v r:V):Prop:=match v with
 | .mslice id 0 len _ e=>f7y P h[id]? len e r
 | v=>share v=r
def f7W(P:Program)(r:V):b1z:=fun v h _=>f4P P h v r
section
variable {P : Program} {r v : V} {h : List VObj} {a : List Nat} {id len cap e : Nat} {o : Own} {es : List (List V)}
@[go_sem] theorem g1e:f7W P r v h a=f4P P h v r:=rfl
@[go_sem] theorem g3R:f4P P h (.mslice id 0 len cap e) r=f7y P h[id]? len e r:=rfl
@[go_sem] theorem f2f{cs:List V}:f7y P (some (.cells cs)) len e r=(cs.all V.cell=true∧b0W P e=true∧len * P.cellsOf e≤cs.length∧sl e (b2X (P.cellsOf e) len cs)=r):=rfl
@[go_sem] theorem f1t:f4P P h (.slice o e es) r=(sl e es=r):=rfl
end
theorem c9U{E:Env}{f:FuncId}{fn:Func}{c:Code}{args:List V}{r:V}(hf:E.P.funcs[f]? = some fn)(hbody:fn.body=some c)(hn:args.length≤fn.ntmps)(hp:b1a args=true)(hr:r.pure=true)
  (h:vc E 0 0 fn.ntmps c ⟨b9V 0 args,[],[]⟩ (d6u E fn.results.toList (f7W E.P r))) (hal:E.alive=E:=by exact rfl):b0u E f args r:=by
 refine⟨hp,hr,?_⟩
 have:=b0A (heap:=[]) (arr:=[]) (K:=f7W E.P r) hf hbody hn h
 rw[←hal]at this
 intro G w0 w vals hrel ha
 refine(this G w0 w vals hrel ha).mono fun e w' hg=>?_
 obtain⟨val,he,v,heap',arr',G',hv,hx,hr',hrv⟩:=hg.alive
 unfold f7W f4P at hv
 split at hv
 ·rename_i id len cap el
  unfold f7y at hv
  split at hv
  ·rename_i cs hh
   obtain⟨h1,h2,h3,rfl⟩:=hv
   obtain⟨G'',b,hb,hx'',hr'',hφ,hc⟩:=hr'.freezeO hh h1
   exact .inl ⟨val,he,_,_,arr',G'',rfl,hx.trans hx'',hr'',hrv.thaw hb h2 h3 hc⟩
  ·exact hv.elim
 ·exact .inl ⟨val,he,share v,heap',arr',G',hv,hx,hr',hrv.share⟩
def frV(P:Program)(id:Nat)(cs:List V):V→V
 | .mslice i off len cap e=>if i=id then(if off=0∧b0W P e=true∧len * P.cellsOf e≤cs.length then sl e (b2X (P.cellsOf e) len cs)else .junk)else .mslice i off len cap e
 | x=>x
def frT(P:Program)(id:Nat)(cs:List V)(tm:List (Nat×V)):List (Nat×V):=tm.map fun p=>(p.1,frV P id cs p.2)
theorem d5l{P:Program}{id:Nat}{cs:List V}:∀ (tm:List (Nat×V)) (i:Nat),b1S (frT P id cs tm) i=frV P id cs (b1S tm i):=by
 intro tm
 induction tm with
 | nil=>intro i;rfl
 | cons p r ih =>
  obtain⟨j,x⟩:=p
  intro i
  have:=ih i
  simp only[frT,g9o,b1S]at this ⊢
  split
  ·rfl
  ·exact this
theorem RV.frV{P:Program}{G G':Gh}{arr:List Nat}{id b:Nat}{cs:List V}{x:V}{v:Value}(h:RV P G arr x v)(hx:Ext G arr G' arr)(hb:G.φ[id]? = some b)
  (hc:∀ (j:Nat) c,cs[j]? = some c→∃ u,G'.F b j=some u∧RV P G' arr c u):RV P G' arr (frV P id cs x) v:=by
 cases x
 case mslice i off len cap e =>
  simp only[Vg.frV]
  split
  ·rename_i ei
   subst ei
   split
   ·rename_i hh
    obtain⟨rfl,h1,h2⟩:=hh
    exact h.thaw hb h1 h2 hc
   ·exact .junk _
  ·exact h.mono hx
 all_goals exact h.mono hx
section
variable {h l m : List VObj} {a b : List Nat} {i j k n n' : Nat} {x : VObj}
@[go_sem] theorem f6c:(h++l).length=h.length+l.length:=g9d
@[go_sem] theorem f7g:(h++l)++m=h++(l++m):=g9t _ _ _
@[go_sem] theorem g0W:(h++l)[h.length]? = l[0]?:=by rw[g9c (g9m _)];simp
@[go_sem] theorem f7q:(h++l)[h.length+i]? = l[i]?:=by rw[g9c (by omega)];simp
@[go_sem] theorem f8E:(h++l).set h.length x=h++l.set 0 x:=by rw[g9J _ _ (g9m _)];simp
@[go_sem] theorem f5a:(h++l).set (h.length+i) x=h++l.set i x:=by rw[g9J _ _ (by omega)];simp
@[go_sem] theorem f5v:n+0=n:=rfl
@[go_sem] theorem d7Y:(a.set k n).set k n'=a.set k n':=List.set_set ..
theorem c1L(h:a[k]? = some n):(a.set k n')[k]? = some n':=g9e (g8Y.1 h).1
@[go_sem] theorem d9d:(a.set k n).length=a.length:=List.length_set
theorem b0s{N:Nat}:∀ {h:List VObj},b5m N h h
 | []=>trivial
 | x::r=>⟨by rw[b5V];trivial,b0s⟩
@[go_sem] theorem f1K{N:Nat}:b5m N h h=True:=eq_true b0s
@[go_sem] theorem f5j{N:Nat}:b5m N (h++l) (h++m)=b5m N l m:=by
 induction h with
 | nil=>rfl
 | cons x r ih =>
  show(b6A N x x∧b5m N (r++l) (r++m))=_
  rw[b5V,true_and,ih]
@[go_sem] theorem b2h:b8q a a=True:=by
 induction a with
 | nil=>rfl
 | cons x r ih=>show(x=x∧b8q r r)=True;rw[ih];simp
@[go_sem] theorem g6a:n≤n+k:=Nat.le_add_right _ _
end
def g2o(hb ab:Nat)(t:St)(Q:VEx→St→Prop):VEx→St→Prop:=c3g (fun s=>c5T hb ab s t) Q
section
variable {E : Env} {hb ab n i : Nat} {s t : St} {Q : VEx → St → Prop} {x y : Code}
@[go_sem] theorem d9O:g2o hb ab t Q .normal s=c5T hb ab s t:=rfl
@[go_sem] theorem f6Y:g2o hb ab t Q .ret s=Q .ret s:=rfl
theorem c2H(t:St)(hx:vc E hb ab n x s (g2o hb ab t Q))(hy:Snd E hb ab n y t Q):Snd E hb ab n (.seq x y) s Q :=
 d2r (fun s'=>c5T hb ab s' t) ((b5h _ _ _ hx).mono fun e s' h=>by cases e <;> exact h) fun s' h=>c6m h.weak hy
end
theorem d1X{E:Env}{f:FuncId}{fn:Func}{c:Code}{args:List V}{r:V}(hf:E.P.funcs[f]? = some fn)(hbody:fn.body=some c)(hn:args.length≤fn.ntmps)(hp:b1a args=true)(hr:r.pure=true)
  (h:Snd E 0 0 fn.ntmps c ⟨b9V 0 args,[],[]⟩ (d6u E fn.results.toList (d9R r))) (hal:E.alive=E:=by exact rfl):b0u E f args r :=
 c6i hf hbody hn hp hr h hal
end Go.Vg
