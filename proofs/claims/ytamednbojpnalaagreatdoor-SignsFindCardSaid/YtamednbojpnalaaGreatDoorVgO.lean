/- Regions that draw their order, part 2: every order does what the text's order does. -/
import Derived.Test.YtamednbojpnalaaGreatDoorVgM
set_option linter.unusedVariables false
set_option linter.unusedSimpArgs false
namespace Go.Vg
open Go.RowKit
def St.eqv(s t:St):Prop:=(∀ i,look s.tmps i=look t.tmps i)∧s.heap=t.heap∧s.arr=t.arr
theorem St.eqv.refl(s:St):s.eqv s:=⟨fun _=>rfl,rfl,rfl⟩
theorem St.eqv.put{s t:St}(h:s.eqv t)(d:Option Nat)(x:V):(s.put d x).eqv (t.put d x):=by
 cases d with
 | none=>exact h
 | some d=>exact⟨fun i=>by simp only[St.put,look];rw[h.1 i],h.2.1,h.2.2⟩
theorem put_comm(s:St){x y:Option Nat}(v u:V)(h:∀ d,x=some d→y≠some d):((s.put x v).put y u).eqv ((s.put y u).put x v):=by
 cases x with
 | none=>cases y <;> exact .refl _
 | some d =>
  cases y with
  | none=>exact .refl _
  | some e =>
   refine⟨fun i=>?_,rfl,rfl⟩
   simp only[St.put,look]
   by_cases h1:i=e
   ·by_cases h2:i=d
    ·exact absurd (by rw[←h1,←h2]) (h d rfl)
    ·rw[if_pos h1,if_neg h2,if_pos h1]
   ·rw[if_neg h1,if_neg h1]
theorem ev_eqv{E:Env}{tm tm':List (Nat×V)}(h:∀ i,look tm i=look tm' i)(x:Operand):ev E tm x=ev E tm' x:=by
 cases x <;> first | exact h _ | rfl
def gst(ops:List Oper)(n:Nat)(o:Oper)(tm:List (Nat×V)):Option Bool :=
 match o.guard with
 | none=>some true
 | some (g,want)=>match dstOf ops g with
  | some d=>if d<n then(match look tm d with | .bool b=>some (b == want) | .tuple []=>some false | _=>none)else none
  | none=>none
def dAt(E:Env)(n:Nat)(ops:List Oper)(cs:List Nat)(i:Nat)(K:St→Prop)(s:St):Prop :=
 match ops[i]? with
 | none=>K s
 | some o=>dstB n o=true∧∃ b,gst ops n o s.tmps=some b∧(b=true→vopD E (cs.contains i) s o.op fun v h a=>K (St.put ⟨s.tmps,h,a⟩ o.dst v))∧(b=false→K (s.put o.dst (.tuple [])))
section
variable {E : Env} {n : Nat} {ops : List Oper} {cs : List Nat}
theorem dAt_mono{i:Nat}{K K':St→Prop}{s:St}(h:dAt E n ops cs i K s)(hk:∀ s,K s→K' s):dAt E n ops cs i K' s:=by
 unfold dAt at *
 split
 ·rename_i ho;rw[ho]at h;exact hk _ h
 ·rename_i o ho
  rw[ho]at h
  obtain⟨h0,b,h1,h2,h3⟩:=h
  exact⟨h0,b,h1,fun e=>vopD_mono (h2 e) fun _ _ _=>hk _,fun e=>hk _ (h3 e)⟩
theorem gst_congr{o:Oper}{tm tm':List (Nat×V)}(h:∀ d∈o.looksAt ops.toArray,look tm d=look tm' d):gst ops n o tm=gst ops n o tm':=by
 unfold gst
 cases hg:o.guard with
 | none=>rfl
 | some p =>
  obtain⟨g,want⟩:=p
  simp only
  cases hd:dstOf ops g with
  | none=>rfl
  | some d =>
   simp only
   have:look tm d=look tm' d:=by
    refine h d ?_
    unfold Oper.looksAt
    rw[hg]
    refine List.mem_append.2 (.inr ?_)
    unfold dstOf at hd
    cases ho:ops[g]? with
    | none=>rw[ho]at hd;cases hd
    | some og=>rw[ho]at hd;simp only at hd;simp[ho,hd]
   rw[this]
theorem ev_looks{o:Oper}{tm tm':List (Nat×V)}(h:∀ d∈o.looksAt ops.toArray,look tm d=look tm' d):∀ x∈o.op.operands,ev E tm x=ev E tm' x:=by
 intro x hx
 cases x with
 | tmp t =>
  refine h t ?_
  unfold Oper.looksAt
  refine List.mem_append.2 (.inl (List.mem_filterMap.2 ⟨.tmp t,by simpa using hx,rfl⟩))
 | _=>rfl
theorem dAt_eqv{i:Nat}{K:St→Prop}{s t:St}(hk:∀ s t,St.eqv s t→K s→K t)(hst:s.eqv t)(h:dAt E n ops cs i K s):dAt E n ops cs i K t:=by
 unfold dAt at *
 split
 ·rename_i ho;rw[ho]at h;exact hk _ _ hst h
 ·rename_i o ho
  rw[ho]at h
  obtain⟨h0,b,h1,h2,h3⟩:=h
  obtain⟨tm,hp,a⟩:=s
  obtain⟨tm',hp',a'⟩:=t
  obtain⟨e1,e2,e3⟩:=hst
  simp only at e1 e2 e3
  subst e2 e3
  refine⟨h0,b,by rw[←h1];exact gst_congr fun d _=>(e1 d).symm,fun e=>?_,fun e=>hk _ _ (St.eqv.put (s:=⟨tm,hp,a⟩) (t:=⟨tm',hp,a⟩) ⟨e1,rfl,rfl⟩ _ _) (h3 e)⟩
  refine vopD_congr (tm:=tm) (fun x _=>ev_eqv e1 x) (vopD_mono (h2 e) fun v h a hv=>hk _ _ (St.eqv.put (s:=⟨tm,h,a⟩) (t:=⟨tm',h,a⟩) ⟨e1,rfl,rfl⟩ _ _) hv)
def compat(cs:List Nat)(ops:List Oper)(i j:Nat):Bool :=
 match ops[i]?,ops[j]? with
 | some x,some y=>match cls (cs.contains i) x.op,cls (cs.contains j) y.op with
  | .still,_=>true
  | .read,.still | .read,.read=>true
  | .read,.deff=>newB y.op
  | .deff,.still=>true
  | _,_=>false
 | _,_=>false
theorem look_put_ne{s:St}{d:Option Nat}{x:V}{i:Nat}(h:d≠some i):look (s.put d x).tmps i=look s.tmps i:=by
 cases d with
 | none=>rfl
 | some d=>simp only[St.put,look];rw[if_neg (fun e=>h (by rw[e]))]
theorem swap{i j:Nat}{oi oj:Oper}(hi:ops[i]? = some oi)(hj:ops[j]? = some oj)(hap:oi.apart ops.toArray oj=true)(hc:compat cs ops i j=true){W:St→Prop}(hW:∀ s t,St.eqv s t→W s→W t){s:St}
  (h:dAt E n ops cs i (dAt E n ops cs j W) s):dAt E n ops cs j (dAt E n ops cs i W) s:=by
 obtain⟨a1,a2,a3⟩:=Oper.apart_spec hap
 -- j sees nothing of i's slot,nor i of j's
 have seej:∀ (tm:List (Nat×V)) (hp:List VObj) (ar:List Nat) v,∀ d∈oj.looksAt ops.toArray,look (St.put ⟨tm,hp,ar⟩ oi.dst v).tmps d=look tm d:=fun tm hp ar v d hd=>look_put_ne (s:=⟨tm,hp,ar⟩) fun e=>a1 d e hd
 have seei:∀ (tm:List (Nat×V)) (hp:List VObj) (ar:List Nat) v,∀ d∈oi.looksAt ops.toArray,look (St.put ⟨tm,hp,ar⟩ oj.dst v).tmps d=look tm d:=fun tm hp ar v d hd=>look_put_ne (s:=⟨tm,hp,ar⟩) fun e=>a3 d e hd
 obtain⟨tm,hp,ar⟩:=s
 simp only[dAt,hi]at h
 obtain⟨h0,b,h1,h2,h3⟩:=h
 -- the way back for i: from a state after j
 have goi:∀ (u:V) (h':List VObj) (a':List Nat),(b=true→vopD E (cs.contains i) ⟨tm,h',a'⟩ oi.op fun v h2 a2=>W ((St.put ⟨tm,h2,a2⟩ oi.dst v).put oj.dst u)) →
   (b=false→W ((St.put ⟨tm,h',a'⟩ oi.dst (.tuple [])).put oj.dst u))→dAt E n ops cs i W (St.put ⟨tm,h',a'⟩ oj.dst u):=by
  intro u h' a' g1 g2
  simp only[dAt,hi]
  refine⟨h0,b,by rw[←h1];exact gst_congr (seei tm h' a' u),fun e=>?_,fun e=>hW _ _ (put_comm _ _ _ a2) (g2 e)⟩
  have:=vopD_congr (E:=E) (tm':=(St.put ⟨tm,h',a'⟩ oj.dst u).tmps) (ev_looks (ops:=ops) fun d hd=>(seei tm h' a' u d hd).symm) (g1 e)
  have e2:∀ h2 a2,(⟨(St.put ⟨tm,h',a'⟩ oj.dst u).tmps,h2,a2⟩:St)=St.put ⟨tm,h2,a2⟩ oj.dst u:=fun h2 a2=>by cases oj.dst <;> rfl
  rw[e2]at this
  have e3:(⟨(St.put ⟨tm,h',a'⟩ oj.dst u).tmps,(St.put ⟨tm,h',a'⟩ oj.dst u).heap,(St.put ⟨tm,h',a'⟩ oj.dst u).arr⟩:St)=St.put ⟨tm,h',a'⟩ oj.dst u:=by cases oj.dst <;> rfl
  refine vopD_mono this fun v h2 a2' hv=>?_
  rw[e2]
  exact hW _ _ (put_comm _ _ _ a2) hv
 -- j's own part,in a state from before i
 have goj:∀ (v:V) (h':List VObj) (a':List Nat) (W':V→List VObj→List Nat→Prop) (W0:Prop),dAt E n ops cs j W (St.put ⟨tm,h',a'⟩ oi.dst v) →
   dstB n oj=true∧∃ b',gst ops n oj tm=some b'∧(b'=true→vopD E (cs.contains j) ⟨tm,h',a'⟩ oj.op fun u h2 a2=>W ((St.put ⟨tm,h2,a2⟩ oi.dst v).put oj.dst u)) ∧
    (b'=false→W ((St.put ⟨tm,h',a'⟩ oi.dst v).put oj.dst (.tuple []))):=by
  intro v h' a' W' W0 hd
  simp only[dAt,hj]at hd
  obtain⟨g0,b',g1,g2,g3⟩:=hd
  refine⟨g0,b',by rw[←g1];exact(gst_congr (seej tm h' a' v)).symm,fun e=>?_,g3⟩
  have e2:∀ h2 a2,(⟨(St.put ⟨tm,h',a'⟩ oi.dst v).tmps,h2,a2⟩:St)=St.put ⟨tm,h2,a2⟩ oi.dst v:=fun h2 a2=>by cases oi.dst <;> rfl
  have:=g2 e
  rw[show St.put ⟨tm,h',a'⟩ oi.dst v=⟨(St.put ⟨tm,h',a'⟩ oi.dst v).tmps,h',a'⟩from(e2 h' a').symm]at this
  refine vopD_congr (ev_looks (ops:=ops) (seej tm h' a' v)) (vopD_mono this fun u h2 a2' hu=>?_)
  rw[e2]at hu
  exact hu
 -- the two cases of i
 have fin:∀ (g:dstB n oj=true∧∃ b',gst ops n oj tm=some b' ∧
   (b'=true→vopD E (cs.contains j) ⟨tm,hp,ar⟩ oj.op fun u h2 a2=>dAt E n ops cs i W (St.put ⟨tm,h2,a2⟩ oj.dst u))∧(b'=false→dAt E n ops cs i W (St.put ⟨tm,hp,ar⟩ oj.dst (.tuple [])))),
   dAt E n ops cs j (dAt E n ops cs i W) ⟨tm,hp,ar⟩:=by
  intro g
  simp only[dAt,hj]
  exact g
 cases hb:b with
 | false =>
  have hd:=h3 hb
  obtain⟨g0,b',g1,g2,g3⟩:=goj (.tuple []) hp ar (fun _ _ _=>True) True hd
  exact fin ⟨g0,b',g1,fun e=>vopD_mono (g2 e) fun u h2 a2' hu=>goi u h2 a2' (fun e=>by rw[hb]at e;cases e) fun _=>hu,fun e=>goi (.tuple []) hp ar (fun e=>by rw[hb]at e;cases e) fun _=>g3 e⟩
 | true =>
  have hv:=h2 hb
  unfold compat at hc
  rw[hi,hj]at hc
  simp only at hc
  cases hci:cls (cs.contains i) oi.op with
  | still =>
   obtain⟨v,k1,k2⟩:=still_spec hci hv
   obtain⟨g0,b',g1,g2,g3⟩:=goj v hp ar (fun _ _ _=>True) True k1
   exact fin ⟨g0,b',g1,fun e=>vopD_mono (g2 e) fun u h2 a2' hu=>goi u h2 a2' (fun _=>k2 _ _ _ hu) (fun e=>by rw[hb]at e;cases e),
    fun e=>goi (.tuple []) hp ar (fun _=>k2 _ _ _ (g3 e)) (fun e=>by rw[hb]at e;cases e)⟩
  | read =>
   obtain⟨v,k1,k3⟩:=read_spec2 hci hv
   have k2:∀ K',K' v hp ar→vopD E (cs.contains i) ⟨tm,hp,ar⟩ oi.op K':=fun K' hk=>by
    have:=k3 [] K'
    rw[List.append_nil]at this
    exact this hk
   obtain⟨g0,b',g1,g2,g3⟩:=goj v hp ar (fun _ _ _=>True) True k1
   refine fin ⟨g0,b',g1,fun e=>?_,fun e=>goi (.tuple []) hp ar (fun _=>k2 _ (g3 e)) (fun e=>by rw[hb]at e;cases e)⟩
   rw[hci]at hc
   cases hcj:cls (cs.contains j) oj.op with
   | still =>
    obtain⟨u,m1,m2⟩:=still_spec hcj (g2 e)
    exact m2 _ _ _ (goi u hp ar (fun _=>k2 _ m1) (fun e=>by rw[hb]at e;cases e))
   | read =>
    obtain⟨u,m1,m2⟩:=read_spec hcj (g2 e)
    exact m2 _ (goi u hp ar (fun _=>k2 _ m1) (fun e=>by rw[hb]at e;cases e))
   | deff =>
    rw[hcj]at hc
    obtain⟨u,x,m1,m2⟩:=new_spec hc (g2 e)
    exact m2 _ (goi u (hp++[x]) ar (fun _=>k3 _ _ m1) (fun e=>by rw[hb]at e;cases e))
   | ceff=>rw[hcj]at hc;cases hc
  | deff =>
   rw[hci]at hc
   obtain⟨v,h',a',k1,k2⟩:=deff_spec hci hv
   obtain⟨g0,b',g1,g2,g3⟩:=goj v h' a' (fun _ _ _=>True) True k1
   cases hcj:cls (cs.contains j) oj.op with
   | still =>
    refine fin ⟨g0,b',g1,fun e=>?_,fun e=>goi (.tuple []) hp ar (fun _=>k2 _ (g3 e)) (fun e=>by rw[hb]at e;cases e)⟩
    obtain⟨u,m1,m2⟩:=still_spec hcj (g2 e)
    exact m2 _ _ _ (goi u hp ar (fun _=>k2 _ m1) (fun e=>by rw[hb]at e;cases e))
   | read=>rw[hcj]at hc;cases hc
   | deff=>rw[hcj]at hc;cases hc
   | ceff=>rw[hcj]at hc;cases hc
  | ceff =>
   rw[hci]at hc
   cases hcj:cls (cs.contains j) oj.op <;> rw[hcj]at hc <;> cases hc
def anyV(E:Env)(n:Nat)(ops:List Oper)(cs:List Nat)(Q:St→Prop):Nat→Array Bool→St→Prop
 | 0,listed,s=>Region.ready .any ops.toArray listed=[]∧Q s
 | fuel+1,listed,s=>(Region.ready .any ops.toArray listed=[]→Q s)∧∀ i∈Region.ready .any ops.toArray listed,dAt E n ops cs i (anyV E n ops cs Q fuel (listed.setIfInBounds i true)) s
theorem anyV_eqv{Q:St→Prop}(hQ:∀ s t,St.eqv s t→Q s→Q t):∀ (fuel:Nat) (listed:Array Bool) (s t:St),s.eqv t→anyV E n ops cs Q fuel listed s→anyV E n ops cs Q fuel listed t
 | 0,_,s,t,he,h=>⟨h.1,hQ s t he h.2⟩
 | fuel+1,listed,s,t,he,h=>⟨fun h0=>hQ s t he (h.1 h0),fun i hi=>dAt_eqv (anyV_eqv hQ fuel _) he (h.2 i hi)⟩
def waits(ops:List Oper):Nat→Nat→Nat→Bool
 | 0,_,_=>false
 | fuel+1,j,i=>match ops[j]? with
  | some o=>o.after.any fun e=>Region.binds .any e && (e.on == i || waits ops fuel e.on i)
  | none=>false
def Closed(ops:List Oper)(listed:Array Bool):Prop:=∀ j o,ops[j]? = some o→listed.getD j false=true→∀ e∈o.after,Region.binds .any e=true→listed.getD e.on false=true
theorem waits_not{listed:Array Bool}(hc:Closed ops listed){i:Nat}(hi:listed.getD i false=false):∀ (fuel j:Nat) o,ops[j]? = some o→(∀ e∈o.after,Region.binds .any e=true→listed.getD e.on false=true)→waits ops fuel j i=false
 | 0,_,_,_,_=>rfl
 | fuel+1,j,o,ho,ha=>by
  cases hw:waits ops (fuel+1) j i with
  | false=>rfl
  | true =>
   simp only[waits,ho]at hw
   obtain⟨e,he,hb⟩:=Array.any_eq_true'.1 hw
   simp only[Bool.and_eq_true,Bool.or_eq_true,beq_iff_eq]at hb
   have hl:=ha e he hb.1
   rcases hb.2 with h1 | h1
   ·rw[h1,hi]at hl;cases hl
   ·cases hoe:ops[e.on]? with
    | none=>cases fuel <;> simp[waits,hoe]at h1
    | some oe =>
     rw[waits_not hc hi fuel e.on oe hoe (hc e.on oe hoe hl)]at h1
     cases h1
def okAll(ops:List Oper)(cs:List Nat)(listed:Array Bool)(i:Nat):Bool :=
 match ops[i]? with
 | none=>false
 | some oi=>(List.range ops.length).all fun j=>j == i || listed.getD j true || waits ops ops.length j i || match ops[j]? with
   | some oj=>oi.apart ops.toArray oj && compat cs ops i j
   | none=>true
theorem closed_set{listed:Array Bool}{i:Nat}(hc:Closed ops listed)(hr:i∈Region.ready .any ops.toArray listed):Closed ops (listed.setIfInBounds i true):=by
 intro j o ho hj e he hb
 obtain⟨_,oi,hoi,hall⟩:=mem_ready.1 hr
 by_cases hij:i=j
 ·subst hij
  have:oi=o:=by
   have:ops.toArray[i]? = ops[i]?:=by simp
   rw[this,ho]at hoi
   exact(Option.some.inj hoi).symm
  subst this
  exact getD_set_true (hall e he hb)
 ·rw[getD_set_ne false hij]at hj
  exact getD_set_true (hc j o ho hj e he hb)
theorem first{Q:St→Prop}(hQ:∀ s t,St.eqv s t→Q s→Q t){i:Nat}{oi:Oper}(hi:ops[i]? = some oi) :
  ∀ (fuel:Nat) (listed:Array Bool) (s:St),Closed ops listed→listed.size=ops.length →
   (∀ j oj,ops[j]? = some oj→j≠i→listed.getD j true=false→waits ops ops.length j i=false→oi.apart ops.toArray oj=true∧compat cs ops i j=true) →
   i∈Region.ready .any ops.toArray listed→dAt E n ops cs i (anyV E n ops cs Q fuel (listed.setIfInBounds i true)) s→anyV E n ops cs Q (fuel+1) listed s:=by
 intro fuel
 induction fuel with
 | zero =>
  intro listed s _ hsz hfree hr H
  refine⟨fun h=>(by rw[h]at hr;cases hr),fun j hj=>?_⟩
  by_cases hji:j=i
  ·subst hji;exact H
  ·exfalso
   -- if j were ready beside i,it would be ready behind i
   have hj':=ready_mono hj hji
   have hsome:∃ t,anyV E n ops cs Q 0 (listed.setIfInBounds i true) t∨True:=⟨s,.inr trivial⟩
   have key:Region.ready .any ops.toArray (listed.setIfInBounds i true)=[]∨True := .inr trivial
   obtain⟨hjun,oj,hoj,hall⟩:=mem_ready.1 hj
   have hoj':ops[j]? = some oj:=by simpa using hoj
   obtain⟨hap,hcp⟩:=hfree j oj hoj' hji hjun (waits_not ‹Closed ops listed› (by
    have:=(mem_ready.1 hr).1
    have hlt:i<listed.size:=by rw[hsz];exact(List.getElem?_eq_some_iff.1 hi).1
    simp[hlt]at this ⊢;exact this) _ j oj hoj' hall)
   -- H tells of a state in which nothing is ready,unless i is an effectful call
   simp only[dAt,hi]at H
   obtain⟨_,b,_,h2,h3⟩:=H
   have none_:∀ t,anyV E n ops cs Q 0 (listed.setIfInBounds i true) t→False:=fun t ht=>by rw[ht.1]at hj';cases hj'
   cases b with
   | false=>exact none_ _ (h3 rfl)
   | true =>
    have hv:=h2 rfl
    obtain⟨tm,hp,ar⟩:=s
    unfold compat at hcp
    rw[hi,hoj']at hcp
    simp only at hcp
    cases hci:cls (cs.contains i) oi.op with
    | still=>obtain⟨v,k1,_⟩:=still_spec hci hv;exact none_ _ k1
    | read=>obtain⟨v,k1,_⟩:=read_spec hci hv;exact none_ _ k1
    | deff=>obtain⟨v,h',a',k1,_⟩:=deff_spec hci hv;exact none_ _ k1
    | ceff =>
     rw[hci]at hcp
     cases hcj:cls (cs.contains j) oj.op <;> rw[hcj]at hcp <;> cases hcp
 | succ fuel ih =>
  intro listed s hcl hsz hfree hr H
  refine⟨fun h=>(by rw[h]at hr;cases hr),fun j hj=>?_⟩
  by_cases hji:j=i
  ·subst hji;exact H
  ·obtain⟨hjun,oj,hoj,hall⟩:=mem_ready.1 hj
   have hoj':ops[j]? = some oj:=by simpa using hoj
   have hiun:listed.getD i false=false:=by
    have:=(mem_ready.1 hr).1
    have hlt:i<listed.size:=by rw[hsz];exact(List.getElem?_eq_some_iff.1 hi).1
    simp[hlt]at this ⊢;exact this
   obtain⟨hap,hcp⟩:=hfree j oj hoj' hji hjun (waits_not hcl hiun _ j oj hoj' hall)
   have h1:dAt E n ops cs i (dAt E n ops cs j (anyV E n ops cs Q fuel ((listed.setIfInBounds i true).setIfInBounds j true))) s:=dAt_mono H fun t ht=>ht.2 j (ready_mono hj hji)
   have h2:=swap hi hoj' hap hcp (anyV_eqv hQ fuel _) h1
   refine dAt_mono h2 fun t ht=>ih (listed.setIfInBounds j true) t (closed_set hcl hj) (by simpa using hsz) (fun k ok hk hki hun hno=>hfree k ok hk hki ?_ hno) (ready_mono hr (Ne.symm hji)) ?_
   ·by_cases hjk:j=k
    ·subst hjk;exact hjun
    ·rw[getD_set_ne true hjk]at hun;exact hun
   ·rw[Array.setIfInBounds_comm _ _ hji]
    exact ht
def lexV(E:Env)(n:Nat)(ops:List Oper)(cs:List Nat)(Q:St→Prop):Nat→Nat→St→Prop
 | 0,_,s=>Q s
 | fuel+1,k,s=>dAt E n ops cs k (lexV E n ops cs Q fuel (k+1)) s
def drawFrom(ops:List Oper)(cs:List Nat):Nat→Nat→Array Bool→Bool
 | 0,_,listed=>(Region.ready .any ops.toArray listed).isEmpty
 | fuel+1,k,listed=>(Region.ready .any ops.toArray listed).contains k && okAll ops cs listed k && drawFrom ops cs fuel (k+1) (listed.setIfInBounds k true)
def drawOK(ops:List Oper)(cs:List Nat):Bool:=drawFrom ops cs ops.length 0 (Array.replicate ops.length false)
theorem any_of_lex{Q:St→Prop}(hQ:∀ s t,St.eqv s t→Q s→Q t):∀ (fuel k:Nat) (listed:Array Bool) (s:St),Closed ops listed→listed.size=ops.length→drawFrom ops cs fuel k listed=true →
  lexV E n ops cs Q fuel k s→anyV E n ops cs Q fuel listed s
 | 0,k,listed,s,_,_,hB,h=>⟨by simpa[drawFrom]using hB,h⟩
 | fuel+1,k,listed,s,hcl,hsz,hB,h=>by
  simp only[drawFrom,Bool.and_eq_true]at hB
  obtain⟨⟨hr,ho⟩,hB'⟩:=hB
  have hr':k∈Region.ready .any ops.toArray listed:=by simpa using hr
  unfold okAll at ho
  cases hk:ops[k]? with
  | none=>rw[hk]at ho;cases ho
  | some ok =>
   rw[hk]at ho
   simp only[List.all_eq_true,List.mem_range]at ho
   refine first hQ hk fuel listed s hcl hsz (fun j oj hj hjk hun hno=>?_) hr' (dAt_mono h fun t ht=>any_of_lex hQ fuel (k+1) _ t (closed_set hcl hr') (by simpa using hsz) hB' ht)
   have:=ho j (List.getElem?_eq_some_iff.1 hj).1
   simp only[hj,Bool.or_eq_true,beq_iff_eq,hjk,false_or,hun,Bool.false_eq_true,hno,Bool.and_eq_true]at this
   exact this
theorem anyV_sound{Q:St→Prop}{w0:Base}{QQ:Exit→Act→World→Prop}:∀ (fuel:Nat) (listed:Array Bool) (s:St) (G:Gh) (a:Act) (w:World),Rel E G s w0 n a w→anyV E n ops cs Q fuel listed s →
  (∀ s' G' a' w',Q s'→Ext G s.arr G' s'.arr→Rel E G' s' w0 n a' w'→QQ .normal a' w')→(∀ ch a' w',a'.defers=w0.dfs→Dies E G s.arr w0 ch w'→QQ (.panic ch) a' w')→wpAny E.P .any ops.toArray QQ fuel listed a w
 | 0,listed,s,G,a,w,hr,h,hq,_=>⟨h.1,hq s G a w h.2 (Ext.refl _ _) hr⟩
 | fuel+1,listed,s,G,a,w,hr,h,hq,hdi=>by
  refine⟨fun h0=>hq s G a w (h.1 h0) (Ext.refl _ _) hr,fun i hi=>?_⟩
  have hd:=h.2 i hi
  unfold dAt at hd
  unfold wpOp
  have e:ops.toArray[i]? = ops[i]?:=by simp
  rw[e]
  cases ho:ops[i]? with
  | none =>
   rw[ho]at hd
   exact anyV_sound fuel _ s G a w hr hd hq hdi
  | some o =>
   rw[ho]at hd
   obtain⟨h0,b,h1,h2,h3⟩:=hd
   have hw:Region.wanted o (yielded ops.toArray a.tmps)=b:=by
    unfold gst at h1
    cases hg:o.guard with
    | none=>rw[hg]at h1;simp only[Option.some.injEq]at h1;subst h1;unfold Region.wanted;rw[hg]
    | some p =>
     obtain⟨g,want⟩:=p
     rw[hg]at h1
     simp only at h1
     split at h1
     ·rename_i d hd
      split at h1
      ·split at h1
       ·rename_i bb hbb
        simp only[Option.some.injEq]at h1
        rw[←h1]
        exact wanted_of hr.rt hg hd hbb
       ·rename_i hbb
        simp only[Option.some.injEq]at h1
        rw[←h1]
        exact wanted_undef hr.rt hg hd (by assumption) hbb
       ·cases h1
      ·cases h1
     ·cases h1
   simp only[hw]
   cases b with
   | true =>
    rw[if_pos rfl]
    refine .inl ((vop_out hr.rw hr.rt (vopD_vop (h2 rfl))).wp (fun ch w' hh=>hdi ch a w' hr.df hh) fun v val heap' arr' G' w' g1 g2 g3 g4=>?_)
    exact anyV_sound fuel _ _ G' _ w' (Rel.put hr.rt hr.df h0 g2 g3 g4) g1 (fun s' G'' a' w'' q1 q2 q3=>hq s' G'' a' w'' q1 (g2.trans (by simpa using q2)) q3)
     fun ch a' w'' q1 q2=>hdi ch a' w'' q1 (q2.ext (by simpa using g2))
   | false =>
    rw[if_neg (by simp)]
    exact anyV_sound fuel _ _ G _ w (Rel.put (o:=o) (v := .tuple []) (val:=undef) hr.rt hr.df h0 (Ext.refl _ _) hr.rw RV.undef) (h3 rfl) (fun s' G'' a' w'' q1 q2 q3=>hq s' G'' a' w'' q1 (by simpa using q2) q3)
     fun ch a' w'' q1 q2=>hdi ch a' w'' q1 (by simpa using q2)
/-! ### The walk itself -/
def vopsD(E:Env)(n:Nat)(ops:List Oper)(cs:List Nat):Nat→List Oper→St→(St→Prop)→Prop
 | _,[],s,Q=>Q s
 | k,o::r,s,Q=>dstB n o=true∧match o.guard with
  | none=>vopD E (cs.contains k) s o.op fun v heap' arr'=>vopsD E n ops cs (k+1) r (St.put ⟨s.tmps,heap',arr'⟩ o.dst v) Q
  | some (j,want)=>match dstOf ops j with
   | some d=>d<n∧match look s.tmps d with
    | .bool b=>(b=want→vopD E (cs.contains k) ⟨(d,.bool want)::s.tmps,s.heap,s.arr⟩ o.op fun v heap' arr'=>vopsD E n ops cs (k+1) r (St.put ⟨(d,.bool want)::s.tmps,heap',arr'⟩ o.dst v) Q) ∧
      (b = !want→vopsD E n ops cs (k+1) r (St.put ⟨(d,.bool (!want))::s.tmps,s.heap,s.arr⟩ o.dst (.tuple [])) Q)
    | .tuple []=>vopsD E n ops cs (k+1) r (s.put o.dst (.tuple [])) Q
    | _=>False
   | none=>False
theorem eqv_again{s:St}{d:Nat}{x:V}(h:look s.tmps d=x):St.eqv ⟨(d,x)::s.tmps,s.heap,s.arr⟩ s:=by
 refine⟨fun i=>?_,rfl,rfl⟩
 simp only[look]
 split
 ·rename_i e;subst e;exact h.symm
 ·rfl
theorem lex_of{Q:St→Prop}(hQ:∀ s t,St.eqv s t→Q s→Q t):∀ (l:List Oper) (k:Nat) (s:St),(∀ j,l[j]? = ops[k+j]?)→vopsD E n ops cs k l s Q→lexV E n ops cs Q l.length k s:=by
 intro l
 induction l with
 | nil=>intro k s _ h;exact h
 | cons o l ih =>
  intro k s hl h
  obtain⟨hd,hg⟩:=h
  have h0:ops[k]? = some o:=by have:=hl 0;simp at this;exact this.symm
  have hl':∀ j,l[j]? = ops[k+1+j]?:=fun j=>by have:=hl (j+1);simpa[Nat.add_assoc,Nat.add_comm 1 j]using this
  have heq:∀ (fuel k:Nat) (s t:St),St.eqv s t→lexV E n ops cs Q fuel k s→lexV E n ops cs Q fuel k t:=by
   intro fuel
   induction fuel with
   | zero=>intro k s t he h;exact hQ s t he h
   | succ fuel ihf=>intro k s t he h;exact dAt_eqv (ihf (k+1)) he h
  simp only[List.length_cons,lexV]
  cases hgu:o.guard with
  | none =>
   rw[hgu]at hg
   simp only[dAt,h0]
   exact⟨hd,true,by unfold gst;rw[hgu],fun _=>vopD_mono hg fun v h a hv=>ih (k+1) _ hl' hv,fun e=>by cases e⟩
  | some p =>
   obtain⟨j,want⟩:=p
   rw[hgu]at hg
   simp only at hg
   split at hg
   case h_2=>exact hg.elim
   rename_i d hdo
   obtain⟨hdn,hg⟩:=hg
   split at hg
   case h_3=>exact hg.elim
   case h_2 =>
    rename_i hlu
    simp only[dAt,h0]
    refine⟨hd,false,?_,(fun e=>by cases e),fun _=>ih (k+1) _ hl' hg⟩
    unfold gst
    rw[hgu]
    simp only[hdo,hdn,if_true,hlu]
   rename_i b hlb
   by_cases e:b=want
   ·subst e
    refine dAt_eqv (heq _ _) (eqv_again hlb) ?_
    simp only[dAt,h0]
    refine⟨hd,true,?_,fun _=>vopD_mono (hg.1 rfl) fun v h a hv=>ih (k+1) _ hl' hv,fun e=>by cases e⟩
    unfold gst
    rw[hgu]
    simp only[hdo,hdn,if_true,look]
    simp
   ·have e':b = !want:=by cases b <;> cases want <;> simp_all
    subst e'
    refine dAt_eqv (heq _ _) (eqv_again hlb) ?_
    simp only[dAt,h0]
    refine⟨hd,false,?_,(fun e=>by cases e),fun _=>ih (k+1) _ hl' (hg.2 rfl)⟩
    unfold gst
    rw[hgu]
    simp only[hdo,hdn,if_true,look]
    simp
theorem snd_draw{hb ab:Nat}{s:St}{Q:VEx→St→Prop}{id:Nat}(hm:E.P.follows .mixedOrders=true)(hB:drawOK ops cs=true)(h:vopsD E n ops cs 0 ops s (Q .normal)) :
  Snd E hb ab n (.region id ops.toArray true) s Q:=by
 intro B G a w h1 h2 h3 h4
 have h5:Rel E G s B.w0 n a { w with drawn:=w.drawn+1 }:=⟨h4.rw.drew _,h4.rt,h4.df⟩
 refine wp_region_any hm ?_
 have hlex:=lex_of (E:=E) (n:=n) (ops:=ops) (cs:=cs) (Q:=fun s=>∃ t,St.eqv t s∧Q .normal t) (fun s t he ⟨u,hu,hq⟩=>⟨u,⟨fun i=>(hu.1 i).trans (he.1 i),hu.2.1.trans he.2.1,hu.2.2.trans he.2.2⟩,hq⟩) ops 0 s (fun j=>by simp)
  (by
   have mono:∀ (l:List Oper) (k:Nat) (s:St) (M M':St→Prop),(∀ s,M s→M' s)→vopsD E n ops cs k l s M→vopsD E n ops cs k l s M':=by
    intro l
    induction l with
    | nil=>intro k s M M' hm h;exact hm _ h
    | cons o l ih =>
     intro k s M M' hm h
     obtain⟨h0,h⟩:=h
     refine⟨h0,?_⟩
     split
     ·rename_i hg;rw[hg]at h;exact vopD_mono h fun _ _ _=>ih _ _ _ _ hm
     ·rename_i j want hg
      rw[hg]at h
      simp only at h
      split
      ·rename_i d hd
       rw[hd]at h
       refine⟨h.1,?_⟩
       have h':=h.2
       split
       ·rename_i b hb
        rw[hb]at h'
        exact⟨fun e=>vopD_mono (h'.1 e) fun _ _ _=>ih _ _ _ _ hm,fun e=>ih _ _ _ _ hm (h'.2 e)⟩
       ·rename_i hb
        rw[hb]at h'
        exact ih _ _ _ _ hm h'
       ·rename_i hno hno'
        split at h'
        ·rename_i b hb;exact absurd hb (hno b)
        ·rename_i hb;exact absurd hb hno'
        ·exact h'
      ·rename_i hd
       rw[hd]at h
       exact h
   exact mono _ _ _ _ _ (fun t ht=>⟨t,.refl _,ht⟩) h)
 have hany:=any_of_lex (E:=E) (n:=n) (cs:=cs) (Q:=fun s=>∃ t,St.eqv t s∧Q .normal t) (fun s t he ⟨u,hu,hq⟩=>⟨u,⟨fun i=>(hu.1 i).trans (he.1 i),hu.2.1.trans he.2.1,hu.2.2.trans he.2.2⟩,hq⟩) ops.length 0 (Array.replicate ops.length false) s
  (fun j o ho hj=>by
   have:(Array.replicate ops.length false).getD j false=false:=by simp[Array.getD_eq_getD_getElem?,Array.getElem?_replicate];split <;> rfl
   rw[this]at hj;cases hj) (by simp) hB hlex
 have:=anyV_sound (w0:=B.w0) (QQ:=Mean E n B Q) ops.length _ s G a _ h5 hany (fun s' G' a' w' ⟨t,ht,hq⟩ q2 q3 => .inl ⟨.normal,t,G',rfl,hq,by rw[ht.2.2];exact h3.trans q2,⟨by rw[ht.2.1,ht.2.2];exact q3.rw,⟨fun i=>by
   show RV _ _ _ (look t.tmps i) _
   rw[ht.1 i,ht.2.2];exact q3.rt.tm i,q3.rt.sz⟩,q3.df⟩⟩)
  fun ch a' w' q1 q2 => .inr ⟨ch,rfl,q1,q2.ext h3⟩
 simpa using this
end
end Go.Vg
namespace Go.Vg
open Go.RowKit
def kopD(E:Env)(n:Nat)(ops:List Oper)(cs:List Nat)(k:Nat)(r:List Oper)(d:Option Nat)(M:St→Prop)(tm:List (Nat×V)):Cont:=fun v h a=>vopsD E n ops cs k r (St.put ⟨tm,h,a⟩ d v) M
def kgdD(E:Env)(n:Nat)(ops:List Oper)(cs:List Nat)(k:Nat)(r:List Oper)(op:Op)(dst:Option Nat)(s:St)(M:St→Prop)(d:Nat)(want:Bool)(x:V):Prop :=
 match x with
 | .bool b=>(b=want→vopD E (cs.contains k) ⟨(d,.bool want)::s.tmps,s.heap,s.arr⟩ op (kopD E n ops cs (k+1) r dst M ((d,.bool want)::s.tmps))) ∧
   (b = !want→kopD E n ops cs (k+1) r dst M ((d,.bool (!want))::s.tmps) (.tuple []) s.heap s.arr)
 | .tuple []=>kopD E n ops cs (k+1) r dst M s.tmps (.tuple []) s.heap s.arr
 | _=>False
def kgoD(E:Env)(n:Nat)(ops:List Oper)(cs:List Nat)(k:Nat)(r:List Oper)(op:Op)(dst:Option Nat)(s:St)(M:St→Prop)(want:Bool)(o:Option Nat):Prop :=
 match o with
 | some d=>d<n∧kgdD E n ops cs k r op dst s M d want (look s.tmps d)
 | none=>False
def vFnD(E:Env)(c:Bool)(x:V)(args:List V)(heap:List VObj)(arr:List Nat)(K:Cont):Prop:=match x with
 | .func fid caps=>callB E.P fid=true∧if c=true then VCalls E fid (args++caps) heap arr K else vPC E fid (args++caps) heap arr K
 | .meth fid xs=>callB E.P fid=true∧if c=true then VCalls E fid (xs++args) heap arr K else vPC E fid (xs++args) heap arr K
 | _=>False
def vLenCD(d:Option TypeDesc)(x:V)(K:V→Prop):Prop:=match d,x with
 | some .string,.str s=>K (.int .i64 s.size)
 | some (.slice _),.slice _ _ es=>K (.int .i64 es.length)
 | some (.slice _),.mslice _ _ len _ _=>K (.int .i64 len)
 | some (.slice _),.vec _ _ _ len _=>K (.int .i64 len)
 | _,_=>False
theorem vPC_of{E:Env}{f:FuncId}{args cargs:List V}{h:List VObj}{a:List Nat}{r:V}{K:Cont}(hp:VPure E f cargs r)(ha:args.map share=cargs)(hk:K r h a):vPC E f args h a K:=⟨r,⟨_,.inl ha,hp⟩,hk⟩
@[go_sem] theorem jk1_sl{e:TypeId}{es:List (List V)}:jk1 (sl e es)=sl e es:=by cases es <;> rfl
@[go_sem] theorem jk1_map{i:Nat}:jk1 (.map i) = .junk:=rfl
section
variable {E : Env} {n k j d : Nat} {ops r : List Oper} {cs : List Nat} {M : St → Prop} {tm : List (Nat × V)} {h : List VObj} {ar : List Nat} {K : Cont} {v : V} {op : Op} {dst : Option Nat} {b c want : Bool} {t t' : TypeId} {x y z : Operand}
theorem vopsD_nil{s:St}:vopsD E n ops cs k [] s M=M s:=rfl
theorem vopsD_cons{ty:TypeId}{pos:String}{after:Array Edge}:vopsD E n ops cs k (⟨dst,op,ty,pos,after,none⟩::r) ⟨tm,h,ar⟩ M =
  (dstB n ⟨dst,.move (.tmp 0),ty,pos,after,none⟩=true∧vopD E (cs.contains k) ⟨tm,h,ar⟩ op (kopD E n ops cs (k+1) r dst M tm)):=rfl
theorem vopsD_guard{ty:TypeId}{pos:String}{after:Array Edge}:vopsD E n ops cs k (⟨dst,op,ty,pos,after,some (j,want)⟩::r) ⟨tm,h,ar⟩ M =
  (dstB n ⟨dst,.move (.tmp 0),ty,pos,after,none⟩=true∧kgoD E n ops cs k r op dst ⟨tm,h,ar⟩ M want (dstOf ops j)):=by
 simp only[vopsD,kgoD]
 congr 1
@[go_sem] theorem kopD_none:kopD E n ops cs k r none M tm v h ar=vopsD E n ops cs k r ⟨tm,h,ar⟩ M:=rfl
@[go_sem] theorem kopD_some:kopD E n ops cs k r (some d) M tm v h ar=vopsD E n ops cs k r ⟨(d,v)::tm,h,ar⟩ M:=rfl
@[go_sem] theorem kgoD_some:kgoD E n ops cs k r op dst ⟨tm,h,ar⟩ M want (some d)=(d<n∧kgdD E n ops cs k r op dst ⟨tm,h,ar⟩ M d want (look tm d)):=rfl
@[go_sem] theorem kgdD_t:kgdD E n ops cs k r op dst ⟨tm,h,ar⟩ M d true (.bool b)=((b=true→vopD E (cs.contains k) ⟨(d,.bool true)::tm,h,ar⟩ op (kopD E n ops cs (k+1) r dst M ((d,.bool true)::tm))) ∧
 (b=false→kopD E n ops cs (k+1) r dst M ((d,.bool false)::tm) (.tuple []) h ar)):=rfl
@[go_sem] theorem kgdD_f:kgdD E n ops cs k r op dst ⟨tm,h,ar⟩ M d false (.bool b)=((b=false→vopD E (cs.contains k) ⟨(d,.bool false)::tm,h,ar⟩ op (kopD E n ops cs (k+1) r dst M ((d,.bool false)::tm))) ∧
 (b=true→kopD E n ops cs (k+1) r dst M ((d,.bool true)::tm) (.tuple []) h ar)):=rfl
@[go_sem high] theorem kgdD_tt:kgdD E n ops cs k r op dst ⟨tm,h,ar⟩ M d true (.bool true)=vopD E (cs.contains k) ⟨(d,.bool true)::tm,h,ar⟩ op (kopD E n ops cs (k+1) r dst M ((d,.bool true)::tm)):=by simp[kgdD]
@[go_sem high] theorem kgdD_tf:kgdD E n ops cs k r op dst ⟨tm,h,ar⟩ M d true (.bool false)=kopD E n ops cs (k+1) r dst M ((d,.bool false)::tm) (.tuple []) h ar:=by simp[kgdD]
@[go_sem high] theorem kgdD_ff:kgdD E n ops cs k r op dst ⟨tm,h,ar⟩ M d false (.bool false)=vopD E (cs.contains k) ⟨(d,.bool false)::tm,h,ar⟩ op (kopD E n ops cs (k+1) r dst M ((d,.bool false)::tm)):=by simp[kgdD]
@[go_sem high] theorem kgdD_ft:kgdD E n ops cs k r op dst ⟨tm,h,ar⟩ M d false (.bool true)=kopD E n ops cs (k+1) r dst M ((d,.bool true)::tm) (.tuple []) h ar:=by simp[kgdD]
attribute [go_sem ↓] vopsD_nil vopsD_cons vopsD_guard
variable {s : St}
theorem dop_move:vopD E c s (.move x) K=vop E s (.move x) K:=rfl
theorem dop_assign:vopD E c s (.assign x) K=vop E s (.assign x) K:=rfl
theorem dop_pick:vopD E c s (.pick x y z) K=vop E s (.pick x y z) K:=rfl
theorem dop_alloc:vopD E c s (.alloc t) K=vop E s (.alloc t) K:=rfl
theorem dop_box:vopD E c s (.box t x) K=vop E s (.box t x) K:=rfl
theorem dop_build{ps:Array (Nat×Operand)}:vopD E c s (.build t ps) K=vop E s (.build t ps) K:=rfl
theorem dop_buildSlice{m:Nat}{ps:Array (Nat×Operand)}:vopD E c s (.buildSlice t m ps) K=vop E s (.buildSlice t m ps) K:=rfl
theorem dop_load:vopD E c s (.load t x) K=vop E s (.load t x) K:=rfl
theorem dop_store:vopD E c s (.store t x y) K=vop E s (.store t x y) K:=rfl
theorem dop_nilCheck:vopD E c s (.nilCheck x) K=vop E s (.nilCheck x) K:=rfl
theorem dop_bin{o:BinOp}:vopD E c s (.binOp o t x y t') K=vop E s (.binOp o t x y t') K:=rfl
theorem dop_un{o:UnOp}:vopD E c s (.unOp o t x) K=vop E s (.unOp o t x) K:=rfl
theorem dop_convert:vopD E c s (.convert t t' x) K=vop E s (.convert t t' x) K:=rfl
theorem dop_makeFunc{f:Fn}{l m:Array Operand}:vopD E c s (.makeFunc f l m) K=vop E s (.makeFunc f l m) K:=rfl
def vSld(E:Env)(b c:Bool)(h:List VObj)(ar:List Nat)(t:TypeId)(x:V)(lo hi mx:Option V)(K:Cont):Prop:=match b,c with
 | true,true=>False
 | _,_=>vSlice E t x lo hi mx (kv K h ar)
theorem dop_slice{lo hi mx:Option Operand}:vopD E c ⟨tm,h,ar⟩ (.slice t x lo hi mx) K=vSld E (E.vecT t) (tailS (ev E tm x) (evO E tm lo) (evO E tm hi) (evO E tm mx)) h ar t (ev E tm x) (evO E tm lo) (evO E tm hi) (evO E tm mx) K:=by
 have e:∀ o:Option Operand,o.map (ev E tm)=evO E tm o:=fun o=>by cases o <;> rfl
 simp only[vopD,e]
 unfold vSld
 cases E.vecT t <;> cases tailS (ev E tm x) (evO E tm lo) (evO E tm hi) (evO E tm mx) <;> simp <;> rfl
theorem dop_fieldAddr{f:Nat}:vopD E c s (.fieldAddr t x f) K=vop E s (.fieldAddr t x f) K:=rfl
theorem dop_field{f:Nat}:vopD E c s (.field t x f) K=vop E s (.field t x f) K:=rfl
theorem dop_indexAddr:vopD E c s (.indexAddr t x y) K=vop E s (.indexAddr t x y) K:=rfl
theorem dop_index:vopD E c s (.index t x y) K=vop E s (.index t x y) K:=rfl
theorem dop_extract{f:Nat}:vopD E c s (.extract x f) K=vop E s (.extract x f) K:=rfl
theorem dop_call{f:Operand}{as:List Operand}{tys:Array TypeId}:vopD E c ⟨tm,h,ar⟩ (.call ⟨.value f,as.toArray,tys⟩) K=vFnD E c (ev E tm f) (evL E tm as) h ar K:=rfl
theorem dop_len{ty:TypeId}{tys:List TypeId}:vopD E c ⟨tm,h,ar⟩ (.call ⟨.builtin .len,#[x],(ty::tys).toArray⟩) K=vLenC E ty (ev E tm x) (kv K h ar):=by
 simp only[vopD,List.getElem?_toArray,List.getElem?_cons_zero];rfl
theorem dop_append:vopD E c ⟨tm,h,ar⟩ (.call ⟨.builtin .append,#[x,y],#[t,t']⟩) K=vApp E h ar t t' (ev E tm x) (ev E tm y) K:=rfl
theorem dop_copy:vopD E c ⟨tm,h,ar⟩ (.call ⟨.builtin .copy,#[x,y],#[t,t']⟩) K=vCopy E h t t' (ev E tm x) (ev E tm y) (fun r h'=>K r h' ar):=rfl
attribute [go_sem ↓] dop_copy
theorem dop_lookup{ok:Bool}:vopD E c s (.lookup t x y ok) K=vop E s (.lookup t x y ok) K:=rfl
theorem dop_mapUpdate:vopD E c s (.mapUpdate t x y z) K=vop E s (.mapUpdate t x y z) K:=rfl
theorem dop_insert:vopD E c s (.insert t x y z) K=vop E s (.insert t x y z) K:=rfl
theorem dop_makeMap{r:Option Operand}:vopD E c s (.makeMap t r) K=vop E s (.makeMap t r) K:=rfl
theorem dop_makeSlice:vopD E c s (.makeSlice t x y) K=vop E s (.makeSlice t x y) K:=rfl
theorem dop_min{tys:Array TypeId}:vopD E c ⟨tm,h,ar⟩ (.call ⟨.builtin .min,#[x,y],tys⟩) K=vMin (ev E tm x) (ev E tm y) (kv K h ar):=rfl
theorem dop_max{tys:Array TypeId}:vopD E c ⟨tm,h,ar⟩ (.call ⟨.builtin .max,#[x,y],tys⟩) K=vMax (ev E tm x) (ev E tm y) (kv K h ar):=rfl
theorem dop_mkif:vopD E c s (.makeInterface t x) K=vop E s (.makeInterface t x) K:=rfl
attribute [go_sem ↓] dop_mkif
attribute [go_sem ↓] dop_lookup dop_mapUpdate dop_insert dop_makeMap dop_makeSlice dop_min dop_max dop_move dop_assign dop_pick dop_alloc dop_box dop_build dop_buildSlice dop_load dop_store dop_nilCheck dop_bin dop_un dop_convert dop_makeFunc dop_slice dop_fieldAddr dop_field dop_indexAddr dop_index dop_extract dop_call dop_len dop_append
variable {K : V → Prop} {caps as : List V} {f : FuncId}
@[go_sem] theorem vFnD_pure{K:Cont}:vFnD E false (.func f caps) as h ar K=(callB E.P f=true∧vPC E f (as++caps) h ar K):=by simp[vFnD]
@[go_sem] theorem vFnD_full{K:Cont}:vFnD E true (.func f caps) as h ar K=(callB E.P f=true∧VCalls E f (as++caps) h ar K):=by simp[vFnD]
@[go_sem] theorem vLenC_d{x:V}:vLenC E t x K=vLenCD (E.P.underlying t) x K:=rfl
@[go_sem] theorem vLenCD_sl{e e':Nat}{es:List (List V)}:vLenCD (some (.slice e)) (sl e' es) K=K (.int .i64 es.length):=rfl
end
attribute [go_sem] List.contains_nil List.contains_cons Bool.or_false Bool.or_true Bool.false_or Bool.true_or Bool.false_eq_true Bool.true_eq_false
end Go.Vg
