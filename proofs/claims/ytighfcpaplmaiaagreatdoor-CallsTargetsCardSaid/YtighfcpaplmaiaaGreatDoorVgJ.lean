import Derived.Test.YtighfcpaplmaiaaGreatDoorVgI
import Derived.Scope
set_option linter.unusedVariables false
set_option linter.unusedSimpArgs false
namespace Go.Vg
open Go.RowKit
def b5M(ops:List Oper)(j:Nat):Option Nat :=
 match ops[j]? with
 | some o=>o.dst
 | none=>none
def c2Z(n:Nat)(o:Oper):Bool :=
 match o.dst with
 | some d=>decide (d<n)
 | none=>true
def c4C(E:Env)(n:Nat)(ops:List Oper):List Oper→St→(St→Prop)→Prop
 | [],s,Q=>Q s
 | o::r,s,Q=>c2Z n o=true∧match o.guard with
  | none=>vop E s o.op fun v heap' arr'=>c4C E n ops r (St.put ⟨s.tmps,heap',arr'⟩ o.dst v) Q
  | some (j,want)=>match b5M ops j with
   | some d=>d<n∧match b1S s.tmps d with
    | .bool b=>(b=want→vop E ⟨(d,.bool want)::s.tmps,s.heap,s.arr⟩ o.op fun v heap' arr'=>c4C E n ops r (St.put ⟨(d,.bool want)::s.tmps,heap',arr'⟩ o.dst v) Q) ∧
      (b = !want→c4C E n ops r (St.put ⟨(d,.bool (!want))::s.tmps,s.heap,s.arr⟩ o.dst (.tuple [])) Q)
    | .tuple []=>c4C E n ops r (s.put o.dst (.tuple [])) Q
    | _=>False
   | none=>False
structure Rel(E:Env)(G:Gh)(s:St)(w0:Base)(n:Nat)(a:Act)(w:World):Prop where
 rw:RelW E G s.heap s.arr w0 w
 rt:RelT E.P G s.arr s.tmps n a
 df:a.defers=w0.dfs
theorem Rel.put{E:Env}{G G':Gh}{s:St}{w0:Base}{n:Nat}{a:Act}{w':World}{heap':List VObj}{arr':List Nat}{o:Oper}{v:V}{val:Value}
  (ht:RelT E.P G s.arr s.tmps n a) (hdf:a.defers=w0.dfs) (hd:c2Z n o=true) (hx:Ext G s.arr G' arr') (hr:RelW E G' heap' arr' w0 w') (hv:RV E.P G' arr' v val) :
  Rel E G' (St.put ⟨s.tmps,heap',arr'⟩ o.dst v) w0 n (a.put o.dst val) w':=by
 unfold c2Z at hd
 cases hdst:o.dst with
 | none=>exact⟨hr,ht.mono hx,hdf⟩
 | some d =>
  simp only[hdst,g9h]at hd
  exact⟨hr,(ht.mono hx).put hd hv,hdf⟩
theorem c4q{E:Env}{G:Gh}{s:St}{n:Nat}{a:Act}{ops:List Oper}{o:Oper}{j d:Nat}{want b:Bool}(ht:RelT E.P G s.arr s.tmps n a)(hg:o.guard=some (j,want))
  (hd:b5M ops j=some d) (hl:b1S s.tmps d = .bool b):Region.wanted o (yielded ops.toArray a.tmps)=(b == want):=by
 have htm:=ht.tm d
 rw[hl]at htm
 generalize hv:a.tmps.getD d undef=v at htm
 cases htm
 unfold Region.wanted
 rw[hg]
 simp only
 have hy:yielded ops.toArray a.tmps j=some b:=by
  unfold b5M at hd
  unfold yielded
  cases ho:ops[j]? with
  | none=>rw[ho]at hd;cases hd
  | some oj =>
   rw[ho]at hd
   simp only at hd
   rw[h0r]at hv
   cases htd:a.tmps[d]? with
   | none=>rw[htd]at hv;simp[undef]at hv
   | some u =>
    rw[htd]at hv
    simp only[g9w]at hv
    subst hv
    simp[ho,hd,htd]
 rw[hy]
 simp
theorem RV.undef{P:Program}{G:Gh}{arr:List Nat}:RV P G arr (.tuple []) undef := .tuple [] #[] rfl (by simp)
theorem b8l{E:Env}{G:Gh}{s:St}{n:Nat}{a:Act}{ops:List Oper}{o:Oper}{j d:Nat}{want:Bool}(ht:RelT E.P G s.arr s.tmps n a)(hg:o.guard=some (j,want))
  (hd:b5M ops j=some d) (hdn:d<n) (hl:b1S s.tmps d = .tuple []):Region.wanted o (yielded ops.toArray a.tmps)=false:=by
 have htm:=ht.tm d
 rw[hl]at htm
 generalize hv:a.tmps.getD d undef=v at htm
 cases htm with
 | tuple _ vs hlen _ =>
  have hvs:vs = #[]:=Array.eq_empty_of_size_eq_zero hlen.symm
  subst hvs
  unfold Region.wanted
  rw[hg]
  simp only
  have hy:yielded ops.toArray a.tmps j=none:=by
   unfold b5M at hd
   unfold yielded
   cases ho:ops[j]? with
   | none=>rw[ho]at hd;cases hd
   | some oj =>
    rw[ho]at hd
    simp only at hd
    have htd:a.tmps[d]? = some (.tuple #[]):=by
     have hlt:d<a.tmps.size:=by rw[ht.sz];exact hdn
     rw[g9p hlt]
     rw[h0r,g9p hlt]at hv
     simpa using hv
    simp[ho,hd,htd]
  rw[hy]
  rfl
theorem RelT.again{P:Program}{G:Gh}{arr:List Nat}{tmps:List (Nat×V)}{n:Nat}{a:Act}{d:Nat}{x:V}(ht:RelT P G arr tmps n a)(hl:b1S tmps d=x):RelT P G arr ((d,x)::tmps) n a:=by
 refine⟨fun i=>?_,ht.sz⟩
 simp only[b1S]
 split
 ·rename_i e;subst e;rw[←hl];exact ht.tm i
 ·exact ht.tm i
theorem d6p.ext{E:Env}{G G':Gh}{arr arr':List Nat}{w0:Base}{ch:List PanicEntry}{w':World}(h:d6p E G' arr' w0 ch w')(hx:Ext G arr G' arr'):d6p E G arr w0 ch w':=by
 obtain⟨h1,heap',a',G'',h2,h3,h4⟩:=h
 exact⟨h1,heap',a',G'',h2,hx.trans h3,h4⟩
theorem c9a{E:Env}{n:Nat}{ops:List Oper}{w0:Base}{QQ:Exit→Act→World→Prop}:∀ (l:List Oper) (k:Nat) (s:St) (Q:St→Prop) (G:Gh) (a:Act) (w:World),
  (∀ j,l[j]? = ops[k+j]?)→Rel E G s w0 n a w→c4C E n ops l s Q→(∀ s' G' a' w',Q s'→Ext G s.arr G' s'.arr→Rel E G' s' w0 n a' w'→QQ .normal a' w') →
  (∀ ch a' w',a'.defers=w0.dfs→d6p E G s.arr w0 ch w'→QQ (.panic ch) a' w') →
  wpOps E.P ops.toArray QQ (List.range' k l.length) a w:=by
 intro l
 induction l with
 | nil=>intro k s Q G a w _ hr h hq _;exact hq s G a w h (Ext.refl _ _) hr
 | cons o l ih =>
  intro k s Q G a w hl hr h hq hdi
  obtain⟨hd,hg⟩:=h
  have h0:ops.toArray[k]? = some o:=by have:=hl 0;simp at this;simpa using this.symm
  have hl':∀ j,l[j]? = ops[k+1+j]?:=fun j=>by have:=hl (j+1);simpa[h0n,Nat.add_comm 1 j]using this
  simp only[g9k,List.range'_succ,wpOps,h0]
  have run:∀ t:St,t.arr=s.arr→Rel E G t w0 n a w→Region.wanted o (yielded ops.toArray a.tmps)=true →
    (vop E t o.op fun v heap' arr'=>c4C E n ops l (St.put ⟨t.tmps,heap',arr'⟩ o.dst v) Q) →
    (if Region.wanted o (yielded ops.toArray a.tmps)=true then o.wp E.P a w (wpOps E.P ops.toArray QQ (List.range' (k+1) l.length)) QQ∨(o.asks E.P a w∧LetsOut QQ)
     else wpOps E.P ops.toArray QQ (List.range' (k+1) l.length) (a.put o.dst undef) w):=by
   intro t hta htr hw hrun
   rw[if_pos hw]
   refine .inl ((d2n htr.rw htr.rt hrun).wp (fun ch w' hh=>hdi ch a w' hr.df (by rw[←hta];exact hh)) fun v val heap' arr' G' w' g1 g2 g3 g4=>?_)
   exact ih (k+1) _ Q G' _ w' hl' (Rel.put htr.rt htr.df hd g2 g3 g4) g1 (fun s' G'' a' w'' q1 q2 q3=>hq s' G'' a' w'' q1 (by rw[←hta];exact g2.trans (by simpa using q2)) q3)
    fun ch a' w'' q1 q2=>hdi ch a' w'' q1 (q2.ext (by rw[←hta];simpa using g2))
  cases hgu:o.guard with
  | none =>
   rw[hgu]at hg
   exact run s rfl hr (by unfold Region.wanted;rw[hgu]) hg
  | some p =>
   obtain⟨j,want⟩:=p
   rw[hgu]at hg
   simp only at hg
   split at hg
   case h_2=>exact hg.elim
   rename_i d hdo
   obtain⟨hdn,hg⟩:=hg
   split at hg
   case h_3=>exact hg.elim
   case h_2 =>
    rename_i hlu
    rw[if_neg (by rw[b8l hr.rt hgu hdo hdn hlu];simp)]
    exact ih (k+1) _ Q G _ w hl' (Rel.put (o:=o) (v := .tuple []) (val:=undef) hr.rt hr.df hd (Ext.refl _ _) hr.rw RV.undef) hg (fun s' G'' a' w'' q1 q2 q3=>hq s' G'' a' w'' q1 (by simpa using q2) q3)
     fun ch a' w'' q1 q2=>hdi ch a' w'' q1 (by simpa using q2)
   rename_i b hlb
   have hwant:=c4q (ops:=ops) hr.rt hgu hdo hlb
   by_cases e:b=want
   ·subst e
    exact run ⟨(d,.bool b)::s.tmps,s.heap,s.arr⟩ rfl ⟨hr.rw,hr.rt.again hlb,hr.df⟩ (by rw[hwant];simp) (hg.1 rfl)
   ·have e':b = !want:=by cases b <;> cases want <;> simp_all
    have hf:Region.wanted o (yielded ops.toArray a.tmps)=false:=by rw[hwant];simpa using e
    rw[if_neg (by simp[hf])]
    have hr':Rel E G ⟨(d,.bool (!want))::s.tmps,s.heap,s.arr⟩ w0 n a w:=⟨hr.rw,hr.rt.again (e' ▸ hlb),hr.df⟩
    refine ih (k+1) _ Q G _ w hl' (Rel.put (o:=o) (v := .tuple []) (val:=undef) hr'.rt hr'.df hd (Ext.refl _ _) hr'.rw RV.undef) (hg.2 e') (fun s' G'' a' w'' q1 q2 q3=>hq s' G'' a' w'' q1 (by simpa using q2) q3)
     fun ch a' w'' q1 q2=>hdi ch a' w'' q1 (by simpa using q2)
inductive VEx where
 | normal | exit (id:Nat) | ret
 deriving DecidableEq
def VEx.real:VEx→Exit
 | .normal => .normal
 | .exit id => .exit id
 | .ret => .ret
structure Fn0 where
 w0:Base
 G:Gh
 arr:List Nat
def g3p(E:Env)(n:Nat)(B:Fn0)(Q:VEx→St→Prop)(e:Exit)(a:Act)(w:World):Prop :=
 ∃ ve s' G',e=ve.real∧Q ve s'∧Ext B.G B.arr G' s'.arr∧Rel E G' s' B.w0 n a w
def g3F(E:Env)(B:Fn0)(e:Exit)(a:Act)(w:World):Prop :=
 ∃ ch,e = .panic ch∧a.defers=B.w0.dfs∧d6p E B.G B.arr B.w0 ch w
def f0s(E:Env)(n:Nat)(B:Fn0)(Q:VEx→St→Prop):Exit→Act→World→Prop :=
 fun e a w=>g3p E n B Q e a w∨g3F E B e a w
def Snd(E:Env)(hb ab n:Nat)(c:Code)(s:St)(Q:VEx→St→Prop):Prop :=
 ∀ (B:Fn0) (G:Gh) (a:Act) (w:World),B.G.φ.length=hb→B.arr.length=ab→Ext B.G B.arr G s.arr→Rel E G s B.w0 n a w→c.wp E.P (f0s E n B Q) a w
theorem c8Q{P:Program}{c:Code}{Q:Exit→Act→World→Prop}(I:Nat→Act→World→Prop)
  (round:∀ m a w,I m a w→c.wp P (Exit.then (fun a' w'=>∃ m',m'<m∧I m' a' w') Q) a w):∀ m a w,I m a w→(Code.loop c).wp P Q a w:=by
 intro m a w h₀ b k cs
 have key:∀ m a w,I m a w→∃ e a' w',Q e a' w'∧Arrives P (lone (b.at a (.code c :: .inLoop c::k)) cs w) b k cs e a' w':=by
  intro m
  induction m using Nat.strongRecOn with
  | _ m ih =>
   intro a w hI
   obtain⟨e,a₁,w₁,hq,harr⟩:=round m a w hI b (.inLoop c::k) cs
   cases e with
   | normal =>
    obtain⟨m',hlt,hI₁⟩:=hq
    obtain⟨e₂,a₂,w₂,hq₂,harr₂⟩:=ih m' hlt a₁ w₁ hI₁
    exact⟨e₂,a₂,w₂,hq₂,.of_steps (Steps.trans harr (.one step_inLoop)) harr₂⟩
   | exit id=>exact⟨_,a₁,w₁,hq,.pass (x := .inLoop c) rfl (fun _ _ => .inl (by simp)) harr⟩
   | goto l=>exact⟨_,a₁,w₁,hq,.pass (x := .inLoop c) rfl (fun _ _ => .inl (by simp)) harr⟩
   | ret=>exact⟨_,a₁,w₁,hq,.pass (x := .inLoop c) rfl (fun _ _ => .inl (by simp)) harr⟩
   | panic ch=>exact⟨_,a₁,w₁,hq,.pass (x := .inLoop c) rfl (fun _ _ => .inl (by simp)) harr⟩
   | outgrown=>exact⟨_,a₁,w₁,hq,.pass (x := .inLoop c) rfl (fun _ _ => .inl (by simp)) harr⟩
 obtain⟨e,a',w',hq,harr⟩:=key m a w h₀
 exact⟨e,a',w',hq,.of_steps (.one step_loop) harr⟩
theorem f0s.mono{E:Env}{n:Nat}{B:Fn0}{Q Q':VEx→St→Prop}(hq:∀ e s,Q e s→Q' e s){e:Exit}{a:Act}{w:World}
  (h:f0s E n B Q e a w):f0s E n B Q' e a w:=by
 rcases h with⟨ve,s',G'',h1,h2,h3,h4⟩ | h
 ·exact .inl ⟨ve,s',G'',h1,hq _ _ h2,h3,h4⟩
 ·exact .inr h
section rules
variable {E : Env} {hb ab n : Nat} {s : St} {Q : VEx → St → Prop}
theorem Snd.mono{c:Code}{Q':VEx→St→Prop}(h:Snd E hb ab n c s Q)(hq:∀ e s,Q e s→Q' e s):Snd E hb ab n c s Q' :=
 fun B G a w h1 h2 h3 h4=>wp_mono (h B G a w h1 h2 h3 h4) fun _ _ _ hm=>hm.mono hq
theorem d5N(h:Q .normal s):Snd E hb ab n .skip s Q:=fun B G a w h1 h2 h3 h4=>wp_skip (.inl ⟨.normal,s,G,rfl,h,h3,h4⟩)
theorem c9v{l:Nat}(h:Q .normal s):Snd E hb ab n (.label l) s Q:=fun B G a w h1 h2 h3 h4=>wp_label (.inl ⟨.normal,s,G,rfl,h,h3,h4⟩)
theorem d6g{id:Nat}(h:Q (.exit id) s):Snd E hb ab n (.exit id) s Q:=fun B G a w h1 h2 h3 h4=>wp_exit (.inl ⟨.exit id,s,G,rfl,h,h3,h4⟩)
theorem f0W(h:Q .ret s):Snd E hb ab n .ret s Q:=fun B G a w h1 h2 h3 h4=>wp_ret (.inl ⟨.ret,s,G,rfl,h,h3,h4⟩)
def c3g(M:St→Prop)(Q:VEx→St→Prop):VEx→St→Prop
 | .normal,s=>M s
 | e,s=>Q e s
theorem d2r{x y:Code}(M:St→Prop)(hx:Snd E hb ab n x s (c3g M Q))(hy:∀ s',M s'→Snd E hb ab n y s' Q):Snd E hb ab n (.seq x y) s Q:=by
 intro B G a w h1 h2 h3 h4
 refine wp_seq (wp_mono (hx B G a w h1 h2 h3 h4) fun e a' w' hm=>?_)
 rcases hm with⟨ve,s',G',rfl,g2,g3,g4⟩ | ⟨ch,rfl,hm⟩
 ·cases ve with
  | normal=>exact hy s' g2 B G' a' w' h1 h2 g3 g4
  | exit id=>exact .inl ⟨.exit id,s',G',rfl,g2,g3,g4⟩
  | ret=>exact .inl ⟨.ret,s',G',rfl,g2,g3,g4⟩
 ·exact .inr ⟨ch,rfl,hm⟩
theorem d1Y{x:Code}(hx:Snd E hb ab n x s Q):Snd E hb ab n (.scope x) s Q:=by
 intro B G a w h1 h2 h3 h4
 refine wp_scope_straight (wp_mono (hx B G a w h1 h2 h3 h4) fun e a' w' hm=>?_)
 rcases hm with⟨ve,s',G',rfl,g2,g3,g4⟩ | ⟨ch,rfl,hm⟩
 ·cases ve with
  | normal=>exact .inl ⟨.normal,s',G',rfl,g2,g3,g4⟩
  | exit id'=>exact .inl ⟨.exit id',s',G',rfl,g2,g3,g4⟩
  | ret=>exact .inl ⟨.ret,s',G',rfl,g2,g3,g4⟩
 ·exact .inr ⟨ch,rfl,hm⟩
theorem d4j{c:Operand}{x y:Code}{b:Bool}(hc:ev E s.tmps c = .bool b)(hx:b=true→Snd E hb ab n x s Q)(hy:b=false→Snd E hb ab n y s Q):Snd E hb ab n (.cond c x y) s Q:=by
 intro B G a w h1 h2 h3 h4
 have hv:=RV.ev h4.rw h4.rt c
 rw[hc]at hv
 generalize hvc:a.eval c=v at hv
 cases hv
 exact wp_cond_split hvc (fun hb=>hx hb B G a w h1 h2 h3 h4) fun hb=>hy hb B G a w h1 h2 h3 h4
def c1D(id:Nat)(Q:VEx→St→Prop):VEx→St→Prop
 | .exit id',s=>if id'=id then Q .normal s else Q (.exit id') s
 | e,s=>Q e s
theorem c9T{id:Nat}{x:Code}(hx:Snd E hb ab n x s (c1D id Q)):Snd E hb ab n (.block id x) s Q:=by
 intro B G a w h1 h2 h3 h4
 refine wp_block (wp_mono (hx B G a w h1 h2 h3 h4) fun e a' w' hm=>?_)
 rcases hm with⟨ve,s',G',rfl,g2,g3,g4⟩ | ⟨ch,rfl,hm⟩
 ·cases ve with
  | normal=>exact .inl ⟨.normal,s',G',rfl,g2,g3,g4⟩
  | exit id' =>
   simp only[VEx.real,Exit.inBlock]
   simp only[c1D]at g2
   split
   ·rename_i e
    rw[if_pos e]at g2
    exact .inl ⟨.normal,s',G',rfl,g2,g3,g4⟩
   ·rename_i e
    rw[if_neg e]at g2
    exact .inl ⟨.exit id',s',G',rfl,g2,g3,g4⟩
  | ret=>exact .inl ⟨.ret,s',G',rfl,g2,g3,g4⟩
 ·exact .inr ⟨ch,rfl,hm⟩
def b7b(E:Env)(hb ab n:Nat)(s t:St):Prop :=
 ∀ (B:Fn0) (G:Gh) (a:Act) (w:World),B.G.φ.length=hb→B.arr.length=ab→Ext B.G B.arr G s.arr→Rel E G s B.w0 n a w→∃ G',Ext B.G B.arr G' t.arr∧Rel E G' t B.w0 n a w
theorem b7b.refl:b7b E hb ab n s s:=fun B G a w _ _ h3 h4=>⟨G,h3,h4⟩
theorem b7b.trans{t u:St}(h:b7b E hb ab n s t)(h':b7b E hb ab n t u):b7b E hb ab n s u:=fun B G a w h1 h2 h3 h4 =>
 let⟨G',g1,g2⟩:=h B G a w h1 h2 h3 h4
 h' B G' a w h1 h2 g1 g2
theorem c6m{c:Code}{t:St}(hw:b7b E hb ab n s t)(h:Snd E hb ab n c t Q):Snd E hb ab n c s Q:=fun B G a w h1 h2 h3 h4 =>
 let⟨G',g1,g2⟩:=hw B G a w h1 h2 h3 h4
 h B G' a w h1 h2 g1 g2
theorem c2i{x:Code}(I:Nat→St→Prop)(h0:∃ m t,b7b E hb ab n s t∧I m t)
  (round:∀ m t,I m t→Snd E hb ab n x t (c3g (fun t'=>∃ m' u,m'<m∧b7b E hb ab n t' u∧I m' u) Q)):Snd E hb ab n (.loop x) s Q:=by
 intro B G a w h1 h2 h3 h4
 obtain⟨m,t,hw,hI⟩:=h0
 obtain⟨G0,q1,q2⟩:=hw B G a w h1 h2 h3 h4
 refine c8Q (fun m a w=>∃ t G',I m t∧Ext B.G B.arr G' t.arr∧Rel E G' t B.w0 n a w) (fun m a w ⟨t,G',g1,g2,g3⟩=>?_) m a w ⟨t,G0,hI,q1,q2⟩
 refine wp_mono (round m t g1 B G' a w h1 h2 g2 g3) fun e a' w' hm'=>?_
 rcases hm' with⟨ve,s',G'',rfl,r2,r3,r4⟩ | ⟨ch,rfl,hm⟩
 ·cases ve with
  | normal =>
   obtain⟨m',u,hlt,hwu,hI⟩:=r2
   obtain⟨G3,p1,p2⟩:=hwu B G'' a' w' h1 h2 r3 r4
   exact⟨m',hlt,u,G3,hI,p1,p2⟩
  | exit id=>exact .inl ⟨.exit id,s',G'',rfl,r2,r3,r4⟩
  | ret=>exact .inl ⟨.ret,s',G'',rfl,r2,r3,r4⟩
 ·exact .inr ⟨ch,rfl,hm⟩
theorem c8c{id:Nat}{ops:Array Oper}(h:c4C E n ops.toList ops.toList s (Q .normal)):Snd E hb ab n (.region id ops false) s Q:=by
 intro B G a w h1 h2 h3 h4
 have:=c9a (QQ:=f0s E n B Q) ops.toList 0 s _ G a w (by simp) h4 h (fun s' G' a' w' q1 q2 q3 => .inl ⟨.normal,s',G',rfl,q1,h3.trans q2,q3⟩)
  fun ch a' w' q1 q2 => .inr ⟨ch,rfl,q1,q2.ext h3⟩
 refine wp_region ?_
 simpa[List.range_eq_range']using this
end rules
def vc(E:Env)(hb ab n:Nat):Code→St→(VEx→St→Prop)→Prop
 | .skip,s,Q=>Q .normal s
 | .label _,s,Q=>Q .normal s
 | .region id ops draw,s,Q=>if draw then Snd E hb ab n (.region id ops true) s Q else c4C E n ops.toList ops.toList s (Q .normal)
 | .seq x y,s,Q=>vc E hb ab n x s (c3g (fun s'=>vc E hb ab n y s' Q) Q)
 | .cond c x y,s,Q=>match ev E s.tmps c with
  | .bool b=>(b=true→vc E hb ab n x s Q)∧(b=false→vc E hb ab n y s Q)
  | _=>False
 | .block id x,s,Q=>vc E hb ab n x s (c1D id Q)
 | .exit id,s,Q=>Q (.exit id) s
 | .ret,s,Q=>Q .ret s
 | .loop x,s,Q=>Snd E hb ab n (.loop x) s Q
 | .scope x,s,Q=>vc E hb ab n x s Q
 | _,_,_=>False
theorem b5h{E:Env}{hb ab n:Nat}:∀ (c:Code) (s:St) (Q:VEx→St→Prop),vc E hb ab n c s Q→Snd E hb ab n c s Q:=by
 intro c
 induction c with
 | skip=>intro s Q h;exact d5N h
 | label l=>intro s Q h;exact c9v h
 | exit id=>intro s Q h;exact d6g h
 | ret=>intro s Q h;exact f0W h
 | region id ops draw =>
  intro s Q h
  cases draw with
  | true=>simpa only[vc,if_true]using h
  | false=>simp only[vc,g9n,if_false]at h;exact c8c h
 | seq x y ihx ihy=>intro s Q h;exact d2r _ (ihx s _ h) fun s' hm=>ihy s' Q hm
 | cond c x y ihx ihy =>
  intro s Q h
  simp only[vc]at h
  generalize hev:ev E s.tmps c=x' at h
  cases x' <;> simp only at h
  case bool b=>exact d4j hev (fun e=>ihx s Q (h.1 e)) fun e=>ihy s Q (h.2 e)
  all_goals exact h.elim
 | block id x ih=>intro s Q h;exact c9T (ih s _ h)
 | loop x ih=>intro s Q h;exact h
 | rangeFunc f params assign body _ _=>intro s Q h;exact h.elim
 | scope body ih=>intro s Q h;exact d1Y (ih s Q h)
 | goto l=>intro s Q h;exact h.elim
 | refuse why=>intro s Q h;exact h.elim
def b9V:Nat→List V→List (Nat×V)
 | _,[]=>[]
 | i,x::r=>(i,x)::b9V (i+1) r
theorem c8q:∀ (xs:List V) (i j:Nat),b1S (b9V i xs) j=if i≤j then(xs[j - i]?).getD .junk else .junk:=by
 intro xs
 induction xs with
 | nil=>intro i j;simp[b9V,b1S]
 | cons x xs ih =>
  intro i j
  simp only[b9V,b1S]
  by_cases e:j=i
  ·subst e;simp
  ·rw[if_neg e,ih]
   by_cases h:i+1≤j
   ·rw[if_pos h,if_pos (by omega)]
    have:j - i=(j - (i+1))+1:=by omega
    rw[this];simp
   ·rw[if_neg h,if_neg (by omega)]
theorem RelW.base{E:Env}{G:Gh}{heap:List VObj}{arr:List Nat}{w0 w1:Base}{w:World}(h1:w0.w=w1.w)(h2:w0.F=w1.F)(h:RelW E G heap arr w0 w):RelW E G heap arr w1 w:=by
 obtain⟨a,b,c⟩:=w0
 obtain⟨a',b',c'⟩:=w1
 cases h1;cases h2
 exact⟨h.newF,h.glob,h.below,h.frz,h.one,h.obj,h.lenφ,h.nod,h.sep,h.geφ,h.lenρ,h.reg,h.regd,h.fre,h.bldA (fun _ _=>rfl) (fun _ _ hs=>hs),h.ini,h.vs⟩
def c2M(E:Env)(s:St):List ResultVar→(List V→Prop)→Prop
 | [],K=>K []
 | .tmp t::r,K=>c2M E s r fun vs=>K (b1S s.tmps t::vs)
 | .cell a t::r,K=>match vAt s.heap (b1S s.tmps a)with
  | some cs=>vLoadL E t cs fun v=>c2M E s r fun vs=>K (v::vs)
  | none=>False
def f3H(E:Env)(s:St)(rs:List ResultVar)(K:V→Prop):Prop :=
 c2M E s rs fun vs=>match vs with
  | [v]=>K v
  | vs=>K (.tuple vs)
theorem c5q{E:Env}{t:TypeId}{cs:List V}{K:V→Prop}(h:vLoadL E t cs K):∃ v,vLoadL E t cs (fun u=>u=v)∧K v:=by
  unfold vLoadL at h ⊢
  cases hd:E.P.underlying t with
  | none=>rw[hd]at h;exact h.elim
  | some d =>
    rw[hd]at h
    cases d <;> simp only[]at h ⊢ <;>
      first
        | exact⟨_,⟨h.1,rfl⟩,h.2⟩
        | (cases cs with
           | nil=>exact h.elim
           | cons c r=>exact⟨c,rfl,h⟩)
def f5l(tmps:Array Value):ResultVar→Sem Value
 | .tmp t=>pure (tmps.getD t undef)
 | .cell b t=>do loadVar t (←asAddr (tmps.getD b undef))
theorem c7X(fn:Func)(tmps:Array Value):results fn tmps=(do let vs ←fn.results.mapM (f5l tmps);pure (if h:vs.size=1 then vs[0]else .tuple vs)):=by
 unfold results
 congr 1
theorem d0T{E:Env}{G:Gh}{s:St}{w0:Base}{n:Nat}{a:Act}{w:World}(hr:Rel E G s w0 n a w):∀ (rs:List ResultVar) (K:List V→Prop),c2M E s rs K →
  ∃ vs us,(rs.mapM (f5l a.tmps)).run E.P w = .ok us w∧K vs∧vs.length=us.length ∧
   ∀ (j:Nat) x v,vs[j]? = some x→us[j]? = some v→RV E.P G s.arr x v:=by
 intro rs
 induction rs with
 | nil=>intro K h;exact⟨[],[],rfl,h,rfl,by simp⟩
 | cons r rs ih =>
  intro K h
  cases r with
  | tmp t =>
   obtain⟨vs,us,g1,g2,g3,g4⟩:=ih _ h
   refine⟨b1S s.tmps t::vs,a.tmps.getD t undef::us,by simp only[List.mapM_cons,f5l,h0z,h0A,h0y,g1],g2,by simp[g3],fun j x v hx hv=>?_⟩
   cases j with
   | zero =>
    simp only[List.getElem?_cons_zero,Option.some.injEq]at hx hv
    subst hx hv;exact hr.rt.tm t
   | succ j=>exact g4 j x v (by simpa using hx) (by simpa using hv)
  | cell b t =>
   simp only[c2M]at h
   split at h
   case h_2=>exact h.elim
   rename_i cs hat
   obtain⟨y,hy1,hy2⟩:=c5q h
   obtain⟨u,y',q1,q2,q3⟩:=c6A hr.rw (hr.rt.tm b) hat hy1
   subst q2
   obtain⟨vs,us,g1,g2,g3,g4⟩:=ih _ hy2
   obtain⟨b',o',hv,_⟩:=d2O hr.rw (hr.rt.tm b) hat
   rw[hv]at q1
   simp only[Instr.loadAt,Instr.sureAddr,h0z,h0A,h0y]at q1
   refine⟨y'::vs,u::us,by simp only[List.mapM_cons,f5l,h0z,h0A,h0y,hv,asAddr,q1,g1],g2,by simp[g3],fun j x v hx hv=>?_⟩
   cases j with
   | zero=>simp at hx hv;subst hx hv;exact q3
   | succ j=>exact g4 j x v (by simpa using hx) (by simpa using hv)
theorem c5N{E:Env}{G:Gh}{s:St}{w0:Base}{n:Nat}{a:Act}{w:World}(hr:Rel E G s w0 n a w){fn:Func}{K:V→Prop}(h:f3H E s fn.results.toList K) :
  ∃ v val,(results fn a.tmps).run E.P w = .ok val w∧K v∧RV E.P G s.arr v val:=by
 obtain⟨vs,us,g1,g2,g3,g4⟩:=d0T hr _ _ h
 have hm:(fn.results.mapM (f5l a.tmps)).run E.P w = .ok us.toArray w:=by
  rw[Array.mapM_eq_mapM_toList]
  simp only[Sem.run_map,g1,h0y]
 have hall:∀ v,K v→(vs.length≠1→v = .tuple vs)→(∀ x,vs=[x]→v=x)→∃ v val,(results fn a.tmps).run E.P w = .ok val w∧K v∧RV E.P G s.arr v val:=by
  intro v hk h1 h2
  refine⟨v,if h:us.toArray.size=1 then us.toArray[0]else .tuple us.toArray,?_,hk,?_⟩
  ·rw[c7X]
   simp only[h0z,hm,h0y,h0A]
  ·by_cases hl:vs.length=1
   ·obtain⟨x,hx⟩:=List.length_eq_one_iff.1 hl
    rw[dif_pos (by simp;omega),h2 x hx]
    exact g4 0 x _ (by rw[hx];rfl) (by simp)
   ·rw[dif_neg (by simp;omega),h1 hl]
    exact .tuple _ _ (by simpa using g3) fun j c u hc hu=>g4 j c u hc (by simpa using hu)
 match vs,g2 with
 | [],g2=>exact hall _ g2 (fun _=>rfl) (by simp)
 | [x],g2=>exact hall _ g2 (by simp) (fun y hy=>by cases hy;rfl)
 | x::y::r,g2=>exact hall _ g2 (fun _=>rfl) (by simp)
theorem c4c{E:Env}{f:FuncId}{fn:Func}{c:Code}{args:List V}{heap:List VObj}{arr:List Nat}{K:b1z}(hf:E.P.funcs[f]? = some fn)(hbody:fn.body=some c)(hn:args.length≤fn.ntmps)
  (h:Snd E heap.length arr.length fn.ntmps c ⟨b9V 0 args,heap,arr⟩ fun e s=>(∀ id,e ≠ .exit id)∧f3H E s fn.results.toList fun v=>K v s.heap s.arr):b0r E f args heap arr K:=by
 intro G w0 w vals hr ha
 refine calls_of_wp hf hbody (wp_mono (h ⟨{ w0 with dfs:=[] },G,arr⟩ G _ w hr.lenφ rfl (Ext.refl _ _) ⟨hr.base (w0:=w0) (w1:={ w0 with dfs:=[] }) rfl rfl,⟨fun i=>?_,by simp;have:=ha.1;omega⟩,rfl⟩) fun e a' w' hm=>?_)
 ·rw[c8q,if_pos (Nat.zero_le _),Nat.sub_zero]
  cases hi:args[i]? with
  | none=>exact .junk _
  | some x =>
   have hlt:i<vals.size:=by rw[←ha.1];exact(g8Y.1 hi).1
   have:(vals++Array.replicate (fn.ntmps - vals.size) undef).getD i undef=vals[i]:=by
    rw[h0r,h0u hlt];simp[hlt]
   show RV _ _ _ _ ((vals++Array.replicate (fn.ntmps - vals.size) undef).getD i undef)
   rw[this]
   exact ha.2 i x _ hi (g9p hlt)
 ·rcases hm with⟨ve,s',G',rfl,⟨q1,q2⟩,q3,q4⟩ | ⟨ch,rfl,q1,q2,heap',arr',G',q3,q4,q5⟩
  ·obtain⟨v,val,g1,g2,g3⟩:=c5N q4 q2
   have hres:a'.defers=[]∧∃ v,(results fn a'.tmps).run E.P w' = .ok v w'∧d9G E G arr w0 K (Ending.returned v) w' :=
    ⟨q4.df,val,g1,.inl ⟨val,rfl,v,s'.heap,s'.arr,G',g2,q3,q4.rw.base (w0:={ w0 with dfs:=[] }) (w1:=w0) rfl rfl,g3⟩⟩
   cases ve with
   | normal=>exact hres
   | ret=>exact hres
   | exit id=>exact absurd rfl (q1 id)
  ·exact⟨q1,.inr ⟨ch,rfl,q2,heap',arr',G',q3,q4,q5.base (w0:={ w0 with dfs:=[] }) (w1:=w0) rfl rfl⟩⟩
theorem c6i{E:Env}{f:FuncId}{fn:Func}{c:Code}{args:List V}{r:V}(hf:E.P.funcs[f]? = some fn)(hbody:fn.body=some c)(hn:args.length≤fn.ntmps)(hp:b1a args=true)(hr:r.pure=true)
  (h:Snd E 0 0 fn.ntmps c ⟨b9V 0 args,[],[]⟩ fun e s=>(∀ id,e ≠ .exit id)∧f3H E s fn.results.toList fun v=>share v=r) (hal:E.alive=E:=by exact rfl):b0u E f args r:=by
 refine⟨hp,hr,?_⟩
 have:=c4c (heap:=[]) (arr:=[]) (K:=fun v _ _=>share v=r) hf hbody hn h
 rw[←hal]at this
 intro G w0 w vals hrel ha
 refine(this G w0 w vals hrel ha).mono fun e w' hg=>?_
 obtain⟨val,he,v,heap',arr',G',hv,hx,hr',hrv⟩:=hg.alive
 exact .inl ⟨val,he,share v,heap',arr',G',hv,hx,hr',hrv.share⟩
end Go.Vg
