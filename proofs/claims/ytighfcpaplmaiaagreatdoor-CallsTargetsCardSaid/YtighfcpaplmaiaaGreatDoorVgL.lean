import Derived.Test.YtighfcpaplmaiaaGreatDoorVgK
set_option linter.unusedVariables false
set_option linter.unusedSimpArgs false
namespace Go.Vg
open Go.RowKit
def Own.lt(ka:Nat):Own→Bool
 | .arr k=>decide (k<ka)
 | _=>true
mutual
def V.lt(k ka:Nat):V→Bool
 | .ptr id _=>decide (id<k)
 | .mslice id _ _ _ _=>decide (id<k)
 | .map id=>decide (id<k)
 | .fptr cs=>ltL k ka cs
 | .slice o _ es=>o.lt ka && b6J k ka es
 | .func _ cs=>ltL k ka cs
 | .meth _ cs=>ltL k ka cs
 | .iface _ v=>v.lt k ka
 | .agg cs=>ltL k ka cs
 | .tuple cs=>ltL k ka cs
 | .vec _ j _ _ _=>decide (j<ka)
 | .vptr _ j _ _=>decide (j<ka)
 | _=>true
def ltL(k ka:Nat):List V→Bool
 | []=>true
 | x::r=>x.lt k ka && ltL k ka r
def b6J(k ka:Nat):List (List V)→Bool
 | []=>true
 | x::r=>ltL k ka x && b6J k ka r
end
mutual
theorem V.lt_pure(k ka:Nat):∀ x:V,x.pure=true→x.lt k ka=true
 | .junk,_ | .bool _,_ | .int _ _,_ | .str _,_ | .nilp,_ | .nilmap,_ | .nilfunc,_ | .nilif,_=>rfl
 | .ptr ..,h | .mslice ..,h | .map _,h=>by simp[V.pure]at h
 | .fptr cs,h=>b4g k ka cs h
 | .slice o _ es,h=>by
  simp only[V.pure,g9g]at h
  simp only[V.lt,g9g]
  exact⟨by cases o <;> first | rfl | simp[Own.plain]at h,b0m k ka es h.2⟩
 | .func _ cs,h=>b4g k ka cs h
 | .meth _ cs,h=>b4g k ka cs h
 | .iface _ v,h=>V.lt_pure k ka v h
 | .agg cs,h=>b4g k ka cs h
 | .tuple cs,h=>b4g k ka cs h
theorem b4g(k ka:Nat):∀ x:List V,b1a x=true→ltL k ka x=true
 | [],_=>rfl
 | x::r,h=>by
  simp only[b1a,g9g]at h
  simp only[ltL,g9g]
  exact⟨V.lt_pure k ka x h.1,b4g k ka r h.2⟩
theorem b0m(k ka:Nat):∀ x:List (List V),b0R x=true→b6J k ka x=true
 | [],_=>rfl
 | x::r,h=>by
  simp only[b0R,g9g]at h
  simp only[b6J,g9g]
  exact⟨b4g k ka x h.1,b0m k ka r h.2⟩
end
theorem b4M{k ka:Nat}{cs:List V}(h:ltL k ka cs=true):∀ (j:Nat) c,cs[j]? = some c→c.lt k ka=true:=by
 induction cs with
 | nil=>intro j c hc;simp at hc
 | cons x r ih =>
  simp only[ltL,g9g]at h
  intro j c hc
  cases j with
  | zero=>simp at hc;exact hc ▸ h.1
  | succ j=>exact ih h.2 j c (by simpa using hc)
theorem d3F{k ka:Nat}{cs:List (List V)}(h:b6J k ka cs=true):∀ (j:Nat) c,cs[j]? = some c→ltL k ka c=true:=by
 induction cs with
 | nil=>intro j c hc;simp at hc
 | cons x r ih =>
  simp only[b6J,g9g]at h
  intro j c hc
  cases j with
  | zero=>simp at hc;exact hc ▸ h.1
  | succ j=>exact ih h.2 j c (by simpa using hc)
def Gh.cut(G:Gh)(k ka:Nat):Gh:=⟨G.F,G.φ.take k,G.ρ.take ka⟩
theorem b1E{α:Type}{l:List α}{k j:Nat}(h:j<k):(l.take k)[j]? = l[j]?:=by
 rw[List.getElem?_take,if_pos h]
theorem b1c{α:Type}{l:List α}{k j:Nat}{x:α}(h:(l.take k)[j]? = some x):j<k∧l[j]? = some x:=by
 rw[List.getElem?_take]at h
 split at h
 ·exact⟨by assumption,h⟩
 ·cases h
theorem d1u.cut{G:Gh}{arr:List Nat}{k ka j gen:Nat}{C:Nat→Nat→Prop}(h:d1u G arr j gen C)(hj:j<ka):d1u (G.cut k ka) (arr.take ka) j gen C:=by
 obtain⟨n,h1,h2,h3⟩:=h
 refine⟨n,(b1E hj).trans h1,h2,fun e=>?_⟩
 obtain⟨b,hi,h4,h5⟩:=h3 e
 exact⟨b,hi,(b1E hj).trans h4,h5⟩
theorem RV.cut{P:Program}{G:Gh}{arr:List Nat}{k ka:Nat}{x:V}{v:Value}(hx:RV P G arr x v):x.lt k ka=true→RV P (G.cut k ka) (arr.take ka) x v:=by
 induction hx with
 | junk v=>intro _;exact .junk v
 | bool b=>intro _;exact .bool b
 | int k n=>intro _;exact .int k n
 | str s hs=>intro _;exact .str s hs
 | nilp=>intro _;exact .nilp
 | ptr id off b hb=>intro h;simp only[V.lt,g9h]at h;exact .ptr id off b ((b1E h).trans hb)
 | fptr cs b o hd _ ih =>
  intro h
  simp only[V.lt]at h
  refine .fptr cs b o hd fun j c v hc hv=>ih j c v hc hv (b4M h j c hc)
 | sodd e a c=>intro _;exact .sodd _ _ _
 | snil o e ho =>
  intro h
  refine .snil o e ?_
  simp only[V.lt,g9g]at h
  cases o <;> simp_all [Own.lt,c1m]
 | slice o e es b off cap ho h1 h2 h3 h4 hd _ ih =>
  intro h
  simp only[V.lt,g9g]at h
  refine .slice o e es b off cap ?_ h1 h2 h3 h4 hd fun i el j c v hi hj hv=>ih i el j c v hi hj hv (b4M (d3F h.2 i el hi) j c hj)
  cases o with
  | arr kk =>
   obtain⟨n,g1,g2,g3⟩:=ho
   have hk:kk<ka:=by simpa[Own.lt]using h.1
   exact⟨n,(b1E hk).trans g1,g2,fun e=>(b1E hk).trans (g3 e)⟩
  | _=>exact ho
 | mslice id off len cap e b hb h1 h2 h3=>intro h;simp only[V.lt,g9h]at h;exact .mslice id off len cap e b ((b1E h).trans hb) h1 h2 h3
 | nilmap=>intro _;exact .nilmap
 | map id b hb=>intro h;simp only[V.lt,g9h]at h;exact .map id b ((b1E h).trans hb)
 | nilfunc=>intro _;exact .nilfunc
 | func f caps cs hl _ ih =>
  intro h
  simp only[V.lt]at h
  exact .func f caps cs hl fun j c v hj hv=>ih j c v hj hv (b4M h j c hj)
 | meth f xs vs hl _ ih =>
  intro h
  simp only[V.lt]at h
  exact .meth f xs vs hl fun j c v hj hv=>ih j c v hj hv (b4M h j c hj)
 | nilif=>intro _;exact .nilif
 | iface t x v _ ih=>intro h;simp only[V.lt]at h;exact .iface t x v (ih h)
 | agg cs vs hl _ ih =>
  intro h
  simp only[V.lt]at h
  exact .agg cs vs hl fun j c v hj hv=>ih j c v hj hv (b4M h j c hj)
 | tuple cs vs hl _ ih =>
  intro h
  simp only[V.lt]at h
  exact .tuple cs vs hl fun j c v hj hv=>ih j c v hj hv (b4M h j c hj)
 | vec id j gen len e b o cap hv h1 h2 =>
  intro h
  simp only[V.lt,g9h]at h
  exact .vec id j gen len e b o cap (hv.cut h) h1 h2
 | vptr id j gen off b o hv =>
  intro h
  simp only[V.lt,g9h]at h
  exact .vptr id j gen off b o (hv.cut h)
def ltP(k ka:Nat):List (V×V)→Bool
 | []=>true
 | (x,y)::r=>x.lt k ka && y.lt k ka && ltP k ka r
theorem c9O{k ka:Nat}{es:List (V×V)}(h:ltP k ka es=true):∀ (j:Nat) x y,es[j]? = some (x,y)→x.lt k ka=true∧y.lt k ka=true:=by
 induction es with
 | nil=>intro j x y hc;simp at hc
 | cons e r ih =>
  obtain⟨a,b⟩:=e
  simp only[ltP,g9g]at h
  intro j x y hc
  cases j with
  | zero=>simp at hc;obtain⟨rfl,rfl⟩:=hc;exact h.1
  | succ j=>exact ih h.2 j x y (by simpa using hc)
def VObj.lt(k ka:Nat):VObj→Bool
 | .cells cs=>ltL k ka cs
 | .map es=>ltP k ka es
 | .siter _ _=>true
 | .dead=>true
 | .tcells _ cs=>ltL k ka cs
 | .builder _ _=>true
 | .vec j _ _ cs=>decide (j<ka) && ltL k ka cs
def ltH(k ka:Nat):List VObj→Bool
 | []=>true
 | o::r=>o.lt k ka && ltH k ka r
theorem d0g{k ka:Nat}{h:List VObj}(hh:ltH k ka h=true):∀ (j:Nat) o,h[j]? = some o→o.lt k ka=true:=by
 induction h with
 | nil=>intro j c hc;simp at hc
 | cons x r ih =>
  simp only[ltH,g9g]at hh
  intro j c hc
  cases j with
  | zero=>simp at hc;exact hc ▸ hh.1
  | succ j=>exact ih hh.2 j c (by simpa using hc)
def ltT(k ka:Nat):List (Nat×V)→Bool
 | []=>true
 | (_,x)::r=>x.lt k ka && ltT k ka r
theorem d5C{k ka:Nat}:∀ {tm:List (Nat×V)},ltT k ka tm=true→∀ i,(b1S tm i).lt k ka=true:=by
 intro tm
 induction tm with
 | nil=>intro _ i;rfl
 | cons p r ih =>
  obtain⟨j,x⟩:=p
  intro h i
  simp only[ltT,g9g]at h
  simp only[b1S]
  split
  ·exact h.1
  ·exact ih h.2 i
theorem c2r.cut{P:Program}{G:Gh}{arr:List Nat}{w:World}{b k ka:Nat}{ob:VObj}(h:c2r P G arr w b ob)(hl:ob.lt k ka=true):c2r P (G.cut k ka) (arr.take ka) w b ob:=by
 cases ob with
 | cells cs =>
  obtain⟨c,e,h1,h2,h3⟩:=h
  exact⟨c,e,h1,h2,fun j x hj=>(h3 j x hj).imp fun v hv=>⟨hv.1,hv.2.cut (b4M hl j x hj)⟩⟩
 | map es =>
  obtain⟨m,clk,h1,h2,h3⟩:=h
  exact⟨m,clk,h1,h2,fun j kx vx hj=>(h3 j kx vx hj).imp fun e he=>⟨he.1,he.2.1.cut (c9O hl j _ _ hj).1,he.2.2.cut (c9O hl j _ _ hj).2⟩⟩
 | siter s pos=>exact h
 | dead=>trivial
 | vec _ _ _ _=>trivial
 | builder t s=>exact h
 | tcells t cs =>
  obtain⟨c,h1,h2,h3⟩:=h
  exact⟨c,h1,h2,fun j x hj=>(h3 j x hj).imp fun v hv=>⟨hv.1,hv.2.cut (b4M hl j x hj)⟩⟩
theorem RelW.cut{E:Env}{G:Gh}{heap:List VObj}{arr:List Nat}{w0:Base}{w:World}(h:RelW E G heap arr w0 w){k ka:Nat}(hl:ltH k ka (heap.take k)=true) :
  RelW E (G.cut k ka) (heap.take k) (arr.take ka) w0 w:=by
 refine⟨h.newF,fun g cs hg=>⟨(h.glob g cs hg).1,(h.glob g cs hg).2.pure (h.glob g cs hg).1 _ _ fun _ _ _ h=>h⟩,h.below,h.frz,h.one,?_,by simp[Gh.cut,h.lenφ],?_,?_,?_,by simp[Gh.cut,h.lenρ],?_,?_,?_,?_,h.ini,⟨fun id j gen e cs hid=>?_,fun id id' j g g' e e' cs cs' h1 h2=>h.vs.uni id id' j g g' e e' cs cs' (b1c h1).2 (b1c h2).2⟩⟩
 rotate_right 1
 ·have hlt:=d0g hl id _ hid
  simp only[VObj.lt,g9g,g9h]at hlt
  obtain⟨q1,q2,b,hi,q3,q4,q5⟩:=h.vs.at_ id j gen e cs (b1c hid).2
  exact⟨(b1E hlt.1).trans q1,q2,b,hi,(b1E hlt.1).trans q3,q4,fun i x hi=>(q5 i x hi).imp fun v hv=>⟨hv.1,hv.2.1.cut (b4M hlt.2 i x hi),hv.2.2⟩⟩
 ·intro id ob hid
  have hlt:=d0g hl id ob hid
  obtain⟨h1,h2⟩:=b1c hid
  obtain⟨b,hb,hr⟩:=h.obj id ob h2
  exact⟨b,(b1E h1).trans hb,hr.cut hlt⟩
 ·intro i j b hi hj
  exact h.nod i j b (b1c hi).2 (b1c hj).2
 ·intro id b o hb hd
  exact h.sep id b o (b1c hb).2 (by rwa [b1E (b1c hb).1]at hd)
 ·intro id b hb
  exact h.geφ id b (b1c hb).2
 ·intro j b lo hi hj hlt
  obtain⟨r1,r2,r3,r4⟩:=h.reg j b lo hi (b1c hj).2 hlt
  exact⟨r1,fun id hid ob hob=>r2 id (b1c hid).2 ob (b1c hob).2,r3,r4⟩
 ·intro i j b lo hi lo' hi' hij hi1 hj1 h1 h2
  exact h.regd i j b lo hi lo' hi' hij (b1c hi1).2 (b1c hj1).2 h1 h2
 ·intro j b lo hi hj
  exact h.fre j b lo hi (b1c hj).2
 ·intro id t s b hi hb
  refine(h.bld id t s b (b1c hi).2 (b1c hb).2).keep rfl fun g hg ⟨s1,s2,s3⟩=>⟨rfl,s1,fun i hi'=>s2 i (b1c hi').2,fun j lo hi' hj=>s3 j lo hi' (b1c hj).2⟩
theorem b7b.cut{E:Env}{hb ab n:Nat}{tm:List (Nat×V)}{h:List VObj}{a:List Nat}{k ka:Nat}(hl:ltH k ka (h.take k)=true)(ht:ltT k ka tm=true)(h1:hb≤k)(h2:ab≤ka) :
  b7b E hb ab n ⟨tm,h,a⟩ ⟨tm,h.take k,a.take ka⟩:=by
 intro B G ac w q1 q2 q3 q4
 refine⟨G.cut k ka,⟨q3.F,fun id b hb=>?_,fun j m hj=>?_⟩,q4.rw.cut hl,⟨fun i=>(q4.rt.tm i).cut (d5C ht i),q4.rt.sz⟩,q4.df⟩
 ·have:=(g8Y.1 hb).1
  exact(b1E (by omega)).trans (q3.φ id b hb)
 ·have:=(g8Y.1 hj).1
  obtain⟨n',g1,g2,g3⟩:=q3.ρ j m hj
  exact⟨n',(b1E (by omega)).trans g1,g2,fun e=>(b1E (by omega)).trans (g3 e)⟩
def tell1(N:Nat):V→V→Prop
 | _,.junk=>True
 | .slice _ e es,.slice .shared e' es'=>es=es'∧(es=[]∨e=e')
 | .slice .nil _ es,.slice (.arr k) _ es'=>es=[]∧es'=[]∧k<N
 | x,y=>x=y
def b6T(N:Nat):List V→List V→Prop
 | [],[]=>True
 | x::r,y::q=>tell1 N x y∧b6T N r q
 | _,_=>False
def tell(N:Nat):V→V→Prop
 | .agg cs,.agg cs'=>b6T N cs cs'
 | x,y=>tell1 N x y
theorem RV.nil_is{P:Program}{G:Gh}{arr:List Nat}{e:TypeId}{es:List (List V)}{v:Value}(h:RV P G arr (.slice .nil e es) v):v = .slice none 0 0∧es=[]:=by
 cases h with
 | snil=>exact⟨rfl,rfl⟩
 | slice _ _ _ _ _ _ ho=>exact ho.elim
theorem RV.tell1{P:Program}{G:Gh}{arr:List Nat}{x y:V}{v:Value}(h:RV P G arr x v)(ht:tell1 arr.length x y):RV P G arr y v:=by
 unfold Vg.tell1 at ht
 split at ht
 ·exact .junk _
 ·obtain⟨rfl,he⟩:=ht
  rcases he with rfl | rfl
  ·exact h.anyElem
  ·cases h with
   | snil=>exact .snil _ _ trivial
   | sodd=>exact .sodd _ _ _
   | slice _ _ _ b off cap ho h1 h2 h3 h4 h5 h6=>exact .slice _ _ _ _ _ _ trivial h1 h2 h3 h4 h5 h6
 ·obtain⟨rfl,rfl,hk⟩:=ht
  rw[h.nil_is.1]
  exact .snil _ _ ⟨_,g9b hk⟩
 ·exact ht ▸ h
theorem b9p{N:Nat}:∀ {cs cs':List V},b6T N cs cs'→cs'.length=cs.length∧∀ (j:Nat) y,cs'[j]? = some y→∃ x,cs[j]? = some x∧Vg.tell1 N x y:=by
 intro cs
 induction cs with
 | nil=>intro cs' h;cases cs' with
  | nil=>exact⟨rfl,by simp⟩
  | cons=>exact h.elim
 | cons x r ih =>
  intro cs' h
  cases cs' with
  | nil=>exact h.elim
  | cons y q =>
   obtain⟨h1,h2⟩:=h
   obtain⟨g1,g2⟩:=ih h2
   refine⟨by simp[g1],fun j z hj=>?_⟩
   cases j with
   | zero=>simp at hj;subst hj;exact⟨x,rfl,h1⟩
   | succ j=>simpa using g2 j z (by simpa using hj)
theorem RV.tell{P:Program}{G:Gh}{arr:List Nat}{x y:V}{v:Value}(h:RV P G arr x v)(ht:tell arr.length x y):RV P G arr y v:=by
 unfold Vg.tell at ht
 split at ht
 ·rename_i cs cs'
  obtain⟨h1,h2⟩:=b9p ht
  cases h with
  | agg _ vs hl hr =>
   refine .agg _ _ (by omega) fun j c u hc hu=>?_
   obtain⟨x,hx,hxy⟩:=h2 j c hc
   exact(hr j x u hx hu).tell1 hxy
 ·exact h.tell1 ht
def b6q(N:Nat):List (Nat×V)→List (Nat×V)→Prop
 | [],_=>True
 | (j,y)::r,tm=>tell N (b1S tm j) y∧b6q N r tm
theorem c5M{N:Nat}:∀ {tm' tm:List (Nat×V)},b6q N tm' tm→∀ i,b1S tm' i = .junk∨tell N (b1S tm i) (b1S tm' i):=by
 intro tm'
 induction tm' with
 | nil=>intro tm _ i;exact .inl rfl
 | cons p r ih =>
  obtain⟨j,y⟩:=p
  intro tm h i
  simp only[b1S]
  split
  ·rename_i e;subst e;exact .inr h.1
  ·exact ih h.2 i
def b6A(N:Nat):VObj→VObj→Prop
 | .cells cs,.cells cs'=>b6T N cs cs'
 | .tcells t cs,.tcells t' cs'=>t=t'∧b6T N cs cs'
 | _,.dead=>True
 | x,y=>x=y
def b5m(N:Nat):List VObj→List VObj→Prop
 | _,[]=>True
 | x::r,y::q=>b6A N x y∧b5m N r q
 | [],_::_=>False
theorem c3h{N:Nat}:∀ {h h':List VObj},b5m N h h'→h'.length≤h.length∧∀ (j:Nat) y,h'[j]? = some y→∃ x,h[j]? = some x∧b6A N x y:=by
 intro h
 induction h with
 | nil=>intro h' ht;cases h' with
  | nil=>exact⟨g9m _,by simp⟩
  | cons=>exact ht.elim
 | cons x r ih =>
  intro h' ht
  cases h' with
  | nil=>exact⟨Nat.zero_le _,by simp⟩
  | cons y q =>
   obtain⟨h1,h2⟩:=ht
   obtain⟨g1,g2⟩:=ih h2
   refine⟨by simp;omega,fun j z hj=>?_⟩
   cases j with
   | zero=>simp at hj;subst hj;exact⟨x,rfl,h1⟩
   | succ j=>simpa using g2 j z (by simpa using hj)
theorem c2r.tell{P:Program}{G:Gh}{arr:List Nat}{w:World}{b:Nat}{x y:VObj}(h:c2r P G arr w b x)(ht:b6A arr.length x y):c2r P G arr w b y:=by
 unfold b6A at ht
 split at ht
 ·rename_i cs cs'
  obtain⟨c,e,h1,h2,h3⟩:=h
  obtain⟨g1,g2⟩:=b9p ht
  refine⟨c,e,h1,by omega,fun j y hj=>?_⟩
  obtain⟨x,hx,hxy⟩:=g2 j y hj
  exact(h3 j x hx).imp fun v hv=>⟨hv.1,hv.2.tell1 hxy⟩
 ·rename_i t cs t' cs'
  obtain⟨rfl,ht⟩:=ht
  obtain⟨c,h1,h2,h3⟩:=h
  obtain⟨g1,g2⟩:=b9p ht
  refine⟨c,h1,by omega,fun j y hj=>?_⟩
  obtain⟨x,hx,hxy⟩:=g2 j y hj
  exact(h3 j x hx).imp fun v hv=>⟨hv.1,hv.2.tell1 hxy⟩
 ·trivial
 ·exact ht ▸ h
theorem b7b.tell{E:Env}{hb ab n:Nat}{tm tm':List (Nat×V)}{h h':List VObj}{a:List Nat}(ht:b6q a.length tm' tm)(hh:b5m a.length h h')(hl:h'.length=h.length) :
  b7b E hb ab n ⟨tm,h,a⟩ ⟨tm',h',a⟩:=by
 intro B G ac w q1 q2 q3 q4
 obtain⟨g1,g2⟩:=c3h hh
 have r:=q4.rw
 have hbl:∀ (id:Nat) t s,h'[id]? = some (.builder t s)→h[id]? = some (.builder t s):=fun id t s hi=>by
  obtain⟨x,hx,hxy⟩:=g2 id _ hi
  cases x
  case builder=>cases hxy;exact hx
  all_goals cases hxy
 have hvc:∀ (id k gen:Nat) e cs,h'[id]? = some (.vec k gen e cs)→h[id]? = some (.vec k gen e cs):=fun id k gen e cs hi=>by
  obtain⟨x,hx,hxy⟩:=g2 id _ hi
  cases x
  case vec=>cases hxy;exact hx
  all_goals cases hxy
 have hlo:∀ (k id:Nat) ob,h'[id]? = some ob→(∀ x,h[id]? = some x→x.looseAt k=true)→ob.looseAt k=true:=fun k id ob hob hz=>by
  obtain⟨x,hx,hxy⟩:=g2 id ob hob
  have:=hz x hx
  cases x
  case dead=>cases ob <;> first | rfl | cases hxy
  case vec=>cases ob <;> first | rfl | (cases hxy;exact this) | cases hxy
  all_goals cases this
 refine⟨G,q3,⟨r.newF,r.glob,r.below,r.frz,r.one,fun id ob hid=>?_,by rw[r.lenφ];exact hl.symm,r.nod,fun id b o hb hd=>r.sep id b o hb fun hd'=>hd ?_,r.geφ,r.lenρ,fun k b lo hi hk hlt=>⟨(r.reg k b lo hi hk hlt).1,fun id hid ob hob=>hlo k id ob hob fun x hx=>(r.reg k b lo hi hk hlt).2.1 id hid x hx,(r.reg k b lo hi hk hlt).2.2⟩,r.regd,r.fre,fun id t s b hi hb=>?_,r.ini,
  r.vs.keep (Ext.refl _ _) hvc (fun _ _ _ _ h _ _=>h) fun _ _ _ _ _ _ _ _ _=>rfl⟩,⟨fun i=>?_,q4.rt.sz⟩,q4.df⟩
 ·obtain⟨x,hx,hxy⟩:=g2 id ob hid
  exact(r.obj id x hx).imp fun b hb=>⟨hb.1,hb.2.tell hxy⟩
 ·have hlt:id<h'.length:=by rw[hl];exact(g8Y.1 hd').1
  obtain⟨x,hx,hxy⟩:=g2 id _ (g9b hlt)
  rw[hd']at hx
  cases hx
  rw[g9b hlt]
  generalize h'[id]=y at hxy
  cases y <;> first | rfl | cases hxy
 ·exact(r.bld id t s b (hbl id t s hi) hb).keep rfl fun _ _ hs=>⟨rfl,hs⟩
 ·rcases c5M ht i with e | e
  ·show RV _ _ _ (b1S tm' i) _
   rw[e];exact .junk _
  ·exact(q4.rt.tm i).tell e
theorem b7b.slot{E:Env}{hb ab n:Nat}{tm:List (Nat×V)}{h:List VObj}{a:List Nat}(m:Nat):b7b E hb ab n ⟨tm,h,a⟩ ⟨tm,h,a++[m]⟩:=by
 intro B G ac w q1 q2 q3 q4
 obtain⟨g1,g2⟩:=q4.rw.slot m
 exact⟨_,q3.trans g1,g2,q4.rt.mono g1,q4.df⟩
def b8q:List Nat→List Nat→Prop
 | _,[]=>True
 | [],_::_=>True
 | x::r,y::q=>x=y∧b8q r q
theorem d1I:∀ {a a':List Nat},b8q a a'→∃ z,(a++z).take a'.length=a'∧(a.length≤a'.length→a++z=a')∧(a'.length<a.length→z=[]):=by
 intro a
 induction a with
 | nil =>
  intro a' _
  exact⟨a',by simp,fun _=>rfl,by simp⟩
 | cons x r ih =>
  intro a' h
  cases a' with
  | nil=>exact⟨[],by simp,by simp,by simp⟩
  | cons y q =>
   obtain⟨rfl,h2⟩:=h
   obtain⟨z,g1,g2,g3⟩:=ih h2
   refine⟨z,by simp[g1],fun hl=>?_,fun hl=>?_⟩
   ·simp at hl;simp[g2 hl]
   ·simp at hl;exact g3 hl
theorem b7b.slots{E:Env}{hb ab n:Nat}{tm:List (Nat×V)}{h:List VObj}:∀ (z a:List Nat),b7b E hb ab n ⟨tm,h,a⟩ ⟨tm,h,a++z⟩:=by
 intro z
 induction z with
 | nil=>intro a;rw[g9B];exact b7b.refl
 | cons m z ih =>
  intro a
  have:=(b7b.slot (E:=E) (hb:=hb) (ab:=ab) (n:=n) (tm:=tm) (h:=h) (a:=a) m).trans (ih (a++[m]))
  simpa using this
theorem c9i{N:Nat}:∀ {h h':List VObj},b5m N h h'→b5m N h (h'++h.drop h'.length):=by
 intro h
 have refl1:∀ x,Vg.tell1 N x x:=fun x=>by
  unfold Vg.tell1
  split <;> simp_all
 have reflL:∀ cs,b6T N cs cs:=fun cs=>by
  induction cs with
  | nil=>trivial
  | cons x r ih=>exact⟨refl1 x,ih⟩
 have reflO:∀ o,b6A N o o:=fun o=>by
  cases o with
  | cells cs=>exact reflL cs
  | map es=>rfl
  | siter s pos=>rfl
  | dead=>trivial
  | tcells t cs=>exact⟨rfl,reflL cs⟩
  | builder t s=>rfl
  | vec _ _ _ _=>rfl
 have refl:∀ h,b5m N h h:=fun h=>by
  induction h with
  | nil=>trivial
  | cons x r ih=>exact⟨reflO x,ih⟩
 induction h with
 | nil=>intro h' ht;cases h' with
  | nil=>trivial
  | cons=>exact ht.elim
 | cons x r ih =>
  intro h' ht
  cases h' with
  | nil=>exact refl _
  | cons y q=>exact⟨ht.1,ih ht.2⟩
def c5T(hb ab:Nat)(s t:St):Prop :=
 b6q t.arr.length t.tmps s.tmps∧b5m t.arr.length s.heap t.heap∧b8q s.arr t.arr∧hb≤t.heap.length∧ab≤t.arr.length ∧
 ((s.heap.length≤t.heap.length∧s.arr.length≤t.arr.length)∨(ltH t.heap.length t.arr.length t.heap=true∧ltT t.heap.length t.arr.length t.tmps=true))
theorem c5T.weak{E:Env}{hb ab n:Nat}{s t:St}(h:c5T hb ab s t):b7b E hb ab n s t:=by
 obtain⟨tm,hp,a⟩:=s
 obtain⟨tm',hp',a'⟩:=t
 obtain⟨h1,h2,h3,h4,h5,h6⟩:=h
 simp only at h1 h2 h3 h4 h5 h6
 obtain⟨z,z1,z2,z3⟩:=d1I h3
 refine(b7b.slots z a).trans ?_
 obtain⟨l1,_⟩:=c3h h2
 rcases h6 with⟨g1,g2⟩ | ⟨g1,g2⟩
 ·rw[z2 g2]
  exact b7b.tell h1 h2 (by omega)
 ·have hlen:a'.length≤(a++z).length:=by
   have:=congrArg List.length z1
   rw[List.length_take]at this
   omega
  have mono1:∀ x y,Vg.tell1 a'.length x y→Vg.tell1 (a++z).length x y:=by
   intro x y hxy
   unfold Vg.tell1 at hxy ⊢
   split at hxy <;> try trivial
   exact⟨hxy.1,hxy.2.1,by omega⟩
  have monoL:∀ cs cs',b6T a'.length cs cs'→b6T (a++z).length cs cs':=by
   intro cs
   induction cs with
   | nil=>intro cs' h;cases cs' <;> exact h
   | cons x r ih=>intro cs' h;cases cs' with
    | nil=>exact h
    | cons y q=>exact⟨mono1 _ _ h.1,ih _ h.2⟩
  have mono:∀ x y,Vg.tell a'.length x y→Vg.tell (a++z).length x y:=by
   intro x y hxy
   unfold Vg.tell at hxy ⊢
   split at hxy
   ·exact monoL _ _ hxy
   ·exact mono1 _ _ hxy
  have monoT:∀ t' t'',b6q a'.length t' t''→b6q (a++z).length t' t'':=by
   intro t'
   induction t' with
   | nil=>intro _ _;trivial
   | cons p r ih=>intro t'' h;exact⟨mono _ _ h.1,ih _ h.2⟩
  have monoO:∀ x y,b6A a'.length x y→b6A (a++z).length x y:=by
   intro x y hxy
   unfold b6A at hxy ⊢
   split at hxy
   ·exact monoL _ _ hxy
   ·exact⟨hxy.1,monoL _ _ hxy.2⟩
   ·trivial
   ·exact hxy
  have monoH:∀ x y,b5m a'.length x y→b5m (a++z).length x y:=by
   intro x
   induction x with
   | nil=>intro y h;cases y <;> exact h
   | cons o r ih=>intro y h;cases y with
    | nil=>trivial
    | cons p q=>exact⟨monoO _ _ h.1,ih _ h.2⟩
  refine(b7b.tell (h':=hp'++hp.drop hp'.length) (monoT _ _ h1) (c9i (monoH _ _ h2)) (by simp;omega)).trans ?_
  have:=b7b.cut (E:=E) (hb:=hb) (ab:=ab) (n:=n) (tm:=tm') (h:=hp'++hp.drop hp'.length) (a:=a++z) (k:=hp'.length) (ka:=a'.length) (by simpa using g1) g2 h4 h5
  rwa [z1,List.take_left']at this
  rfl
def d4B{α:Type}(hb ab:Nat)(S:α→St)(I:α→Prop)(μ:α→Nat)(m:Nat)(Q:VEx→St→Prop):VEx→St→Prop:=c3g (fun s=>∃ a,μ a<m∧I a∧c5T hb ab s (S a)) Q
section
variable {α : Type} {hb ab m i : Nat} {S : α → St} {I : α → Prop} {μ : α → Nat} {Q : VEx → St → Prop} {s : St}
@[go_sem] theorem d7s:d4B hb ab S I μ m Q .normal s=∃ a,μ a<m∧I a∧c5T hb ab s (S a):=rfl
@[go_sem] theorem f1f:d4B hb ab S I μ m Q (.exit i) s=Q (.exit i) s:=rfl
@[go_sem] theorem f4Y:d4B hb ab S I μ m Q .ret s=Q .ret s:=rfl
end
theorem b1A{E:Env}{hb ab n:Nat}{x:Code}{s:St}{Q:VEx→St→Prop}{α:Type}(S:α→St)(I:α→Prop)(μ:α→Nat)(a0:α)(h0:c5T hb ab s (S a0))(hI:I a0)
  (round:∀ a,I a→vc E hb ab n x (S a) (d4B hb ab S I μ (μ a) Q)):Snd E hb ab n (.loop x) s Q :=
 c2i (fun m t=>∃ a,t=S a∧I a∧μ a=m) ⟨_,_,h0.weak,a0,rfl,hI,rfl⟩ fun m t ⟨a,ht,hi,hm⟩=>by
  subst ht hm
  refine(b5h _ _ _ (round a hi)).mono fun e s hq=>?_
  cases e with
  | normal =>
   obtain⟨a',h1,h2,h3⟩:=hq
   exact⟨μ a',S a',h1,h3.weak,a',rfl,h2,rfl⟩
  | exit id=>exact hq
  | ret=>exact hq
def d0c{α β:Type}(hb ab:Nat)(S:List α→β→St)(I:List α→List α→β→Prop)(pre:List α)(x:α)(post:List α)(Q:VEx→St→Prop):VEx→St→Prop :=
 c3g (fun s=>∃ b,I (pre++[x]) post b∧c5T hb ab s (S (pre++[x]) b)) Q
section
variable {α β : Type} {hb ab i : Nat} {S : List α → β → St} {I : List α → List α → β → Prop} {pre post : List α} {x : α} {Q : VEx → St → Prop} {s : St}
@[go_sem] theorem d6G:d0c hb ab S I pre x post Q .normal s=∃ b,I (pre++[x]) post b∧c5T hb ab s (S (pre++[x]) b):=rfl
@[go_sem] theorem f1H:d0c hb ab S I pre x post Q (.exit i) s=Q (.exit i) s:=rfl
@[go_sem] theorem f5V:d0c hb ab S I pre x post Q .ret s=Q .ret s:=rfl
end
def d8j(Q:VEx→St→Prop):VEx→St→Prop:=c3g (fun _=>False) Q
section
variable {i : Nat} {Q : VEx → St → Prop} {s : St}
@[go_sem] theorem f1G:d8j Q (.exit i) s=Q (.exit i) s:=rfl
end
theorem b0n{E:Env}{hb ab n:Nat}{c:Code}{s:St}{Q:VEx→St→Prop}{α β:Type}(xs:List α)(S:List α→β→St)(I:List α→List α→β→Prop)(b0:β)(h0:c5T hb ab s (S [] b0))(hI:I [] xs b0)
  (stop:∀ b,I xs [] b→vc E hb ab n c (S xs b) (d8j Q))
  (step:∀ pre x post b,xs=pre++x::post→I pre (x::post) b→vc E hb ab n c (S pre b) (d0c hb ab S I pre x post Q)):Snd E hb ab n (.loop c) s Q:=by
 refine c2i (fun m t=>∃ pre post b,t=S pre b∧xs=pre++post∧I pre post b∧post.length=m) ⟨_,_,h0.weak,[],xs,b0,rfl,rfl,hI,rfl⟩ fun m t ⟨pre,post,b,ht,hx,hi,hm⟩=>?_
 subst ht
 cases post with
 | nil =>
  have:xs=pre:=by simpa using hx
  subst this
  refine(b5h _ _ _ (stop b hi)).mono fun e s hq=>?_
  cases e with
  | normal=>exact hq.elim
  | exit id=>exact hq
  | ret=>exact hq
 | cons x post =>
  refine(b5h _ _ _ (step pre x post b hx hi)).mono fun e s hq=>?_
  cases e with
  | normal =>
   obtain⟨b',h1,h2⟩:=hq
   refine⟨post.length,S (pre++[x]) b',by simp at hm;omega,h2.weak,pre++[x],post,b',rfl,by simp[hx],h1,rfl⟩
  | exit id=>exact hq
  | ret=>exact hq
section
variable {N k k' ka : Nat} {x y : V} {kd : IntKind} {a b : Int} {p q : Bool} {s s' : ByteArray} {o : Own} {e e' i j c l : Nat} {es es' : List (List V)} {cs cs' : List V} {tm r : List (Nat × V)} {h h' : List VObj} {as bs : List Nat}
@[go_sem] theorem g2S{hb ab:Nat}:c5T hb ab ⟨tm,h,as⟩ ⟨r,h',bs⟩=(b6q bs.length r tm∧b5m bs.length h h'∧b8q as bs∧hb≤h'.length∧ab≤bs.length ∧
 ((h.length≤h'.length∧as.length≤bs.length)∨(ltH h'.length bs.length h'=true∧ltT h'.length bs.length r=true))):=rfl
@[go_sem] theorem f1h:b6q N [] tm=True:=rfl
@[go_sem] theorem d8w:b6q N ((j,y)::r) tm=(tell N (b1S tm j) y∧b6q N r tm):=rfl
@[go_sem] theorem f5e:b5m N h []=True:=by cases h <;> rfl
@[go_sem] theorem f1r{u v:VObj}:b5m N (u::h) (v::h')=(b6A N u v∧b5m N h h'):=rfl
@[go_sem] theorem d8v:b6A N (.cells cs) (.cells cs')=b6T N cs cs':=rfl
@[go_sem] theorem f4w{ms ms':List (V×V)}:b6A N (.map ms) (.map ms')=(ms=ms'):=by simp[b6A]
@[go_sem] theorem f5U:b8q [] (j::bs)=True:=rfl
@[go_sem] theorem f1W:b8q (i::as) (j::bs)=(i=j∧b8q as bs):=rfl
@[go_sem] theorem c8v{u v:List V}:b6T N (x::u) (y::v)=(tell1 N x y∧b6T N u v):=rfl
@[go_sem] theorem f8x:tell N (.int kd a) (.int kd b)=(a=b):=by simp[tell,tell1]
@[go_sem] theorem f3Y:tell N (.bool p) (.bool q)=(p=q):=by simp[tell,tell1]
@[go_sem] theorem f8k:tell N (.str s) (.str s')=(s=s'):=by simp[tell,tell1]
theorem c2s:tell1 N (.slice o e es) (sl e' es')=(es=es'∧(es=[]∨e=e')):=by
 have:tell1 N (.slice o e es) (sl e' es')=(es=es'∧(es=[]∨e=if es'.isEmpty then 0 else e')):=by
  unfold sl;cases o <;> simp[tell1]
 rw[this]
 refine propext ⟨fun⟨h1,h2⟩=>⟨h1,?_⟩,fun⟨h1,h2⟩=>⟨h1,?_⟩⟩ <;> subst h1 <;> cases es <;> simp_all
attribute [go_sem] c2s
@[go_sem] theorem g2V:tell N (.slice o e es) (sl e' es')=(es=es'∧(es=[]∨e=e')):=c2s (N:=N) (o:=o)
@[go_sem] theorem d2T:tell1 N (sl e es) (sl e' es')=(es=es'∧(es=[]∨e=e')):=by
 have:tell1 N (sl e es) (sl e' es')=(es=es'∧(es=[]∨(if es.isEmpty then 0 else e)=e')):=c2s (N:=N) (o := .shared)
 rw[this]
 cases es <;> simp
@[go_sem] theorem f7G:tell N (sl e es) (sl e' es')=(es=es'∧(es=[]∨e=e')):=d2T (N:=N)
@[go_sem] theorem f8b:tell N (.slice (.arr k) e es) (.slice (.arr k') e' es')=(k=k'∧e=e'∧es=es'):=by simp[tell,tell1]
@[go_sem] theorem f2X:tell N (.slice .full e es) (.slice .full e' es')=(e=e'∧es=es'):=by simp[tell,tell1]
@[go_sem] theorem f6C:tell N (.slice .nil e es) (.slice (.arr k) e' es')=(es=[]∧es'=[]∧k<N):=by simp[tell,tell1]
@[go_sem] theorem f5I:tell1 N (.int kd a) (.int kd b)=(a=b):=by simp[tell1]
@[go_sem] theorem f2K:tell1 N (.slice (.arr k) e es) (.slice (.arr k') e' es')=(k=k'∧e=e'∧es=es'):=by simp[tell1]
@[go_sem] theorem f3G:tell1 N (.slice .nil e es) (.slice (.arr k) e' es')=(es=[]∧es'=[]∧k<N):=by simp[tell1]
@[go_sem] theorem c0V:tell1 N x x=True:=by
 unfold tell1
 split <;> simp_all
@[go_sem] theorem b4v:∀ {cs:List V},b6T N cs cs=True
 | []=>rfl
 | x::r=>by rw[c8v,c0V,b4v,true_and]
@[go_sem] theorem b6Y:tell N x x=True:=by
 unfold tell
 split
 ·exact b4v
 ·exact c0V
@[go_sem] theorem f2z{u:VObj}:b6A N u .dead=True:=by cases u <;> rfl
@[go_sem] theorem b5V{u:VObj}:b6A N u u=True:=by
 cases u with
 | cells cs=>exact b4v
 | map es=>exact eq_true rfl
 | siter s pos=>exact eq_true rfl
 | dead=>rfl
 | tcells t cs=>show(t=t∧b6T N cs cs)=True;rw[b4v];simp
 | builder t s=>exact eq_true rfl
 | vec _ _ _ _=>exact eq_true rfl
@[go_sem] theorem f1m:tell1 N x .junk=True:=by cases x <;> rfl
@[go_sem] theorem f9S:ltH k ka []=true:=rfl
@[go_sem] theorem f8z{u:VObj}:ltH k ka (u::h)=(u.lt k ka && ltH k ka h):=rfl
@[go_sem] theorem f5r:(VObj.cells cs).lt k ka=ltL k ka cs:=rfl
@[go_sem] theorem g0P{ms:List (V×V)}:(VObj.map ms).lt k ka=ltP k ka ms:=rfl
@[go_sem] theorem f6q:VObj.dead.lt k ka=true:=rfl
@[go_sem] theorem g0B:ltT k ka []=true:=rfl
@[go_sem] theorem f6i:ltT k ka ((j,x)::r)=(x.lt k ka && ltT k ka r):=rfl
@[go_sem] theorem f6g{u:List V}:ltL k ka (x::u)=(x.lt k ka && ltL k ka u):=rfl
@[go_sem] theorem g0I:V.junk.lt k ka=true:=rfl
@[go_sem] theorem g7f:(V.int kd a).lt k ka=true:=rfl
@[go_sem] theorem g0w:(V.bool p).lt k ka=true:=rfl
@[go_sem] theorem g7E:(V.str s).lt k ka=true:=rfl
@[go_sem] theorem g1Q:V.nilp.lt k ka=true:=rfl
@[go_sem] theorem g1X:V.nilmap.lt k ka=true:=rfl
@[go_sem] theorem g4p:(V.ptr i j).lt k ka=decide (i<k):=rfl
@[go_sem] theorem g8u:(V.mslice i j l c e).lt k ka=decide (i<k):=rfl
@[go_sem] theorem g6U:(V.map i).lt k ka=decide (i<k):=rfl
@[go_sem] theorem g3N:(V.fptr cs).lt k ka=ltL k ka cs:=rfl
@[go_sem] theorem g6s:(V.agg cs).lt k ka=ltL k ka cs:=rfl
@[go_sem] theorem g1N:(V.func i cs).lt k ka=ltL k ka cs:=rfl
@[go_sem] theorem g8L:(sl e es).lt k ka=b6J k ka es:=by simp[sl,V.lt,Own.lt]
@[go_sem] theorem g8P:(sl e es).pure=b0R es:=by simp[sl,V.pure,Own.plain]
@[go_sem] theorem g3w:(V.slice .full e es).lt k ka=b6J k ka es:=by simp[V.lt,Own.lt]
@[go_sem] theorem g7l:(V.slice .nil e es).lt k ka=b6J k ka es:=by simp[V.lt,Own.lt]
@[go_sem] theorem g7b:(V.slice (.arr i) e es).lt k ka=(decide (i<ka) && b6J k ka es):=rfl
@[go_sem] theorem f3F{u:List (List V)}:b6J k ka (cs::u)=(ltL k ka cs && b6J k ka u):=rfl
@[go_sem] theorem g6H(h:b0R es=true):b6J k ka es=true:=b0m _ _ _ h
@[go_sem] theorem g8C(h:b1a cs=true):ltL k ka cs=true:=b4g _ _ _ h
@[go_sem] theorem g7J:b1a []=true:=rfl
@[go_sem] theorem g5C{u:List V}:b1a (x::u)=(x.pure && b1a u):=rfl
@[go_sem] theorem g6E:b0R []=true:=rfl
@[go_sem] theorem g0A{u:List (List V)}:b0R (cs::u)=(b1a cs && b0R u):=rfl
@[go_sem] theorem g8A:(V.int kd a).pure=true:=rfl
@[go_sem] theorem g4L:(V.bool p).pure=true:=rfl
@[go_sem] theorem g8B:(V.str s).pure=true:=rfl
@[go_sem] theorem g7q:(V.fptr cs).pure=b1a cs:=rfl
@[go_sem] theorem g8c:(V.agg cs).pure=b1a cs:=rfl
@[go_sem] theorem g0c:(V.tuple cs).pure=b1a cs:=rfl
@[go_sem] theorem f6L:(V.slice .shared e es).pure=b0R es:=by simp[V.pure,Own.plain]
end
section
variable {α β : Type} {pre post : List α} {x : α}
@[go_sem] theorem f8d{f:α→β}{d:β}:((pre++x::post).map f).getD (Int.toNat (pre.length:Int)) d=f x:=by simp
@[go_sem] theorem d6B:((pre.length:Int)<((pre++x::post).length:Int))=True:=by simp;omega
@[go_sem] theorem g3U{i:Int}:(i<i)=False:=by simp
@[go_sem] theorem g4w{n:Nat}:((0:Int)≤(n:Int))=True:=by simp
theorem wrap_small{x:Int}(h : -9223372036854775808≤x)(h':x≤9223372036854775807):IntKind.i64.wrap x=x:=by
 simp only[IntKind.wrap,IntKind.signed,IntKind.bits];simp;omega
@[go_sem] theorem b0g{n:Nat}(h:n≤1152921504606846976):IntKind.i64.wrap ((n:Int)+1)=((n+1:Nat):Int):=by
 rw[Vg.wrap_small (by omega) (by omega)];simp
theorem c2t{C:Nat}(h:(pre++x::post).length≤C)(hC:C≤1152921504606846976):pre.length≤1152921504606846976:=by simp at h;omega
theorem b2p{C:Nat}(h:(pre++x::post).length≤C):pre.length≤C:=by simp at h;omega
end
theorem d5H{α β:Type}{pre:List α}{x:α}{f:α→β}:(pre++[x]).map f=pre.map f++[f x]:=by simp
theorem d6q{α:Type}{pre:List α}{x:α}:(pre++[x]).length=pre.length+1:=by simp
attribute [go_sem] d6q d5H g9B g9m Nat.zero_le true_or or_true ne_eq not_true_eq_false not_false_eq_true decide_true decide_false true_implies false_implies implies_true g9r false_and and_false
end Go.Vg
