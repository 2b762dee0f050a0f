import Derived.Test.YtighfcpaplmaiaaGreatDoorVgFe
set_option linter.unusedVariables false
set_option linter.unusedSimpArgs false
namespace Go.Vg
open Go.RowKit
def b1f(ks:List Nat)(xs:List V):List (V×V)→Nat→Option (Option (Nat×V))
 | [],_=>some none
 | (.agg ys,v)::r,i=>if b3A ks xs ys then match eqL xs ys with
   | some true=>some (some (i,v))
   | some false=>b1f ks xs r (i+1)
   | none=>none
  else none
 | _::_,_=>none
theorem d3Q{x y:V}(h:eq1 x y=some true):x=y:=by
 unfold eq1 at h
 split at h
 ·simp at h;rw[h]
 ·split at h
  ·rename_i e;simp at h;rw[e,h]
  ·cases h
 ·simp at h;rw[h]
 ·cases h
theorem c6r:∀ {xs ys:List V},eqL xs ys=some true→xs=ys
 | [],[],_=>rfl
 | [],_::_,h=>by simp[eqL]at h
 | _::_,[],h=>by simp[eqL]at h
 | x::xs,y::ys,h=>by
  simp only[eqL]at h
  split at h
  ·rename_i a b ha hb
   simp only[Option.some.injEq,g9g]at h
   obtain⟨rfl,rfl⟩:=h
   rw[d3Q ha,c6r hb]
  ·cases h
def c7W:Value→Bool
 | .string _ | .int _ _ | .bool _=>true
 | _=>false
theorem f0B{P:Program}{G:Gh}{arr:List Nat}{k:Nat}{x y:V}{u v:Value}(h:d2D k x y=true)(hu:RV P G arr x u)(hv:RV P G arr x v):u=v∧c7W u=true:=by
 unfold d2D at h
 split at h
 ·cases hu;cases hv;exact⟨rfl,rfl⟩
 ·cases hu;cases hv;exact⟨rfl,rfl⟩
 ·cases hu;cases hv;exact⟨rfl,rfl⟩
 ·cases h
theorem c6L:∀ {ks:List Nat} {xs ys:List V},b3A ks xs ys=true→∀ (j:Nat) x,xs[j]? = some x→∃ k y,d2D k x y=true
 | [],[],[],_,j,x,hx=>by simp at hx
 | k::ks,a::xs,b::ys,h,j,x,hx=>by
  simp only[b3A,g9g]at h
  match j with
  | 0=>simp at hx;subst hx;exact⟨k,b,h.1⟩
  | j+1=>exact c6L h.2 j x (by simpa using hx)
 | [],_::_,_,h,_,_,_=>by simp[b3A]at h
 | [],[],_::_,h,_,_,_=>by simp[b3A]at h
 | _::_,[],_,h,_,_,_=>by simp[b3A]at h
 | _::_,_::_,[],h,_,_,_=>by simp[b3A]at h
theorem c7B{P:Program}{G:Gh}{arr:List Nat}{ks:List Nat}{xs ys:List V}{us vs:Array Value}(h:b3A ks xs ys=true)(hu:RV P G arr (.agg xs) (.agg us))(hv:RV P G arr (.agg xs) (.agg vs)):us=vs∧∀ (j:Nat) u,us[j]? = some u→c7W u=true:=by
 cases hu with
 | agg _ _ hlu hru =>
 cases hv with
 | agg _ _ hlv hrv =>
 have key:∀ (j:Nat) u,us[j]? = some u→vs[j]? = some u∧c7W u=true:=fun j u hj=>by
  have hjl:=(g9x.1 hj).1
  have hxl:j<xs.length:=by omega
  have hvl:j<vs.size:=by omega
  obtain⟨k,y,hf⟩:=c6L h j _ (g9b hxl)
  obtain⟨e,hb⟩:=f0B hf (hru j _ _ (g9b hxl) hj) (hrv j _ _ (g9b hxl) (g9p hvl))
  exact⟨by rw[g9p hvl,e],hb⟩
 refine⟨?_,fun j u hj=>(key j u hj).2⟩
 apply Array.ext
 ·omega
 ·intro i h1 h2
  have:=(key i _ (g9p h1)).1
  rw[g9p h2]at this
  simpa using this.symm
theorem c2B{P:Program}{w:World}{α:Type}{body:α→PUnit→Sem (ForInStep PUnit)}:∀ {fs:List α},(∀ (i:Nat) f,fs[i]? = some f→(body f ()).run P w = .ok (.yield ()) w)→(forIn fs () body).run P w = .ok () w
 | [],_=>by simp
 | f::fs,h=>by
  rw[List.forIn_cons,h0z,h 0 f rfl]
  exact c2B fun i g hg=>h (i+1) g (by simpa using hg)
theorem g8m{P:Program}{G:Gh}{arr:List Nat}{w:World}(em:Bool):∀ (f:Nat) (t:TypeId) (ks:List Nat),b5a P f t=some ks→∀ (xs:List V) (vx:Value),xs.length=ks.length→c2R P G arr t xs vx→∀ d:Nat,
  (Instr.checkKey em (d+f) t vx).run P w = .ok () w:=by
 intro f
 induction f with
 | zero=>intro t ks h;cases h
 | succ f ih =>
  intro t ks h xs vx hf hx d
  rw[b5a]at h
  rw[show d+(f+1)=d+f+1 from rfl,Instr.checkKey]
  split at h
  ·rename_i e;simp only[h0z,b0y e,h0y,h0A]
  ·rename_i e;simp only[h0z,b0y e,h0y,h0A]
  ·rename_i e;simp only[h0z,b0y e,h0y,h0A]
  ·rename_i fs hu
   split at h
   ·cases h
   obtain⟨d1,hd1,hx⟩:=hx
   rw[hu]at hd1;cases hd1
   rcases hx with⟨_,hx⟩ | ⟨h1,_⟩
   case inr=>simp[c0t]at h1
   cases hx with
   | agg _ vxs hlx hrx =>
   have key:∀ (fs:List Field) (o:Nat) (kk:List Nat),c0n P (b5a P f) o fs=some kk→o+kk.length≤xs.length →
     ∀ (i:Nat) g,fs[i]? = some g→g.name ≠ "_" ∧ ∃ v1,(part g.type vxs g.offset).run P w = .ok v1 w∧(Instr.checkKey em (d+f) g.type v1).run P w = .ok () w:=by
    intro fs
    induction fs with
    | nil=>intro o kk _ _ i g hg;simp at hg
    | cons g fs ihf =>
     intro o kk hkk hff
     simp only[c0n]at hkk
     split at hkk
     case isFalse=>cases hkk
     rename_i hc
     simp only[g9g,bne_iff_ne,ne_eq,g9h]at hc
     obtain⟨hn,ho⟩:=hc
     split at hkk
     case h_2=>cases hkk
     rename_i k1 r hk1 hkr
     split at hkk
     case isFalse=>cases hkk
     rename_i hkl
     obtain⟨hkl,hkp⟩:=hkl
     simp only[Option.some.injEq]at hkk
     subst hkk
     rw[g9d,hkl]at hff
     obtain⟨dd,hdd,hone⟩:=b5N hk1
     obtain⟨v1,p1,c1⟩:=b3F (w:=w) (o:=o) hdd hlx hrx (by omega) fun h=>by rw[←hkl];exact hone h
     have hrun:=ih _ _ hk1 _ _ (by rw[List.length_take,h0e];omega) c1 d
     intro i g' hg
     cases i with
     | zero=>simp at hg;subst hg;exact⟨hn,v1,by rw[ho];exact p1,hrun⟩
     | succ i=>exact ihf _ _ hkr (by omega) i g' (by simpa using hg)
   simp only[h0z,b0y hu,h0y]
   rw[←Array.forIn_toList,c2B fun i g hg=>?_]
   ·rfl
   obtain⟨hn,v1,p1,hrun⟩:=key fs.toList 0 ks h (by omega) i g hg
   simp only[ne_eq,hn,not_false_eq_true,if_true,h0z,p1,h0y,hrun,h0A]
  ·rename_i n el hu
   split at h
   case h_2=>cases h
   rename_i k1 hk1
   split at h
   case isFalse=>cases h
   rename_i hkl
   obtain⟨hkl,hkp⟩:=hkl
   simp only[Option.some.injEq]at h
   subst h
   obtain⟨d1,hd1,hx⟩:=hx
   rw[hu]at hd1;cases hd1
   rcases hx with⟨_,hx⟩ | ⟨h1,_⟩
   case inr=>simp[c0t]at h1
   cases hx with
   | agg _ vxs hlx hrx =>
   obtain⟨dd,hdd,hone⟩:=b5N hk1
   obtain⟨ie,hie⟩:=b2C hdd
   have hlen:xs.length=n * P.cellsOf el:=by
    rw[hf,←hkl]
    have hrep:∀ n:Nat,(List.replicate n k1).flatten.length=n * k1.length:=fun n=>by
     induction n with
     | zero=>simp
     | succ n ihn=>rw[List.replicate_succ,g9X,g9d,ihn,Nat.succ_mul];omega
    exact hrep n
   simp only[h0z,b0y hu,h0y,Std.Legacy.Range.forIn_eq_forIn_range',Std.Legacy.Range.size,Nat.sub_zero,Nat.add_sub_cancel,Nat.div_one]
   rw[c2B fun i g hg=>?_]
   ·rfl
   have hgi:g=i∧i<n:=by
    have hil:=(g8Y.1 hg).1
    simp at hil
    rw[List.getElem?_range' (by omega)]at hg
    simp at hg;omega
   obtain⟨rfl,hin⟩:=hgi
   have hle:g * P.cellsOf el+P.cellsOf el≤xs.length:=by
    rw[hlen,←Nat.succ_mul];exact g9L _ hin
   obtain⟨v1,p1,c1⟩:=b3F (w:=w) (o:=g * P.cellsOf el) hdd hlx hrx hle fun h=>by rw[←hkl];exact hone h
   have hrun:=ih _ _ hk1 _ _ (by rw[List.length_take,h0e];omega) c1 d
   simp only[h0z,b0O hie,h0y,p1,hrun,h0A]
  ·cases h
theorem b6S{P:Program}{G:Gh}{arr:List Nat}{w:World}{t:TypeId}{xs:List V}{us:Array Value}{ks:List Nat}(hks:b3f P t=some ks)(h1:b3A ks xs xs=true)(hx:RV P G arr (.agg xs) (.agg us))(em:Bool) :
  (Instr.checkKey em 10000 t (.agg us)).run P w = .ok () w:=by
 obtain⟨⟨d,hd,ha,_⟩,_,hk⟩:=c2E hks
 exact g8m em 20 t ks hk xs _ (b5Y h1).1 ⟨d,hd,.inl ⟨ha,hx⟩⟩ 9980
theorem c5C{P:Program}{G:Gh}{arr:List Nat}{w:World}{t:TypeId}{xs:List V}{us:Array Value}{ks:List Nat}(hks:b3f P t=some ks)(hx:RV P G arr (.agg xs) (.agg us)):∀ (es:List (V×V)) (m:List MapEntry) (i:Nat) r,RP P G arr es m→b1f ks xs es i=some r →
  (r=none∧(Instr.findAsking t (.agg us) m i).run P w = .ok none w)∨∃ j v e,r=some (i+j,v)∧m[j]? = some e∧es[j]?.map (·.2)=some v∧(Instr.findAsking t (.agg us) m i).run P w = .ok (some (i+j,e.val)) w∧e.key = .agg us∧RV P G arr v e.val:=by
 intro es
 induction es with
 | nil =>
  intro m i r hp h
  have:m=[]:=g9C hp.1
  subst this
  simp only[b1f,Option.some.injEq]at h
  subst h
  exact .inl ⟨rfl,rfl⟩
 | cons p es ih =>
  obtain⟨k',v⟩:=p
  intro m i r hp h
  cases m with
  | nil=>have:=hp.1;simp at this
  | cons e m =>
   obtain⟨e',he',h1,h2⟩:=hp.2 0 k' v rfl
   simp at he'
   subst he'
   obtain⟨ys,rfl⟩:∃ ys,k' = .agg ys:=by
    cases k' <;> first | exact⟨_,rfl⟩ | (simp[b1f]at h)
   simp only[b1f]at h
   split at h
   case isFalse=>cases h
   rename_i hfit
   obtain⟨vys,hvys⟩:∃ vys,e.key = .agg vys:=by
    generalize e.key=kk at h1
    cases h1;exact⟨_,rfl⟩
   rw[hvys]at h1
   obtain⟨b,hb,hrun⟩:=d1s (w:=w) hks hfit hx h1
   rw[hb]at h
   cases b with
   | true =>
    simp only[Option.some.injEq]at h
    subst h
    have e1:=c6r hb
    subst e1
    refine .inr ⟨0,v,e,rfl,rfl,rfl,?_,?_,h2⟩
    ·simp only[Instr.findAsking,hvys,h0z,hrun,h0y,if_true,h0A,h0h]
    ·rw[hvys,(c7B hfit hx h1).1]
   | false =>
    simp only at h
    rcases ih m (i+1) r ⟨by have:=hp.1;simpa using this,fun j kx vx hj=>by
     obtain⟨e2,g1,g2⟩:=hp.2 (j+1) kx vx (by simpa using hj)
     exact⟨e2,by simpa using g1,g2⟩⟩ h with⟨g1,g2⟩ | ⟨j,u,e2,g1,g2,g3,g4,g5,g6⟩
    ·exact .inl ⟨g1,by simp only[Instr.findAsking,hvys,h0z,hrun,h0y,g9n,if_false,g2]⟩
    ·refine .inr ⟨j+1,u,e2,by rw[g1];congr 2;omega,by simpa using g2,by simpa using g3,?_,g5,g6⟩
     simp only[Instr.findAsking,hvys,h0z,hrun,h0y,g9n,if_false,g4]
     congr 3;omega
theorem b4b{P:Program}{G:Gh}{arr:List Nat}{w:World}{t:TypeId}{xs:List V}{us:Array Value}{ks:List Nat}(hks:b3f P t=some ks)(hx:RV P G arr (.agg xs) (.agg us)){es:List (V×V)}{m:List MapEntry}{r:Option (Nat×V)}(hp:RP P G arr es m)(hf:b1f ks xs es 0=some r) :
  (r=none∧(Instr.findKey t (.agg us) m).run P w = .ok none w)∨∃ j v e,r=some (j,v)∧m[j]? = some e∧es[j]?.map (·.2)=some v∧(Instr.findKey t (.agg us) m).run P w = .ok (some (j,e.val)) w∧e.key = .agg us∧RV P G arr v e.val:=by
 obtain⟨⟨dd,hu,-,hsa⟩,-⟩:=c2E hks
 have hrun:(Instr.findKey t (.agg us) m).run P w=(Instr.findAsking t (.agg us) m 0).run P w:=by
  simp only[Instr.findKey,h0z,b0y hu,h0y]
  rcases hsa with⟨fs,rfl⟩ | ⟨n,e,rfl⟩
  ·cases m with
   | nil=>simp[Instr.findNow,Instr.findAsking]
   | cons e m=>simp[Instr.findNow,Instr.sameNow]
  ·cases m with
   | nil=>simp[Instr.findNow,Instr.findAsking]
   | cons e m=>simp[Instr.findNow,Instr.sameNow]
 rcases c5C (w:=w) hks hx es m 0 r hp hf with⟨g1,g2⟩ | ⟨j,v,e,g1,g2,g3,g4,g5,g6⟩
 ·exact .inl ⟨g1,by rw[hrun,g2]⟩
 ·exact .inr ⟨j,v,e,by rw[g1,g9s],g2,g3,by rw[hrun,g4,g9s],g5,g6⟩
theorem c0u{n:Nat}{v:Value}(h:c7W v=true):Instr.sameBits n v v=true:=by
 unfold c7W at h
 split at h
 ·cases n <;> simp[Instr.sameBits,MapKept.bytes_beq]
 ·cases n <;> simp[Instr.sameBits]
 ·cases n <;> simp[Instr.sameBits]
 ·cases h
theorem c6s{α:Type}(f:α×α→Bool):∀ l:List α,(∀ x∈l,f (x,x)=true)→(l.zip l).all f=true
 | [],_=>rfl
 | x::l,h=>by
  have ih:=c6s f l fun x hx=>h x (by simp[hx])
  rw[List.zip_cons_cons,List.all_cons,ih,h x (by simp)];rfl
theorem d2g{P:Program}{w:World}{us:Array Value}(h:∀ (j:Nat) u,us[j]? = some u→c7W u=true):(Instr.keyThatStays (.agg us) (.agg us)).run P w = .ok (.agg us) w:=by
 have:Instr.sameBits 10000 (.agg us) (.agg us)=true:=by
  have:∀ n:Nat,Instr.sameBits (n+1) (.agg us) (.agg us)=true:=fun n=>by
   simp only[Instr.sameBits,beq_self_eq_true,g9O]
   refine c6s _ _ fun x hx=>?_
   obtain⟨j,hj,e⟩:=h0c hx
   exact c0u (h j x (by rw[←e];simp at hj ⊢))
  exact this 9999
 simp[Instr.keyThatStays,this]
def vLookA(E:Env)(heap:List VObj)(t:TypeId)(m:V)(xs:List V)(ok:Bool)(K:V→Prop):Prop :=
 match E.P.underlying t,b8n heap m with
 | some (.map kt et),some es=>match b3f E.P kt with
  | some ks=>b3A ks xs xs=true∧match b1f ks xs es 0 with
   | some (some (_,v))=>K (if ok then .tuple [v,.bool true]else v)
   | some none=>b0S E.P et=true∧K (if ok then .tuple [b2Q E.P et,.bool false]else b2Q E.P et)
   | none=>False
  | none=>False
 | _,_=>False
def vLookK(E:Env)(heap:List VObj)(t:TypeId)(m k:V)(ok:Bool)(K:V→Prop):Prop:=match k with
 | .agg xs=>vLookA E heap t m xs ok K
 | k=>vLook E heap t m k ok K
theorem d2U{E:Env}{G:Gh}{heap:List VObj}{arr:List Nat}{w0:Base}{w:World}(h:RelW E G heap arr w0 w){t:TypeId}{m:V}{xs:List V}{vm vk:Value}{ok:Bool}{K:V→Prop}(hm:RV E.P G arr m vm)(hk:RV E.P G arr (.agg xs) vk)
  (hK:vLookA E heap t m xs ok K):∃ u y,(Instr.lookup t vm vk ok).run E.P w = .ok u w∧K y∧RV E.P G arr y u:=by
 unfold vLookA at hK
 split at hK
 case h_2=>exact hK.elim
 rename_i kt et es ht hat
 split at hK
 case h_2=>exact hK.elim
 rename_i ks hks
 obtain⟨hkey,hK⟩:=hK
 obtain⟨us,rfl⟩:∃ us,vk = .agg us:=by cases hk;exact⟨_,rfl⟩
 have hes:∃ ms:Array MapEntry,RP E.P G arr es ms.toList∧((vm = .map none∧ms = #[])∨∃ b clk,vm = .map (some b)∧w.heap[b]? = some (.map ms clk)):=by
  unfold b8n at hat
  split at hat
  ·cases hm
   simp only[Option.some.injEq]at hat
   subst hat
   exact⟨#[],⟨rfl,by simp⟩,.inl ⟨rfl,rfl⟩⟩
  ·rename_i id
   split at hat
   ·rename_i es' hh
    simp only[Option.some.injEq]at hat
    subst hat
    cases hm with
    | map _ b hb =>
     obtain⟨b',hb',ms,clk,g1,g2,g3⟩:=h.obj id _ hh
     rw[hb]at hb';cases hb'
     refine⟨ms,⟨by simpa using g2,fun j kx vx hj=>?_⟩,.inr ⟨b,clk,rfl,g1⟩⟩
     obtain⟨e,q1,q2⟩:=g3 j kx vx hj
     exact⟨e,by simpa using q1,q2⟩
   ·cases hat
  ·cases hat
 obtain⟨ms,hrp,hvm⟩:=hes
 have hck:=b6S (w:=w) hks hkey hk ms.isEmpty
 split at hK
 ·rename_i i v hf
  rcases b4b (w:=w) hks hk hrp hf with⟨g1,_⟩ | ⟨j,v',e,g1,g2,g3,g4,g5,g6⟩
  ·cases g1
  ·simp only[Option.some.injEq,Prod.mk.injEq]at g1
   obtain⟨_,rfl⟩:=g1
   have hfk:=g4
   cases ok with
   | true =>
    refine⟨.tuple #[e.val,.bool true],_,?_,hK,?_⟩
    ·rcases hvm with⟨rfl,rfl⟩ | ⟨b,clk,rfl,hb⟩
     ·simp only[Instr.lookup,h0z,b0y ht,h0y,hck,hfk,h0A,if_true]
     ·simp only[Instr.lookup,h0z,b0y ht,h0y,MapKept.run_getObj_map hb,hck,hfk,h0A,if_true]
    ·refine .tuple _ _ rfl fun j c u hc hu=>?_
     match j with
     | 0=>simp at hc hu;subst hc hu;exact g6
     | 1=>simp at hc hu;subst hc hu;exact .bool _
     | j+2=>simp at hc
   | false =>
    refine⟨e.val,_,?_,hK,g6⟩
    rcases hvm with⟨rfl,rfl⟩ | ⟨b,clk,rfl,hb⟩
    ·simp only[Instr.lookup,h0z,b0y ht,h0y,hck,hfk,h0A,g9n,if_false]
    ·simp only[Instr.lookup,h0z,b0y ht,h0y,MapKept.run_getObj_map hb,hck,hfk,h0A,g9n,if_false]
 ·rename_i hf
  obtain⟨hz,hK⟩:=hK
  rcases b4b (w:=w) hks hk hrp hf with⟨_,hfk⟩ | ⟨j,v',e,g1,_⟩
  ·obtain⟨i,z,hi,hz'⟩:=b3R (E:=E) (t:=et) hz
   have hzv:RV E.P G arr (b2Q E.P et) z:=by
    unfold b2Q;rw[hi];simp only[hz'];exact RV.ofV z
   have hzr:=b1K (w:=w) hi hz'
   cases ok with
   | true =>
    refine⟨.tuple #[z,.bool false],_,?_,hK,?_⟩
    ·rcases hvm with⟨rfl,rfl⟩ | ⟨b,clk,rfl,hb⟩
     ·simp only[Instr.lookup,h0z,b0y ht,h0y,hck,hfk,h0A,if_true,hzr]
     ·simp only[Instr.lookup,h0z,b0y ht,h0y,MapKept.run_getObj_map hb,hck,hfk,h0A,if_true,hzr]
    ·refine .tuple _ _ rfl fun j c u hc hu=>?_
     match j with
     | 0=>simp at hc hu;subst hc hu;exact hzv
     | 1=>simp at hc hu;subst hc hu;exact .bool _
     | j+2=>simp at hc
   | false =>
    refine⟨z,_,?_,hK,hzv⟩
    rcases hvm with⟨rfl,rfl⟩ | ⟨b,clk,rfl,hb⟩
    ·simp only[Instr.lookup,h0z,b0y ht,h0y,hck,hfk,h0A,g9n,if_false,hzr]
    ·simp only[Instr.lookup,h0z,b0y ht,h0y,MapKept.run_getObj_map hb,hck,hfk,h0A,g9n,if_false,hzr]
  ·cases g1
 ·exact hK.elim
theorem d2m{E:Env}{G:Gh}{heap:List VObj}{arr:List Nat}{w0:Base}{w:World}(h:RelW E G heap arr w0 w){t:TypeId}{m k:V}{vm vk:Value}{ok:Bool}{K:V→Prop}(hm:RV E.P G arr m vm)(hk:RV E.P G arr k vk)
  (hK:vLookK E heap t m k ok K):∃ u y,(Instr.lookup t vm vk ok).run E.P w = .ok u w∧K y∧RV E.P G arr y u:=by
 unfold vLookK at hK
 split at hK
 ·exact d2U h hm hk hK
 ·exact d3V h hm hk hK
def vMapSetA(E:Env)(heap:List VObj)(t:TypeId)(m:V)(xs:List V)(v:V)(K:List VObj→Prop):Prop :=
 match E.P.underlying t,m with
 | some (.map kt _),.map id=>match heap[id]?,b3f E.P kt with
  | some (.map es),some ks=>b3A ks xs xs=true∧match b1f ks xs es 0 with
   | some (some (j,_))=>K (heap.set id (.map (es.set j (.agg xs,v))))
   | some none=>K (heap.set id (.map (es++[(.agg xs,v)])))
   | none=>False
  | _,_=>False
 | _,_=>False
def vMapSetK(E:Env)(heap:List VObj)(t:TypeId)(m k v:V)(K:List VObj→Prop):Prop:=match k with
 | .agg xs=>vMapSetA E heap t m xs v K
 | k=>vMapSet E heap t m k v K
theorem c5S{E:Env}{G:Gh}{heap:List VObj}{arr:List Nat}{w0:Base}{w:World}(h:RelW E G heap arr w0 w){t:TypeId}{m x:V}{xs:List V}{vm vk vx:Value}{K:List VObj→Prop}(hm:RV E.P G arr m vm)(hk:RV E.P G arr (.agg xs) vk)
  (hx:RV E.P G arr x vx) (hK:vMapSetA E heap t m xs x K):∃ w' heap',(Instr.mapUpdate t vm vk vx).run E.P w = .ok () w'∧K heap'∧RelW E G heap' arr w0 w':=by
 unfold vMapSetA at hK
 split at hK
 case h_2=>exact hK.elim
 rename_i kt et id ht
 split at hK
 case h_2=>exact hK.elim
 rename_i es ks hh hks
 obtain⟨hkey,hK⟩:=hK
 obtain⟨us,rfl⟩:∃ us,vk = .agg us:=by cases hk;exact⟨_,rfl⟩
 cases hm with
 | map _ b hb =>
  obtain⟨b',hb',ms,clk,g1,g2,g3⟩:=h.obj id _ hh
  rw[hb]at hb';cases hb'
  have hrp:RP E.P G arr es ms.toList:=⟨by simpa using g2,fun j kx vx hj=>by
   obtain⟨e,q1,q2⟩:=g3 j kx vx hj
   exact⟨e,by simpa using q1,q2⟩⟩
  have hck:=b6S (w:=w) hks hkey hk false
  have hidl:=(g8Y.1 hh).1
  have hbl:b<w.heap.size:=(g9x.1 g1).1
  have go:∀ (ms':Array MapEntry) (clk':Nat) (es':List (V×V)),RP E.P G arr es' ms'.toList→RelW E G (heap.set id (.map es')) arr w0 { w with heap:=w.heap.setIfInBounds b (.map ms' clk') }:=by
   intro ms' clk' es' hp
   refine h.change hb hidl (by rw[hh];simp) rfl rfl rfl (by simp) (fun k hk=>by simp[Array.getElem?_setIfInBounds_ne (Ne.symm hk)]) ⟨ms',clk',by simp[hbl],by simpa using hp.1,fun j kx vx hj=>?_⟩
   obtain⟨e,q1,q2⟩:=hp.2 j kx vx hj
   exact⟨e,by simpa using q1,q2⟩
  split at hK
  ·rename_i j v hf
   rcases b4b (w:=w) hks hk hrp hf with⟨q1,_⟩ | ⟨j',v',e,q1,q2,q3,q4,q5,q6⟩
   ·cases q1
   ·simp only[Option.some.injEq,Prod.mk.injEq]at q1
    obtain⟨rfl,rfl⟩:=q1
    have hj:ms[j]? = some e:=by simpa using q2
    have hkeep:=d2g (P:=E.P) (w:=w) (c7B hkey hk hk).2
    refine⟨_,_,?_,hK,go (ms.modify j fun e=>{ e with key := .agg us,val:=vx }) clk _ ⟨by simp[hrp.1],fun i kx ux hi=>?_⟩⟩
    ·simp only[Instr.mapUpdate,h0z,b0y ht,h0y,MapKept.run_getObj_map g1,hck,q4,hj,g9z,g9w,q5,hkeep,MapKept.run_setObj_map _ g1]
    ·by_cases hij:i=j
     ·subst hij
      have hjl:i<es.length:=by
       rcases h0v i es.length with h' | h'
       ·exact h'
       ·rw[g9K (by simpa using h')]at hi;cases hi
      rw[g9e hjl]at hi
      cases hi
      exact⟨{ e with key := .agg us,val:=vx },by simp[hj],hk,hx⟩
     ·rw[g9i (Ne.symm hij)]at hi
      obtain⟨e2,r1,r2⟩:=hrp.2 i kx ux hi
      refine⟨e2,?_,r2⟩
      simp only[Array.getElem?_toList]at r1 ⊢
      rw[Array.getElem?_modify,if_neg (Ne.symm hij)];exact r1
  ·rename_i hf
   rcases b4b (w:=w) hks hk hrp hf with⟨_,hfk⟩ | ⟨j',v',e,q1,_⟩
   ·refine⟨_,_,?_,hK,go (ms.push { key := .agg us,val:=vx,born:=clk }) (clk+1) _ ⟨by simp[hrp.1],fun i kx ux hi=>?_⟩⟩
    ·simp only[Instr.mapUpdate,h0z,b0y ht,h0y,MapKept.run_getObj_map g1,hck,hfk,MapKept.run_setObj_map _ g1]
    ·have hl:=hrp.1
     simp only[Array.toList_push]
     by_cases hil:i<es.length
     ·rw[g9a hil]at hi
      obtain⟨e2,r1,r2⟩:=hrp.2 i kx ux hi
      exact⟨e2,by rw[g9a (by omega)];exact r1,r2⟩
     ·rw[g9c (by omega)]at hi
      have hi0:i - es.length=0:=by
       rcases Nat.eq_zero_or_pos (i - es.length)with h' | h'
       ·exact h'
       ·rw[g9K (by simp;omega)]at hi;cases hi
      rw[hi0]at hi
      simp at hi
      obtain⟨rfl,rfl⟩:=hi
      exact⟨{ key := .agg us,val:=vx,born:=clk },by rw[g9c (by omega),hl,hi0];rfl,hk,hx⟩
   ·cases q1
  ·exact hK.elim
theorem b9a{E:Env}{G:Gh}{heap:List VObj}{arr:List Nat}{w0:Base}{w:World}(h:RelW E G heap arr w0 w){t:TypeId}{m k x:V}{vm vk vx:Value}{K:List VObj→Prop}(hm:RV E.P G arr m vm)(hk:RV E.P G arr k vk)
  (hx:RV E.P G arr x vx) (hK:vMapSetK E heap t m k x K):∃ w' heap',(Instr.mapUpdate t vm vk vx).run E.P w = .ok () w'∧K heap'∧RelW E G heap' arr w0 w':=by
 unfold vMapSetK at hK
 split at hK
 ·exact c5S h hm hk hx hK
 ·exact c9k h hm hk hx hK
end Go.Vg
