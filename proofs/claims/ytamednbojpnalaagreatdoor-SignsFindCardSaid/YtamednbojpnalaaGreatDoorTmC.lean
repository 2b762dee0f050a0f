/- Freezing an object; calls that take over a slot; heaps of which only a part is known. -/
import Derived.Test.YtamednbojpnalaaGreatDoorVgO
import Derived.Below
import Derived.Test.YtamednbojpnalaaGreatDoorVgT
import Derived.KernelRfl
import Derived.Lib.LaidTab
import Derived.Lib.ItoaNum
set_option linter.unusedVariables false
set_option linter.unusedSimpArgs false
namespace Go.Vg
open Go.RowKit
theorem RV.oneCell{P:Program}{G:Gh}{arr:List Nat}{x:V}{v:Value}(h:RV P G arr x v)(hc:x.cell=true):v.oneCell'=true:=by
 obtain⟨h1,h2⟩:=h.cell_one hc
 cases v <;> first | rfl | exact absurd rfl (h1 _) | exact absurd rfl (h2 _)
theorem RelW.freezeO{E:Env}{G:Gh}{heap:List VObj}{arr:List Nat}{w0:Base}{w:World}(h:RelW E G heap arr w0 w){id:Nat}{cs:List V}(hh:heap[id]? = some (.cells cs))(hc:cs.all V.cell=true) :
  ∃ G' b,G.φ[id]? = some b∧Ext G arr G' arr∧RelW E G' (heap.set id .dead) arr w0 w∧G'.φ=G.φ∧∀ (j:Nat) c,cs[j]? = some c→∃ u,G'.F b j=some u∧RV E.P G' arr c u:=by
 obtain⟨b,hb,c,e,g1,g2,g3⟩:=h.obj id _ hh
 have hidl:=(List.getElem?_eq_some_iff.1 hh).1
 have hF0:∀ o,G.F b o=none:=fun o=>h.sep id b o hb (by rw[hh];simp)
 let G':Gh:=⟨fun b' o=>if b'=b then c[o]? else G.F b' o,G.φ,G.ρ⟩
 have hx:Ext G arr G' arr:=by
  refine⟨fun b' o v hv=>?_,fun _ _ h=>h,fun _ n h=>⟨n,h,Nat.le_refl _,fun _=>rfl⟩⟩
  show(if b'=b then c[o]? else G.F b' o)=_
  rw[if_neg (fun e=>by subst e;rw[hF0]at hv;cases hv)]
  exact hv
 refine⟨G',b,hb,hx,⟨fun b' o v hv hlt=>h.newF b' o v ?_ hlt,fun g cs hg=>⟨(h.glob g cs hg).1,(h.glob g cs hg).2.mono hx⟩,h.below,fun b' o v hv=>?_,fun b' o v hv=>?_,fun i ob hi=>?_,by simp[G',h.lenφ],h.nod,fun i b' o hi hd=>?_,h.geφ,h.lenρ,fun k b' lo hi hk hlt=>?_,h.regd,h.fre,fun i t s b' hi hb'=>by
  by_cases ei:i=id
  ·subst ei
   rw[List.getElem?_set_self hidl]at hi;cases hi
  ·rw[List.getElem?_set_ne (Ne.symm ei)]at hi
   exact(h.bld i t s b' hi hb').keep rfl fun g hg ⟨s1,s2,s3⟩=>⟨rfl,fun o=>by
    show(if g=b then c[o]? else G.F g o)=none
    rw[if_neg (fun e=>s2 id (by rw[e];exact hb))];exact s1 o,s2,s3⟩,h.ini,h.vs.keep hx (fun i k gen e cs hi=>by
   by_cases ei:i=id
   ·subst ei
    rw[List.getElem?_set_self hidl]at hi;cases hi
   ·rwa [List.getElem?_set_ne (Ne.symm ei)]at hi) (fun _ _ _ _ h _ _=>h) fun _ _ _ _ _ _ _ _ _=>rfl⟩,rfl,fun j x hj=>?_⟩
 ·change (if b'=b then c[o]? else G.F b' o)=some v at hv
  rw[if_neg (fun e=>by have:=(h.geφ id b hb).1;omega)]at hv
  exact hv
 ·change (if b'=b then c[o]? else G.F b' o)=some v at hv
  by_cases eb:b'=b
  ·rw[if_pos eb]at hv;subst eb
   simp only[World.cell?,g1,Option.isSome_none,Bool.false_eq_true,if_false];exact hv
  ·rw[if_neg eb]at hv;exact h.frz _ _ _ hv
 ·change (if b'=b then c[o]? else G.F b' o)=some v at hv
  by_cases eb:b'=b
  ·rw[if_pos eb]at hv
   have ho:o<cs.length:=by rw[←g2];exact(Array.getElem?_eq_some_iff.1 hv).1
   obtain⟨u,hu,hr⟩:=g3 o _ (List.getElem?_eq_getElem ho)
   rw[hv]at hu
   cases hu
   exact hr.oneCell (List.all_eq_true.1 hc _ (List.getElem_mem ho))
  ·rw[if_neg eb]at hv;exact h.one _ _ _ hv
 ·by_cases ei:i=id
  ·subst ei
   rw[List.getElem?_set_self hidl]at hi
   cases hi
   exact⟨b,hb,trivial⟩
  ·rw[List.getElem?_set_ne (Ne.symm ei)]at hi
   obtain⟨b',hb',hr⟩:=h.obj i ob hi
   exact⟨b',hb',hr.keep hx rfl⟩
 ·show(if b'=b then c[o]? else G.F b' o)=none
  by_cases ei:i=id
  ·subst ei;rw[List.getElem?_set_self hidl]at hd;exact absurd rfl hd
  ·rw[List.getElem?_set_ne (Ne.symm ei)]at hd
   rw[if_neg (fun e=>ei (h.nod i id b' hi (by rw[e];exact hb)))]
   exact h.sep i b' o hi hd
 ·obtain⟨r1,r2,r3,r4⟩:=h.reg k b' lo hi hk hlt
  refine⟨r1,fun i hi ob hob=>?_,fun o h1 h2=>?_,r4⟩
  ·by_cases ei:i=id
   ·subst ei
    rw[List.getElem?_set_self hidl]at hob;cases hob;rfl
   ·rw[List.getElem?_set_ne (Ne.symm ei)]at hob
    exact r2 i hi ob hob
  show(if b'=b then c[o]? else G.F b' o)=none
  rw[if_neg (fun e=>by have:=r2 id (by rw[e];exact hb) _ hh;cases this)]
  exact r3 o h1 h2
 ·obtain⟨u,hu,hr⟩:=g3 j x hj
  exact⟨u,by show(if b=b then c[j]? else _)=_;rw[if_pos rfl];exact hu,hr.mono hx⟩
def chunk(sz:Nat):Nat→List V→List (List V)
 | 0,_=>[]
 | n+1,cs=>cs.take sz::chunk sz n (cs.drop sz)
theorem chunk_length(sz:Nat):∀ (n:Nat) (cs:List V),(chunk sz n cs).length=n
 | 0,_=>rfl
 | n+1,cs=>by simp[chunk,chunk_length sz n]
theorem chunk_get(sz:Nat):∀ (n:Nat) (cs:List V) (i:Nat) el,n * sz≤cs.length→(chunk sz n cs)[i]? = some el→el.length=sz∧∀ (j:Nat) c,el[j]? = some c→cs[i * sz+j]? = some c
 | 0,_,i,el,_,h=>by simp[chunk]at h
 | n+1,cs,i,el,hl,h=>by
  rw[Nat.add_mul,Nat.one_mul]at hl
  cases i with
  | zero =>
   simp[chunk]at h
   subst h
   refine⟨by simp;omega,fun j c hj=>?_⟩
   obtain⟨h1,h2⟩:=take_some hj
   simpa using h2
  | succ i =>
   simp only[chunk,List.getElem?_cons_succ]at h
   obtain⟨h1,h2⟩:=chunk_get sz n (cs.drop sz) i el (by simp;omega) h
   refine⟨h1,fun j c hj=>?_⟩
   have:=h2 j c hj
   rw[List.getElem?_drop]at this
   rw[←this];congr 1
   rw[Nat.add_mul];omega
theorem RV.thaw{P:Program}{G G':Gh}{arr:List Nat}{id len cap e b:Nat}{cs:List V}{v:Value}(h:RV P G arr (.mslice id 0 len cap e) v)(hb:G.φ[id]? = some b)(hok:elemOK P e=true)(hl:len * P.cellsOf e≤cs.length)
  (hc:∀ (j:Nat) c,cs[j]? = some c→∃ u,G'.F b j=some u∧RV P G' arr c u):RV P G' arr (Vg.sl e (chunk (P.cellsOf e) len cs)) v:=by
 obtain⟨i,z,hi,hz,hz1,hzs,his,hib,hs1,hb1,hb2⟩:=elemOK_spec hok
 cases h with
 | mslice _ _ _ _ _ b' hb' h1 h2 h3 =>
  rw[hb]at hb'
  cases hb'
  have hlen:=chunk_length (P.cellsOf e) len cs
  have:=RV.ofCells (P:=P) (G:=G') (arr:=arr) (o := .shared) (e:=e) (es:=chunk (P.cellsOf e) len cs) (b:=b) (off:=0) (cap:=cap) trivial (fun i el hi=>(chunk_get _ _ _ _ _ hl hi).1) (by rw[hlen];exact h3) hb1 (by rw[hlen];exact h2)
   (fun i el j c hi hj=>by
    obtain⟨u,hu,hr⟩:=hc _ _ ((chunk_get _ _ _ _ _ hl hi).2 j c hj)
    exact⟨u,by rw[Nat.zero_add];exact hu,hr⟩)
  rw[hlen]at this
  exact this.sl
def finM(P:Program)(o:Option VObj)(len e:Nat)(r:V):Prop:=match o with
 | some (.cells cs)=>cs.all V.cell=true∧elemOK P e=true∧len * P.cellsOf e≤cs.length∧sl e (chunk (P.cellsOf e) len cs)=r
 | _=>False
def finV(P:Program)(h:List VObj)(v r:V):Prop:=match v with
 | .mslice id 0 len _ e=>finM P h[id]? len e r
 | v=>share v=r
def kfrz(P:Program)(r:V):Cont:=fun v h _=>finV P h v r
section
variable {P : Program} {r v : V} {h : List VObj} {a : List Nat} {id len cap e : Nat} {o : Own} {es : List (List V)}
@[go_sem] theorem kfrz_go:kfrz P r v h a=finV P h v r:=rfl
@[go_sem] theorem finV_ms:finV P h (.mslice id 0 len cap e) r=finM P h[id]? len e r:=rfl
@[go_sem] theorem finM_cells{cs:List V}:finM P (some (.cells cs)) len e r=(cs.all V.cell=true∧elemOK P e=true∧len * P.cellsOf e≤cs.length∧sl e (chunk (P.cellsOf e) len cs)=r):=rfl
@[go_sem] theorem finV_slice:finV P h (.slice o e es) r=(sl e es=r):=rfl
end
theorem vpure_vcF{E:Env}{f:FuncId}{fn:Func}{c:Code}{args:List V}{r:V}(hf:E.P.funcs[f]? = some fn)(hbody:fn.body=some c)(hn:args.length≤fn.ntmps)(hp:pureL args=true)(hr:r.pure=true)
  (h:vc E 0 0 fn.ntmps c ⟨enumV 0 args,[],[]⟩ (kfin E fn.results.toList (kfrz E.P r))) (hal:E.alive=E:=by exact rfl):VPure E f args r:=by
 refine⟨hp,hr,?_⟩
 have:=vcalls_vc (heap:=[]) (arr:=[]) (K:=kfrz E.P r) hf hbody hn h
 rw[←hal]at this
 intro G w0 w vals hrel ha
 refine(this G w0 w vals hrel ha).mono fun e w' hg=>?_
 obtain⟨val,he,v,heap',arr',G',hv,hx,hr',hrv⟩:=hg.alive
 unfold kfrz finV at hv
 split at hv
 ·rename_i id len cap el
  unfold finM at hv
  split at hv
  ·rename_i cs hh
   obtain⟨h1,h2,h3,rfl⟩:=hv
   obtain⟨G'',b,hb,hx'',hr'',hφ,hc⟩:=hr'.freezeO hh h1
   exact .inl ⟨val,he,_,_,arr',G'',rfl,hx.trans hx'',hr'',hrv.thaw hb h2 h3 hc⟩
  ·exact hv.elim
 ·exact .inl ⟨val,he,share v,heap',arr',G',hv,hx,hr',hrv.share⟩
/-! ### Freezing on the way -/
def frV(P:Program)(id:Nat)(cs:List V):V→V
 | .mslice i off len cap e=>if i=id then(if off=0∧elemOK P e=true∧len * P.cellsOf e≤cs.length then sl e (chunk (P.cellsOf e) len cs)else .junk)else .mslice i off len cap e
 | x=>x
def frT(P:Program)(id:Nat)(cs:List V)(tm:List (Nat×V)):List (Nat×V):=tm.map fun p=>(p.1,frV P id cs p.2)
theorem look_frT{P:Program}{id:Nat}{cs:List V}:∀ (tm:List (Nat×V)) (i:Nat),look (frT P id cs tm) i=frV P id cs (look tm i):=by
 intro tm
 induction tm with
 | nil=>intro i;rfl
 | cons p r ih =>
  obtain⟨j,x⟩:=p
  intro i
  have:=ih i
  simp only[frT,List.map_cons,look]at this ⊢
  split
  ·rfl
  ·exact this
theorem RV.frV{P:Program}{G G':Gh}{arr:List Nat}{id b:Nat}{cs:List V}{x:V}{v:Value}(h:RV P G arr x v)(hx:Ext G arr G' arr)(hb:G.φ[id]? = some b)
  (hc:∀ (j:Nat) c,cs[j]? = some c→∃ u,G'.F b j=some u∧RV P G' arr c u):RV P G' arr (frV P id cs x) v:=by
 cases x
 case mslice i off len cap e =>
  simp only[Vg.frV]
  split
  ·rename_i ei
   subst ei
   split
   ·rename_i hh
    obtain⟨rfl,h1,h2⟩:=hh
    exact h.thaw hb h1 h2 hc
   ·exact .junk _
  ·exact h.mono hx
 all_goals exact h.mono hx
/-! ### A call that takes over a nil slice as a slot -/
def telling(N:Nat):List V→List V→Prop
 | [],[]=>True
 | x::r,y::q=>tell N x y∧telling N r q
 | _,_=>False
@[go_sem] theorem telling_nil{N:Nat}:telling N [] []=True:=rfl
@[go_sem] theorem telling_cons{N:Nat}{x y:V}{r q:List V}:telling N (x::r) (y::q)=(tell N x y∧telling N r q):=rfl
theorem telling_get{N:Nat}:∀ {l l':List V},telling N l l'→l'.length=l.length∧∀ (j:Nat) x,l'[j]? = some x→∃ y,l[j]? = some y∧tell N y x:=by
 intro l
 induction l with
 | nil=>intro l' h;cases l' with
  | nil=>exact⟨rfl,by simp⟩
  | cons=>exact h.elim
 | cons x r ih =>
  intro l' h
  cases l' with
  | nil=>exact h.elim
  | cons y q =>
   obtain⟨h1,h2⟩:=h
   obtain⟨g1,g2⟩:=ih h2
   refine⟨by simp[g1],fun j z hj=>?_⟩
   cases j with
   | zero=>simp at hj;subst hj;exact⟨x,rfl,h1⟩
   | succ j=>simpa using g2 j z (by simpa using hj)
theorem VCalls.adopt{E:Env}{f:FuncId}{args args':List V}{heap:List VObj}{arr:List Nat}{K:Cont}(m:Nat)(ht:telling (arr.length+1) args args')(h:VCalls E f args' heap (arr++[m]) K):VCalls E f args heap arr K:=by
 intro G w0 w vals hr ha
 obtain⟨g1,g2⟩:=hr.slot m
 obtain⟨l1,l2⟩:=telling_get ht
 refine(h _ w0 w vals g2 ⟨by rw[l1];exact ha.1,fun j x v hx hv=>?_⟩).mono fun e w' hg=>hg.imp (fun⟨val,he,v,heap',arr',G',hv,hx,rest⟩=>⟨val,he,v,heap',arr',G',hv,g1.trans hx,rest⟩) fun⟨ch,he,hd⟩=>⟨ch,he,hd.ext g1⟩
 obtain⟨y,hy,hyx⟩:=l2 j x hx
 exact((ha.2 j y v hy hv).mono g1).tell (by simpa using hyx)
/-! ### Heaps and slots of which only a part is known -/
section
variable {h l m : List VObj} {a b : List Nat} {i j k n n' : Nat} {x : VObj}
@[go_sem] theorem heap_len:(h++l).length=h.length+l.length:=List.length_append
@[go_sem] theorem heap_app:(h++l)++m=h++(l++m):=List.append_assoc _ _ _
@[go_sem] theorem heap_at:(h++l)[h.length]? = l[0]?:=by rw[List.getElem?_append_right (Nat.le_refl _)];simp
@[go_sem] theorem heap_at':(h++l)[h.length+i]? = l[i]?:=by rw[List.getElem?_append_right (by omega)];simp
@[go_sem] theorem heap_set:(h++l).set h.length x=h++l.set 0 x:=by rw[List.set_append_right _ _ (Nat.le_refl _)];simp
@[go_sem] theorem heap_set':(h++l).set (h.length+i) x=h++l.set i x:=by rw[List.set_append_right _ _ (by omega)];simp
@[go_sem] theorem add_zero':n+0=n:=rfl
@[go_sem] theorem arr_set_set:(a.set k n).set k n'=a.set k n':=List.set_set ..
theorem arr_get(h:a[k]? = some n):(a.set k n')[k]? = some n':=List.getElem?_set_self (List.getElem?_eq_some_iff.1 h).1
@[go_sem] theorem arr_set_len:(a.set k n).length=a.length:=List.length_set
theorem tellH_refl{N:Nat}:∀ {h:List VObj},tellH N h h
 | []=>trivial
 | x::r=>⟨by rw[tellO_same];trivial,tellH_refl⟩
@[go_sem] theorem tellH_same{N:Nat}:tellH N h h=True:=eq_true tellH_refl
@[go_sem] theorem tellH_app{N:Nat}:tellH N (h++l) (h++m)=tellH N l m:=by
 induction h with
 | nil=>rfl
 | cons x r ih =>
  show(tellO N x x∧tellH N (r++l) (r++m))=_
  rw[tellO_same,true_and,ih]
@[go_sem] theorem tellA_same:tellA a a=True:=by
 induction a with
 | nil=>rfl
 | cons x r ih=>show(x=x∧tellA r r)=True;rw[ih];simp
@[go_sem] theorem le_add:n≤n+k:=Nat.le_add_right _ _
end
/-! ### A join: what comes behind a piece of code is walked once -/
def kcut(hb ab:Nat)(t:St)(Q:VEx→St→Prop):VEx→St→Prop:=thenQ (fun s=>Told hb ab s t) Q
section
variable {E : Env} {hb ab n i : Nat} {s t : St} {Q : VEx → St → Prop} {x y : Code}
@[go_sem] theorem kcut_normal:kcut hb ab t Q .normal s=Told hb ab s t:=rfl
@[go_sem] theorem kcut_ret:kcut hb ab t Q .ret s=Q .ret s:=rfl
theorem snd_cut(t:St)(hx:vc E hb ab n x s (kcut hb ab t Q))(hy:Snd E hb ab n y t Q):Snd E hb ab n (.seq x y) s Q :=
 snd_seq (fun s'=>Told hb ab s' t) ((vc_snd _ _ _ hx).mono fun e s' h=>by cases e <;> exact h) fun s' h=>snd_weak h.weak hy
end
theorem vpure_snd{E:Env}{f:FuncId}{fn:Func}{c:Code}{args:List V}{r:V}(hf:E.P.funcs[f]? = some fn)(hbody:fn.body=some c)(hn:args.length≤fn.ntmps)(hp:pureL args=true)(hr:r.pure=true)
  (h:Snd E 0 0 fn.ntmps c ⟨enumV 0 args,[],[]⟩ (kfin E fn.results.toList (kpure r))) (hal:E.alive=E:=by exact rfl):VPure E f args r :=
 vpure_of hf hbody hn hp hr h hal
end Go.Vg
namespace Go.Vg
open Go.RowKit
theorem RelW.belowW{E:Env}{G:Gh}{heap:List VObj}{arr:List Nat}{w0:Base}{w w':World}(h:RelW E G heap arr w0 w)(hb:Below w.heap.size w w'):RelW E G heap arr w0 w':=by
 have hs:=hb.size
 refine⟨h.newF,h.glob,h.below.trans (hb.mono h.below.size),fun b o v hv=>?_,h.one,fun id ob hi=>?_,h.lenφ,h.nod,h.sep,fun id b hb'=>?_,h.lenρ,fun k b lo hi hk hlt=>?_,h.regd,h.fre,h.bldA hb.block (fun _ _ hs=>hs),h.ini,h.vsK (Ext.refl _ _) (fun _ _ _ _ _ h=>h) (fun _ _ h _=>h) hb.block⟩
 ·have hc:=h.frz b o v hv
  have hlt:b<w.heap.size:=by
   rcases Nat.lt_or_ge b w.heap.size with h' | h'
   ·exact h'
   ·simp[World.cell?,Array.getElem?_eq_none h']at hc
  rw[hb.cell (p:=⟨b,o,none⟩) hlt];exact hc
 ·obtain⟨b,hb',hr⟩:=h.obj id ob hi
  exact⟨b,hb',hr.keep (Ext.refl _ _) (hb.block b (h.geφ id b hb').2)⟩
 ·obtain⟨g1,g2⟩:=h.geφ id b hb'
  exact⟨g1,by omega⟩
 ·obtain⟨⟨c,e,r0,r1⟩,r2,r3,r4⟩:=h.reg k b lo hi hk hlt
  have hb':b<w.heap.size:=by
   rcases Nat.lt_or_ge b w.heap.size with h' | h'
   ·exact h'
   ·simp[Array.getElem?_eq_none h']at r0
  exact⟨⟨c,e,by rw[hb.block b hb'];exact r0,r1⟩,r2,r3,r4⟩
theorem RelW.iniW{E:Env}{G:Gh}{heap:List VObj}{arr:List Nat}{w0:Base}{w:World}(h:RelW E G heap arr w0 w):E.ini w:=E.iniM _ _ h.ini h.below
def vSliceB(E:Env)(lo hi:Option Int)(n:Nat)(C:Prop)(R:Nat→Nat→V)(K:V→Prop):Prop:=match lo,hi with
 | some l,some h=>(0≤l∧l≤h∧h≤n)∧C∧K (R l.toNat h.toNat)
 | _,_=>False
@[go_sem] theorem vSliceB_some{E:Env}{l h:Int}{n:Nat}{C:Prop}{R:Nat→Nat→V}{K:V→Prop}:vSliceB E (some l) (some h) n C R K=((0≤l∧l≤h∧h≤n)∧C∧K (R l.toNat h.toNat)):=rfl
def vSliceD(E:Env)(d:Option TypeDesc)(x:V)(lo hi mx:Option V)(K:V→Prop):Prop:=match d,x,mx with
 | some .string,.str s,none=>vSliceB E (vBound 0 lo) (vBound s.size hi) s.size True (fun l h => .str (s.extract l h)) K
 | some (.slice e),.slice _ e' es,none=>vSliceB E (vBound 0 lo) (vBound es.length hi) es.length ((es=[]∨e'=e)∧infoOK E.P e=true) (fun l h=>sl e ((es.take h).drop l)) K
 | _,_,_=>False
@[go_sem] theorem vSlice_d{E:Env}{t:TypeId}{x:V}{lo hi mx:Option V}{K:V→Prop}:vSlice E t x lo hi mx K=vSliceD E (E.P.underlying t) x lo hi mx K:=by
 unfold vSlice
 generalize E.P.underlying t=d
 split
 ·simp only[vSliceD]
  cases vBound 0 lo <;> cases vBound _ hi <;> simp[vSliceB]
 ·rename_i e e' es
  simp only[vSliceD]
  cases vBound 0 lo <;> cases vBound (es.length:Int) hi <;> simp only[vSliceB]
  apply propext;constructor
  ·rintro⟨⟨a,b,c⟩,d⟩;exact⟨c,⟨a,b⟩,d⟩
  ·rintro⟨c,⟨a,b⟩,d⟩;exact⟨⟨a,b,c⟩,d⟩
 ·rename_i h1 h2
  unfold vSliceD
  split
  ·exact(h1 _ rfl rfl rfl).elim
  ·exact(h2 _ _ _ _ rfl rfl rfl).elim
  ·rfl
@[go_sem] theorem vSliceD_str{E:Env}{s:ByteArray}{lo hi:Option V}{K:V→Prop}:vSliceD E (some .string) (.str s) lo hi none K=vSliceB E (vBound 0 lo) (vBound s.size hi) s.size True (fun l h => .str (s.extract l h)) K:=rfl
@[go_sem] theorem vBound_none{d:Int}:vBound d none=some d:=rfl
@[go_sem] theorem vBound_int{d:Int}{k:IntKind}{i:Int}:vBound d (some (.int k i))=some i:=rfl
@[go_sem] theorem lapp_cons{α:Type}{a:α}{l m:List α}:List.append (a::l) m=a::List.append l m:=rfl
@[go_sem] theorem lapp_nil{α:Type}{m:List α}:List.append [] m=m:=rfl
@[go_sem] theorem iteF{α:Type}{a b:α}:(if False then a else b)=b:=if_neg id
@[go_sem] theorem iteT{α:Type}{a b:α}:(if True then a else b)=a:=if_pos trivial
@[go_sem] theorem func_pure{f:FuncId}{cs:List V}:(V.func f cs).pure=pureL cs:=by simp[V.pure]
theorem var_keep{P:Program}{w w':World}{n:String}{cs:Array Value}(h:w.var? P n=some cs)(hb:Below w.heap.size w w'):w'.var? P n=some cs:=by
 unfold World.var? at h ⊢
 cases hg:P.globalNamed n with
 | none=>rw[hg]at h;cases h
 | some g =>
  rw[hg]at h
  simp only[Option.bind_some]at h ⊢
  have hlt:g<w.heap.size:=by
   rcases Nat.lt_or_ge g w.heap.size with h' | h'
   ·exact h'
   ·simp[Array.getElem?_eq_none h']at h
  rw[hb.block g hlt];exact h
theorem Args.cons{P:Program}{G:Gh}{arr:List Nat}{x:V}{l:List V}{vals:Array Value}(h:Args P G arr (x::l) vals) :
  ∃ v vs,vals = #[v]++vs∧RV P G arr x v∧Args P G arr l vs:=by
 obtain⟨h1,h2⟩:=h
 simp only[List.length_cons]at h1
 have h0:0<vals.size:=by omega
 refine⟨vals[0],vals.extract 1 vals.size,?_,h2 0 x _ rfl (Array.getElem?_eq_getElem h0),by simp;omega,fun j y v hy hv=>h2 (j+1) y v (by simpa using hy) ?_⟩
 ·apply Array.ext_getElem?
  intro i
  rw[Array.getElem?_append]
  split
  ·rename_i hi
   have:i=0:=by simpa using hi
   subst this
   simp[h0]
  ·rename_i hi
   simp only[Array.size_singleton]at hi ⊢
   rw[Array.getElem?_extract]
   split
   ·congr 1;omega
   ·rw[Array.getElem?_eq_none (by omega)]
 ·rw[Array.getElem?_extract]at hv
  split at hv
  ·rw[←hv];congr 1;omega
  ·cases hv
theorem Args.nil{P:Program}{G:Gh}{arr:List Nat}{vals:Array Value}(h:Args P G arr [] vals):vals = #[]:=Array.eq_empty_of_size_eq_zero h.1.symm
theorem vpure_shelf{E:Env}{f:FuncId}{args:List V}{r:V}{val:Value}(hp:pureL args=true)(hr:r.pure=true)(hrv:∀ G arr,RV E.P G arr r val)
  (h:∀ G w0 w vals,RelW E.alive G [] [] w0 w→Args E.P G [] args vals→Calls E.P f vals w fun e w'=>e = .returned val∧Below w.heap.size w w'):VPure E f args r:=by
 refine⟨hp,hr,fun G w0 w vals hrel ha=>(h G w0 w vals hrel ha).mono fun e w' ⟨he,hb⟩=>?_⟩
 exact .inl ⟨val,he,r,[],[],G,rfl,Ext.refl _ _,hrel.belowW hb,hrv _ _⟩
theorem texts_of{E:Env}{G:Gh}{heap:List VObj}{arr:List Nat}{w0:Base}{w:World}{e:TypeId}{xs:List ByteArray}{v:Value}(h:RelW E G heap arr w0 w)(hc:E.P.cellsOf e=1)
  (hv:RV E.P G arr (sl e (xs.map fun s=>[.str s])) v):(xs=[]∧∃ a c,v = .slice a 0 c) ∨
   ∃ b o c,v = .slice (some ⟨b,o,none⟩) xs.length c∧b<w.heap.size∧xs.length≤c∧∀ (j:Nat) x,xs[j]? = some x→w.cell? ⟨b,o+j,none⟩=some (.string x):=by
 have key:∀ e',(xs=[]∨e'=e)→RV E.P G arr (.slice .shared e' (xs.map fun s=>[V.str s])) v→(xs=[]∧∃ a c,v = .slice a 0 c) ∨
   ∃ b o c,v = .slice (some ⟨b,o,none⟩) xs.length c∧xs.length≤c∧∀ (j:Nat) x,xs[j]? = some x→w.cell? ⟨b,o+j,none⟩=some (.string x):=by
  intro e' he hv
  generalize hes:(xs.map fun s=>[V.str s])=es at hv
  cases hv with
  | snil =>
   left
   exact⟨by simpa using hes,_,_,rfl⟩
  | sodd =>
   left
   exact⟨by simpa using hes,_,_,rfl⟩
  | slice _ _ _ b off cap ho h1 h2 h3 h4 h5 h6 =>
   right
   have hl:es.length=xs.length:=by rw[←hes];simp
   refine⟨b,off,cap,by rw[hl],by omega,fun j x hj=>?_⟩
   have hne:xs≠[]:=by rintro rfl;simp at hj
   have hee:e'=e:=he.resolve_left hne
   subst hee
   have hi:es[j]? = some [V.str x]:=by rw[←hes];simp[hj]
   obtain⟨u,hu⟩:=h5 j _ 0 hi (by simp)
   have hru:=h6 j _ 0 _ u hi rfl hu
   rw[hc]at hu
   simp only[Nat.mul_one,Nat.add_zero]at hu
   cases hru
   exact h.frz _ _ _ hu
 have hlt:∀ b o c,v = .slice (some ⟨b,o,none⟩) xs.length c→(∀ (j:Nat) x,xs[j]? = some x→w.cell? ⟨b,o+j,none⟩=some (.string x))→xs≠[]→b<w.heap.size:=by
  intro b o c _ hcell hne
  obtain⟨x,r,rfl⟩:=List.exists_cons_of_ne_nil hne
  have:=hcell 0 x rfl
  rcases Nat.lt_or_ge b w.heap.size with h' | h'
  ·exact h'
  ·simp[World.cell?,Array.getElem?_eq_none h']at this
 unfold sl at hv
 have he:xs=[]∨(if(xs.map fun s=>[V.str s]).isEmpty then 0 else e)=e:=by
  cases xs with
  | nil=>exact .inl rfl
  | cons x r=>exact .inr rfl
 rcases key _ he hv with⟨h1,h2⟩ | ⟨b,o,c,h1,h2,h3⟩
 ·exact .inl ⟨h1,h2⟩
 ·by_cases hne:xs=[]
  ·subst hne;exact .inl ⟨rfl,_,_,h1⟩
  ·exact .inr ⟨b,o,c,h1,hlt b o c h1 h3 hne,h2,h3⟩
end Go.Vg
namespace Go.Vg
open Go
inductive Nd where
 | mk (kind:Int) (text:ByteArray) (gaps:List ByteArray) (kids:List Nd)
def Nd.kind:Nd→Int | .mk k _ _ _=>k
def Nd.text:Nd→ByteArray | .mk _ t _ _=>t
def Nd.gaps:Nd→List ByteArray | .mk _ _ g _=>g
def Nd.kids:Nd→List Nd | .mk _ _ _ ks=>ks
def encTx(s:ByteArray):List V:=[.str s]
mutual
def Nd.enc:Nd→List V
 | .mk k t g ks=>[.int .i64 k,.str t,sl 9 (g.map encTx),sl 32 (Nd.encs ks)]
def Nd.encs:List Nd→List (List V)
 | []=>[]
 | n::r=>n.enc::Nd.encs r
end
@[go_sem] theorem encs_map:∀ l,Nd.encs l=l.map Nd.enc
 | []=>rfl
 | n::r=>by rw[Nd.encs,encs_map r];rfl
@[go_sem] theorem enc_mk{k t g ks}:(Nd.mk k t g ks).enc=[.int .i64 k,.str t,sl 9 (g.map encTx),sl 32 (ks.map Nd.enc)]:=by
 rw[Nd.enc,encs_map]
@[go_sem] theorem enc_len(n:Nd):n.enc.length=4:=by cases n;rfl
@[go_sem] theorem enc_take(n:Nd):List.take 4 n.enc=n.enc:=by cases n;rfl
@[go_sem] theorem enc_share(n:Nd):List.map share1 n.enc=n.enc:=by cases n;simp -implicitDefEqProofs only[go_sem]
@[go_sem] theorem enc_cell(n:Nd):n.enc.all V.cell=true:=by cases n;rfl
@[go_sem] theorem encS_pure:∀ l:List ByteArray,pureLL (l.map encTx)=true
 | []=>rfl
 | n::r=>by show(pureL _ && pureLL (r.map encTx))=true;rw[encS_pure r];rfl
mutual
theorem enc_pure:∀ n:Nd,pureL n.enc=true
 | .mk _ _ _ ks=>by simp -implicitDefEqProofs only[Nd.enc,go_sem];exact ncs_pure ks
theorem ncs_pure:∀ l:List Nd,pureLL (l.map Nd.enc)=true
 | []=>rfl
 | n::r=>by simp only[List.map_cons,pureLL,enc_pure n,ncs_pure r,Bool.and_self]
end
attribute [go_sem] enc_pure ncs_pure
theorem Nd.all{P:Nd→Prop}(h:∀ k t g (ks:List Nd),(∀ x∈ks,P x)→P (.mk k t g ks)):∀ n,P n :=
 Nd.rec (motive_1:=P) (motive_2:=fun l=>∀ x∈l,P x) (fun k t g ks ih=>h k t g ks ih) (by simp) fun n r hn hr x hx=>by
  rcases List.mem_cons.1 hx with e | e
  ·exact e ▸ hn
  ·exact hr x e
theorem mem_mid{α:Type}{pre post:List α}{x:α}:x∈pre++x::post:=by simp
theorem byteAt_mid{s:ByteArray}{pre post:List UInt8}{x:UInt8}(h:s.data.toList=pre++x::post):byteAt s (pre.length:Int)=x.toNat:=by
 have h1:s.data.toList[pre.length]? = some x:=by rw[h];simp
 have h2:s.data[pre.length]? = some x:=by simpa using h1
 unfold byteAt
 have h3:s[(Int.toNat (pre.length:Int))]? = some x:=by
  have:Int.toNat (pre.length:Int)=pre.length:=by simp
  rw[this]
  obtain⟨hl,hx⟩:=Array.getElem?_eq_some_iff.1 h2
  have hl':pre.length<s.size:=hl
  rw[getElem?_pos s pre.length hl']
  exact congrArg some hx
 rw[h3]
theorem size_list{s:ByteArray}:s.size=s.data.toList.length:=by simp
structure Shp where
 first:List (Int×Int)
 rk:Int
 rg:Int
 text:Int
 words:List ByteArray
 own:Int
def encPt(p:Int×Int):List V:=[.int .i64 p.1,.int .i64 p.2]
def Shp.enc(s:Shp):List V:=[sl 209 (s.first.map encPt),.int .i64 s.rk,.int .i64 s.rg,.int .i64 s.text,sl 9 (s.words.map encTx),.int .i64 s.own]
def shapesL:List Shp:=[
 ⟨[],0,0,0,[],0⟩,
 ⟨[],0,1,0,[],1⟩,
 ⟨[(3,0),(5,0),(6,0)],0,0,1,[],2⟩,
 ⟨[],4,0,0,[],2⟩,
 ⟨[(5,0)],0,0,1,[],1⟩,
 ⟨[],0,0,1,[],1⟩,
 ⟨[],0,2,0,[],2⟩,
 ⟨[(8,0)],2,0,1,[],4⟩,
 ⟨[],0,0,2,[],2⟩,
 ⟨[(0,3)],0,0,1,[],4⟩,
 ⟨[(0,3)],0,0,1,[],4⟩,
 ⟨[(0,3)],0,0,1,[],3⟩,
 ⟨[(0,3)],0,0,0,[],2⟩,
 ⟨[(0,3),(6,0),(14,0)],0,0,0,[],1⟩,
 ⟨[(6,0)],0,0,0,[],1⟩,
 ⟨[(0,3),(6,0)],0,0,0,[],1⟩,
 ⟨[(0,3)],0,0,0,[],1⟩,
 ⟨[],0,0,3,[],1⟩,
 ⟨[],0,0,4,[⟨#[116,114,117,101]⟩,⟨#[102,97,108,115,101]⟩],1⟩,
 ⟨[],0,0,1,[],1⟩,
 ⟨[],0,3,1,[],3⟩,
 ⟨[(0,3)],0,3,1,[],4⟩,
 ⟨[],0,0,1,[],4⟩,
 ⟨[],0,0,4,[⟨#[115,101,108,102]⟩],1⟩,
 ⟨[(0,3),(0,3)],0,0,4,[⟨#[124]⟩,⟨#[38]⟩,⟨#[61,61]⟩,⟨#[60]⟩,⟨#[43]⟩,⟨#[45]⟩,⟨#[42]⟩,⟨#[47]⟩],1⟩,
 ⟨[(0,3)],0,0,4,[⟨#[45]⟩,⟨#[33]⟩],1⟩,
 ⟨[(0,3)],0,0,0,[],2⟩]
def shapesC:List V:=(shapesL.map Shp.enc).flatten
def Shp.zero:Shp:=⟨[],0,0,0,[],0⟩
def shp(k:Int):Shp:=shapesL.getD k.toNat Shp.zero
theorem shapes_drop{k:Int}(h:0≤k)(h':k<27):List.drop (k.toNat * 6) shapesC=(shp k).enc++List.drop (k.toNat * 6+6) shapesC:=by
 obtain⟨n,rfl⟩:=Int.eq_ofNat_of_zero_le h
 have hn:n<27:=by omega
 simp only[Int.ofNat_eq_natCast,Int.toNat_natCast,shp]
 have key:∀ (l:List Shp) (n:Nat),n<l.length→List.drop (n * 6) (l.map Shp.enc).flatten=(l.getD n Shp.zero).enc++List.drop (n * 6+6) (l.map Shp.enc).flatten:=by
  intro l
  induction l with
  | nil=>intro n hn;simp at hn
  | cons x r ih =>
   intro n hn
   have hx:x.enc.length=6:=rfl
   cases n with
   | zero =>
    simp only[List.map_cons,List.flatten_cons,Nat.zero_mul,List.drop_zero,Nat.zero_add]
    rw[←hx,List.drop_left]
    rfl
   | succ n =>
    have:=ih n (by simpa using hn)
    have e1:∀ m,List.drop (6+m) (x.enc++(List.map Shp.enc r).flatten)=List.drop m (List.map Shp.enc r).flatten:=fun m=>by
     rw[←hx,←List.drop_drop,List.drop_left]
    rw[List.map_cons,List.flatten_cons,show(n+1) * 6=6+n * 6 by omega,e1,this,show 6+n * 6+6=6+(n * 6+6)by omega,e1]
    rfl
 exact key shapesL n hn
theorem size_mid{s:ByteArray}{l:List UInt8}(h:s.data.toList=l):s.size=l.length:=by rw[size_list,h]
end Go.Vg
namespace Go.Proofs.YtamednbojpnalaaGreatDoor
open Go Go.Vg Go.Proofs
def iniW(w:World):Prop:=Lib.TabIs Tryz.prog w "internal/strconv.uint64pow10" .u64 Lib.pow10Tab∧∃ m,w.var? Tryz.prog "internal/bytealg.MaxLen" = some #[.int .i64 m]
theorem iniW_keep(w w':World)(h:iniW w)(hb:Go.RowKit.Below w.heap.size w w'):iniW w' :=
 ⟨var_keep h.1 hb,h.2.imp fun _ h=>var_keep h hb⟩
noncomputable def envD(D:List VObj→List Nat→Prop):Env:={ P:=Tryz.prog,gl:=fun g=>if g=0 then some shapesC else none,tag:=fun t=>decide (t=225),byteT:=5,ini:=iniW,iniM:=iniW_keep,die:=D }
noncomputable def env:Env:=envD fun _ _=>False
@[go_sem] theorem env_tag{t:TypeId}:env.tag t=decide (t=225):=rfl
@[go_sem] theorem env_shapes:env.gl 0=some shapesC:=rfl
@[go_sem] theorem env_vecT{t:TypeId}:env.vecT t=false:=rfl
@[go_sem] theorem env_P:env.P=Tryz.prog:=rfl
noncomputable def envV(tv:TypeId):Env:={ env with vecT:=fun t=>decide (t=tv) }
@[go_sem] theorem envV_P{tv:TypeId}:(envV tv).P=Tryz.prog:=rfl
@[go_sem] theorem envV_tag{tv t:TypeId}:(envV tv).tag t=decide (t=225):=rfl
@[go_sem] theorem envV_vecT{tv t:TypeId}:(envV tv).vecT t=decide (t=tv):=rfl
theorem VCalls.toE{E E':Env}(hP:E.P=E'.P)(hg:E.gl=E'.gl)(hB:E.byteT=E'.byteT)(hI:∀ w,E.ini w↔E'.ini w)(hd:∀ h a,E.die h a→E'.die h a){f:FuncId}{args:List V}{h:List VObj}{a:List Nat}{K:Cont}(hc:VCalls E f args h a K) :
  VCalls E' f args h a K:=by
 intro G w0 w vals hr ha
 have h2:=(hc G w0 w vals (hr.env (E:=E') (E':=E) hP.symm hg.symm hB.symm (hI _).2) (hP ▸ ha)).mono fun e w' hgo=>show Goes E' G a w0 K e w' by
  rcases hgo with⟨val,he,v,heap',arr',G',h1,h2,h3,h4⟩ | ⟨ch,he,h0,heap',arr',G',h1,h2,h3⟩
  ·exact .inl ⟨val,he,v,heap',arr',G',h1,h2,h3.env (E:=E) (E':=E') hP hg hB (hI _).1,hP ▸ h4⟩
  ·exact .inr ⟨ch,he,h0,heap',arr',G',hd _ _ h1,h2,h3.env (E:=E) (E':=E') hP hg hB (hI _).1⟩
 exact hP ▸ h2
theorem VCalls.toV{tv:TypeId}{f:FuncId}{args:List V}{h:List VObj}{a:List Nat}{K:Cont}(hc:VCalls env f args h a K):VCalls (envV tv) f args h a K :=
 VCalls.toE (E:=env) (E':=envV tv) rfl rfl rfl (fun _=>Iff.rfl) (fun _ _ h=>h) hc
theorem VCalls.ofV{tv:TypeId}{f:FuncId}{args:List V}{h:List VObj}{a:List Nat}{K:Cont}(hc:VCalls (envV tv) f args h a K):VCalls env f args h a K :=
 VCalls.toE (E:=envV tv) (E':=env) rfl rfl rfl (fun _=>Iff.rfl) (fun _ _ h=>h) hc
theorem VPure.toV{tv:TypeId}{f:FuncId}{args:List V}{r:V}(h:VPure env f args r):VPure (envV tv) f args r :=
 ⟨h.1,h.2.1,VCalls.toE (E:=env.alive) (E':=(envV tv).alive) rfl rfl rfl (fun _=>Iff.rfl) (fun _ _ h=>h) h.2.2⟩
theorem VPure.ofV{tv:TypeId}{f:FuncId}{args:List V}{r:V}(h:VPure (envV tv) f args r):VPure env f args r :=
 ⟨h.1,h.2.1,VCalls.toE (E:=(envV tv).alive) (E':=env.alive) rfl rfl rfl (fun _=>Iff.rfl) (fun _ _ h=>h) h.2.2⟩
theorem mixed:env.P.follows .mixedOrders=true:=by
 rw[env_P];kernel_rfl
end Go.Proofs.YtamednbojpnalaaGreatDoor
namespace Go.Vg
def digitB(c:Int):Bool:=decide (48≤c) && decide (c≤57)
def letterB(c:Int):Bool:=decide (97≤c) && decide (c≤122) || decide (65≤c) && decide (c≤90) || decide (c=95)
def keyword(s:ByteArray):Bool:=decide (s=⟨#[102,110]⟩) || decide (s=⟨#[99,108,97,115,115]⟩) || decide (s=⟨#[99,111,110,115,116]⟩) || decide (s=⟨#[108,101,116]⟩) || decide (s=⟨#[114,101,116,117,114,110]⟩) || decide (s=⟨#[105,102]⟩) || decide (s=⟨#[101,108,115,101]⟩) || decide (s=⟨#[119,104,105,108,101]⟩)
 || decide (s=⟨#[110,101,119]⟩) || decide (s=⟨#[115,101,108,102]⟩) || decide (s=⟨#[116,114,117,101]⟩) || decide (s=⟨#[102,97,108,115,101]⟩)
def nameB(c:Int):Bool:=letterB c || digitB c
def validName(s:ByteArray):Bool := !decide ((s.size:Int)<1) && !decide (32<(s.size:Int)) && !digitB (byteAt s 0) && !keyword s && s.data.toList.all fun c=>nameB c.toNat
theorem byteAt_zero{s:ByteArray}{x:UInt8}{r:List UInt8}(h:s.data.toList=x::r):byteAt s 0=x.toNat:=byteAt_mid (pre:=[]) h
end Go.Vg
namespace Go.Proofs.YtamednbojpnalaaGreatDoor
open Go Go.Vg Go.Proofs
theorem R03digit(c:Int):VPure env 172 [.int .u8 c] (.bool (digitB c)):=by
 refine vpure_vc (fn:=Tryz.f172) Tryz.func172 rfl (by rw[Tryz.ntmps172];simp) rfl rfl ?_
 simp -implicitDefEqProofs only[go_sem,Tryz.f172,digitB]
 grind
theorem R03letter(c:Int):VPure env 174 [.int .u8 c] (.bool (letterB c)):=by
 refine vpure_vc (fn:=Tryz.f174) Tryz.func174 rfl (by rw[Tryz.ntmps174];simp) rfl rfl ?_
 simp -implicitDefEqProofs only[go_sem,Tryz.f174,letterB]
 grind
theorem R03Keyword(s:ByteArray):VPure env 173 [.str s] (.bool (keyword s)):=by
 refine vpure_vc (fn:=Tryz.f173) Tryz.func173 rfl (by rw[Tryz.ntmps173];simp) rfl rfl ?_
 simp -implicitDefEqProofs only[go_sem,Tryz.f173,keyword]
 simp +contextual
theorem R03Valid(s:ByteArray):VPure env 134 [.str s] (.bool (validName s)):=by
 refine vpure_vc (fn:=Tryz.f134) Tryz.func134 rfl (by rw[Tryz.ntmps134];simp) rfl rfl ?_
 simp -implicitDefEqProofs only[go_sem,Tryz.f134]
 intro hs
 refine⟨fun a1 _=>⟨fun a2=>⟨by omega,?_⟩,fun a2=>?_⟩,fun a1=>?_⟩
 ·refine(R03digit _).calls rfl ?_
  simp -implicitDefEqProofs only[go_sem]
  refine⟨fun a3=>?_,fun a3=>?_⟩
  ·refine(R03Keyword _).calls rfl ?_
   simp -implicitDefEqProofs only[go_sem]
   refine⟨fun a4=>?_,fun a4=>?_⟩
   ·simp[validName,a4]
   ·refine snd_list (β:=Unit) s.data.toList (fun pre _=>⟨[(3,.int .i64 pre.length),(0,.str s)],[],[]⟩) (fun pre _ _=>pre.all fun c=>nameB c.toNat) () ?_ ?_ ?_ ?_
    ·simp -implicitDefEqProofs only[go_sem]
     trivial
    ·rfl
    ·intro _ i1
     simp -implicitDefEqProofs only[go_sem,←size_list]
     intro _
     simp[validName,a1,a2,a3,a4]
     simpa using i1
    ·rintro pre x post _ hx i1
     have hz:=size_mid hx
     simp -implicitDefEqProofs only[go_sem,hz,byteAt_mid hx]
     intro hl
     refine(R03letter _).calls rfl ?_
     simp -implicitDefEqProofs only[go_sem,hz,byteAt_mid hx]
     have hnext:=wrap_next (mid_len hl)
     refine⟨fun c=>(R03digit _).calls rfl ?_,fun c=>⟨(),?_,hnext⟩⟩
     ·simp -implicitDefEqProofs only[go_sem]
      refine⟨fun d=>?_,fun d=>⟨(),?_,hnext⟩⟩
      ·have:(s.data.toList.all fun c=>nameB c.toNat)=false:=by rw[hx];simp_all [nameB]
       unfold validName
       rw[this];simp
      ·simp_all [nameB]
     ·simp_all [nameB]
  ·simp[validName,a3]
 ·simp[validName,a2]
 ·simp[validName,a1]
end Go.Proofs.YtamednbojpnalaaGreatDoor
namespace Go.Vg
def decN(n:Nat):ByteArray:=if h:n<10 then strOf [48+(n % 10:Nat)]else decN (n / 10)++strOf [48+(n % 10:Nat)]
 termination_by n
 decreasing_by omega
end Go.Vg
namespace Go.Proofs.YtamednbojpnalaaGreatDoor
open Go Go.Vg Go.Proofs
theorem wrap8{x:Int}(h:0≤x)(h':x≤255):IntKind.u8.wrap x=x:=by
 simp only[IntKind.wrap,IntKind.signed,IntKind.bits];simp;omega
theorem tmod10(n:Nat):(n:Int).tmod 10=((n % 10:Nat):Int):=by rw[Int.tmod_eq_emod_of_nonneg (by omega)];omega
theorem tdiv10(n:Nat):(n:Int).tdiv 10=((n / 10:Nat):Int):=by rw[Int.tdiv_eq_ediv_of_nonneg (by omega)];omega
theorem digit8(n:Nat):IntKind.u8.wrap (IntKind.i64.wrap (48+(n:Int).tmod 10))=48+(n % 10:Nat):=by
 rw[tmod10,Vg.wrap_small (by omega) (by omega),wrap8 (by omega) (by omega)]
theorem strOf_size{l:List Int}:(strOf l).size=l.length:=by simp[strOf,ByteArray.size]
theorem decN_size(n:Nat)(k:Nat)(hn:n<10 ^ k):(decN n).size≤k+1:=by
 induction k generalizing n with
 | zero=>rw[decN,dif_pos (by simp at hn;omega),strOf_size];simp
 | succ k ih =>
  rw[decN]
  split
  ·rw[strOf_size];simp
  ·have:=ih (n / 10) (by rw[Nat.pow_succ]at hn;omega)
   rw[ByteArray.size_append,strOf_size];simp;omega
theorem R03Number(n:Nat):n<1000000000→VPure env 51 [.int .i64 n] (.str (decN n)):=by
 induction n using Nat.strongRecOn with
 | _ n ih =>
 intro hn
 refine vpure_vc (fn:=Tryz.f51) Tryz.func51 rfl (by rw[Tryz.ntmps51];simp) rfl rfl ?_
 simp -implicitDefEqProofs only[go_sem,Tryz.f51]
 refine⟨fun h=>?_,fun h=>?_⟩
 ·rw[digit8,decN,dif_pos (by omega)]
 ·refine snd_draw (cs:=[]) mixed (by kernel_rfl) ?_
  simp -implicitDefEqProofs only[go_sem]
  rw[tdiv10,Vg.wrap_small (by omega) (by omega)]
  refine vPC_of (ih (n / 10) (by omega) (by omega)) rfl ?_
  simp -implicitDefEqProofs only[go_sem]
  rw[digit8]
  refine⟨?_,?_⟩
  ·have:=decN_size (n / 10) 9 (by omega)
   rw[strOf_size];simp;omega
  ·conv=>rhs;rw[decN,dif_neg (by omega)]
end Go.Proofs.YtamednbojpnalaaGreatDoor
