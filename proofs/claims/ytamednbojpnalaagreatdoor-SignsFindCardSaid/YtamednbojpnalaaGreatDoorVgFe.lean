/- Structs that are compared field by field. -/
import Derived.Test.YtamednbojpnalaaGreatDoorVgF
import Derived.Lib.ConvBytes
set_option linter.unusedVariables false
set_option linter.unusedSimpArgs false
namespace Go.Vg
open Go.RowKit
def eq1:V→V→Option Bool
 | .str a,.str b=>some (decide (a=b))
 | .int k a,.int k' b=>if k=k' then some (decide (a=b))else none
 | .bool a,.bool b=>some (a == b)
 | _,_=>none
def eqL:List V→List V→Option Bool
 | [],[]=>some true
 | x::r,y::q=>match eq1 x y,eqL r q with
  | some a,some b=>some (a && b)
  | _,_=>none
 | _,_=>none
def kindD:Option TypeDesc→Option Nat
 | some .string=>some 0
 | some (.int _)=>some 1
 | some .bool=>some 2
 | _=>none
def kindsF(P:Program)(sub:TypeId→Option (List Nat)):Nat→List Field→Option (List Nat)
 | _,[]=>some []
 | o,f::fs=>if f.name != "_" && decide (f.offset=o)then match sub f.type,kindsF P sub (o+P.cellsOf f.type) fs with
   | some ks,some r=>if ks.length=P.cellsOf f.type∧0<ks.length then some (ks++r)else none
   | _,_=>none
  else none
def kindsT(P:Program):Nat→TypeId→Option (List Nat)
 | 0,_=>none
 | f+1,t=>match P.underlying t with
  | some .string=>some [0]
  | some (.int _)=>some [1]
  | some .bool=>some [2]
  | some (.struct fs)=>if P.stoodInHeld t then none else kindsF P (kindsT P f) 0 fs.toList
  | some (.array n e)=>match kindsT P f e with
   | some ks=>if ks.length=P.cellsOf e∧0<ks.length then some (List.replicate n ks).flatten else none
   | none=>none
  | _=>none
def flatK(P:Program)(t:TypeId):Option (List Nat):=match P.underlying t with
 | some (.struct _) | some (.array _ _)=>if P.eqGuardType P.depth t then none else kindsT P 20 t
 | _=>none
def fit1:Nat→V→V→Bool
 | 0,.str _,.str _=>true
 | 1,.int k _,.int k' _=>decide (k=k')
 | 2,.bool _,.bool _=>true
 | _,_,_=>false
def fits:List Nat→List V→List V→Bool
 | [],[],[]=>true
 | k::ks,x::xs,y::ys=>fit1 k x y && fits ks xs ys
 | _,_,_=>false
theorem run_eq_bool{P:Program}{w:World}{t:TypeId}(a b:Bool)(ht:P.underlying t=some .bool):(Op.equal t (.bool a) (.bool b)).run P w = .ok (a == b) w:=by
 have:∀ d,(Op.equalIn (d+1) t (.bool a) (.bool b)).run P w = .ok (a == b) w:=fun d=>by
  simp only[Op.equalIn,Sem.run_bind,run_und ht,Result.andThen_ok,Sem.run_pure]
 exact this 9999
theorem fits_len:∀ {ks:List Nat} {xs ys:List V},fits ks xs ys=true→xs.length=ks.length∧ys.length=ks.length
 | [],[],[],_=>⟨rfl,rfl⟩
 | k::ks,x::xs,y::ys,h=>by
  simp only[fits,Bool.and_eq_true]at h
  obtain⟨h1,h2⟩:=fits_len h.2
  exact⟨by simp[h1],by simp[h2]⟩
 | [],_::_,_,h=>by simp[fits]at h
 | [],[],_::_,h=>by simp[fits]at h
 | _::_,[],_,h=>by simp[fits]at h
 | _::_,_::_,[],h=>by simp[fits]at h
theorem fits_split:∀ {k1 k2:List Nat} {xs ys:List V},fits (k1++k2) xs ys=true→fits k1 (xs.take k1.length) (ys.take k1.length)=true∧fits k2 (xs.drop k1.length) (ys.drop k1.length)=true
 | [],k2,xs,ys,h=>by simpa[fits]using h
 | k::k1,k2,xs,ys,h=>by
  cases xs with
  | nil=>simp[fits]at h
  | cons x xs =>
   cases ys with
   | nil=>simp[fits]at h
   | cons y ys =>
    simp only[List.cons_append,fits,Bool.and_eq_true]at h
    obtain⟨g1,g2⟩:=fits_split h.2
    simp only[List.length_cons,List.take_succ_cons,List.drop_succ_cons,fits,Bool.and_eq_true]
    exact⟨⟨h.1,g1⟩,g2⟩
theorem eqL_split:∀ (n:Nat) {xs ys:List V} {a b:Bool},n≤xs.length→n≤ys.length→eqL (xs.take n) (ys.take n)=some a→eqL (xs.drop n) (ys.drop n)=some b→eqL xs ys=some (a && b)
 | 0,xs,ys,a,b,_,_,h1,h2=>by
  simp only[List.take_zero,eqL,Option.some.injEq]at h1
  subst h1
  simpa using h2
 | n+1,[],_,_,_,h,_,_,_=>by simp at h
 | n+1,_::_,[],_,_,_,h,_,_=>by simp at h
 | n+1,x::xs,y::ys,a,b,l1,l2,h1,h2=>by
  simp only[List.take_succ_cons,List.drop_succ_cons,eqL]at h1 h2 ⊢
  split at h1
  ·rename_i c d hc hd
   cases h1
   rw[hc,eqL_split n (by simpa using l1) (by simpa using l2) hd h2]
   simp[Bool.and_assoc]
  ·cases h1
theorem run_eq_bool1{P:Program}{w:World}{t:TypeId}(a b:Bool)(ht:P.underlying t=some .bool)(d:Nat):(Op.equalIn (d+1) t (.bool a) (.bool b)).run P w = .ok (a == b) w:=by
 simp only[Op.equalIn,Sem.run_bind,run_und ht,Result.andThen_ok,Sem.run_pure]
theorem eq1_run{P:Program}{G:Gh}{arr:List Nat}{w:World}{t:TypeId}{x y:V}{vx vy:Value}{k:Nat}(hx:RV P G arr x vx)(hy:RV P G arr y vy)(ht:kindD (P.underlying t)=some k)(hk:fit1 k x y=true)(d:Nat) :
  ∃ b,eq1 x y=some b∧(Op.equalIn (d+1) t vx vy).run P w = .ok b w:=by
 unfold kindD at ht
 split at ht
 ·rename_i hu
  cases ht
  cases x <;> cases y <;> simp only[fit1,Bool.false_eq_true]at hk
  cases hx;cases hy
  rename_i a b _ _
  refine⟨decide (a=b),rfl,?_⟩
  simp only[Op.equalIn,Sem.run_bind,run_und hu,Result.andThen_ok,Sem.run_pure]
  congr 1
  rw[Bool.eq_iff_iff]
  obtain⟨a⟩:=a
  obtain⟨b⟩:=b
  show((a == b)=true)↔_
  simp
 ·rename_i k' hu
  cases ht
  cases x <;> cases y <;> simp only[fit1,Bool.false_eq_true]at hk
  cases hx;cases hy
  have hk:=of_decide_eq_true hk
  subst hk
  rename_i kk a b
  refine⟨decide (a=b),by simp[eq1],?_⟩
  simp only[Op.equalIn,Sem.run_bind,run_und hu,Result.andThen_ok,Sem.run_pure,if_true]
  congr 1
 ·rename_i hu
  cases ht
  cases x <;> cases y <;> simp only[fit1,Bool.false_eq_true]at hk
  cases hx;cases hy
  exact⟨_,rfl,run_eq_bool1 _ _ hu d⟩
 ·cases ht
def CellsAt(P:Program)(G:Gh)(arr:List Nat)(t:TypeId)(xs:List V)(v:Value):Prop:=∃ d,P.underlying t=some d∧((aggB d=true∧RV P G arr (.agg xs) v)∨(aggB d=false∧∃ x,xs=[x]∧RV P G arr x v))
theorem kindsT_agg{P:Program}{f:Nat}{t:TypeId}{ks:List Nat}(h:kindsT P f t=some ks):∃ d,P.underlying t=some d∧(aggB d=false→ks.length=1):=by
 cases f with
 | zero=>cases h
 | succ f =>
  rw[kindsT]at h
  split at h
  ·rename_i e;cases h;exact⟨_,e,fun _=>rfl⟩
  ·rename_i e;cases h;exact⟨_,e,fun _=>rfl⟩
  ·rename_i e;cases h;exact⟨_,e,fun _=>rfl⟩
  ·rename_i e;exact⟨_,e,fun h=>by simp[aggB]at h⟩
  ·rename_i e;exact⟨_,e,fun h=>by simp[aggB]at h⟩
  ·cases h
theorem part_cells{P:Program}{G:Gh}{arr:List Nat}{w:World}{t:TypeId}{d:TypeDesc}{xs:List V}{vs:Array Value}{o:Nat}(hd:P.underlying t=some d)(hl:xs.length=vs.size)(hr:∀ (j:Nat) c v,xs[j]? = some c→vs[j]? = some v→RV P G arr c v)
  (ho:o+P.cellsOf t≤xs.length) (h1:aggB d=false→P.cellsOf t=1):∃ v,(part t vs o).run P w = .ok v w∧CellsAt P G arr t ((xs.drop o).take (P.cellsOf t)) v:=by
 cases hag:aggB d with
 | true =>
  obtain⟨i,hi⟩:=info_of_und hd
  refine⟨.agg (vs.extract o (o+P.cellsOf t)),by simp only[part,Sem.run_bind,run_isAgg hd,hag,Result.andThen_ok,if_true,run_sizeOf hi,Sem.run_pure],d,hd,.inl ⟨hag,.agg _ _ (by simp;omega) fun j c v hc hv=>?_⟩⟩
  have hjl:=(List.getElem?_eq_some_iff.1 hc).1
  simp only[List.length_take,List.length_drop]at hjl
  rw[List.getElem?_take,if_pos (by omega),List.getElem?_drop]at hc
  rw[Array.getElem?_extract]at hv
  have:j<min (o+P.cellsOf t) vs.size - o:=by omega
  rw[if_pos this]at hv
  exact hr _ _ _ hc hv
 | false =>
  have h1:=h1 hag
  have hlo:o<vs.size:=by omega
  have hxo:o<xs.length:=by omega
  refine⟨vs[o],by simp only[part,Sem.run_bind,run_isAgg hd,hag,Result.andThen_ok,Bool.false_eq_true,if_false,Array.getElem?_eq_getElem hlo,Sem.run_pure],d,hd,.inr ⟨hag,xs[o],?_,hr o _ _ (List.getElem?_eq_getElem hxo) (Array.getElem?_eq_getElem hlo)⟩⟩
  rw[h1,List.drop_eq_getElem_cons hxo];rfl
theorem forIn_dif{P:Program}{w:World}{α:Type}{body:α→Option Bool×PUnit→Sem (ForInStep (Option Bool×PUnit))}:∀ {fs:List α} {e:List Bool},
  fs.length=e.length→(∀ (i:Nat) f b,fs[i]? = some f→e[i]? = some b→(body f (none,())).run P w = .ok (if b then .yield (none,())else .done (some false,())) w)→(forIn fs (none,()) body).run P w = .ok (if e.all id then(none,())else(some false,())) w
 | [],[],_,_=>by simp
 | [],_::_,h,_=>by simp at h
 | _::_,[],h,_=>by simp at h
 | f::fs,b::e,hl,h=>by
  have h1:=h 0 f b rfl rfl
  have ih:=forIn_dif (fs:=fs) (e:=e) (by simpa using hl) fun i g c hg hc=>h (i+1) g c (by simpa using hg) (by simpa using hc)
  rw[List.forIn_cons,Sem.run_bind,h1]
  cases b
  ·simp
  ·simp only[if_true,Result.andThen_ok,List.all_cons,id,Bool.true_and]
   exact ih
theorem eqT{P:Program}{G:Gh}{arr:List Nat}{w:World}:∀ (f:Nat) (t:TypeId) (ks:List Nat),kindsT P f t=some ks→∀ (xs ys:List V) (vx vy:Value),fits ks xs ys=true→CellsAt P G arr t xs vx→CellsAt P G arr t ys vy→∀ d:Nat,
  ∃ b,eqL xs ys=some b∧(Op.equalIn (d+f) t vx vy).run P w = .ok b w:=by
 have hprog:(program:Sem Program).run P w = .ok P w:=rfl
 intro f
 induction f with
 | zero=>intro t ks h;cases h
 | succ f ih =>
  intro t ks h xs ys vx vy hf hx hy d
  have one:∀ k,ks=[k]→kindD (P.underlying t)=some k→∃ b,eqL xs ys=some b∧(Op.equalIn (d+(f+1)) t vx vy).run P w = .ok b w:=by
   intro k hk hkd
   subst hk
   obtain⟨d1,hd1,hx⟩:=hx
   obtain⟨d2,hd2,hy⟩:=hy
   rw[hd1]at hd2;cases hd2
   have hag:aggB d1=false:=by
    rw[hd1]at hkd
    unfold kindD at hkd
    split at hkd <;> first | (rename_i e;cases e;rfl) | cases hkd
   rcases hx with⟨h1,_⟩ | ⟨_,x,rfl,hx⟩
   ·rw[hag]at h1;cases h1
   rcases hy with⟨h1,_⟩ | ⟨_,y,rfl,hy⟩
   ·rw[hag]at h1;cases h1
   simp only[fits,Bool.and_true]at hf
   obtain⟨b,hb,hrun⟩:=eq1_run (w:=w) hx hy hkd hf (d+f)
   exact⟨b,by simp[eqL,hb],hrun⟩
  rw[kindsT]at h
  split at h
  ·rename_i e;cases h;exact one 0 rfl (by rw[e];rfl)
  ·rename_i e;cases h;exact one 1 rfl (by rw[e];rfl)
  ·rename_i e;cases h;exact one 2 rfl (by rw[e];rfl)
  ·rename_i fs hu
   split at h
   ·cases h
   rename_i hst
   obtain⟨d1,hd1,hx⟩:=hx
   obtain⟨d2,hd2,hy⟩:=hy
   rw[hu]at hd1 hd2;cases hd1;cases hd2
   rcases hx with⟨_,hx⟩ | ⟨h1,_⟩
   case inr=>simp[aggB]at h1
   rcases hy with⟨_,hy⟩ | ⟨h1,_⟩
   case inr=>simp[aggB]at h1
   cases hx with
   | agg _ vxs hlx hrx =>
   cases hy with
   | agg _ vys hly hry =>
   -- the fields,one after the other
   have key:∀ (fs:List Field) (o:Nat) (kk:List Nat),kindsF P (kindsT P f) o fs=some kk→fits kk (xs.drop o) (ys.drop o)=true →
     ∃ e:List Bool,fs.length=e.length∧eqL (xs.drop o) (ys.drop o)=some (e.all id)∧∀ (i:Nat) g b,fs[i]? = some g→e[i]? = some b→g.name ≠ "_" ∧ ∃ v1 v2,(part g.type vxs g.offset).run P w = .ok v1 w∧(part g.type vys g.offset).run P w = .ok v2 w∧(Op.equalIn (d+f) g.type v1 v2).run P w = .ok b w:=by
    intro fs
    induction fs with
    | nil =>
     intro o kk hkk hff
     simp only[kindsF,Option.some.injEq]at hkk
     subst hkk
     obtain⟨q1,q2⟩:=fits_len hff
     rw[List.length_eq_zero_iff.1 q1,List.length_eq_zero_iff.1 q2]
     exact⟨[],rfl,rfl,by simp⟩
    | cons g fs ihf =>
     intro o kk hkk hff
     simp only[kindsF]at hkk
     split at hkk
     case isFalse=>cases hkk
     rename_i hc
     simp only[Bool.and_eq_true,bne_iff_ne,ne_eq,decide_eq_true_eq]at hc
     obtain⟨hn,ho⟩:=hc
     split at hkk
     case h_2=>cases hkk
     rename_i k1 r hk1 hkr
     split at hkk
     case isFalse=>cases hkk
     rename_i hkl
     obtain⟨hkl,hkp⟩:=hkl
     simp only[Option.some.injEq]at hkk
     subst hkk
     obtain⟨s1,s2⟩:=fits_split hff
     rw[hkl,List.drop_drop,List.drop_drop]at s2
     rw[hkl]at s1
     obtain⟨l1,l2⟩:=fits_len hff
     rw[List.length_append,hkl,List.length_drop]at l1 l2
     obtain⟨e,he1,he2,he3⟩:=ihf _ _ hkr s2
     obtain⟨dd,hdd,hone⟩:=kindsT_agg hk1
     have hone':aggB dd=false→P.cellsOf g.type=1:=fun h=>by rw[←hkl];exact hone h
     have hpos:o+P.cellsOf g.type≤xs.length∨P.cellsOf g.type=0:=by omega
     have hle:P.cellsOf g.type≤xs.length - o:=by omega
     have hle2:P.cellsOf g.type≤ys.length - o:=by omega
     obtain⟨v1,p1,c1⟩:=part_cells (w:=w) (o:=o) hdd hlx hrx (by omega) hone'
     obtain⟨v2,p2,c2⟩:=part_cells (w:=w) (o:=o) hdd hly hry (by omega) hone'
     obtain⟨b,hb,hrun⟩:=ih _ _ hk1 _ _ _ _ s1 c1 c2 d
     refine⟨b::e,by simp[he1],?_,fun i g' b' hg hb'=>?_⟩
     ·rw[List.all_cons]
      exact eqL_split (P.cellsOf g.type) (by rw[List.length_drop];exact hle) (by rw[List.length_drop];exact hle2) hb (by rw[List.drop_drop,List.drop_drop];exact he2)
     ·cases i with
      | zero =>
       simp at hg hb'
       subst hg hb'
       exact⟨hn,v1,v2,by rw[ho];exact p1,by rw[ho];exact p2,hrun⟩
      | succ i=>exact he3 i g' b' (by simpa using hg) (by simpa using hb')
   obtain⟨e,he1,he2,he3⟩:=key fs.toList 0 ks h hf
   refine⟨e.all id,he2,?_⟩
   rw[show d+(f+1)=d+f+1 from rfl,Op.equalIn]
   simp only[Sem.run_bind,run_und hu,Result.andThen_ok,hprog,hst,Bool.false_eq_true,if_false]
   rw[←Array.forIn_toList,forIn_dif (e:=e) he1 (fun i g b hg hb=>?_)]
   ·simp only[Result.andThen_ok]
    cases e.all id <;> rfl
   ·obtain⟨hn,v1,v2,p1,p2,hrun⟩:=he3 i g b hg hb
    simp only[ne_eq,hn,not_false_eq_true,if_true,Sem.run_bind,p1,p2,Result.andThen_ok,hrun]
    cases b <;> simp
  ·rename_i n el hu
   split at h
   case h_2=>cases h
   rename_i k1 hk1
   split at h
   case isFalse=>cases h
   rename_i hkl
   obtain⟨hkl,hkp⟩:=hkl
   simp only[Option.some.injEq]at h
   subst h
   obtain⟨d1,hd1,hx⟩:=hx
   obtain⟨d2,hd2,hy⟩:=hy
   rw[hu]at hd1 hd2;cases hd1;cases hd2
   rcases hx with⟨_,hx⟩ | ⟨h1,_⟩
   case inr=>simp[aggB]at h1
   rcases hy with⟨_,hy⟩ | ⟨h1,_⟩
   case inr=>simp[aggB]at h1
   cases hx with
   | agg _ vxs hlx hrx =>
   cases hy with
   | agg _ vys hly hry =>
   obtain⟨dd,hdd,hone⟩:=kindsT_agg hk1
   have hone':aggB dd=false→P.cellsOf el=1:=fun h=>by rw[←hkl];exact hone h
   have key:∀ (m o:Nat),fits (List.replicate m k1).flatten (xs.drop o) (ys.drop o)=true →
     ∃ e:List Bool,e.length=m∧eqL (xs.drop o) (ys.drop o)=some (e.all id)∧∀ (i:Nat) b,e[i]? = some b→∃ v1 v2,(part el vxs (o+i * P.cellsOf el)).run P w = .ok v1 w∧(part el vys (o+i * P.cellsOf el)).run P w = .ok v2 w∧(Op.equalIn (d+f) el v1 v2).run P w = .ok b w:=by
    intro m
    induction m with
    | zero =>
     intro o hff
     obtain⟨q1,q2⟩:=fits_len hff
     rw[List.length_eq_zero_iff.1 q1,List.length_eq_zero_iff.1 q2]
     exact⟨[],rfl,rfl,by simp⟩
    | succ m ihm =>
     intro o hff
     rw[List.replicate_succ,List.flatten_cons]at hff
     obtain⟨s1,s2⟩:=fits_split hff
     rw[hkl,List.drop_drop,List.drop_drop]at s2
     rw[hkl]at s1
     obtain⟨l1,l2⟩:=fits_len hff
     rw[List.length_append,hkl,List.length_drop]at l1 l2
     obtain⟨e,he1,he2,he3⟩:=ihm _ s2
     have hle:P.cellsOf el≤xs.length - o:=by omega
     have hle2:P.cellsOf el≤ys.length - o:=by omega
     obtain⟨v1,p1,c1⟩:=part_cells (w:=w) (o:=o) hdd hlx hrx (by omega) hone'
     obtain⟨v2,p2,c2⟩:=part_cells (w:=w) (o:=o) hdd hly hry (by omega) hone'
     obtain⟨b,hb,hrun⟩:=ih _ _ hk1 _ _ _ _ s1 c1 c2 d
     refine⟨b::e,by simp[he1],?_,fun i b' hb'=>?_⟩
     ·rw[List.all_cons]
      exact eqL_split (P.cellsOf el) (by rw[List.length_drop];exact hle) (by rw[List.length_drop];exact hle2) hb (by rw[List.drop_drop,List.drop_drop];exact he2)
     ·cases i with
      | zero =>
       simp at hb'
       subst hb'
       exact⟨v1,v2,by rw[Nat.zero_mul,Nat.add_zero];exact p1,by rw[Nat.zero_mul,Nat.add_zero];exact p2,hrun⟩
      | succ i =>
       have:=he3 i b' (by simpa using hb')
       rw[show o+(i+1) * P.cellsOf el=o+P.cellsOf el+i * P.cellsOf el by rw[Nat.add_mul];omega]
       exact this
   obtain⟨e,he1,he2,he3⟩:=key n 0 hf
   refine⟨e.all id,he2,?_⟩
   obtain⟨ie,hie⟩:=info_of_und hdd
   rw[show d+(f+1)=d+f+1 from rfl,Op.equalIn]
   simp only[Sem.run_bind,run_und hu,Result.andThen_ok,run_sizeOf hie,Std.Legacy.Range.forIn_eq_forIn_range',Std.Legacy.Range.size,Nat.sub_zero,Nat.add_sub_cancel,Nat.div_one]
   rw[forIn_dif (e:=e) (by simp[he1]) (fun i g b hg hb=>?_)]
   ·simp only[Result.andThen_ok]
    cases e.all id <;> rfl
   ·have hgi:g=i:=by
     have hil:=(List.getElem?_eq_some_iff.1 hb).1
     rw[List.getElem?_range' (by omega)]at hg
     simp at hg;omega
    subst hgi
    obtain⟨v1,v2,p1,p2,hrun⟩:=he3 g b hb
    rw[Nat.zero_add]at p1 p2
    simp only[Sem.run_bind,p1,p2,Result.andThen_ok,hrun]
    cases b <;> simp
  ·cases h
theorem flat_of{P:Program}{t:TypeId}{ks:List Nat}(hks:flatK P t=some ks):(∃ d,P.underlying t=some d∧aggB d=true∧((∃ fs,d = .struct fs)∨∃ n e,d = .array n e))∧P.eqGuardType P.depth t=false∧kindsT P 20 t=some ks:=by
 unfold flatK at hks
 split at hks
 ·rename_i fs hu
  split at hks
  ·cases hks
  ·rename_i hg
   exact⟨⟨_,hu,rfl,.inl ⟨_,rfl⟩⟩,by simpa using hg,hks⟩
 ·rename_i n e hu
  split at hks
  ·cases hks
  ·rename_i hg
   exact⟨⟨_,hu,rfl,.inr ⟨_,_,rfl⟩⟩,by simpa using hg,hks⟩
 ·cases hks
theorem eq_flat{P:Program}{G:Gh}{arr:List Nat}{w:World}{t:TypeId}{xs ys:List V}{vxs vys:Array Value}{ks:List Nat}(hks:flatK P t=some ks)(h1:fits ks xs ys=true)(hx:RV P G arr (.agg xs) (.agg vxs))(hy:RV P G arr (.agg ys) (.agg vys)) :
  ∃ b,eqL xs ys=some b∧(Op.equal t (.agg vxs) (.agg vys)).run P w = .ok b w:=by
 obtain⟨⟨d,hd,ha,_⟩,_,hk⟩:=flat_of hks
 exact eqT 20 t ks hk xs ys _ _ h1 ⟨d,hd,.inl ⟨ha,hx⟩⟩ ⟨d,hd,.inl ⟨ha,hy⟩⟩ 9980
theorem RelW.belowF{E:Env}{G:Gh}{heap:List VObj}{arr:List Nat}{w0:Base}{w w':World}(h:RelW E G heap arr w0 w)(hb:Below w.heap.size w w')(c:Array Value)(h1:∀ (j:Nat) v,c[j]? = some v→v.oneCell'=true)
  (hc:∀ (j:Nat) v,c[j]? = some v→w'.cell? ⟨w.heap.size,j,none⟩=some v):RelW E (G.freezeNew w.heap.size c) heap arr w0 w':=by
 have hs:=hb.size
 have hx:=h.extF c
 refine⟨fun b o v hv hlt=>h.newF b o v (by
   simp only[Gh.freezeNew]at hv
   rwa [if_neg (by have:=h.below.size;omega)]at hv) hlt,fun g cs hg=>⟨(h.glob g cs hg).1,(h.glob g cs hg).2.mono hx⟩,h.below.trans (hb.mono h.below.size),?_,fun b o v hv=>by
   simp only[Gh.freezeNew]at hv
   split at hv
   ·exact h1 _ _ hv
   ·exact h.one _ _ _ hv,?_,h.lenφ,h.nod,?_,?_,h.lenρ,?_,h.regd,h.fre,h.bldA hb.block fun g hg ⟨s1,s2,s3⟩=>⟨fun o=>by
    simp only[Gh.freezeNew];rw[if_neg (by omega)];exact s1 o,s2,s3⟩,h.ini,h.vsK hx (fun _ _ _ _ _ h=>h) (fun _ _ h _=>h) hb.block⟩
 ·intro b o v hv
  simp only[Gh.freezeNew]at hv
  by_cases eb:b=w.heap.size
  ·rw[if_pos eb]at hv;subst eb;exact hc _ _ hv
  ·rw[if_neg eb]at hv
   have hcc:=h.frz _ _ _ hv
   have hlt:b<w.heap.size:=by
    rcases Nat.lt_or_ge b w.heap.size with h' | h'
    ·exact h'
    ·simp[World.cell?,Array.getElem?_eq_none h']at hcc
   rw[hb.cell (p:=⟨b,o,none⟩) hlt];exact hcc
 ·intro id ob hid
  obtain⟨b,hb',hr⟩:=h.obj id ob hid
  exact⟨b,hb',hr.keep hx (hb.block b (h.geφ id b hb').2)⟩
 ·intro id b o hb' hd
  simp only[Gh.freezeNew]
  rw[if_neg (by have:=(h.geφ id b hb').2;omega)]
  exact h.sep id b o hb' hd
 ·intro id b hb'
  obtain⟨g1,g2⟩:=h.geφ id b hb'
  exact⟨g1,by omega⟩
 ·intro k b lo hi hk hlt
  obtain⟨⟨c',e',r0,r1⟩,r2,r3,r4⟩:=h.reg k b lo hi hk hlt
  have hlt':b<w.heap.size:=(Array.getElem?_eq_some_iff.1 r0).1
  refine⟨⟨c',e',by rw[hb.block b hlt'];exact r0,r1⟩,r2,fun o ho1 ho2=>?_,r4⟩
  simp only[Gh.freezeNew]
  rw[if_neg (by omega)]
  exact r3 o ho1 ho2
theorem conv_out{E:Env}{G:Gh}{heap:List VObj}{arr:List Nat}{w0:Base}{w:World}(h:RelW E G heap arr w0 w){src dst e:TypeId}{s:ByteArray}{u:TypeDesc}
  (hs:E.P.underlying src=some u) (hd:E.P.underlying dst=some (.slice e)) (he:E.P.underlying e=some (.int .u8)) (h1:E.P.cellsOf e=1) (h2:E.P.bytesOf e=1) (h3:s.size≤140737488355328) :
  ∃ v w' G',(convert src dst (.string s)).run E.P w = .ok v w'∧Ext G arr G' arr∧RelW E G' heap arr w0 w'∧RV E.P G' arr (sl e (bytesV s)) v:=by
 have hl:(bytesV s).length=s.size:=by simp[bytesV]
 have hget:∀ (i:Nat) el,(bytesV s)[i]? = some el→∃ y:UInt8,s.data[i]? = some y∧el=[.int .u8 y.toNat]:=fun i el hi=>by
  unfold bytesV at hi
  rw[List.getElem?_map]at hi
  obtain⟨y,hy,rfl⟩:=Option.map_eq_some_iff.1 hi
  exact⟨y,by simpa using hy,rfl⟩
 have hcap:s.size≤grownCap w s.size 0 e:=by
  exact grownCap_ge _ _ _ _
 have hv:RV E.P (G.freezeNew w.heap.size (s.data.map fun b=>Value.int .u8 b.toNat)) arr (.slice .shared e (bytesV s)) (.slice (some ⟨w.heap.size,0,none⟩) (bytesV s).length (grownCap w s.size 0 e)):=by
  refine RV.ofCells (o := .shared) trivial (fun i el hi=>?_) ?_ (by omega) (by omega) fun i el j c hi hj=>?_
  ·obtain⟨y,_,rfl⟩:=hget i el hi
   rw[h1];rfl
  ·rw[hl,h2];omega
  ·obtain⟨y,hy,rfl⟩:=hget i el hi
   match j with
   | 0 =>
    simp at hj;subst hj
    refine⟨.int .u8 y.toNat,?_,.int _ _⟩
    simp only[Gh.freezeNew,if_true,h1,Nat.mul_one,Nat.add_zero,Nat.zero_add,Array.getElem?_map,hy,Option.map_some]
   | j+1=>simp at hj
 rw[hl]at hv
 refine⟨_,_,G.freezeNew w.heap.size (s.data.map fun b=>Value.int .u8 b.toNat),Lib.run_convert_string_bytes w src dst e s hs hd he,h.extF _,h.belowF (w':=Lib.bytesWorld w e s) ⟨rfl,rfl,rfl,?_,fun k hk=>Lib.bytesWorld_at_old w e s k hk⟩ _ (fun j v hv=>?_) (fun j v hv=>?_),RV.sl hv⟩
 ·rw[Lib.bytesWorld_size];omega
 ·simp only[Array.getElem?_map]at hv
  obtain⟨y,_,rfl⟩:=Option.map_eq_some_iff.1 hv
  rfl
 ·simp only[Array.getElem?_map]at hv
  obtain⟨y,hy,rfl⟩:=Option.map_eq_some_iff.1 hv
  have hj:j<s.size:=by
   have:=(Array.getElem?_eq_some_iff.1 hy).1;exact this
  rw[Lib.bytesWorld_cell w e s j hj]
  simp[List.getD,hy]
end Go.Vg
