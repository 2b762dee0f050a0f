/- All operations together; regions in their text order; the verification condition of a piece of code. -/
import Derived.Test.YtamednbojpnalaaGreatDoorVgH
set_option linter.unusedVariables false
set_option linter.unusedSimpArgs false
namespace Go.Vg
open Go.RowKit
section
variable {E : Env} {G : Gh} {s : St} {w0 : Base} {w : World} {n : Nat} {a : Act} {K : Cont}
theorem Lands.here{heap:List VObj}{arr:List Nat}{v:V}{val:Value}(h:RelW E G heap arr w0 w)(hk:K v heap arr)(hr:RV E.P G arr v val):Lands E G arr w0 K val w :=
 ⟨v,heap,arr,G,hk,Ext.refl _ _,h,hr⟩
theorem parts_rel(h:RelW E G s.heap s.arr w0 w)(ht:RelT E.P G s.arr s.tmps n a)(parts:Array (Nat×Operand)) :
  ((parts.toList.map fun p=>(p.1,ev E s.tmps p.2)).length=(parts.map fun(i,x)=>(i,a.eval x)).size) ∧
  ∀ (j:Nat) p q,(parts.toList.map fun p=>(p.1,ev E s.tmps p.2))[j]? = some p→(parts.map fun(i,x)=>(i,a.eval x))[j]? = some q→p.1=q.1∧RV E.P G s.arr p.2 q.2:=by
 refine⟨by simp,fun j p q hp hq=>?_⟩
 simp only[List.getElem?_map,Array.getElem?_toList,Array.getElem?_map]at hp hq
 cases hj:parts[j]? with
 | none=>simp[hj]at hp
 | some x =>
  simp only[hj,Option.map_some,Option.some.injEq]at hp hq
  subst hp hq
  exact⟨rfl,RV.ev h ht x.2⟩
theorem args_rel(h:RelW E G s.heap s.arr w0 w)(ht:RelT E.P G s.arr s.tmps n a)(xs:Array Operand):Args E.P G s.arr (xs.toList.map (ev E s.tmps)) (xs.map a.eval):=by
 refine⟨by simp,fun j x v hx hv=>?_⟩
 simp only[List.getElem?_map,Array.getElem?_toList,Array.getElem?_map]at hx hv
 cases hj:xs[j]? with
 | none=>simp[hj]at hx
 | some y =>
  simp only[hj,Option.map_some,Option.some.injEq]at hx hv
  subst hx hv
  exact RV.ev h ht y
theorem Args.append{P:Program}{G:Gh}{arr:List Nat}{xs ys:List V}{vs us:Array Value}(h:Args P G arr xs vs)(h':Args P G arr ys us):Args P G arr (xs++ys) (vs++us):=by
 refine⟨by simp[h.1,h'.1],fun j x v hx hv=>?_⟩
 by_cases hj:j<xs.length
 ·rw[List.getElem?_append_left hj]at hx
  rw[Array.getElem?_append_left (by rw[←h.1];exact hj)]at hv
  exact h.2 j x v hx hv
 ·rw[List.getElem?_append_right (by omega)]at hx
  rw[Array.getElem?_append_right (by rw[←h.1];omega),←h.1]at hv
  exact h'.2 _ x v hx hv
theorem vcall_out{c:Call}{ty:TypeId}(h:RelW E G s.heap s.arr w0 w)(ht:RelT E.P G s.arr s.tmps n a)(hK:vCall E s c K) :
  Out E G s.arr w0 K ((do let d ←resolve a.eval c ty;invoke d.target d.args:Sem Next).run E.P w):=by
 unfold vCall at hK
 split at hK
 ·rename_i hc
  split at hK
  case h_2=>exact hK.elim
  rename_i t x ht0 hargs
  obtain⟨u,z,g1,g2,g3⟩:=lenM_out (ty:=ty) h ht0 (RV.ev h ht x) hK
  have hm:c.args.map a.eval = #[a.eval x]:=by
   have:c.args = #[x]:=by apply Array.ext';simpa using hargs
   rw[this];simp
  simp only[resolve,hc,Sem.run_bind,Sem.run_pure,Result.andThen_ok,invoke,builtin,hm,g1]
  exact Lands.here h g2 g3
 ·rename_i hc
  split at hK
  case h_2=>exact hK.elim
  rename_i x y hargs
  have hx:=RV.ev h ht x
  have hy:=RV.ev h ht y
  have hm:c.args.map a.eval = #[a.eval x,a.eval y]:=by
   have:c.args = #[x,y]:=by apply Array.ext';simpa using hargs
   rw[this];simp
  generalize hvx:a.eval x=vx at hx hm
  generalize hvy:a.eval y=vy at hy hm
  unfold vMin at hK
  split at hK
  case h_2=>exact hK.elim
  rename_i k n1 k2 n2 h1 h2
  rw[h1]at hx
  rw[h2]at hy
  cases hx;cases hy
  simp only[resolve,hc,Sem.run_bind,Sem.run_pure,Result.andThen_ok,invoke,builtin,hm,Builtin.min_,Builtin.min2,List.foldlM]
  exact Lands.here h hK (.int _ _)
 ·rename_i hc
  split at hK
  case h_3=>exact hK.elim
  ·rename_i x y hargs
   have hx:=RV.ev h ht x
   have hy:=RV.ev h ht y
   have hm:c.args.map a.eval = #[a.eval x,a.eval y]:=by
    have:c.args = #[x,y]:=by apply Array.ext';simpa using hargs
    rw[this];simp
   generalize hvx:a.eval x=vx at hx hm
   generalize hvy:a.eval y=vy at hy hm
   unfold vMax at hK
   split at hK
   case h_2=>exact hK.elim
   rename_i k n1 k2 n2 h1 h2
   rw[h1]at hx
   rw[h2]at hy
   cases hx;cases hy
   simp only[resolve,hc,Sem.run_bind,Sem.run_pure,Result.andThen_ok,invoke,builtin,hm,Builtin.max_,Builtin.max2,List.foldlM]
   exact Lands.here h hK (.int _ _)
  ·rename_i x y z hargs
   have hx:=RV.ev h ht x
   have hy:=RV.ev h ht y
   have hz:=RV.ev h ht z
   have hm:c.args.map a.eval = #[a.eval x,a.eval y,a.eval z]:=by
    have:c.args = #[x,y,z]:=by apply Array.ext';simpa using hargs
    rw[this];simp
   generalize hvx:a.eval x=vx at hx hm
   generalize hvy:a.eval y=vy at hy hm
   generalize hvz:a.eval z=vz at hz hm
   unfold vMax3 at hK
   split at hK
   case h_2=>exact hK.elim
   rename_i k n1 k2 n2 k3 n3 h1 h2 h3
   rw[h1]at hx
   rw[h2]at hy
   rw[h3]at hz
   cases hx;cases hy;cases hz
   simp only[resolve,hc,Sem.run_bind,Sem.run_pure,Result.andThen_ok,invoke,builtin,hm,Builtin.max_,Builtin.max2,List.foldlM]
   exact Lands.here h hK (.int _ _)
 ·rename_i hc
  split at hK
  case h_2=>exact hK.elim
  rename_i t t' x y hat hargs
  have hm:c.args.map a.eval = #[a.eval x,a.eval y]:=by
   have:c.args = #[x,y]:=by apply Array.ext';simpa using hargs
   rw[this];simp
  have hm':c.argTypes = #[t,t']:=by apply Array.ext';simpa using hat
  unfold vApp at hK
  split at hK
  ·obtain⟨u,z,heap',arr',G',w',g1,g2,g3,g4,g5⟩:=appendV_out (t:=ty) h (RV.ev h ht x) (RV.ev h ht y) hK
   simp only[resolve,hc,Sem.run_bind,Sem.run_pure,Result.andThen_ok,invoke,builtin,hm,hm',g1]
   exact⟨z,_,_,G',g2,g3,g4,g5⟩
  ·obtain⟨u,z,arr',G',w',g1,g2,g3,g4,g5⟩:=append_out (t:=ty) h (RV.ev h ht x) (RV.ev h ht y) hK
   simp only[resolve,hc,Sem.run_bind,Sem.run_pure,Result.andThen_ok,invoke,builtin,hm,hm',g1]
   exact⟨z,_,_,G',g2,g3,g4,g5⟩
 ·rename_i hc
  split at hK
  case h_2=>exact hK.elim
  rename_i t t' x y hat hargs
  have hm:c.args.map a.eval = #[a.eval x,a.eval y]:=by
   have:c.args = #[x,y]:=by apply Array.ext';simpa using hargs
   rw[this];simp
  have hm':c.argTypes = #[t,t']:=by apply Array.ext';simpa using hat
  obtain⟨u,z,heap',w',g1,g2,g3,g4⟩:=copy_out (t:=ty) h (RV.ev h ht x) (RV.ev h ht y) hK
  simp only[resolve,hc,Sem.run_bind,Sem.run_pure,Result.andThen_ok,invoke,builtin,hm,hm',g1]
  exact⟨z,_,_,G,g2,Ext.refl _ _,g3,g4⟩
 ·rename_i f hc
  split at hK
  case h_3=>exact hK.elim
  case h_1 =>
   rename_i fid caps hf
   obtain⟨h1,h2⟩:=hK
   have hv:=RV.ev h ht f
   rw[hf]at hv
   generalize hev:a.eval f=vf at hv
   cases hv with
   | func _ _ cs hl hr =>
    simp only[resolve,hc,hev,Deferred.ofValue,Sem.run_bind,Sem.run_pure,Result.andThen_ok,invoke,Array.empty_append,callB_spec h1]
    exact h2 G w0 w _ h ((args_rel h ht c.args).append ⟨hl,hr⟩)
  case h_2 =>
   rename_i fid xs hf
   obtain⟨h1,h2⟩:=hK
   have hv:=RV.ev h ht f
   rw[hf]at hv
   generalize hev:a.eval f=vf at hv
   cases hv with
   | meth _ _ cs hl hr =>
    simp only[resolve,hc,hev,Deferred.ofValue,Sem.run_bind,Sem.run_pure,Result.andThen_ok,invoke,Array.append_empty,callB_spec h1]
    exact h2 G w0 w _ h (Args.append ⟨hl,hr⟩ (args_rel h ht c.args))
 ·exact hK.elim
theorem isBZ_of{P:Program}{G:Gh}{arr:List Nat}{c:Array Value}{cs:List V}(h:isBZ cs=true)(h2:c.size=cs.length)(h3:∀ (j:Nat) x,cs[j]? = some x→∃ v,c[j]? = some v∧RV P G arr x v) :
  ∃ p v,c = #[p,v]∧p = .pointer none∧v = .slice none 0 0:=by
 unfold isBZ at h
 split at h
 ·rename_i e
  obtain⟨p,hp,hrp⟩:=h3 0 _ rfl
  obtain⟨v,hv,hrv⟩:=h3 1 _ rfl
  refine⟨p,v,?_,by cases hrp;rfl,?_⟩
  ·apply Array.ext_getElem?
   intro i
   match i with
   | 0=>simpa using hp
   | 1=>simpa using hv
   | i+2=>rw[Array.getElem?_eq_none (by rw[h2];simp),Array.getElem?_eq_none (by simp)]
  ·cases hrv with
   | snil=>rfl
   | slice _ _ _ _ _ _ ho=>exact ho.elim
 ·cases h
theorem newO_rel{E:Env}{G:Gh}{arr:List Nat}{w:World}{b:Nat}{t:TypeId}{c:Array Value}{cs:List V}(h0:newOK E t cs)(h1:w.heap[b]? = some (.cells c t (0,0)))(h2:c.size=cs.length)
  (h3:∀ (j:Nat) x,cs[j]? = some x→∃ v,c[j]? = some v∧RV E.P G arr x v):RObj E.P G arr w b (newO E t cs):=by
 unfold newO
 split
 ·rename_i ht
  obtain⟨p,v,rfl,hp,hv⟩:=isBZ_of (h0 ht) h2 h3
  exact⟨p,v,h1,.inl hp⟩
 ·exact⟨c,t,h1,h2,h3⟩
theorem newO_bld{E:Env}{G G':Gh}{arr:List Nat}{w:World}{b:Nat}{t:TypeId}{c:Array Value}{cs:List V}{bt:TypeId}{bs:ByteArray}(h0:newOK E t cs)(hbs:newO E t cs = .builder bt bs)(h1:w.heap[b]? = some (.cells c t (0,0)))
  (h2:c.size=cs.length) (h3:∀ (j:Nat) x v,cs[j]? = some x→c[j]? = some v→RV E.P G arr x v):Bld E G' w bt bs b:=by
 unfold newO at hbs
 split at hbs
 ·rename_i ht
  cases hbs
  obtain⟨p,v,rfl,hp,hv⟩:=isBZ_of (h0 ht) h2 (fun j x hj=>by
   have hl:j<c.size:=by rw[h2];exact(List.getElem?_eq_some_iff.1 hj).1
   exact⟨c[j],Array.getElem?_eq_getElem hl,h3 j x _ hj (Array.getElem?_eq_getElem hl)⟩)
  exact⟨p,v,h1,.inl ⟨hv,rfl⟩⟩
 ·cases hbs
theorem vop_out{o:Oper}(h:RelW E G s.heap s.arr w0 w)(ht:RelT E.P G s.arr s.tmps n a)(hK:vop E s o.op K):Out E G s.arr w0 K ((execOp a.eval o).run E.P w):=by
 obtain⟨dst,op,ty,pos,after,guard⟩:=o
 have e:∀ x,RV E.P G s.arr (ev E s.tmps x) (a.eval x):=RV.ev h ht
 simp only at hK
 cases op <;> simp only[vop]at hK <;> try exact hK.elim
 case move x=>exact Lands.here h hK (e x)
 case assign x=>exact Lands.here h hK (e x)
 case pick c x y =>
  split at hK
  case h_2=>exact hK.elim
  rename_i t hc
  have hv:=e c
  rw[hc]at hv
  generalize hev:a.eval c=vc at hv
  cases hv
  simp only[execOp,hev,asBool,Sem.run_bind,Sem.run_pure,Result.andThen_ok]
  refine Lands.here h hK ?_
  cases t
  ·exact e y
  ·exact e x
 case alloc t =>
  obtain⟨⟨h1,h1'⟩,h2⟩:=hK
  obtain⟨i,z,hi,hz⟩:=zeroOK_spec h1
  have hzl:=zeroL_rel (G:=G) (arr:=s.arr) (E:=E) hi hz
  have hrun:(execOp a.eval ⟨dst,.alloc t,ty,pos,after,guard⟩).run E.P w = .ok (.value (.pointer (some ⟨w.heap.size,0,none⟩))) (w.alloc (.cells z.cells t)):=by
   simp only[execOp,Instr.alloc,Sem.run_bind,run_zeroValue hi hz,Result.andThen_ok,newVar,newRow,newObj,Sem.run,Sem.run_pure]
   rfl
  rw[hrun]
  refine⟨_,_,_,_,h2,G.ext_newObj _ _,h.allocM _ _ (newO_rel h1' (by rw[heap_alloc,if_pos rfl]) hzl.1 fun j x hj=>?_) (fun bt bs hbs=>newO_bld (G':=G.newObj w.heap.size) h1' hbs (by rw[heap_alloc,if_pos rfl]) hzl.1 hzl.2) (by intro _ _ _ _ hh;unfold newO at hh;split at hh <;> cases hh),.ptr _ _ _ ?_⟩
  ·have hl:j<z.cells.size:=by rw[hzl.1];exact(List.getElem?_eq_some_iff.1 hj).1
   exact⟨_,Array.getElem?_eq_getElem hl,hzl.2 j x _ hj (Array.getElem?_eq_getElem hl)⟩
  ·simp[Gh.newObj,h.lenφ]
 case box t x =>
  obtain⟨h1,h2⟩:=hK
  obtain⟨hl1,hr1⟩:=(e x).cellsV (V.some?_ne h1)
  have hrun:(execOp a.eval ⟨dst,.box t x,ty,pos,after,guard⟩).run E.P w = .ok (.value (.pointer (some ⟨w.heap.size,0,none⟩))) (w.alloc (.cells (a.eval x).cells t)):=by
   simp only[execOp,Instr.box,Sem.run_bind,Result.andThen_ok,newVar,newRow,newObj,Sem.run,Sem.run_pure]
   rfl
  rw[hrun]
  refine⟨_,_,_,_,h2,G.ext_newObj _ _,h.allocM _ _ ⟨(a.eval x).cells,t,by rw[heap_alloc,if_pos rfl],hl1.symm,fun j c hj=>?_⟩,.ptr _ _ _ ?_⟩
  ·have hl:j<(a.eval x).cells.size:=by rw[←hl1];exact(List.getElem?_eq_some_iff.1 hj).1
   exact⟨_,Array.getElem?_eq_getElem hl,hr1 j c _ hj (Array.getElem?_eq_getElem hl)⟩
  ·simp[Gh.newObj,h.lenφ]
 case build t parts =>
  obtain⟨hl,hp⟩:=parts_rel h ht parts
  obtain⟨u,y,g1,g2,g3⟩:=build_out (w:=w) hl hp hK
  simp only[execOp,Sem.run_bind,g1,Result.andThen_ok,Sem.run_pure]
  exact Lands.here h g2 g3
 case buildSlice t len parts =>
  obtain⟨hl,hp⟩:=parts_rel h ht parts
  obtain⟨u,y,G',w',g1,g2,g3,g4,g5⟩:=buildSlice_out h hl hp hK
  simp only[execOp,Sem.run_bind,g1,Result.andThen_ok,Sem.run_pure]
  exact⟨y,_,_,G',g2,g3,g4,g5⟩
 case load t x =>
  split at hK
  case h_2=>exact hK.elim
  rename_i cs hat
  obtain⟨u,y,g1,g2,g3⟩:=load_out h (e x) hat hK
  simp only[execOp,Sem.run_bind,g1,Result.andThen_ok,Sem.run_pure]
  exact Lands.here h g2 g3
 case store t x y =>
  obtain⟨w',heap',g1,g2,g3⟩:=store_out h (e x) (e y) hK
  simp only[execOp,Sem.run_bind,g1,Result.andThen_ok,Sem.run_pure]
  exact⟨heap',_,G,g2,Ext.refl _ _,g3⟩
 case nilCheck x =>
  have hv:=e x
  generalize hev:a.eval x=vx at hv
  generalize hxx:ev E s.tmps x=x' at hv hK
  split at hK
  ·cases hv with
   | ptr _ _ b hb =>
    simp only[execOp,hev,Sem.run_pure]
    exact Lands.here h hK (.ptr _ _ _ hb)
  ·cases hv with
   | fptr _ b o' h1 h2 =>
    simp only[execOp,hev,Sem.run_pure]
    exact Lands.here h hK (.fptr _ _ _ h1 h2)
  ·cases hv with
   | vptr _ _ _ _ b o hvv =>
    simp only[execOp,hev,Sem.run_pure]
    exact Lands.here h hK (.vptr _ _ _ _ _ _ hvv)
  ·exact hK.elim
 case binOp op t x y yt =>
  unfold vBinC at hK
  split at hK
  ·rename_i hc
   obtain⟨u,z,g1,g2,g3⟩:=nil_out (w:=w) (ox:=x) (oy:=y) (e x) hc hK
   have hy:a.eval y = .nilIface:=by
    unfold isNilC at hc
    split at hc
    ·rfl
    ·cases hc
   simp only[execOp,Sem.run_bind,hy]at g1 ⊢
   rw[g1]
   exact Lands.here h g2 g3
  ·obtain⟨u,z,g1,g2,g3⟩:=bin_out (w:=w) (ox:=x) (oy:=y) (e x) (e y) hK
   simp only[execOp,Sem.run_bind]at g1 ⊢
   rw[g1]
   exact Lands.here h g2 g3
 case makeInterface t x =>
  unfold vMkIface at hK
  split at hK
  ·exact hK.elim
  ·exact hK.elim
  ·rename_i h1 h2
   have hm:(Instr.makeInterface t (a.eval x)).run E.P w = .ok (.iface t (a.eval x)) w:=by
    cases hd:E.P.underlying t with
    | none=>exact absurd hd h2
    | some d =>
     cases d <;> first
      | exact absurd hd (h1 _)
      | simp only[Instr.makeInterface,Sem.run_bind,run_und hd,Result.andThen_ok,Sem.run_pure]
   simp only[execOp,Sem.run_bind,hm,Result.andThen_ok,Sem.run_pure]
   exact Lands.here h hK (.iface _ _ _ (e x))
 case panic x =>
  have hv:=e x
  generalize hev:a.eval x=vx at hv
  generalize hxx:ev E s.tmps x=x' at hv hK
  unfold vPanic at hK
  split at hK
  ·obtain⟨t,v,rfl⟩:∃ t v,vx = .iface t v:=by cases hv;exact⟨_,_,rfl⟩
   have hp:(Instr.panic (.iface t v)).run E.P w = .halt (.panic (.iface t v)) w:=by
    simp[Instr.panic,goPanic,Sem.run]
   simp only[execOp,hev,Sem.run_bind,hp]
   exact⟨⟨t,v,rfl⟩,_,_,G,hK,Ext.refl _ _,h⟩
  ·exact hK.elim
 case unOp op t x =>
  have hv:=e x
  generalize hev:a.eval x=vx at hv
  generalize hxx:ev E s.tmps x=x' at hv hK
  unfold vUn at hK
  split at hK
  ·cases hv
   simp only[execOp,hev,Op.unary,Op.intArith,Sem.run_bind,Sem.run_pure,Result.andThen_ok]
   exact Lands.here h hK (.int _ _)
  ·cases hv
   simp only[execOp,hev,Op.unary,Sem.run_bind,Sem.run_pure,Result.andThen_ok]
   exact Lands.here h hK (.bool _)
  ·exact hK.elim
 case convert src dst' x =>
  have hv:=e x
  generalize hev:a.eval x=vx at hv
  generalize hxx:ev E s.tmps x=x' at hv hK
  split at hK
  ·rename_i d k k' m hs hd
   cases hv
   have:(convert src dst' (.int k' m)).run E.P w = .ok (.int k (k.wrap m)) w:=by
    simp only[convert,Sem.run_bind,run_und hs,run_und hd,Result.andThen_ok]
    cases d <;> rfl
   simp only[execOp,hev,Sem.run_bind,this,Result.andThen_ok,Sem.run_pure]
   exact Lands.here h hK (.int _ _)
  ·rename_i d b hs hd
   cases hv with
   | str _ hb =>
    have:(convert src dst' (.string b)).run E.P w = .ok (.string b) w:=by
     simp only[convert,Sem.run_bind,run_und hs,run_und hd,Result.andThen_ok]
     cases d <;> rfl
    simp only[execOp,hev,Sem.run_bind,this,Result.andThen_ok,Sem.run_pure]
    exact Lands.here h hK (.str _ hb)
  ·rename_i e o e' es hs hd
   obtain⟨⟨h1,h2,h3⟩,hK⟩:=hK
   split at hK
   ·rename_i ns hn
    obtain⟨g1,g2⟩:=bytes_out h (elen hv h1).2 h3 hn
    have:(convert src dst' vx).run E.P w = .ok (.string (strOf ns)) w:=by
     cases hv <;> simp only[convert,Sem.run_bind,run_und hs,run_und hd,run_und h2,Result.andThen_ok,g1]
    simp only[execOp,hev,Sem.run_bind,this,Result.andThen_ok,Sem.run_pure]
    exact Lands.here h hK (.str _ g2)
   ·exact hK.elim
  ·rename_i e b hs hd
   obtain⟨⟨h1,h2,h3,h4⟩,hK⟩:=hK
   cases hv with
   | str _ hb =>
    obtain⟨v,w',G',g1,g2,g3,g4⟩:=conv_out h hs hd h1 h2 h3 h4
    simp only[execOp,hev,Sem.run_bind,g1,Result.andThen_ok,Sem.run_pure]
    exact⟨_,_,_,_,hK,g2,g3,g4⟩
  ·exact hK.elim
 case makeFunc fn first caps =>
  split at hK
  ·rename_i f
   split at hK
   ·rename_i h1
    have hf:first = #[]:=by apply Array.ext';simpa using h1
    simp only[execOp,Instr.makeFunc,hf,Sem.run_bind,Sem.run_pure,Result.andThen_ok,List.map_toArray,List.map_nil]
    obtain⟨g1,g2⟩:=args_rel h ht caps
    exact Lands.here h hK (.func _ _ _ g1 g2)
   ·rename_i x r h1
    obtain⟨h2,h3⟩:=hK
    have hf:caps = #[]:=by apply Array.ext';simpa using h2
    have hff:first=(x::r).toArray:=by apply Array.ext';simpa using h1
    simp only[execOp,Instr.makeFunc,hf,Sem.run_bind,Sem.run_pure,Result.andThen_ok,List.map_toArray,List.map_nil]
    have g:=args_rel h ht first
    rw[h1]at g
    obtain⟨g1,g2⟩:=g
    exact Lands.here h h3 (.meth _ _ _ g1 g2)
  ·exact hK.elim
 case slice t x lo hi mx =>
  split at hK
  ·rename_i hts
   rw[Bool.and_eq_true]at hts
   obtain⟨u,z,arr',G',g1,g2,g3,g4,g5⟩:=tail_out (lo:=lo.map (ev E s.tmps)) (hi:=hi.map (ev E s.tmps)) (mx:=mx.map (ev E s.tmps)) (vlo:=lo.map a.eval) (vhi:=hi.map a.eval) (vmx:=mx.map a.eval) h (e x)
    (fun y hy=>by obtain⟨z,rfl,rfl⟩:=Option.map_eq_some_iff.1 hy;exact⟨_,rfl,e z⟩) (fun hn=>by simpa using hn) (fun y hy=>by obtain⟨z,rfl,rfl⟩:=Option.map_eq_some_iff.1 hy;exact⟨_,rfl,e z⟩) (fun hn=>by simpa using hn) (fun hn=>by simpa using hn) hts.2 hK
   simp only[execOp,Sem.run_bind,g1,Result.andThen_ok,Sem.run_pure]
   exact⟨z,_,_,G',g2,g3,g4,g5⟩
  obtain⟨u,z,g1,g2,g3⟩:=slice_out (lo:=lo.map (ev E s.tmps)) (hi:=hi.map (ev E s.tmps)) (mx:=mx.map (ev E s.tmps)) (vlo:=lo.map a.eval) (vhi:=hi.map a.eval) (vmx:=mx.map a.eval) h (e x)
   (fun y hy=>by obtain⟨z,rfl,rfl⟩:=Option.map_eq_some_iff.1 hy;exact⟨_,rfl,e z⟩) (fun hn=>by simpa using hn)
   (fun y hy=>by obtain⟨z,rfl,rfl⟩:=Option.map_eq_some_iff.1 hy;exact⟨_,rfl,e z⟩) (fun hn=>by simpa using hn) (fun hn=>by simpa using hn) hK
  simp only[execOp,Sem.run_bind,g1,Result.andThen_ok,Sem.run_pure]
  exact Lands.here h g2 g3
 case fieldAddr t x f =>
  obtain⟨u,z,g1,g2,g3⟩:=fieldAddr_out h (e x) hK
  simp only[execOp,Sem.run_bind,g1,Result.andThen_ok,Sem.run_pure]
  exact Lands.here h g2 g3
 case field t x f =>
  have hv:=e x
  generalize hev:a.eval x=vx at hv
  generalize hxx:ev E s.tmps x=x' at hv hK
  split at hK
  ·rename_i fs cs hd
   split at hK
   ·rename_i fd hf
    cases hv with
    | agg _ vs hl hr =>
     obtain⟨u,z,g1,g2,g3⟩:=part_out (w:=w) (⟨hl.symm,hr⟩:RL E.P G s.arr cs vs) hK
     simp only[execOp,hev,Instr.field,Sem.run_bind,run_und hd,Result.andThen_ok,hf,asAgg,Sem.run_pure,g1]
     exact Lands.here h g2 g3
   ·exact hK.elim
  ·exact hK.elim
 case indexAddr t x ix =>
  obtain⟨u,z,g1,g2,g3⟩:=indexAddr_out h (e x) (e ix) hK
  simp only[execOp,Sem.run_bind,g1,Result.andThen_ok,Sem.run_pure]
  exact Lands.here h g2 g3
 case index t x ix =>
  obtain⟨u,z,g1,g2,g3⟩:=index_out h (e x) (e ix) hK
  simp only[execOp,Sem.run_bind,g1,Result.andThen_ok,Sem.run_pure]
  exact Lands.here h g2 g3
 case extract x ix =>
  have hv:=e x
  generalize hev:a.eval x=vx at hv
  generalize hxx:ev E s.tmps x=x' at hv hK
  split at hK
  ·rename_i vs
   split at hK
   ·rename_i y hy
    cases hv with
    | tuple _ us hl hr =>
     have hlt:ix<us.size:=by rw[←hl];exact(List.getElem?_eq_some_iff.1 hy).1
     simp only[execOp,hev,Instr.extract,Array.getElem?_eq_getElem hlt,Sem.run_bind,Sem.run_pure,Result.andThen_ok]
     exact Lands.here h hK (hr ix y _ hy (Array.getElem?_eq_getElem hlt))
   ·exact hK.elim
  ·exact hK.elim
 case lookup t m k ok =>
  obtain⟨u,z,g1,g2,g3⟩:=lookK_out h (e m) (e k) hK
  simp only[execOp,Sem.run_bind,g1,Result.andThen_ok,Sem.run_pure]
  exact Lands.here h g2 g3
 case mapUpdate t m k v =>
  obtain⟨w',heap',g1,g2,g3⟩:=mapSetK_out h (e m) (e k) (e v) hK
  simp only[execOp,Sem.run_bind,g1,Result.andThen_ok,Sem.run_pure]
  exact⟨heap',_,G,g2,Ext.refl _ _,g3⟩
 case insert t m k v =>
  obtain⟨w',heap',g1,g2,g3⟩:=mapSetK_out h (e m) (e k) (e v) hK
  simp only[execOp,Sem.run_bind,g1,Result.andThen_ok,Sem.run_pure]
  exact⟨heap',_,G,g2,Ext.refl _ _,g3⟩
 case makeMap t r =>
  obtain⟨rfl,hk⟩:=hK
  obtain⟨g1,g2,g3⟩:=makeMap_out h (t:=t)
  simp only[execOp,Sem.run_bind,Option.map_none,g1,Result.andThen_ok,Sem.run_pure]
  exact⟨_,_,_,_,hk,G.ext_newObj _ _,g2,g3⟩
 case makeSlice t l c =>
  obtain⟨u,y,heap',G',w',g1,g2,g3,g4,g5⟩:=makeSlice_out h (e l) (e c) hK
  simp only[execOp,Sem.run_bind,g1,Result.andThen_ok,Sem.run_pure]
  exact⟨_,_,_,_,g2,g3,g4,g5⟩
 case range t x =>
  obtain⟨u,y,heap',G',w',g1,g2,g3,g4,g5⟩:=range_out h (e x) hK
  simp only[execOp,Sem.run_bind,g1,Result.andThen_ok,Sem.run_pure]
  exact⟨_,_,_,_,g2,g3,g4,g5⟩
 case next x str =>
  obtain⟨rfl,hk⟩:=hK
  obtain⟨u,y,heap',w',g1,g2,g3,g4⟩:=next_out (ty:=ty) h (e x) hk
  simp only[execOp,Sem.run_bind,g1,Result.andThen_ok,Sem.run_pure]
  exact⟨_,_,_,_,g2,Ext.refl _ _,g3,g4⟩
 case call c=>exact vcall_out h ht hK
theorem Out.wp{o:Oper}{next:Act→World→Prop}{Q:Exit→Act→World→Prop}(h:Out E G s.arr w0 K ((execOp a.eval o).run E.P w))
  (hd:∀ ch w',Dies E G s.arr w0 ch w'→Q (.panic ch) a w')
  (hn:∀ v val heap' arr' G' w',K v heap' arr'→Ext G s.arr G' arr'→RelW E G' heap' arr' w0 w'→RV E.P G' arr' v val→next (a.put o.dst val) w'):o.wp E.P a w next Q:=by
 unfold Oper.wp
 generalize(execOp a.eval o).run E.P w=r at h
 cases r with
 | halt x w' =>
  cases x <;> try exact h.elim
  case panic v=>exact hd _ _ h
 | ok nx w' =>
  cases nx <;> try exact h.elim
  case value val =>
   obtain⟨v,heap',arr',G',g1,g2,g3,g4⟩:=h
   exact hn v val heap' arr' G' w' g1 g2 g3 g4
  case skip =>
   obtain⟨heap',arr',G',g1,g2,g3⟩:=h
   exact hn .junk undef heap' arr' G' w' g1 g2 g3 (.junk _)
  case enter f args =>
   refine Calls.mono h fun e w'' he=>?_
   rcases he with⟨val,rfl,v,heap',arr',G',g1,g2,g3,g4⟩ | ⟨ch,rfl,hh⟩
   ·exact hn v val heap' arr' G' w'' g1 g2 g3 g4
   ·exact hd _ _ hh
end
end Go.Vg
