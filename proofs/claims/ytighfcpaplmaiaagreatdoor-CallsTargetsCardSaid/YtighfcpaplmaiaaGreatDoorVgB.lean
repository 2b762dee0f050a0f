import Derived.Calls
import Derived.Orders
import Derived.Below
import Derived.Laws.World
import Derived.Laws.Sem
import Derived.Deep.AppendSrc
set_option linter.defProp false
def g8V := @List.getElem?_cons_succ
def g8W := @List.set_cons_succ
def g8X := @List.cons_append
def g8Y := @List.getElem?_eq_some_iff
def g8Z := @List.getD_eq_getElem?_getD
def g9a := @List.getElem?_append_left
def g9b := @List.getElem?_eq_getElem
def g9c := @List.getElem?_append_right
def g9d := @List.length_append
def g9e := @List.getElem?_set_self
def g9f := @List.mem_of_getElem?
def g9g := @Bool.and_eq_true
def g9h := @decide_eq_true_eq
def g9i := @List.getElem?_set_ne
def g9j := @Int.toNat_natCast
def g9k := @List.length_cons
def g9l := @Option.map_eq_some_iff
def g9m := @Nat.le_refl
def g9n := @Bool.false_eq_true
def g9o := @List.map_cons
def g9p := @Array.getElem?_eq_getElem
def g9q := @List.getElem?_map
def g9r := @List.length_map
def g9s := @Nat.zero_add
def g9t := @List.append_assoc
def g9u := @Option.isSome_none
def g9v := @decide_eq_false
def g9w := @Option.getD_some
def g9x := @Array.getElem?_eq_some_iff
def g9y := @List.mem_cons
def g9z := @Option.map_some
def g9A := @List.mem_append
def g9B := @List.append_nil
def g9C := @List.eq_nil_of_length_eq_zero
def g9D := @decide_eq_true
def g9E := @Option.isSome_iff_exists
def g9F := @List.length_nil
def g9G := @List.foldl_cons
def g9H := @Option.isSome_some
def g9I := @List.map_append
def g9J := @List.set_append_right
def g9K := @List.getElem?_eq_none
def g9L := @Nat.mul_le_mul_right
def g9M := @List.nil_append
def g9N := @List.mem_singleton
def g9O := @Bool.true_and
def g9P := @List.map_nil
def g9Q := @Bool.false_and
def g9R := @Nat.add_mul
def g9S := @List.find?_cons
def g9T := @Int.eq_ofNat_of_zero_le
def g9U := @Bool.false_or
def g9V := @List.mem_of_find?_eq_some
def g9W := @List.any_eq_true
def g9X := @List.flatten_cons
def g9Y := @List.getElem?_drop
def g9Z := @List.mem_append_left
def h0a := @Option.getD_none
def h0b := @Bool.and_true
def h0c := @List.getElem_of_mem
def h0e := @List.length_drop
def h0f := @List.mem_append_right
def h0g := @Bool.eq_iff_iff
def h0h := @Nat.add_zero
def h0i := @Nat.le_trans
def h0j := @List.length_filter_le
def h0k := @List.mem_map
def h0l := @decide_eq_false_iff_not
def h0m := @Option.map_none
def h0n := @Nat.add_assoc
def h0o := @List.nodup_cons
def h0p := @Bool.or_eq_true
def h0q := @List.nodup_append
def h0r := @Array.getD_eq_getD_getElem?
def h0s := @List.pairwise_cons
def h0t := @List.drop_drop
def h0u := @Array.getElem?_append_left
def h0v := @Nat.lt_or_ge
def h0w := @Bool.or_eq_false_iff
def h0x := @Array.getElem?_eq_none
def h0y := @Go.Result.andThen_ok
def h0z := @Go.Sem.run_bind
def h0A := @Go.Sem.run_pure
set_option linter.unusedVariables false
set_option linter.unusedSimpArgs false
namespace Go.Vg
open Go.RowKit
inductive Own where
 | shared | full | nil | arr (k:Nat)
 deriving DecidableEq
inductive V where
 | junk
 | bool (b:Bool)
 | int (k:IntKind) (n:Int)
 | str (s:ByteArray)
 | nilp
 | ptr (id off:Nat)
 | fptr (cs:List V)
 | slice (o:Own) (e:TypeId) (es:List (List V))
 | mslice (id off len cap:Nat) (e:TypeId)
 | nilmap
 | map (id:Nat)
 | nilfunc
 | func (f:FuncId) (caps:List V)
 | meth (f:FuncId) (xs:List V)
 | nilif
 | iface (t:TypeId) (v:V)
 | agg (cs:List V)
 | tuple (vs:List V)
 | vec (id k gen len:Nat) (e:TypeId)
 | vptr (id k gen off:Nat)
inductive VObj where
 | cells (cs:List V)
 | map (es:List (V×V))
 | siter (s:ByteArray) (pos:Nat)
 | dead
 | tcells (t:TypeId) (cs:List V)
 | builder (t:TypeId) (s:ByteArray)
 | vec (k gen:Nat) (e:TypeId) (cs:List V)
def VObj.loose:VObj→Bool
 | .dead | .vec .. => true
 | _=>false
def VObj.looseAt(k:Nat):VObj→Bool
 | .dead=>true
 | .vec k' .. => k' == k
 | _=>false
theorem VObj.loose_of{k:Nat}{o:VObj}(h:o.looseAt k=true):o.loose=true:=by
 cases o <;> simp only[VObj.looseAt,g9n]at h <;> rfl
def VObj.cs? : VObj→Option (List V)
 | .cells cs=>some cs
 | .tcells _ cs=>some cs
 | _=>none
def VObj.put(ob:VObj)(cs:List V):VObj:=match ob with
 | .tcells t _ => .tcells t cs
 | _ => .cells cs
structure Gh where
 F:Nat→Nat→Option Value
 φ:List Nat
 ρ:List (Nat×Nat×Nat)
def c2j(G:Gh)(arr:List Nat)(o:Own)(b off len cap s:Nat):Prop :=
 match o with
 | .shared=>True
 | .full=>cap=len
 | .nil=>False
 | .arr k=>∃ n,arr[k]? = some n∧len≤n∧(n=len→G.ρ[k]? = some (b,off+len * s,off+cap * s))
def c1m(arr:List Nat)(o:Own):Prop :=
 match o with
 | .arr k=>∃ n:Nat,arr[k]? = some n
 | _=>True
def d1u(G:Gh)(arr:List Nat)(k gen:Nat)(C:Nat→Nat→Prop):Prop:=∃ n,arr[k]? = some n∧gen≤n∧(n=gen→∃ b hi,G.ρ[k]? = some (b,0,hi)∧C b hi)
inductive RV(P:Program)(G:Gh)(arr:List Nat):V→Value→Prop
 | junk (v):RV P G arr .junk v
 | bool (b):RV P G arr (.bool b) (.bool b)
 | int (k n):RV P G arr (.int k n) (.int k n)
 | str (s):s.size≤1152921504606846976→RV P G arr (.str s) (.string s)
 | nilp:RV P G arr .nilp (.pointer none)
 | ptr (id off b):G.φ[id]? = some b→RV P G arr (.ptr id off) (.pointer (some ⟨b,off,none⟩))
 | fptr (cs b o):(∀ j,j<cs.length→∃ v,G.F b (o+j)=some v)→(∀ (j:Nat) c v,cs[j]? = some c→G.F b (o+j)=some v→RV P G arr c v) →
   RV P G arr (.fptr cs) (.pointer (some ⟨b,o,none⟩))
 | snil (o e):c1m arr o→RV P G arr (.slice o e []) (.slice none 0 0)
 | sodd (e a c):RV P G arr (.slice .shared e []) (.slice a 0 c)
 | slice (o e es b off cap):c2j G arr o b off es.length cap (P.cellsOf e) →
   (∀ (i:Nat) el,es[i]? = some el→el.length=P.cellsOf e)→es.length * P.bytesOf e≤140737488355328→es.length≤140737488355328 →
   es.length≤cap →
   (∀ (i:Nat) el (j:Nat),es[i]? = some el→j<el.length→∃ v,G.F b (off+(i * P.cellsOf e+j))=some v) →
   (∀ (i:Nat) el (j:Nat) c v,es[i]? = some el→el[j]? = some c→G.F b (off+(i * P.cellsOf e+j))=some v→RV P G arr c v) →
   RV P G arr (.slice o e es) (.slice (some ⟨b,off,none⟩) es.length cap)
 | mslice (id off len cap e b):G.φ[id]? = some b→len≤140737488355328→len≤cap→len * P.bytesOf e≤140737488355328 →
   RV P G arr (.mslice id off len cap e) (.slice (some ⟨b,off,none⟩) len cap)
 | nilmap:RV P G arr .nilmap (.map none)
 | map (id b):G.φ[id]? = some b→RV P G arr (.map id) (.map (some b))
 | nilfunc:RV P G arr .nilfunc .nilFunc
 | func (f caps cs):caps.length=cs.size→(∀ (j:Nat) c v,caps[j]? = some c→cs[j]? = some v→RV P G arr c v) →
   RV P G arr (.func f caps) (.func (.func f) #[] cs)
 | meth (f xs vs):xs.length=vs.size→(∀ (j:Nat) c v,xs[j]? = some c→vs[j]? = some v→RV P G arr c v) →
   RV P G arr (.meth f xs) (.func (.func f) vs #[])
 | nilif:RV P G arr .nilif .nilIface
 | iface (t x v):RV P G arr x v→RV P G arr (.iface t x) (.iface t v)
 | agg (cs vs):cs.length=vs.size→(∀ (j:Nat) c v,cs[j]? = some c→vs[j]? = some v→RV P G arr c v) →
   RV P G arr (.agg cs) (.agg vs)
 | tuple (cs vs):cs.length=vs.size→(∀ (j:Nat) c v,cs[j]? = some c→vs[j]? = some v→RV P G arr c v) →
   RV P G arr (.tuple cs) (.tuple vs)
 | vec (id k gen len e b o cap):d1u G arr k gen (fun b' hi=>hi=cap * P.cellsOf e∧len≤cap∧b'=b∧o=0)→len≤140737488355328→len * P.bytesOf e≤140737488355328 →
   RV P G arr (.vec id k gen len e) (.slice (some ⟨b,o,none⟩) len cap)
 | vptr (id k gen off b o):d1u G arr k gen (fun b' _=>b'=b∧o=off)→RV P G arr (.vptr id k gen off) (.pointer (some ⟨b,o,none⟩))
structure Ext(G:Gh)(arr:List Nat)(G':Gh)(arr':List Nat):Prop where
 F:∀ b o v,G.F b o=some v→G'.F b o=some v
 φ:∀ (id:Nat) b,G.φ[id]? = some b→G'.φ[id]? = some b
 ρ:∀ (k:Nat) n,arr[k]? = some n→∃ n',arr'[k]? = some n'∧n≤n'∧(n'=n→G'.ρ[k]? = G.ρ[k]?)
theorem Ext.refl(G:Gh)(arr:List Nat):Ext G arr G arr :=
 ⟨fun _ _ _ h=>h,fun _ _ h=>h,fun _ n h=>⟨n,h,g9m _,fun _=>rfl⟩⟩
theorem Ext.trans{G G' G'':Gh}{arr arr' arr'':List Nat}(h:Ext G arr G' arr')(h':Ext G' arr' G'' arr''):Ext G arr G'' arr'':=by
 refine⟨fun b o v hv=>h'.F _ _ _ (h.F _ _ _ hv),fun id b hb=>h'.φ _ _ (h.φ _ _ hb),fun k n hn=>?_⟩
 obtain⟨n1,h1,h2,h3⟩:=h.ρ k n hn
 obtain⟨n2,h4,h5,h6⟩:=h'.ρ k n1 h1
 refine⟨n2,h4,h0i h2 h5,fun e=>?_⟩
 have e1:n1=n:=by omega
 have e2:n2=n1:=by omega
 rw[h6 e2,h3 e1]
theorem c2j.mono{G G':Gh}{arr arr':List Nat}(h:Ext G arr G' arr'){o:Own}{b off len cap s:Nat}(ho:c2j G arr o b off len cap s) :
  c2j G' arr' o b off len cap s:=by
 cases o with
 | shared=>trivial
 | full=>exact ho
 | nil=>exact ho
 | arr k =>
  obtain⟨n,h1,h2,h3⟩:=ho
  obtain⟨n',h4,h5,h6⟩:=h.ρ k n h1
  refine⟨n',h4,h0i h2 h5,fun e=>?_⟩
  have:n=len:=by omega
  rw[h6 (by omega),h3 this]
theorem c1m.mono{G G':Gh}{arr arr':List Nat}(h:Ext G arr G' arr'){o:Own}(ho:c1m arr o):c1m arr' o:=by
 cases o with
 | arr k =>
  obtain⟨n,h1⟩:=ho
  obtain⟨n',h4,_⟩:=h.ρ k n h1
  exact⟨n',h4⟩
 | _=>trivial
theorem d1u.mono{G G':Gh}{arr arr':List Nat}(h:Ext G arr G' arr'){k gen:Nat}{C:Nat→Nat→Prop}(hv:d1u G arr k gen C):d1u G' arr' k gen C:=by
 obtain⟨n,h1,h2,h3⟩:=hv
 obtain⟨n',h4,h5,h6⟩:=h.ρ k n h1
 refine⟨n',h4,h0i h2 h5,fun e=>?_⟩
 have:n'=n:=by omega
 rw[h6 this]
 exact h3 (by omega)
theorem RV.mono{P:Program}{G G':Gh}{arr arr':List Nat}(h:Ext G arr G' arr'){x:V}{v:Value}(hx:RV P G arr x v):RV P G' arr' x v:=by
 induction hx with
 | junk v=>exact .junk v
 | bool b=>exact .bool b
 | int k n=>exact .int k n
 | str s hs=>exact .str s hs
 | nilp=>exact .nilp
 | ptr id off b hb=>exact .ptr id off b (h.φ _ _ hb)
 | fptr cs b o hd _ ih =>
  refine .fptr cs b o (fun j hj=>(hd j hj).imp fun v hv=>h.F _ _ _ hv) fun j c v hc hv=>?_
  obtain⟨u,hu⟩:=hd j (g8Y.1 hc).1
  have:=h.F _ _ _ hu
  rw[hv]at this
  exact ih j c v hc (by rw[hu,this])
 | snil o e ho=>exact .snil o e (ho.mono h)
 | sodd e a c=>exact .sodd e a c
 | slice o e es b off cap ho h1 h2 h3 h4 hd _ ih =>
  refine .slice o e es b off cap (ho.mono h) h1 h2 h3 h4 (fun i el j hi hj=>(hd i el j hi hj).imp fun v hv=>h.F _ _ _ hv) fun i el j c v hi hj hv=>?_
  obtain⟨u,hu⟩:=hd i el j hi (g8Y.1 hj).1
  have:=h.F _ _ _ hu
  rw[hv]at this
  exact ih i el j c v hi hj (by rw[hu,this])
 | mslice id off len cap e b hb h1 h2 h3=>exact .mslice id off len cap e b (h.φ _ _ hb) h1 h2 h3
 | nilmap=>exact .nilmap
 | map id b hb=>exact .map id b (h.φ _ _ hb)
 | nilfunc=>exact .nilfunc
 | func f caps cs hl _ ih=>exact .func f caps cs hl ih
 | meth f xs vs hl _ ih=>exact .meth f xs vs hl ih
 | nilif=>exact .nilif
 | iface t x v _ ih=>exact .iface t x v ih
 | agg cs vs hl _ ih=>exact .agg cs vs hl ih
 | tuple cs vs hl _ ih=>exact .tuple cs vs hl ih
 | vec id k gen len e b o cap hv h1 h2=>exact .vec id k gen len e b o cap (hv.mono h) h1 h2
 | vptr id k gen off b o hv=>exact .vptr id k gen off b o (hv.mono h)
def Own.plain:Own→Bool
 | .arr _=>false
 | _=>true
mutual
def V.pure:V→Bool
 | .ptr .. | .mslice .. | .map _ | .vec .. | .vptr .. => false
 | .fptr cs=>b1a cs
 | .slice o _ es=>o.plain && b0R es
 | .func _ cs=>b1a cs
 | .meth _ cs=>b1a cs
 | .iface _ v=>v.pure
 | .agg cs=>b1a cs
 | .tuple cs=>b1a cs
 | _=>true
def b1a:List V→Bool
 | []=>true
 | x::r=>x.pure && b1a r
def b0R:List (List V)→Bool
 | []=>true
 | x::r=>b1a x && b0R r
end
theorem b2L{cs:List V}(h:b1a cs=true):∀ (j:Nat) c,cs[j]? = some c→c.pure=true:=by
 induction cs with
 | nil=>intro j c hc;simp at hc
 | cons x r ih =>
  simp only[b1a,g9g]at h
  intro j c hc
  cases j with
  | zero=>simp at hc;exact hc ▸ h.1
  | succ j=>exact ih h.2 j c (by simpa using hc)
theorem c8D{cs:List (List V)}(h:b0R cs=true):∀ (j:Nat) c,cs[j]? = some c→b1a c=true:=by
 induction cs with
 | nil=>intro j c hc;simp at hc
 | cons x r ih =>
  simp only[b0R,g9g]at h
  intro j c hc
  cases j with
  | zero=>simp at hc;exact hc ▸ h.1
  | succ j=>exact ih h.2 j c (by simpa using hc)
theorem RV.pure{P:Program}{G:Gh}{arr:List Nat}{x:V}{v:Value}(hx:RV P G arr x v):x.pure=true→∀ (G':Gh) (arr':List Nat),
  (∀ b o u,G.F b o=some u→G'.F b o=some u)→RV P G' arr' x v:=by
 induction hx with
 | junk v=>intro _ G' arr' _;exact .junk v
 | bool b=>intro _ G' arr' _;exact .bool b
 | int k n=>intro _ G' arr' _;exact .int k n
 | str s hs=>intro _ G' arr' _;exact .str s hs
 | nilp=>intro _ G' arr' _;exact .nilp
 | ptr id off b hb=>intro h;simp[V.pure]at h
 | fptr cs b o hd _ ih =>
  intro h G' arr' hF
  simp only[V.pure]at h
  refine .fptr cs b o (fun j hj=>(hd j hj).imp fun v hv=>hF _ _ _ hv) fun j c v hc hv=>?_
  obtain⟨u,hu⟩:=hd j (g8Y.1 hc).1
  have:=hF _ _ _ hu
  rw[hv]at this
  exact ih j c v hc (by rw[hu,this]) (b2L h j c hc) G' arr' hF
 | sodd e a c=>intro _ G' arr' _;exact .sodd e a c
 | snil o e ho =>
  intro h G' arr' hF
  refine .snil o e ?_
  simp only[V.pure,g9g]at h
  cases o <;> simp_all [Own.plain,c1m]
 | slice o e es b off cap ho h1 h2 h3 h4 hd _ ih =>
  intro h G' arr' hF
  simp only[V.pure,g9g]at h
  refine .slice o e es b off cap ?_ h1 h2 h3 h4 (fun i el j hi hj=>(hd i el j hi hj).imp fun v hv=>hF _ _ _ hv) fun i el j c v hi hj hv=>?_
  ·have:=h.1
   cases o <;> simp_all [Own.plain,c2j]
  ·obtain⟨u,hu⟩:=hd i el j hi (g8Y.1 hj).1
   have:=hF _ _ _ hu
   rw[hv]at this
   exact ih i el j c v hi hj (by rw[hu,this]) (b2L (c8D h.2 i el hi) j c hj) G' arr' hF
 | mslice id off len cap e b hb h1 h2 h3=>intro h;simp[V.pure]at h
 | nilmap=>intro _ G' arr' _;exact .nilmap
 | map id b hb=>intro h;simp[V.pure]at h
 | nilfunc=>intro _ G' arr' _;exact .nilfunc
 | func f caps cs hl _ ih =>
  intro h G' arr' hF
  simp only[V.pure]at h
  exact .func f caps cs hl fun j c v hj hv=>ih j c v hj hv (b2L h j c hj) G' arr' hF
 | meth f xs vs hl _ ih =>
  intro h G' arr' hF
  simp only[V.pure]at h
  exact .meth f xs vs hl fun j c v hj hv=>ih j c v hj hv (b2L h j c hj) G' arr' hF
 | nilif=>intro _ G' arr' _;exact .nilif
 | iface t x v _ ih=>intro h G' arr' hF;simp only[V.pure]at h;exact .iface t x v (ih h G' arr' hF)
 | agg cs vs hl _ ih =>
  intro h G' arr' hF
  simp only[V.pure]at h
  exact .agg cs vs hl fun j c v hj hv=>ih j c v hj hv (b2L h j c hj) G' arr' hF
 | vec id k gen len e b o cap hv h1 h2=>intro h;simp[V.pure]at h
 | vptr id k gen off b o hv=>intro h;simp[V.pure]at h
 | tuple cs vs hl _ ih =>
  intro h G' arr' hF
  simp only[V.pure]at h
  exact .tuple cs vs hl fun j c v hj hv=>ih j c v hj hv (b2L h j c hj) G' arr' hF
structure Env where
 P:Program
 gl:Nat→Option (List V)
 tag:TypeId→Bool:=fun _=>false
 byteT:TypeId:=0
 ini:World→Prop:=fun _=>True
 iniM:∀ w w':World,ini w→Below w.heap.size w w'→ini w':=by exact fun _ _ h _=>h
 die:List VObj→List Nat→Prop:=fun _ _=>False
 vecT:TypeId→Bool:=fun _=>false
def Env.alive(E:Env):Env:={ E with die:=fun _ _=>False }
def c2r(P:Program)(G:Gh)(arr:List Nat)(w:World)(b:Nat):VObj→Prop
 | .cells cs=>∃ c e,w.heap[b]? = some (.cells c e (0,0))∧c.size=cs.length∧∀ (j:Nat) x,cs[j]? = some x→∃ v,c[j]? = some v∧RV P G arr x v
 | .map es=>∃ m clk,w.heap[b]? = some (.map m clk)∧m.size=es.length ∧
   ∀ (j:Nat) kx vx,es[j]? = some (kx,vx)→∃ e:MapEntry,m[j]? = some e∧RV P G arr kx e.key∧RV P G arr vx e.val
 | .siter s pos=>w.heap[b]? = some (.stringIter s pos)∧s.size≤1152921504606846976
 | .dead=>True
 | .vec .. => True
 | .builder t _=>∃ p v,w.heap[b]? = some (.cells #[p,v] t (0,0))∧(p = .pointer none∨p = .pointer (some ⟨b,0,none⟩))
 | .tcells t cs=>∃ c,w.heap[b]? = some (.cells c t (0,0))∧c.size=cs.length∧∀ (j:Nat) x,cs[j]? = some x→∃ v,c[j]? = some v∧RV P G arr x v
theorem c2r.un{P:Program}{G:Gh}{arr:List Nat}{w:World}{b:Nat}{ob:VObj}{cs:List V}(h:c2r P G arr w b ob)(hc:ob.cs? = some cs) :
  ∃ c e,w.heap[b]? = some (.cells c e (0,0))∧c.size=cs.length∧(∀ (j:Nat) x,cs[j]? = some x→∃ v,c[j]? = some v∧RV P G arr x v) ∧
   ∀ (w':World) c' cs',w'.heap[b]? = some (.cells c' e (0,0))→c'.size=cs'.length→(∀ (j:Nat) x,cs'[j]? = some x→∃ v,c'[j]? = some v∧RV P G arr x v)→c2r P G arr w' b (ob.put cs'):=by
 cases ob <;> simp only[VObj.cs?,Option.some.injEq,reduceCtorEq]at hc
 ·subst hc
  obtain⟨c,e,h1,h2,h3⟩:=h
  exact⟨c,e,h1,h2,h3,fun w' c' cs' g1 g2 g3=>⟨c',e,g1,g2,g3⟩⟩
 ·subst hc
  obtain⟨c,h1,h2,h3⟩:=h
  exact⟨c,_,h1,h2,h3,fun w' c' cs' g1 g2 g3=>⟨c',g1,g2,g3⟩⟩
def f3U(G:Gh)(g:Nat):Prop:=(∀ o,G.F g o=none)∧(∀ i:Nat,G.φ[i]?≠some g)∧∀ (k lo hi:Nat),G.ρ[k]? = some (g,lo,hi)→hi≤lo
def Bld(E:Env)(G:Gh)(w:World)(t:TypeId)(s:ByteArray)(b:Nat):Prop:=∃ p v,w.heap[b]? = some (.cells #[p,v] t (0,0)) ∧
 ((v = .slice none 0 0∧s.size=0)∨∃ g cap cur,v = .slice (some ⟨g,0,none⟩) s.size cap∧b<g∧w.heap[g]? = some (.cells cur E.byteT (0,0))∧s.size≤cap∧cap≤maxLen∧cur.size=cap ∧
  cur.toList.take s.size=byteCells s∧f3U G g)
theorem Bld.keep{E:Env}{G G':Gh}{w w':World}{t:TypeId}{s:ByteArray}{b:Nat}(h:Bld E G w t s b)(hb:w'.heap[b]? = w.heap[b]?)
  (hg:∀ g,g<w.heap.size→f3U G g→w'.heap[g]? = w.heap[g]?∧f3U G' g):Bld E G' w' t s b:=by
 obtain⟨p,v,h1,h2⟩:=h
 refine⟨p,v,by rw[hb];exact h1,h2.imp id fun⟨g,cap,cur,g1,g2,g3,g4,g5,g6,g7,g8⟩=>?_⟩
 have hlt:g<w.heap.size:=(g9x.1 g3).1
 obtain⟨q1,q2⟩:=hg g hlt g8
 exact⟨g,cap,cur,g1,g2,by rw[q1];exact g3,g4,g5,g6,g7,q2⟩
def g2L(P:Program)(G:Gh)(arr:List Nat)(w:World)(k gen:Nat)(e:TypeId)(cs:List V):Prop :=
 arr[k]? = some gen∧18446744073709551616≤gen∧∃ b hi,G.ρ[k]? = some (b,0,hi)∧cs.length≤hi∧∀ (j:Nat) x,cs[j]? = some x→∃ v,w.cell? ⟨b,j,none⟩=some v∧RV P G arr x v∧v.oneCell'=true
structure Vecs(P:Program)(G:Gh)(heap:List VObj)(arr:List Nat)(w:World):Prop where
 at_:∀ (id k gen:Nat) e cs,heap[id]? = some (.vec k gen e cs)→g2L P G arr w k gen e cs
 uni:∀ (id id' k g g':Nat) e e' cs cs',heap[id]? = some (.vec k g e cs)→heap[id']? = some (.vec k g' e' cs')→id=id'
theorem Vecs.nil{P:Program}{G:Gh}{arr:List Nat}{w:World}:Vecs P G [] arr w:=⟨fun _ _ _ _ _ h=>by simp at h,fun _ _ _ _ _ _ _ _ _ h=>by simp at h⟩
theorem Vecs.keep{P:Program}{G G':Gh}{heap heap':List VObj}{arr arr':List Nat}{w w':World}(h:Vecs P G heap arr w)(hx:Ext G arr G' arr')
  (hh:∀ (id k gen:Nat) e cs,heap'[id]? = some (.vec k gen e cs)→heap[id]? = some (.vec k gen e cs))
  (hs:∀ (k gen b hi:Nat),arr[k]? = some gen→18446744073709551616≤gen→G.ρ[k]? = some (b,0,hi)→arr'[k]? = some gen)
  (hw:∀ (k gen b hi j:Nat),arr[k]? = some gen→18446744073709551616≤gen→G.ρ[k]? = some (b,0,hi)→j<hi→w'.cell? ⟨b,j,none⟩=w.cell? ⟨b,j,none⟩):Vecs P G' heap' arr' w':=by
 refine⟨fun id k gen e cs hi=>?_,fun id id' k g g' e e' cs cs' h1 h2=>h.uni id id' k g g' e e' cs cs' (hh _ _ _ _ _ h1) (hh _ _ _ _ _ h2)⟩
 obtain⟨h1,h2,b,hi',h3,h4,h5⟩:=h.at_ id k gen e cs (hh _ _ _ _ _ hi)
 have ha:=hs k gen b hi' h1 h2 h3
 obtain⟨n',q1,q2,q3⟩:=hx.ρ k gen h1
 rw[ha]at q1
 cases q1
 refine⟨ha,h2,b,hi',by rw[q3 rfl];exact h3,h4,fun j x hj=>?_⟩
 obtain⟨v,hv,hr,ho⟩:=h5 j x hj
 exact⟨v,by rw[hw k gen b hi' j h1 h2 h3 (Nat.lt_of_lt_of_le (g8Y.1 hj).1 h4)];exact hv,hr.mono hx,ho⟩
structure Base where
 w:World
 F:Nat→Nat→Option Value
 dfs:List Deferred:=[]
structure RelW(E:Env)(G:Gh)(heap:List VObj)(arr:List Nat)(w0:Base)(w:World):Prop where
 newF:∀ b o v,G.F b o=some v→b<w0.w.heap.size→w0.F b o=some v
 glob:∀ g cs,E.gl g=some cs→b1a cs=true∧RV E.P G arr (.fptr cs) (.pointer (some ⟨g,0,none⟩))
 below:Below w0.w.heap.size w0.w w
 frz:∀ b o v,G.F b o=some v→w.cell? ⟨b,o,none⟩=some v
 one:∀ b o v,G.F b o=some v→v.oneCell'=true
 obj:∀ (id:Nat) ob,heap[id]? = some ob→∃ b,G.φ[id]? = some b∧c2r E.P G arr w b ob
 lenφ:G.φ.length=heap.length
 nod:∀ (i j:Nat) b,G.φ[i]? = some b→G.φ[j]? = some b→i=j
 sep:∀ (id:Nat) b o,G.φ[id]? = some b→heap[id]?≠some .dead→G.F b o=none
 geφ:∀ (id:Nat) b,G.φ[id]? = some b→w0.w.heap.size≤b∧b<w.heap.size
 lenρ:G.ρ.length=arr.length
 reg:∀ (k b lo hi:Nat),G.ρ[k]? = some (b,lo,hi)→lo<hi →
  (∃ c e,w.heap[b]? = some (.cells c e (0,0))∧hi≤c.size)∧(∀ id:Nat,G.φ[id]? = some b→∀ ob,heap[id]? = some ob→ob.looseAt k=true)∧(∀ o,lo≤o→o<hi→G.F b o=none)∧w0.w.heap.size≤b
 regd:∀ (k k' b lo hi lo' hi':Nat),k≠k'→G.ρ[k]? = some (b,lo,hi)→G.ρ[k']? = some (b,lo',hi')→lo<hi→lo'<hi'→hi≤lo'∨hi'≤lo
 fre:∀ (k b lo hi:Nat),G.ρ[k]? = some (b,lo,hi)→w0.w.heap.size≤b∨(b=0∧lo=0∧hi=0)
 bld:∀ (id:Nat) t s b,heap[id]? = some (.builder t s)→G.φ[id]? = some b→Bld E G w t s b
 ini:E.ini w0.w
 vs:Vecs E.P G heap arr w
def b1S:List (Nat×V)→Nat→V
 | [],_ => .junk
 | (j,x)::r,i=>if i=j then x else b1S r i
structure St where
 tmps:List (Nat×V)
 heap:List VObj
 arr:List Nat
def St.put(s:St)(d:Option Nat)(x:V):St :=
 match d with
 | some d=>{ s with tmps:=(d,x)::s.tmps }
 | none=>s
@[simp] theorem St.put_arr(s:St)(d:Option Nat)(x:V):(s.put d x).arr=s.arr:=by cases d <;> rfl
structure RelT(P:Program)(G:Gh)(arr:List Nat)(tmps:List (Nat×V))(n:Nat)(a:Act):Prop where
 tm:∀ i:Nat,RV P G arr (b1S tmps i) (a.tmps.getD i undef)
 sz:a.tmps.size=n
theorem RelT.mono{P:Program}{G G':Gh}{arr arr':List Nat}{tmps:List (Nat×V)}{n:Nat}{a:Act}(h:Ext G arr G' arr')(hr:RelT P G arr tmps n a) :
  RelT P G' arr' tmps n a:=⟨fun i=>(hr.tm i).mono h,hr.sz⟩
theorem RelT.put{P:Program}{G:Gh}{arr:List Nat}{tmps:List (Nat×V)}{n:Nat}{a:Act}(hr:RelT P G arr tmps n a){d:Nat}(hd:d<n){x:V}{v:Value}
  (hx:RV P G arr x v):RelT P G arr ((d,x)::tmps) n (a.put (some d) v):=by
 refine⟨fun i=>?_,by simp[Act.put,hr.sz]⟩
 simp only[b1S,Act.put]
 have hs:=hr.sz
 by_cases hi:i=d
 ·subst hi
  rw[if_pos rfl]
  have:(a.tmps.setIfInBounds i v).getD i undef=v:=by
   simp[h0r,hs,hd]
  rw[this];exact hx
 ·rw[if_neg hi]
  have:(a.tmps.setIfInBounds d v).getD i undef=a.tmps.getD i undef:=by
   simp[h0r,Ne.symm hi]
  rw[this];exact hr.tm i
def Gh.freezeNew(G:Gh)(b:Nat)(c:Array Value):Gh:={ G with F:=fun b' o=>if b'=b then c[o]? else G.F b' o }
theorem b6v{w:World}{b o:Nat}{v:Value}(h:w.cell? ⟨b,o,none⟩=some v):b<w.heap.size:=World.block_lt_of_cell? w ⟨b,o,none⟩ h
section
variable {E : Env} {G : Gh} {heap : List VObj} {arr : List Nat} {w0 : Base} {w : World}
theorem RelW.F_new(h:RelW E G heap arr w0 w)(o:Nat):G.F w.heap.size o=none:=by
 cases hF:G.F w.heap.size o with
 | none=>rfl
 | some v=>have:=b6v (h.frz _ _ _ hF);omega
theorem RelW.extF(h:RelW E G heap arr w0 w)(c:Array Value):Ext G arr (G.freezeNew w.heap.size c) arr:=by
 refine⟨fun b o v hv=>?_,fun _ _ h=>h,fun _ n h=>⟨n,h,g9m _,fun _=>rfl⟩⟩
 simp only[Gh.freezeNew]
 by_cases e:b=w.heap.size
 ·subst e;rw[h.F_new]at hv;cases hv
 ·rw[if_neg e];exact hv
theorem b0Q(w:World)(o:Obj)(k:Nat):(w.alloc o).heap[k]? = if k=w.heap.size then some o else w.heap[k]?:=by
 show(w.heap.push o)[k]? = _
 rw[Array.getElem?_push]
theorem c2r.keep{P:Program}{G G':Gh}{arr arr':List Nat}{w w':World}{b:Nat}{ob:VObj}(hx:Ext G arr G' arr')(hb:w'.heap[b]? = w.heap[b]?)(h:c2r P G arr w b ob) :
  c2r P G' arr' w' b ob:=by
 cases ob with
 | cells cs =>
  obtain⟨c,e,h1,h2,h3⟩:=h
  exact⟨c,e,by rw[hb];exact h1,h2,fun j x hj=>(h3 j x hj).imp fun v hv=>⟨hv.1,hv.2.mono hx⟩⟩
 | map es =>
  obtain⟨m,clk,h1,h2,h3⟩:=h
  exact⟨m,clk,by rw[hb];exact h1,h2,fun j kx vx hj=>(h3 j kx vx hj).imp fun e he=>⟨he.1,he.2.1.mono hx,he.2.2.mono hx⟩⟩
 | siter s pos=>exact⟨by rw[hb];exact h.1,h.2⟩
 | dead=>trivial
 | vec k gen e cs=>trivial
 | builder t s =>
  obtain⟨p,v,h1,h2⟩:=h
  exact⟨p,v,by rw[hb];exact h1,h2⟩
 | tcells t cs =>
  obtain⟨c,h1,h2,h3⟩:=h
  exact⟨c,by rw[hb];exact h1,h2,fun j x hj=>(h3 j x hj).imp fun v hv=>⟨hv.1,hv.2.mono hx⟩⟩
theorem RelW.bldA(h:RelW E G heap arr w0 w){G':Gh}{w':World}(hw:∀ k,k<w.heap.size→w'.heap[k]? = w.heap[k]?)(hs:∀ g,g<w.heap.size→f3U G g→f3U G' g) :
  ∀ (id:Nat) t s b,heap[id]? = some (.builder t s)→G.φ[id]? = some b→Bld E G' w' t s b:=fun id t s b hi hb =>
 (h.bld id t s b hi hb).keep (hw b (h.geφ id b hb).2) fun g hg hsb=>⟨hw g hg,hs g hg hsb⟩
theorem RelW.vecB(h:RelW E G heap arr w0 w){k gen b hi j:Nat}(hρ:G.ρ[k]? = some (b,0,hi))(hj:j<hi):b<w.heap.size∧w0.w.heap.size≤b∧∀ id:Nat,G.φ[id]? = some b→∀ ob,heap[id]? = some ob→ob.loose=true:=by
 obtain⟨⟨c,e,h1,_⟩,h2,_,h4⟩:=h.reg k b 0 hi hρ (by omega)
 exact⟨(g9x.1 h1).1,h4,fun id hid ob hob=>VObj.loose_of (h2 id hid ob hob)⟩
theorem b2r{w w':World}{b j:Nat}(h:w'.heap[b]? = w.heap[b]?):w'.cell? ⟨b,j,none⟩=w.cell? ⟨b,j,none⟩:=by
 unfold World.cell?
 rw[h]
theorem RelW.vsK(h:RelW E G heap arr w0 w){G':Gh}{arr':List Nat}{w':World}{heap':List VObj}(hx:Ext G arr G' arr')
  (hh:∀ (id k gen:Nat) e cs,heap'[id]? = some (.vec k gen e cs)→heap[id]? = some (.vec k gen e cs))
  (ha:∀ (k gen:Nat),arr[k]? = some gen→18446744073709551616≤gen→arr'[k]? = some gen) (hw:∀ k,k<w.heap.size→w'.heap[k]? = w.heap[k]?):Vecs E.P G' heap' arr' w' :=
 h.vs.keep hx hh (fun k gen b hi h1 h2 _=>ha k gen h1 h2) fun k gen b hi j h1 h2 h3 hj=>b2r (hw b (h.vecB (gen:=gen) h3 hj).1)
theorem RelW.allocF(h:RelW E G heap arr w0 w)(c:Array Value)(e:TypeId)(h1:∀ (j:Nat) v,c[j]? = some v→v.oneCell'=true):RelW E (G.freezeNew w.heap.size c) heap arr w0 (w.alloc (.cells c e)):=by
 have hx:=h.extF c
 refine⟨fun b o v hv hlt=>h.newF b o v (by
   simp only[Gh.freezeNew]at hv
   rwa [if_neg (by have:=h.below.size;omega)]at hv) hlt,fun g cs hg=>⟨(h.glob g cs hg).1,(h.glob g cs hg).2.mono hx⟩,h.below.alloc h.below.size _,?_,fun b o v hv=>by
   simp only[Gh.freezeNew]at hv
   split at hv
   ·exact h1 _ _ hv
   ·exact h.one _ _ _ hv,?_,h.lenφ,h.nod,?_,?_,h.lenρ,?_,h.regd,h.fre,h.bldA (fun k hk=>by rw[b0Q,if_neg (by omega)]) fun g hg ⟨s1,s2,s3⟩=>⟨fun o=>by
    simp only[Gh.freezeNew];rw[if_neg (by omega)];exact s1 o,s2,s3⟩,h.ini,h.vsK hx (fun _ _ _ _ _ h=>h) (fun _ _ h _=>h) fun k hk=>by rw[b0Q,if_neg (by omega)]⟩
 ·intro b o v hv
  simp only[Gh.freezeNew]at hv
  by_cases eb:b=w.heap.size
  ·rw[if_pos eb]at hv;subst eb;rw[World.cell?_alloc_new];exact hv
  ·rw[if_neg eb]at hv
   rw[World.cell?_alloc_old _ _ _ eb];exact h.frz _ _ _ hv
 ·intro id ob hid
  obtain⟨b,hb,hr⟩:=h.obj id ob hid
  refine⟨b,hb,hr.keep hx ?_⟩
  rw[b0Q,if_neg (by have:=(h.geφ id b hb).2;omega)]
 ·intro id b o hb hd
  simp only[Gh.freezeNew]
  rw[if_neg (by have:=(h.geφ id b hb).2;omega)]
  exact h.sep id b o hb hd
 ·intro id b hb
  have:=h.geφ id b hb
  simp;omega
 ·intro k b lo hi hk hlt
  obtain⟨⟨c',e',h1,h2⟩,h3,h4,h5⟩:=h.reg k b lo hi hk hlt
  have hlt:b<w.heap.size:=(g9x.1 h1).1
  refine⟨⟨c',e',by rw[b0Q,if_neg (by omega)];exact h1,h2⟩,h3,fun o ho1 ho2=>?_,h5⟩
  simp only[Gh.freezeNew]
  rw[if_neg (by omega)]
  exact h4 o ho1 ho2
def Gh.newObj(G:Gh)(b:Nat):Gh:={ G with φ:=G.φ++[b] }
theorem Gh.ext_newObj(G:Gh)(arr:List Nat)(b:Nat):Ext G arr (G.newObj b) arr:=by
 refine⟨fun _ _ _ h=>h,fun id b' hb=>?_,fun _ n h=>⟨n,h,g9m _,fun _=>rfl⟩⟩
 simp only[Gh.newObj]
 rw[g9a (g8Y.1 hb).1];exact hb
theorem RelW.allocM(h:RelW E G heap arr w0 w)(o:Obj)(ob:VObj)(ho:c2r E.P G arr (w.alloc o) w.heap.size ob)
  (hbl:∀ t s,ob = .builder t s→Bld E (G.newObj w.heap.size) (w.alloc o) t s w.heap.size:=by intro _ _ h;cases h) (hnv:∀ k gen e cs,ob ≠ .vec k gen e cs:=by intro _ _ _ _ h;cases h) :
  RelW E (G.newObj w.heap.size) (heap++[ob]) arr w0 (w.alloc o):=by
 have hx:=G.ext_newObj arr w.heap.size
 have hget:∀ (id:Nat) b,(G.newObj w.heap.size).φ[id]? = some b→(id<heap.length∧G.φ[id]? = some b)∨(id=heap.length∧b=w.heap.size):=by
  intro id b hb
  simp only[Gh.newObj]at hb
  have hl:=h.lenφ
  rcases Nat.lt_trichotomy id heap.length with hid | hid | hid
  ·rw[g9a (by omega)]at hb;exact .inl ⟨hid,hb⟩
  ·subst hid;rw[g9c (by omega)]at hb;simp[hl]at hb;exact .inr ⟨rfl,hb.symm⟩
  ·rw[g9c (by omega)]at hb
   rw[g9K (by simp;omega)]at hb;cases hb
 refine⟨h.newF,fun g cs hg=>⟨(h.glob g cs hg).1,(h.glob g cs hg).2.mono hx⟩,h.below.alloc h.below.size _,?_,h.one,?_,?_,?_,?_,?_,h.lenρ,?_,h.regd,h.fre,?_,h.ini,h.vsK hx (fun id k gen e cs hi=>?_) (fun _ _ h _=>h) fun k hk=>by rw[b0Q,if_neg (by omega)]⟩
 rotate_right 1
 ·rcases Nat.lt_trichotomy id heap.length with hl | hl | hl
  ·rwa [g9a hl]at hi
  ·subst hl
   rw[g9c (g9m _)]at hi
   simp at hi
   exact absurd hi (hnv k gen e cs)
  ·rw[g9K (by simp;omega)]at hi;cases hi
 rotate_right 1
 ·intro id t s b hi hb
  rcases hget id b hb with⟨h1,h2⟩ | ⟨h1,h2⟩
  ·rw[g9a h1]at hi
   refine h.bldA (w':=w.alloc o) (G':=G.newObj w.heap.size) (fun k hk=>by rw[b0Q,if_neg (by omega)]) (fun g hg ⟨s1,s2,s3⟩=>⟨s1,fun i hi'=>?_,s3⟩) id t s b hi h2
   rcases hget i g hi' with⟨h3,h4⟩ | ⟨h3,h4⟩
   ·exact s2 i h4
   ·omega
  ·subst h1 h2
   rw[g9c (g9m _)]at hi
   simp at hi
   exact hbl t s hi
 ·intro b o' v hv
  rw[World.cell?_alloc_old _ _ _ (by have:=b6v (h.frz _ _ _ hv);simp;omega)]
  exact h.frz _ _ _ hv
 ·intro id ob' hid
  rcases Nat.lt_trichotomy id heap.length with hi | hi | hi
  ·rw[g9a hi]at hid
   obtain⟨b,hb,hr⟩:=h.obj id ob' hid
   refine⟨b,hx.φ _ _ hb,hr.keep hx ?_⟩
   rw[b0Q,if_neg (by have:=(h.geφ id b hb).2;omega)]
  ·subst hi
   rw[g9c (by omega)]at hid
   simp at hid
   subst hid
   refine⟨w.heap.size,?_,ho.keep hx rfl⟩
   simp[Gh.newObj,h.lenφ]
  ·rw[g9K (by simp;omega)]at hid;cases hid
 ·simp[Gh.newObj,h.lenφ]
 ·intro i j b hi hj
  rcases hget i b hi with⟨h1,h2⟩ | ⟨h1,h2⟩ <;> rcases hget j b hj with⟨h3,h4⟩ | ⟨h3,h4⟩
  ·exact h.nod i j b h2 h4
  ·have:=(h.geφ i b h2).2;omega
  ·have:=(h.geφ j b h4).2;omega
  ·omega
 ·intro id b o' hb hd
  rcases hget id b hb with⟨h1,h2⟩ | ⟨h1,h2⟩
  ·exact h.sep id b o' h2 (by rwa [g9a h1]at hd)
  ·subst h2;exact h.F_new o'
 ·intro id b hb
  have hs:=h.below.size
  rcases hget id b hb with⟨h1,h2⟩ | ⟨h1,h2⟩
  ·have:=h.geφ id b h2;simp;omega
  ·subst h2;simp;omega
 ·intro k b lo hi hk hlt
  obtain⟨⟨c',e',h1,h2⟩,h3,h4,h5⟩:=h.reg k b lo hi hk hlt
  have hlt:b<w.heap.size:=(g9x.1 h1).1
  refine⟨⟨c',e',by rw[b0Q,if_neg (by omega)];exact h1,h2⟩,fun id hid ob' hob=>?_,h4,h5⟩
  rcases hget id b hid with⟨h6,h7⟩ | ⟨h6,h7⟩
  ·rw[g9a h6]at hob
   exact h3 id h7 ob' hob
  ·omega
theorem RelW.drew(h:RelW E G heap arr w0 w)(n:Nat):RelW E G heap arr w0 { w with drawn:=n } :=
 ⟨h.newF,h.glob,⟨h.below.os,h.below.tape,h.below.output,h.below.size,h.below.block⟩,h.frz,h.one,fun id ob hid=>(h.obj id ob hid).imp fun b hb=>⟨hb.1,hb.2.keep (Ext.refl _ _) rfl⟩,
  h.lenφ,h.nod,h.sep,h.geφ,h.lenρ,h.reg,h.regd,h.fre,h.bldA (fun _ _=>rfl) (fun _ _ hs=>hs),h.ini,h.vsK (Ext.refl _ _) (fun _ _ _ _ _ h=>h) (fun _ _ h _=>h) fun _ _=>rfl⟩
theorem RelW.change(h:RelW E G heap arr w0 w){id b:Nat}(hb:G.φ[id]? = some b){w':World}{ob:VObj}(hid:id<heap.length)(hlive:heap[id]?≠some .dead)
  (hos:w'.os=w.os) (ht:w'.tape=w.tape) (ho:w'.output=w.output) (hsz:w'.heap.size=w.heap.size) (hk:∀ k,k≠b→w'.heap[k]? = w.heap[k]?)
  (hr:c2r E.P G arr w' b ob) (hbl:∀ t s,ob = .builder t s→Bld E G w' t s b:=by intro _ _ h;cases h) (hnv:∀ k gen e cs,ob ≠ .vec k gen e cs:=by intro _ _ _ _ h;cases h)
  (hnl:∀ k gen e cs,heap[id]?≠some (.vec k gen e cs):=by intro _ _ _ _ h;simp_all):RelW E G (heap.set id ob) arr w0 w':=by
 have hlo:∀ o,heap[id]? = some o→o.loose=true→False:=fun o ho hl=>by
  cases o <;> simp only[VObj.loose,g9n]at hl
  ·exact hlive ho
  ·exact hnl _ _ _ _ ho
 have hne:∀ c,(∀ i:Nat,G.φ[i]? = some c→∀ o,heap[i]? = some o→o.loose=true)→c≠b:=fun c hc e=>by
  subst e
  exact hlo _ (g9b hid) (hc id hb _ (g9b hid))
 refine⟨h.newF,h.glob,?_,?_,h.one,?_,by simp[h.lenφ],h.nod,fun i c o hc hd=>?_,fun i c hc=>by rw[hsz];exact h.geφ i c hc,h.lenρ,?_,h.regd,h.fre,?_,h.ini,
  h.vs.keep (Ext.refl _ _) (fun i k gen e cs hi=>?_) (fun _ _ _ _ h _ _=>h) fun k gen c hi j h1 h2 h3 hj=>b2r (hk c (hne c (h.vecB (gen:=gen) h3 hj).2.2))⟩
 rotate_right 1
 ·by_cases e1:i=id
  ·subst e1
   rw[g9e hid]at hi
   cases hi
   exact absurd rfl (hnv k gen e cs)
  ·rwa [g9i (Ne.symm e1)]at hi
 rotate_right 1
 ·intro i t s c hi hc
  by_cases e:i=id
  ·subst e
   rw[g9e hid]at hi
   cases hi
   rw[hb]at hc;cases hc
   exact hbl t s rfl
  ·rw[g9i (Ne.symm e)]at hi
   refine(h.bld i t s c hi hc).keep (hk c fun ec=>e (h.nod i id c hc (by rw[ec];exact hb))) fun g hg hs=>⟨hk g fun eg=>hs.2.1 id (by rw[eg];exact hb),hs⟩
 ·refine h.below.trans ⟨hos,ht,ho,by omega,fun k hkk=>hk k ?_⟩
  have:=(h.geφ id b hb).1;omega
 ·intro b' o v hv
  have hne:b'≠b:=fun e=>by subst e;rw[h.sep id b' o hb hlive]at hv;cases hv
  have:=h.frz _ _ _ hv
  unfold World.cell? at this ⊢
  rw[hk b' hne];exact this
 ·intro i ob' hi
  by_cases e:i=id
  ·subst e
   rw[g9e hid]at hi
   cases hi
   exact⟨b,hb,hr⟩
  ·rw[g9i (Ne.symm e)]at hi
   obtain⟨c,hc,hrc⟩:=h.obj i ob' hi
   refine⟨c,hc,hrc.keep (Ext.refl _ _) (hk c fun ec=>e ?_)⟩
   subst ec
   exact h.nod i id c hc hb
 ·by_cases e:i=id
  ·subst e;exact h.sep i c o hc hlive
  ·rw[g9i (Ne.symm e)]at hd
   exact h.sep i c o hc hd
 ·intro k b' lo hi hk' hlt
  obtain⟨⟨c',e',h1,h2⟩,h3,h4,h5⟩:=h.reg k b' lo hi hk' hlt
  refine⟨⟨c',e',by rw[hk b' (hne b' fun i hi o ho=>VObj.loose_of (h3 i hi o ho))];exact h1,h2⟩,fun i hi' o ho=>?_,h4,h5⟩
  by_cases e:i=id
  ·subst e
   exact absurd hi' (fun q=>hne b' (fun i hi o ho=>VObj.loose_of (h3 i hi o ho)) (by rw[hb]at q;exact(Option.some.inj q).symm))
  ·rw[g9i (Ne.symm e)]at ho
   exact h3 i hi' o ho
theorem RelW.hide(h:RelW E G heap arr w0 w):RelW E ⟨G.F,[],[]⟩ [] [] { w:=w,F:=G.F } w:=by
 refine⟨fun b o v hv _=>hv,fun g cs hg=>?_,Below.refl _ _,h.frz,h.one,by simp,rfl,by simp,by simp,by simp,rfl,by simp,by simp,by simp,by simp,E.iniM _ _ h.ini h.below,Vecs.nil⟩
 obtain⟨h1,h2⟩:=h.glob g cs hg
 exact⟨h1,h2.pure h1 _ _ fun _ _ _ h=>h⟩
theorem RelW.back(h:RelW E G heap arr w0 w){F':Nat→Nat→Option Value}{w':World}(hF:∀ b o v,G.F b o=some v→F' b o=some v)
  (hnew:∀ b o v,F' b o=some v→b<w.heap.size→G.F b o=some v) (hfrz:∀ b o v,F' b o=some v→w'.cell? ⟨b,o,none⟩=some v) (hone:∀ b o v,F' b o=some v→v.oneCell'=true) (hb:Below w.heap.size w w') :
  RelW E { G with F:=F' } heap arr w0 w'∧Ext G arr { G with F:=F' } arr:=by
 have hx:Ext G arr { G with F:=F' } arr:=⟨hF,fun _ _ h=>h,fun _ n h=>⟨n,h,g9m _,fun _=>rfl⟩⟩
 have hs:=h.below.size
 have hs':=hb.size
 have hnone:∀ g o,g<w.heap.size→G.F g o=none→F' g o=none:=fun g o hg hn=>by
  cases hF':F' g o with
  | none=>rfl
  | some v=>have:=hnew g o v hF' hg;rw[hn]at this;cases this
 refine⟨⟨fun b o v hv hlt=>h.newF b o v (hnew b o v hv (by omega)) hlt,fun g cs hg=>⟨(h.glob g cs hg).1,(h.glob g cs hg).2.mono hx⟩,h.below.trans (hb.mono hs),hfrz,hone,?_,h.lenφ,h.nod,?_,?_,h.lenρ,?_,h.regd,h.fre,h.bldA hb.block fun g hg ⟨s1,s2,s3⟩=>⟨fun o=>hnone g o hg (s1 o),s2,s3⟩,h.ini,h.vsK hx (fun _ _ _ _ _ h=>h) (fun _ _ h _=>h) hb.block⟩,hx⟩
 ·intro id ob hid
  obtain⟨b,hb',hr⟩:=h.obj id ob hid
  exact⟨b,hb',hr.keep hx (hb.block b (h.geφ id b hb').2)⟩
 ·intro id b o hb' hd
  cases hF':F' b o with
  | none=>exact hF'
  | some v=>have:=hnew b o v hF' (h.geφ id b hb').2;rw[h.sep id b o hb' hd]at this;cases this
 ·intro id b hb'
  have:=h.geφ id b hb'
  omega
 ·intro k b lo hi hk hlt
  obtain⟨⟨c',e',h1,h2⟩,h3,h4,h5⟩:=h.reg k b lo hi hk hlt
  have hlt:b<w.heap.size:=(g9x.1 h1).1
  refine⟨⟨c',e',by rw[hb.block b hlt];exact h1,h2⟩,h3,fun o ho1 ho2=>?_,h5⟩
  cases hF':F' b o with
  | none=>exact hF'
  | some v=>have:=hnew b o v hF' hlt;rw[h4 o ho1 ho2]at this;cases this
end
end Go.Vg
