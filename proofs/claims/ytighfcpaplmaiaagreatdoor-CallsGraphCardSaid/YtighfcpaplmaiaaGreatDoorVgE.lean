import Derived.Calls
import Derived.Orders
import Derived.Below
import Derived.Laws.World
import Derived.Laws.Sem
import Derived.Deep.AppendSrc
set_option linter.defProp false
def g9Y := @List.getElem?_cons_succ
def g9Z := @List.set_cons_succ
def h0a := @List.cons_append
def h0b := @List.getElem?_eq_some_iff
def h0c := @List.getD_eq_getElem?_getD
def h0e := @List.getElem?_append_left
def h0f := @List.getElem?_eq_getElem
def h0g := @List.getElem?_append_right
def h0h := @List.length_append
def h0i := @List.getElem?_set_self
def h0j := @List.mem_of_getElem?
def h0k := @Bool.and_eq_true
def h0l := @decide_eq_true_eq
def h0m := @List.getElem?_set_ne
def h0n := @Int.toNat_natCast
def h0o := @List.length_cons
def h0p := @Option.map_eq_some_iff
def h0q := @Nat.le_refl
def h0r := @Bool.false_eq_true
def h0s := @List.map_cons
def h0t := @Array.getElem?_eq_getElem
def h0u := @List.getElem?_map
def h0v := @List.length_map
def h0w := @Nat.zero_add
def h0x := @List.append_assoc
def h0y := @Option.isSome_none
def h0z := @decide_eq_false
def h0A := @Option.getD_some
def h0B := @Array.getElem?_eq_some_iff
def h0C := @List.mem_cons
def h0D := @Option.map_some
def h0E := @List.mem_append
def h0F := @List.append_nil
def h0G := @List.eq_nil_of_length_eq_zero
def h0H := @decide_eq_true
def h0I := @Option.isSome_iff_exists
def h0J := @List.length_nil
def h0K := @List.foldl_cons
def h0L := @Option.isSome_some
def h0M := @List.map_append
def h0N := @List.set_append_right
def h0O := @List.getElem?_eq_none
def h0P := @Nat.mul_le_mul_right
def h0Q := @List.nil_append
def h0R := @List.mem_singleton
def h0S := @Bool.true_and
def h0T := @List.map_nil
def h0U := @Bool.false_and
def h0V := @Nat.add_mul
def h0W := @List.find?_cons
def h0X := @Int.eq_ofNat_of_zero_le
def h0Y := @Bool.false_or
def h0Z := @List.mem_of_find?_eq_some
def h1a := @List.any_eq_true
def h1b := @List.flatten_cons
def h1d := @List.getElem?_drop
def h1e := @List.mem_append_left
def h1f := @Option.getD_none
def h1g := @Bool.and_true
def h1h := @List.getElem_of_mem
def h1i := @List.length_drop
def h1j := @List.mem_append_right
def h1k := @Bool.eq_iff_iff
def h1m := @Nat.add_zero
def h1n := @Nat.le_trans
def h1o := @List.length_filter_le
def h1p := @List.mem_map
def h1q := @decide_eq_false_iff_not
def h1r := @Option.map_none
def h1s := @Nat.add_assoc
def h1t := @List.nodup_cons
def h1u := @Bool.or_eq_true
def h1v := @List.nodup_append
def h1w := @Array.getD_eq_getD_getElem?
def h1x := @List.pairwise_cons
def h1y := @List.drop_drop
def h1z := @Array.getElem?_append_left
def h1A := @Nat.lt_or_ge
def h1B := @Bool.or_eq_false_iff
def h1C := @Array.getElem?_eq_none
def h1D := @Go.Result.andThen_ok
def h1E := @Go.Sem.run_bind
def h1F := @Go.Sem.run_pure
set_option linter.unusedVariables false
set_option linter.unusedSimpArgs false
namespace Go.Vg
open Go.RowKit
inductive Own where
 | shared | full | nil | arr (k:Nat)
 deriving DecidableEq
inductive V where
 | junk
 | bool (b:Bool)
 | int (k:IntKind) (n:Int)
 | str (s:ByteArray)
 | nilp
 | ptr (id off:Nat)
 | fptr (cs:List V)
 | slice (o:Own) (e:TypeId) (es:List (List V))
 | mslice (id off len cap:Nat) (e:TypeId)
 | nilmap
 | map (id:Nat)
 | nilfunc
 | func (f:FuncId) (caps:List V)
 | meth (f:FuncId) (xs:List V)
 | nilif
 | iface (t:TypeId) (v:V)
 | agg (cs:List V)
 | tuple (vs:List V)
 | vec (id k gen len:Nat) (e:TypeId)
 | vptr (id k gen off:Nat)
inductive VObj where
 | cells (cs:List V)
 | map (es:List (V×V))
 | siter (s:ByteArray) (pos:Nat)
 | dead
 | tcells (t:TypeId) (cs:List V)
 | builder (t:TypeId) (s:ByteArray)
 | vec (k gen:Nat) (e:TypeId) (cs:List V)
def VObj.loose:VObj→Bool
 | .dead | .vec .. => true
 | _=>false
def VObj.looseAt(k:Nat):VObj→Bool
 | .dead=>true
 | .vec k' .. => k' == k
 | _=>false
theorem VObj.loose_of{k:Nat}{o:VObj}(h:o.looseAt k=true):o.loose=true:=by
 cases o <;> simp only[VObj.looseAt,h0r]at h <;> rfl
def VObj.cs? : VObj→Option (List V)
 | .cells cs=>some cs
 | .tcells _ cs=>some cs
 | _=>none
def VObj.put(ob:VObj)(cs:List V):VObj:=match ob with
 | .tcells t _ => .tcells t cs
 | _ => .cells cs
structure Gh where
 F:Nat→Nat→Option Value
 φ:List Nat
 ρ:List (Nat×Nat×Nat)
def c3j(G:Gh)(arr:List Nat)(o:Own)(b off len cap s:Nat):Prop :=
 match o with
 | .shared=>True
 | .full=>cap=len
 | .nil=>False
 | .arr k=>∃ n,arr[k]? = some n∧len≤n∧(n=len→G.ρ[k]? = some (b,off+len * s,off+cap * s))
def c1w(arr:List Nat)(o:Own):Prop :=
 match o with
 | .arr k=>∃ n:Nat,arr[k]? = some n
 | _=>True
def d2I(G:Gh)(arr:List Nat)(k gen:Nat)(C:Nat→Nat→Prop):Prop:=∃ n,arr[k]? = some n∧gen≤n∧(n=gen→∃ b hi,G.ρ[k]? = some (b,0,hi)∧C b hi)
inductive RV(P:Program)(G:Gh)(arr:List Nat):V→Value→Prop
 | junk (v):RV P G arr .junk v
 | bool (b):RV P G arr (.bool b) (.bool b)
 | int (k n):RV P G arr (.int k n) (.int k n)
 | str (s):s.size≤1152921504606846976→RV P G arr (.str s) (.string s)
 | nilp:RV P G arr .nilp (.pointer none)
 | ptr (id off b):G.φ[id]? = some b→RV P G arr (.ptr id off) (.pointer (some ⟨b,off,none⟩))
 | fptr (cs b o):(∀ j,j<cs.length→∃ v,G.F b (o+j)=some v)→(∀ (j:Nat) c v,cs[j]? = some c→G.F b (o+j)=some v→RV P G arr c v) →
   RV P G arr (.fptr cs) (.pointer (some ⟨b,o,none⟩))
 | snil (o e):c1w arr o→RV P G arr (.slice o e []) (.slice none 0 0)
 | sodd (e a c):RV P G arr (.slice .shared e []) (.slice a 0 c)
 | slice (o e es b off cap):c3j G arr o b off es.length cap (P.cellsOf e) →
   (∀ (i:Nat) el,es[i]? = some el→el.length=P.cellsOf e)→es.length * P.bytesOf e≤140737488355328→es.length≤140737488355328 →
   es.length≤cap →
   (∀ (i:Nat) el (j:Nat),es[i]? = some el→j<el.length→∃ v,G.F b (off+(i * P.cellsOf e+j))=some v) →
   (∀ (i:Nat) el (j:Nat) c v,es[i]? = some el→el[j]? = some c→G.F b (off+(i * P.cellsOf e+j))=some v→RV P G arr c v) →
   RV P G arr (.slice o e es) (.slice (some ⟨b,off,none⟩) es.length cap)
 | mslice (id off len cap e b):G.φ[id]? = some b→len≤140737488355328→len≤cap→len * P.bytesOf e≤140737488355328 →
   RV P G arr (.mslice id off len cap e) (.slice (some ⟨b,off,none⟩) len cap)
 | nilmap:RV P G arr .nilmap (.map none)
 | map (id b):G.φ[id]? = some b→RV P G arr (.map id) (.map (some b))
 | nilfunc:RV P G arr .nilfunc .nilFunc
 | func (f caps cs):caps.length=cs.size→(∀ (j:Nat) c v,caps[j]? = some c→cs[j]? = some v→RV P G arr c v) →
   RV P G arr (.func f caps) (.func (.func f) #[] cs)
 | meth (f xs vs):xs.length=vs.size→(∀ (j:Nat) c v,xs[j]? = some c→vs[j]? = some v→RV P G arr c v) →
   RV P G arr (.meth f xs) (.func (.func f) vs #[])
 | nilif:RV P G arr .nilif .nilIface
 | iface (t x v):RV P G arr x v→RV P G arr (.iface t x) (.iface t v)
 | agg (cs vs):cs.length=vs.size→(∀ (j:Nat) c v,cs[j]? = some c→vs[j]? = some v→RV P G arr c v) →
   RV P G arr (.agg cs) (.agg vs)
 | tuple (cs vs):cs.length=vs.size→(∀ (j:Nat) c v,cs[j]? = some c→vs[j]? = some v→RV P G arr c v) →
   RV P G arr (.tuple cs) (.tuple vs)
 | vec (id k gen len e b o cap):d2I G arr k gen (fun b' hi=>hi=cap * P.cellsOf e∧len≤cap∧b'=b∧o=0)→len≤140737488355328→len * P.bytesOf e≤140737488355328 →
   RV P G arr (.vec id k gen len e) (.slice (some ⟨b,o,none⟩) len cap)
 | vptr (id k gen off b o):d2I G arr k gen (fun b' _=>b'=b∧o=off)→RV P G arr (.vptr id k gen off) (.pointer (some ⟨b,o,none⟩))
structure Ext(G:Gh)(arr:List Nat)(G':Gh)(arr':List Nat):Prop where
 F:∀ b o v,G.F b o=some v→G'.F b o=some v
 φ:∀ (id:Nat) b,G.φ[id]? = some b→G'.φ[id]? = some b
 ρ:∀ (k:Nat) n,arr[k]? = some n→∃ n',arr'[k]? = some n'∧n≤n'∧(n'=n→G'.ρ[k]? = G.ρ[k]?)
theorem Ext.refl(G:Gh)(arr:List Nat):Ext G arr G arr :=
 ⟨fun _ _ _ h=>h,fun _ _ h=>h,fun _ n h=>⟨n,h,h0q _,fun _=>rfl⟩⟩
theorem Ext.trans{G G' G'':Gh}{arr arr' arr'':List Nat}(h:Ext G arr G' arr')(h':Ext G' arr' G'' arr''):Ext G arr G'' arr'':=by
 refine⟨fun b o v hv=>h'.F _ _ _ (h.F _ _ _ hv),fun id b hb=>h'.φ _ _ (h.φ _ _ hb),fun k n hn=>?_⟩;obtain⟨n1,h1,h2,h3⟩:=h.ρ k n hn;obtain⟨n2,h4,h5,h6⟩:=h'.ρ k n1 h1;refine⟨n2,h4,h1n h2 h5,fun e=>?_⟩;have e1:n1=n:=by omega
 have e2:n2=n1:=by omega
 rw[h6 e2,h3 e1]
theorem c3j.mono{G G':Gh}{arr arr':List Nat}(h:Ext G arr G' arr'){o:Own}{b off len cap s:Nat}(ho:c3j G arr o b off len cap s) :
  c3j G' arr' o b off len cap s:=by
 cases o with
 | shared=>trivial
 | full=>exact ho
 | nil=>exact ho
 | arr k =>
  obtain⟨n,h1,h2,h3⟩:=ho;obtain⟨n',h4,h5,h6⟩:=h.ρ k n h1;refine⟨n',h4,h1n h2 h5,fun e=>?_⟩;have:n=len:=by omega
  rw[h6 (by omega),h3 this]
theorem c1w.mono{G G':Gh}{arr arr':List Nat}(h:Ext G arr G' arr'){o:Own}(ho:c1w arr o):c1w arr' o:=by
 cases o with
 | arr k =>
  obtain⟨n,h1⟩:=ho;obtain⟨n',h4,_⟩:=h.ρ k n h1;exact⟨n',h4⟩
 | _=>trivial
theorem d2I.mono{G G':Gh}{arr arr':List Nat}(h:Ext G arr G' arr'){k gen:Nat}{C:Nat→Nat→Prop}(hv:d2I G arr k gen C):d2I G' arr' k gen C:=by
 obtain⟨n,h1,h2,h3⟩:=hv;obtain⟨n',h4,h5,h6⟩:=h.ρ k n h1;refine⟨n',h4,h1n h2 h5,fun e=>?_⟩;have:n'=n:=by omega
 rw[h6 this];exact h3 (by omega)
theorem RV.mono{P:Program}{G G':Gh}{arr arr':List Nat}(h:Ext G arr G' arr'){x:V}{v:Value}(hx:RV P G arr x v):RV P G' arr' x v:=by
 induction hx with
 | junk v=>exact .junk v
 | bool b=>exact .bool b
 | int k n=>exact .int k n
 | str s hs=>exact .str s hs
 | nilp=>exact .nilp
 | ptr id off b hb=>exact .ptr id off b (h.φ _ _ hb)
 | fptr cs b o hd _ ih =>
  refine .fptr cs b o (fun j hj=>(hd j hj).imp fun v hv=>h.F _ _ _ hv) fun j c v hc hv=>?_
  obtain⟨u,hu⟩:=hd j (h0b.1 hc).1;have:=h.F _ _ _ hu;rw[hv]at this;exact ih j c v hc (by rw[hu,this])
 | snil o e ho=>exact .snil o e (ho.mono h)
 | sodd e a c=>exact .sodd e a c
 | slice o e es b off cap ho h1 h2 h3 h4 hd _ ih =>
  refine .slice o e es b off cap (ho.mono h) h1 h2 h3 h4 (fun i el j hi hj=>(hd i el j hi hj).imp fun v hv=>h.F _ _ _ hv) fun i el j c v hi hj hv=>?_
  obtain⟨u,hu⟩:=hd i el j hi (h0b.1 hj).1;have:=h.F _ _ _ hu;rw[hv]at this;exact ih i el j c v hi hj (by rw[hu,this])
 | mslice id off len cap e b hb h1 h2 h3=>exact .mslice id off len cap e b (h.φ _ _ hb) h1 h2 h3
 | nilmap=>exact .nilmap
 | map id b hb=>exact .map id b (h.φ _ _ hb)
 | nilfunc=>exact .nilfunc
 | func f caps cs hl _ ih=>exact .func f caps cs hl ih
 | meth f xs vs hl _ ih=>exact .meth f xs vs hl ih
 | nilif=>exact .nilif
 | iface t x v _ ih=>exact .iface t x v ih
 | agg cs vs hl _ ih=>exact .agg cs vs hl ih
 | tuple cs vs hl _ ih=>exact .tuple cs vs hl ih
 | vec id k gen len e b o cap hv h1 h2=>exact .vec id k gen len e b o cap (hv.mono h) h1 h2
 | vptr id k gen off b o hv=>exact .vptr id k gen off b o (hv.mono h)
def Own.plain:Own→Bool
 | .arr _=>false
 | _=>true
mutual
def V.pure:V→Bool
 | .ptr .. | .mslice .. | .map _ | .vec .. | .vptr .. => false
 | .fptr cs=>b0Y cs
 | .slice o _ es=>o.plain && b0P es
 | .func _ cs=>b0Y cs
 | .meth _ cs=>b0Y cs
 | .iface _ v=>v.pure
 | .agg cs=>b0Y cs
 | .tuple cs=>b0Y cs
 | _=>true
def b0Y:List V→Bool
 | []=>true
 | x::r=>x.pure && b0Y r
def b0P:List (List V)→Bool
 | []=>true
 | x::r=>b0Y x && b0P r
end
theorem b2Y{cs:List V}(h:b0Y cs=true):∀ (j:Nat) c,cs[j]? = some c→c.pure=true:=by
 induction cs with
 | nil=>intro j c hc;simp at hc
 | cons x r ih =>
  simp only[b0Y,h0k]at h;intro j c hc;cases j with
  | zero=>simp at hc;exact hc ▸ h.1
  | succ j=>exact ih h.2 j c (by simpa using hc)
theorem c8L{cs:List (List V)}(h:b0P cs=true):∀ (j:Nat) c,cs[j]? = some c→b0Y c=true:=by
 induction cs with
 | nil=>intro j c hc;simp at hc
 | cons x r ih =>
  simp only[b0P,h0k]at h;intro j c hc;cases j with
  | zero=>simp at hc;exact hc ▸ h.1
  | succ j=>exact ih h.2 j c (by simpa using hc)
theorem RV.pure{P:Program}{G:Gh}{arr:List Nat}{x:V}{v:Value}(hx:RV P G arr x v):x.pure=true→∀ (G':Gh) (arr':List Nat),
  (∀ b o u,G.F b o=some u→G'.F b o=some u)→RV P G' arr' x v:=by
 induction hx with
 | junk v=>intro _ G' arr' _;exact .junk v
 | bool b=>intro _ G' arr' _;exact .bool b
 | int k n=>intro _ G' arr' _;exact .int k n
 | str s hs=>intro _ G' arr' _;exact .str s hs
 | nilp=>intro _ G' arr' _;exact .nilp
 | ptr id off b hb=>intro h;simp[V.pure]at h
 | fptr cs b o hd _ ih =>
  intro h G' arr' hF;simp only[V.pure]at h;refine .fptr cs b o (fun j hj=>(hd j hj).imp fun v hv=>hF _ _ _ hv) fun j c v hc hv=>?_
  obtain⟨u,hu⟩:=hd j (h0b.1 hc).1;have:=hF _ _ _ hu;rw[hv]at this;exact ih j c v hc (by rw[hu,this]) (b2Y h j c hc) G' arr' hF
 | sodd e a c=>intro _ G' arr' _;exact .sodd e a c
 | snil o e ho =>
  intro h G' arr' hF;refine .snil o e ?_;simp only[V.pure,h0k]at h;cases o <;> simp_all [Own.plain,c1w]
 | slice o e es b off cap ho h1 h2 h3 h4 hd _ ih =>
  intro h G' arr' hF;simp only[V.pure,h0k]at h;refine .slice o e es b off cap ?_ h1 h2 h3 h4 (fun i el j hi hj=>(hd i el j hi hj).imp fun v hv=>hF _ _ _ hv) fun i el j c v hi hj hv=>?_
  ·have:=h.1;cases o <;> simp_all [Own.plain,c3j]
  ·obtain⟨u,hu⟩:=hd i el j hi (h0b.1 hj).1;have:=hF _ _ _ hu;rw[hv]at this;exact ih i el j c v hi hj (by rw[hu,this]) (b2Y (c8L h.2 i el hi) j c hj) G' arr' hF
 | mslice id off len cap e b hb h1 h2 h3=>intro h;simp[V.pure]at h
 | nilmap=>intro _ G' arr' _;exact .nilmap
 | map id b hb=>intro h;simp[V.pure]at h
 | nilfunc=>intro _ G' arr' _;exact .nilfunc
 | func f caps cs hl _ ih =>
  intro h G' arr' hF;simp only[V.pure]at h;exact .func f caps cs hl fun j c v hj hv=>ih j c v hj hv (b2Y h j c hj) G' arr' hF
 | meth f xs vs hl _ ih =>
  intro h G' arr' hF;simp only[V.pure]at h;exact .meth f xs vs hl fun j c v hj hv=>ih j c v hj hv (b2Y h j c hj) G' arr' hF
 | nilif=>intro _ G' arr' _;exact .nilif
 | iface t x v _ ih=>intro h G' arr' hF;simp only[V.pure]at h;exact .iface t x v (ih h G' arr' hF)
 | agg cs vs hl _ ih =>
  intro h G' arr' hF;simp only[V.pure]at h;exact .agg cs vs hl fun j c v hj hv=>ih j c v hj hv (b2Y h j c hj) G' arr' hF
 | vec id k gen len e b o cap hv h1 h2=>intro h;simp[V.pure]at h
 | vptr id k gen off b o hv=>intro h;simp[V.pure]at h
 | tuple cs vs hl _ ih =>
  intro h G' arr' hF;simp only[V.pure]at h;exact .tuple cs vs hl fun j c v hj hv=>ih j c v hj hv (b2Y h j c hj) G' arr' hF
structure Env where
 P:Program
 gl:Nat→Option (List V)
 tag:TypeId→Bool:=fun _=>false
 byteT:TypeId:=0
 ini:World→Prop:=fun _=>True
 iniM:∀ w w':World,ini w→Below w.heap.size w w'→ini w':=by exact fun _ _ h _=>h
 die:List VObj→List Nat→Prop:=fun _ _=>False
 vecT:TypeId→Bool:=fun _=>false
def Env.alive(E:Env):Env:={ E with die:=fun _ _=>False }
def c3s(P:Program)(G:Gh)(arr:List Nat)(w:World)(b:Nat):VObj→Prop
 | .cells cs=>∃ c e,w.heap[b]? = some (.cells c e (0,0))∧c.size=cs.length∧∀ (j:Nat) x,cs[j]? = some x→∃ v,c[j]? = some v∧RV P G arr x v
 | .map es=>∃ m clk,w.heap[b]? = some (.map m clk)∧m.size=es.length ∧
   ∀ (j:Nat) kx vx,es[j]? = some (kx,vx)→∃ e:MapEntry,m[j]? = some e∧RV P G arr kx e.key∧RV P G arr vx e.val
 | .siter s pos=>w.heap[b]? = some (.stringIter s pos)∧s.size≤1152921504606846976
 | .dead=>True
 | .vec .. => True
 | .builder t _=>∃ p v,w.heap[b]? = some (.cells #[p,v] t (0,0))∧(p = .pointer none∨p = .pointer (some ⟨b,0,none⟩))
 | .tcells t cs=>∃ c,w.heap[b]? = some (.cells c t (0,0))∧c.size=cs.length∧∀ (j:Nat) x,cs[j]? = some x→∃ v,c[j]? = some v∧RV P G arr x v
theorem c3s.un{P:Program}{G:Gh}{arr:List Nat}{w:World}{b:Nat}{ob:VObj}{cs:List V}(h:c3s P G arr w b ob)(hc:ob.cs? = some cs) :
  ∃ c e,w.heap[b]? = some (.cells c e (0,0))∧c.size=cs.length∧(∀ (j:Nat) x,cs[j]? = some x→∃ v,c[j]? = some v∧RV P G arr x v) ∧
   ∀ (w':World) c' cs',w'.heap[b]? = some (.cells c' e (0,0))→c'.size=cs'.length→(∀ (j:Nat) x,cs'[j]? = some x→∃ v,c'[j]? = some v∧RV P G arr x v)→c3s P G arr w' b (ob.put cs'):=by
 cases ob <;> simp only[VObj.cs?,Option.some.injEq,reduceCtorEq]at hc
 ·subst hc;obtain⟨c,e,h1,h2,h3⟩:=h;exact⟨c,e,h1,h2,h3,fun w' c' cs' g1 g2 g3=>⟨c',e,g1,g2,g3⟩⟩
 ·subst hc;obtain⟨c,h1,h2,h3⟩:=h;exact⟨c,_,h1,h2,h3,fun w' c' cs' g1 g2 g3=>⟨c',g1,g2,g3⟩⟩
def f4S(G:Gh)(g:Nat):Prop:=(∀ o,G.F g o=none)∧(∀ i:Nat,G.φ[i]?≠some g)∧∀ (k lo hi:Nat),G.ρ[k]? = some (g,lo,hi)→hi≤lo
def Bld(E:Env)(G:Gh)(w:World)(t:TypeId)(s:ByteArray)(b:Nat):Prop:=∃ p v,w.heap[b]? = some (.cells #[p,v] t (0,0)) ∧
 ((v = .slice none 0 0∧s.size=0)∨∃ g cap cur,v = .slice (some ⟨g,0,none⟩) s.size cap∧b<g∧w.heap[g]? = some (.cells cur E.byteT (0,0))∧s.size≤cap∧cap≤maxLen∧cur.size=cap ∧
  cur.toList.take s.size=byteCells s∧f4S G g)
theorem Bld.keep{E:Env}{G G':Gh}{w w':World}{t:TypeId}{s:ByteArray}{b:Nat}(h:Bld E G w t s b)(hb:w'.heap[b]? = w.heap[b]?)
  (hg:∀ g,g<w.heap.size→f4S G g→w'.heap[g]? = w.heap[g]?∧f4S G' g):Bld E G' w' t s b:=by
 obtain⟨p,v,h1,h2⟩:=h;refine⟨p,v,by rw[hb];exact h1,h2.imp id fun⟨g,cap,cur,g1,g2,g3,g4,g5,g6,g7,g8⟩=>?_⟩;have hlt:g<w.heap.size:=(h0B.1 g3).1;obtain⟨q1,q2⟩:=hg g hlt g8;exact⟨g,cap,cur,g1,g2,by rw[q1];exact g3,g4,g5,g6,g7,q2⟩
def g1z(P:Program)(G:Gh)(arr:List Nat)(w:World)(k gen:Nat)(e:TypeId)(cs:List V):Prop :=
 arr[k]? = some gen∧18446744073709551616≤gen∧∃ b hi,G.ρ[k]? = some (b,0,hi)∧cs.length≤hi∧∀ (j:Nat) x,cs[j]? = some x→∃ v,w.cell? ⟨b,j,none⟩=some v∧RV P G arr x v∧v.oneCell'=true
structure Vecs(P:Program)(G:Gh)(heap:List VObj)(arr:List Nat)(w:World):Prop where
 at_:∀ (id k gen:Nat) e cs,heap[id]? = some (.vec k gen e cs)→g1z P G arr w k gen e cs
 uni:∀ (id id' k g g':Nat) e e' cs cs',heap[id]? = some (.vec k g e cs)→heap[id']? = some (.vec k g' e' cs')→id=id'
theorem Vecs.nil{P:Program}{G:Gh}{arr:List Nat}{w:World}:Vecs P G [] arr w:=⟨fun _ _ _ _ _ h=>by simp at h,fun _ _ _ _ _ _ _ _ _ h=>by simp at h⟩
theorem Vecs.keep{P:Program}{G G':Gh}{heap heap':List VObj}{arr arr':List Nat}{w w':World}(h:Vecs P G heap arr w)(hx:Ext G arr G' arr')
  (hh:∀ (id k gen:Nat) e cs,heap'[id]? = some (.vec k gen e cs)→heap[id]? = some (.vec k gen e cs))
  (hs:∀ (k gen b hi:Nat),arr[k]? = some gen→18446744073709551616≤gen→G.ρ[k]? = some (b,0,hi)→arr'[k]? = some gen)
  (hw:∀ (k gen b hi j:Nat),arr[k]? = some gen→18446744073709551616≤gen→G.ρ[k]? = some (b,0,hi)→j<hi→w'.cell? ⟨b,j,none⟩=w.cell? ⟨b,j,none⟩):Vecs P G' heap' arr' w':=by
 refine⟨fun id k gen e cs hi=>?_,fun id id' k g g' e e' cs cs' h1 h2=>h.uni id id' k g g' e e' cs cs' (hh _ _ _ _ _ h1) (hh _ _ _ _ _ h2)⟩;obtain⟨h1,h2,b,hi',h3,h4,h5⟩:=h.at_ id k gen e cs (hh _ _ _ _ _ hi);have ha:=hs k gen b hi' h1 h2 h3;obtain⟨n',q1,q2,q3⟩:=hx.ρ k gen h1;rw[ha]at q1;cases q1
 refine⟨ha,h2,b,hi',by rw[q3 rfl];exact h3,h4,fun j x hj=>?_⟩;obtain⟨v,hv,hr,ho⟩:=h5 j x hj;exact⟨v,by rw[hw k gen b hi' j h1 h2 h3 (Nat.lt_of_lt_of_le (h0b.1 hj).1 h4)];exact hv,hr.mono hx,ho⟩
structure Base where
 w:World
 F:Nat→Nat→Option Value
 dfs:List Deferred:=[]
structure RelW(E:Env)(G:Gh)(heap:List VObj)(arr:List Nat)(w0:Base)(w:World):Prop where
 newF:∀ b o v,G.F b o=some v→b<w0.w.heap.size→w0.F b o=some v
 glob:∀ g cs,E.gl g=some cs→b0Y cs=true∧RV E.P G arr (.fptr cs) (.pointer (some ⟨g,0,none⟩))
 below:Below w0.w.heap.size w0.w w
 frz:∀ b o v,G.F b o=some v→w.cell? ⟨b,o,none⟩=some v
 one:∀ b o v,G.F b o=some v→v.oneCell'=true
 obj:∀ (id:Nat) ob,heap[id]? = some ob→∃ b,G.φ[id]? = some b∧c3s E.P G arr w b ob
 lenφ:G.φ.length=heap.length
 nod:∀ (i j:Nat) b,G.φ[i]? = some b→G.φ[j]? = some b→i=j
 sep:∀ (id:Nat) b o,G.φ[id]? = some b→heap[id]?≠some .dead→G.F b o=none
 geφ:∀ (id:Nat) b,G.φ[id]? = some b→w0.w.heap.size≤b∧b<w.heap.size
 lenρ:G.ρ.length=arr.length
 reg:∀ (k b lo hi:Nat),G.ρ[k]? = some (b,lo,hi)→lo<hi →
  (∃ c e,w.heap[b]? = some (.cells c e (0,0))∧hi≤c.size)∧(∀ id:Nat,G.φ[id]? = some b→∀ ob,heap[id]? = some ob→ob.looseAt k=true)∧(∀ o,lo≤o→o<hi→G.F b o=none)∧w0.w.heap.size≤b
 regd:∀ (k k' b lo hi lo' hi':Nat),k≠k'→G.ρ[k]? = some (b,lo,hi)→G.ρ[k']? = some (b,lo',hi')→lo<hi→lo'<hi'→hi≤lo'∨hi'≤lo
 fre:∀ (k b lo hi:Nat),G.ρ[k]? = some (b,lo,hi)→w0.w.heap.size≤b∨(b=0∧lo=0∧hi=0)
 bld:∀ (id:Nat) t s b,heap[id]? = some (.builder t s)→G.φ[id]? = some b→Bld E G w t s b
 ini:E.ini w0.w
 vs:Vecs E.P G heap arr w
def b1Z:List (Nat×V)→Nat→V
 | [],_ => .junk
 | (j,x)::r,i=>if i=j then x else b1Z r i
structure St where
 tmps:List (Nat×V)
 heap:List VObj
 arr:List Nat
def St.put(s:St)(d:Option Nat)(x:V):St :=
 match d with
 | some d=>{ s with tmps:=(d,x)::s.tmps }
 | none=>s
@[simp] theorem St.put_arr(s:St)(d:Option Nat)(x:V):(s.put d x).arr=s.arr:=by cases d <;> rfl
structure RelT(P:Program)(G:Gh)(arr:List Nat)(tmps:List (Nat×V))(n:Nat)(a:Act):Prop where
 tm:∀ i:Nat,RV P G arr (b1Z tmps i) (a.tmps.getD i undef)
 sz:a.tmps.size=n
theorem RelT.mono{P:Program}{G G':Gh}{arr arr':List Nat}{tmps:List (Nat×V)}{n:Nat}{a:Act}(h:Ext G arr G' arr')(hr:RelT P G arr tmps n a) :
  RelT P G' arr' tmps n a:=⟨fun i=>(hr.tm i).mono h,hr.sz⟩
theorem RelT.put{P:Program}{G:Gh}{arr:List Nat}{tmps:List (Nat×V)}{n:Nat}{a:Act}(hr:RelT P G arr tmps n a){d:Nat}(hd:d<n){x:V}{v:Value}
  (hx:RV P G arr x v):RelT P G arr ((d,x)::tmps) n (a.put (some d) v):=by
 refine⟨fun i=>?_,by simp[Act.put,hr.sz]⟩;simp only[b1Z,Act.put];have hs:=hr.sz;by_cases hi:i=d
 ·subst hi;rw[if_pos rfl];have:(a.tmps.setIfInBounds i v).getD i undef=v:=by
   simp[h1w,hs,hd]
  rw[this];exact hx
 ·rw[if_neg hi];have:(a.tmps.setIfInBounds d v).getD i undef=a.tmps.getD i undef:=by
   simp[h1w,Ne.symm hi]
  rw[this];exact hr.tm i
end Go.Vg
namespace Go.Vg
open Go.RowKit
def Gh.freezeNew(G:Gh)(b:Nat)(c:Array Value):Gh:={ G with F:=fun b' o=>if b'=b then c[o]? else G.F b' o }
theorem b6L{w:World}{b o:Nat}{v:Value}(h:w.cell? ⟨b,o,none⟩=some v):b<w.heap.size:=World.block_lt_of_cell? w ⟨b,o,none⟩ h
section
variable {E : Env} {G : Gh} {heap : List VObj} {arr : List Nat} {w0 : Base} {w : World}
theorem RelW.F_new(h:RelW E G heap arr w0 w)(o:Nat):G.F w.heap.size o=none:=by
 cases hF:G.F w.heap.size o with
 | none=>rfl
 | some v=>have:=b6L (h.frz _ _ _ hF);omega
theorem RelW.extF(h:RelW E G heap arr w0 w)(c:Array Value):Ext G arr (G.freezeNew w.heap.size c) arr:=by
 refine⟨fun b o v hv=>?_,fun _ _ h=>h,fun _ n h=>⟨n,h,h0q _,fun _=>rfl⟩⟩;simp only[Gh.freezeNew];by_cases e:b=w.heap.size
 ·subst e;rw[h.F_new]at hv;cases hv
 ·rw[if_neg e];exact hv
theorem b0N(w:World)(o:Obj)(k:Nat):(w.alloc o).heap[k]? = if k=w.heap.size then some o else w.heap[k]?:=by
 show(w.heap.push o)[k]? = _;rw[Array.getElem?_push]
theorem c3s.keep{P:Program}{G G':Gh}{arr arr':List Nat}{w w':World}{b:Nat}{ob:VObj}(hx:Ext G arr G' arr')(hb:w'.heap[b]? = w.heap[b]?)(h:c3s P G arr w b ob) :
  c3s P G' arr' w' b ob:=by
 cases ob with
 | cells cs =>
  obtain⟨c,e,h1,h2,h3⟩:=h;exact⟨c,e,by rw[hb];exact h1,h2,fun j x hj=>(h3 j x hj).imp fun v hv=>⟨hv.1,hv.2.mono hx⟩⟩
 | map es =>
  obtain⟨m,clk,h1,h2,h3⟩:=h;exact⟨m,clk,by rw[hb];exact h1,h2,fun j kx vx hj=>(h3 j kx vx hj).imp fun e he=>⟨he.1,he.2.1.mono hx,he.2.2.mono hx⟩⟩
 | siter s pos=>exact⟨by rw[hb];exact h.1,h.2⟩
 | dead=>trivial
 | vec k gen e cs=>trivial
 | builder t s =>
  obtain⟨p,v,h1,h2⟩:=h;exact⟨p,v,by rw[hb];exact h1,h2⟩
 | tcells t cs =>
  obtain⟨c,h1,h2,h3⟩:=h;exact⟨c,by rw[hb];exact h1,h2,fun j x hj=>(h3 j x hj).imp fun v hv=>⟨hv.1,hv.2.mono hx⟩⟩
theorem RelW.bldA(h:RelW E G heap arr w0 w){G':Gh}{w':World}(hw:∀ k,k<w.heap.size→w'.heap[k]? = w.heap[k]?)(hs:∀ g,g<w.heap.size→f4S G g→f4S G' g) :
  ∀ (id:Nat) t s b,heap[id]? = some (.builder t s)→G.φ[id]? = some b→Bld E G' w' t s b:=fun id t s b hi hb =>
 (h.bld id t s b hi hb).keep (hw b (h.geφ id b hb).2) fun g hg hsb=>⟨hw g hg,hs g hg hsb⟩
theorem RelW.vecB(h:RelW E G heap arr w0 w){k gen b hi j:Nat}(hρ:G.ρ[k]? = some (b,0,hi))(hj:j<hi):b<w.heap.size∧w0.w.heap.size≤b∧∀ id:Nat,G.φ[id]? = some b→∀ ob,heap[id]? = some ob→ob.loose=true:=by
 obtain⟨⟨c,e,h1,_⟩,h2,_,h4⟩:=h.reg k b 0 hi hρ (by omega);exact⟨(h0B.1 h1).1,h4,fun id hid ob hob=>VObj.loose_of (h2 id hid ob hob)⟩
theorem b2y{w w':World}{b j:Nat}(h:w'.heap[b]? = w.heap[b]?):w'.cell? ⟨b,j,none⟩=w.cell? ⟨b,j,none⟩:=by
 unfold World.cell?;rw[h]
theorem RelW.vsK(h:RelW E G heap arr w0 w){G':Gh}{arr':List Nat}{w':World}{heap':List VObj}(hx:Ext G arr G' arr')
  (hh:∀ (id k gen:Nat) e cs,heap'[id]? = some (.vec k gen e cs)→heap[id]? = some (.vec k gen e cs))
  (ha:∀ (k gen:Nat),arr[k]? = some gen→18446744073709551616≤gen→arr'[k]? = some gen) (hw:∀ k,k<w.heap.size→w'.heap[k]? = w.heap[k]?):Vecs E.P G' heap' arr' w' :=
 h.vs.keep hx hh (fun k gen b hi h1 h2 _=>ha k gen h1 h2) fun k gen b hi j h1 h2 h3 hj=>b2y (hw b (h.vecB (gen:=gen) h3 hj).1)
theorem RelW.allocF(h:RelW E G heap arr w0 w)(c:Array Value)(e:TypeId)(h1:∀ (j:Nat) v,c[j]? = some v→v.oneCell'=true):RelW E (G.freezeNew w.heap.size c) heap arr w0 (w.alloc (.cells c e)):=by
 have hx:=h.extF c;refine⟨fun b o v hv hlt=>h.newF b o v (by
   simp only[Gh.freezeNew]at hv
   rwa [if_neg (by have:=h.below.size;omega)]at hv) hlt,fun g cs hg=>⟨(h.glob g cs hg).1,(h.glob g cs hg).2.mono hx⟩,h.below.alloc h.below.size _,?_,fun b o v hv=>by
   simp only[Gh.freezeNew]at hv;split at hv
   ·exact h1 _ _ hv
   ·exact h.one _ _ _ hv,?_,h.lenφ,h.nod,?_,?_,h.lenρ,?_,h.regd,h.fre,h.bldA (fun k hk=>by rw[b0N,if_neg (by omega)]) fun g hg ⟨s1,s2,s3⟩=>⟨fun o=>by
    simp only[Gh.freezeNew];rw[if_neg (by omega)];exact s1 o,s2,s3⟩,h.ini,h.vsK hx (fun _ _ _ _ _ h=>h) (fun _ _ h _=>h) fun k hk=>by rw[b0N,if_neg (by omega)]⟩
 ·intro b o v hv;simp only[Gh.freezeNew]at hv;by_cases eb:b=w.heap.size
  ·rw[if_pos eb]at hv;subst eb;rw[World.cell?_alloc_new];exact hv
  ·rw[if_neg eb]at hv;rw[World.cell?_alloc_old _ _ _ eb];exact h.frz _ _ _ hv
 ·intro id ob hid;obtain⟨b,hb,hr⟩:=h.obj id ob hid;refine⟨b,hb,hr.keep hx ?_⟩;rw[b0N,if_neg (by have:=(h.geφ id b hb).2;omega)]
 ·intro id b o hb hd;simp only[Gh.freezeNew];rw[if_neg (by have:=(h.geφ id b hb).2;omega)];exact h.sep id b o hb hd
 ·intro id b hb;have:=h.geφ id b hb;simp;omega
 ·intro k b lo hi hk hlt;obtain⟨⟨c',e',h1,h2⟩,h3,h4,h5⟩:=h.reg k b lo hi hk hlt;have hlt:b<w.heap.size:=(h0B.1 h1).1;refine⟨⟨c',e',by rw[b0N,if_neg (by omega)];exact h1,h2⟩,h3,fun o ho1 ho2=>?_,h5⟩;simp only[Gh.freezeNew];rw[if_neg (by omega)];exact h4 o ho1 ho2
def Gh.newObj(G:Gh)(b:Nat):Gh:={ G with φ:=G.φ++[b] }
theorem Gh.ext_newObj(G:Gh)(arr:List Nat)(b:Nat):Ext G arr (G.newObj b) arr:=by
 refine⟨fun _ _ _ h=>h,fun id b' hb=>?_,fun _ n h=>⟨n,h,h0q _,fun _=>rfl⟩⟩;simp only[Gh.newObj];rw[h0e (h0b.1 hb).1];exact hb
theorem RelW.allocM(h:RelW E G heap arr w0 w)(o:Obj)(ob:VObj)(ho:c3s E.P G arr (w.alloc o) w.heap.size ob)
  (hbl:∀ t s,ob = .builder t s→Bld E (G.newObj w.heap.size) (w.alloc o) t s w.heap.size:=by intro _ _ h;cases h) (hnv:∀ k gen e cs,ob ≠ .vec k gen e cs:=by intro _ _ _ _ h;cases h) :
  RelW E (G.newObj w.heap.size) (heap++[ob]) arr w0 (w.alloc o):=by
 have hx:=G.ext_newObj arr w.heap.size;have hget:∀ (id:Nat) b,(G.newObj w.heap.size).φ[id]? = some b→(id<heap.length∧G.φ[id]? = some b)∨(id=heap.length∧b=w.heap.size):=by
  intro id b hb;simp only[Gh.newObj]at hb;have hl:=h.lenφ;rcases Nat.lt_trichotomy id heap.length with hid | hid | hid
  ·rw[h0e (by omega)]at hb;exact .inl ⟨hid,hb⟩
  ·subst hid;rw[h0g (by omega)]at hb;simp[hl]at hb;exact .inr ⟨rfl,hb.symm⟩
  ·rw[h0g (by omega)]at hb;rw[h0O (by simp;omega)]at hb;cases hb
 refine⟨h.newF,fun g cs hg=>⟨(h.glob g cs hg).1,(h.glob g cs hg).2.mono hx⟩,h.below.alloc h.below.size _,?_,h.one,?_,?_,?_,?_,?_,h.lenρ,?_,h.regd,h.fre,?_,h.ini,h.vsK hx (fun id k gen e cs hi=>?_) (fun _ _ h _=>h) fun k hk=>by rw[b0N,if_neg (by omega)]⟩
 rotate_right 1
 ·rcases Nat.lt_trichotomy id heap.length with hl | hl | hl
  ·rwa [h0e hl]at hi
  ·subst hl;rw[h0g (h0q _)]at hi;simp at hi;exact absurd hi (hnv k gen e cs)
  ·rw[h0O (by simp;omega)]at hi;cases hi
 rotate_right 1
 ·intro id t s b hi hb;rcases hget id b hb with⟨h1,h2⟩ | ⟨h1,h2⟩
  ·rw[h0e h1]at hi;refine h.bldA (w':=w.alloc o) (G':=G.newObj w.heap.size) (fun k hk=>by rw[b0N,if_neg (by omega)]) (fun g hg ⟨s1,s2,s3⟩=>⟨s1,fun i hi'=>?_,s3⟩) id t s b hi h2;rcases hget i g hi' with⟨h3,h4⟩ | ⟨h3,h4⟩
   ·exact s2 i h4
   ·omega
  ·subst h1 h2;rw[h0g (h0q _)]at hi;simp at hi;exact hbl t s hi
 ·intro b o' v hv;rw[World.cell?_alloc_old _ _ _ (by have:=b6L (h.frz _ _ _ hv);simp;omega)];exact h.frz _ _ _ hv
 ·intro id ob' hid;rcases Nat.lt_trichotomy id heap.length with hi | hi | hi
  ·rw[h0e hi]at hid;obtain⟨b,hb,hr⟩:=h.obj id ob' hid;refine⟨b,hx.φ _ _ hb,hr.keep hx ?_⟩;rw[b0N,if_neg (by have:=(h.geφ id b hb).2;omega)]
  ·subst hi;rw[h0g (by omega)]at hid;simp at hid;subst hid;refine⟨w.heap.size,?_,ho.keep hx rfl⟩;simp[Gh.newObj,h.lenφ]
  ·rw[h0O (by simp;omega)]at hid;cases hid
 ·simp[Gh.newObj,h.lenφ]
 ·intro i j b hi hj;rcases hget i b hi with⟨h1,h2⟩ | ⟨h1,h2⟩ <;> rcases hget j b hj with⟨h3,h4⟩ | ⟨h3,h4⟩
  ·exact h.nod i j b h2 h4
  ·have:=(h.geφ i b h2).2;omega
  ·have:=(h.geφ j b h4).2;omega
  ·omega
 ·intro id b o' hb hd;rcases hget id b hb with⟨h1,h2⟩ | ⟨h1,h2⟩
  ·exact h.sep id b o' h2 (by rwa [h0e h1]at hd)
  ·subst h2;exact h.F_new o'
 ·intro id b hb;have hs:=h.below.size;rcases hget id b hb with⟨h1,h2⟩ | ⟨h1,h2⟩
  ·have:=h.geφ id b h2;simp;omega
  ·subst h2;simp;omega
 ·intro k b lo hi hk hlt;obtain⟨⟨c',e',h1,h2⟩,h3,h4,h5⟩:=h.reg k b lo hi hk hlt;have hlt:b<w.heap.size:=(h0B.1 h1).1;refine⟨⟨c',e',by rw[b0N,if_neg (by omega)];exact h1,h2⟩,fun id hid ob' hob=>?_,h4,h5⟩;rcases hget id b hid with⟨h6,h7⟩ | ⟨h6,h7⟩
  ·rw[h0e h6]at hob;exact h3 id h7 ob' hob
  ·omega
theorem RelW.drew(h:RelW E G heap arr w0 w)(n:Nat):RelW E G heap arr w0 { w with drawn:=n } :=
 ⟨h.newF,h.glob,⟨h.below.os,h.below.tape,h.below.output,h.below.size,h.below.block⟩,h.frz,h.one,fun id ob hid=>(h.obj id ob hid).imp fun b hb=>⟨hb.1,hb.2.keep (Ext.refl _ _) rfl⟩,
  h.lenφ,h.nod,h.sep,h.geφ,h.lenρ,h.reg,h.regd,h.fre,h.bldA (fun _ _=>rfl) (fun _ _ hs=>hs),h.ini,h.vsK (Ext.refl _ _) (fun _ _ _ _ _ h=>h) (fun _ _ h _=>h) fun _ _=>rfl⟩
theorem RelW.change(h:RelW E G heap arr w0 w){id b:Nat}(hb:G.φ[id]? = some b){w':World}{ob:VObj}(hid:id<heap.length)(hlive:heap[id]?≠some .dead)
  (hos:w'.os=w.os) (ht:w'.tape=w.tape) (ho:w'.output=w.output) (hsz:w'.heap.size=w.heap.size) (hk:∀ k,k≠b→w'.heap[k]? = w.heap[k]?)
  (hr:c3s E.P G arr w' b ob) (hbl:∀ t s,ob = .builder t s→Bld E G w' t s b:=by intro _ _ h;cases h) (hnv:∀ k gen e cs,ob ≠ .vec k gen e cs:=by intro _ _ _ _ h;cases h)
  (hnl:∀ k gen e cs,heap[id]?≠some (.vec k gen e cs):=by intro _ _ _ _ h;simp_all):RelW E G (heap.set id ob) arr w0 w':=by
 have hlo:∀ o,heap[id]? = some o→o.loose=true→False:=fun o ho hl=>by
  cases o <;> simp only[VObj.loose,h0r]at hl
  ·exact hlive ho
  ·exact hnl _ _ _ _ ho
 have hne:∀ c,(∀ i:Nat,G.φ[i]? = some c→∀ o,heap[i]? = some o→o.loose=true)→c≠b:=fun c hc e=>by
  subst e;exact hlo _ (h0f hid) (hc id hb _ (h0f hid))
 refine⟨h.newF,h.glob,?_,?_,h.one,?_,by simp[h.lenφ],h.nod,fun i c o hc hd=>?_,fun i c hc=>by rw[hsz];exact h.geφ i c hc,h.lenρ,?_,h.regd,h.fre,?_,h.ini,
  h.vs.keep (Ext.refl _ _) (fun i k gen e cs hi=>?_) (fun _ _ _ _ h _ _=>h) fun k gen c hi j h1 h2 h3 hj=>b2y (hk c (hne c (h.vecB (gen:=gen) h3 hj).2.2))⟩
 rotate_right 1
 ·by_cases e1:i=id
  ·subst e1;rw[h0i hid]at hi;cases hi
   exact absurd rfl (hnv k gen e cs)
  ·rwa [h0m (Ne.symm e1)]at hi
 rotate_right 1
 ·intro i t s c hi hc;by_cases e:i=id
  ·subst e;rw[h0i hid]at hi;cases hi
   rw[hb]at hc;cases hc;exact hbl t s rfl
  ·rw[h0m (Ne.symm e)]at hi;refine(h.bld i t s c hi hc).keep (hk c fun ec=>e (h.nod i id c hc (by rw[ec];exact hb))) fun g hg hs=>⟨hk g fun eg=>hs.2.1 id (by rw[eg];exact hb),hs⟩
 ·refine h.below.trans ⟨hos,ht,ho,by omega,fun k hkk=>hk k ?_⟩;have:=(h.geφ id b hb).1;omega
 ·intro b' o v hv;have hne:b'≠b:=fun e=>by subst e;rw[h.sep id b' o hb hlive]at hv;cases hv
  have:=h.frz _ _ _ hv;unfold World.cell? at this ⊢;rw[hk b' hne];exact this
 ·intro i ob' hi;by_cases e:i=id
  ·subst e;rw[h0i hid]at hi;cases hi
   exact⟨b,hb,hr⟩
  ·rw[h0m (Ne.symm e)]at hi;obtain⟨c,hc,hrc⟩:=h.obj i ob' hi;refine⟨c,hc,hrc.keep (Ext.refl _ _) (hk c fun ec=>e ?_)⟩;subst ec;exact h.nod i id c hc hb
 ·by_cases e:i=id
  ·subst e;exact h.sep i c o hc hlive
  ·rw[h0m (Ne.symm e)]at hd;exact h.sep i c o hc hd
 ·intro k b' lo hi hk' hlt;obtain⟨⟨c',e',h1,h2⟩,h3,h4,h5⟩:=h.reg k b' lo hi hk' hlt;refine⟨⟨c',e',by rw[hk b' (hne b' fun i hi o ho=>VObj.loose_of (h3 i hi o ho))];exact h1,h2⟩,fun i hi' o ho=>?_,h4,h5⟩;by_cases e:i=id
  ·subst e;exact absurd hi' (fun q=>hne b' (fun i hi o ho=>VObj.loose_of (h3 i hi o ho)) (by rw[hb]at q;exact(Option.some.inj q).symm))
  ·rw[h0m (Ne.symm e)]at ho;exact h3 i hi' o ho
theorem RelW.hide(h:RelW E G heap arr w0 w):RelW E ⟨G.F,[],[]⟩ [] [] { w:=w,F:=G.F } w:=by
 refine⟨fun b o v hv _=>hv,fun g cs hg=>?_,Below.refl _ _,h.frz,h.one,by simp,rfl,by simp,by simp,by simp,rfl,by simp,by simp,by simp,by simp,E.iniM _ _ h.ini h.below,Vecs.nil⟩;obtain⟨h1,h2⟩:=h.glob g cs hg;exact⟨h1,h2.pure h1 _ _ fun _ _ _ h=>h⟩
theorem RelW.back(h:RelW E G heap arr w0 w){F':Nat→Nat→Option Value}{w':World}(hF:∀ b o v,G.F b o=some v→F' b o=some v)
  (hnew:∀ b o v,F' b o=some v→b<w.heap.size→G.F b o=some v) (hfrz:∀ b o v,F' b o=some v→w'.cell? ⟨b,o,none⟩=some v) (hone:∀ b o v,F' b o=some v→v.oneCell'=true) (hb:Below w.heap.size w w') :
  RelW E { G with F:=F' } heap arr w0 w'∧Ext G arr { G with F:=F' } arr:=by
 have hx:Ext G arr { G with F:=F' } arr:=⟨hF,fun _ _ h=>h,fun _ n h=>⟨n,h,h0q _,fun _=>rfl⟩⟩
 have hs:=h.below.size;have hs':=hb.size;have hnone:∀ g o,g<w.heap.size→G.F g o=none→F' g o=none:=fun g o hg hn=>by
  cases hF':F' g o with
  | none=>rfl
  | some v=>have:=hnew g o v hF' hg;rw[hn]at this;cases this
 refine⟨⟨fun b o v hv hlt=>h.newF b o v (hnew b o v hv (by omega)) hlt,fun g cs hg=>⟨(h.glob g cs hg).1,(h.glob g cs hg).2.mono hx⟩,h.below.trans (hb.mono hs),hfrz,hone,?_,h.lenφ,h.nod,?_,?_,h.lenρ,?_,h.regd,h.fre,h.bldA hb.block fun g hg ⟨s1,s2,s3⟩=>⟨fun o=>hnone g o hg (s1 o),s2,s3⟩,h.ini,h.vsK hx (fun _ _ _ _ _ h=>h) (fun _ _ h _=>h) hb.block⟩,hx⟩
 ·intro id ob hid;obtain⟨b,hb',hr⟩:=h.obj id ob hid;exact⟨b,hb',hr.keep hx (hb.block b (h.geφ id b hb').2)⟩
 ·intro id b o hb' hd;cases hF':F' b o with
  | none=>exact hF'
  | some v=>have:=hnew b o v hF' (h.geφ id b hb').2;rw[h.sep id b o hb' hd]at this;cases this
 ·intro id b hb';have:=h.geφ id b hb';omega
 ·intro k b lo hi hk hlt;obtain⟨⟨c',e',h1,h2⟩,h3,h4,h5⟩:=h.reg k b lo hi hk hlt;have hlt:b<w.heap.size:=(h0B.1 h1).1;refine⟨⟨c',e',by rw[hb.block b hlt];exact h1,h2⟩,h3,fun o ho1 ho2=>?_,h5⟩;cases hF':F' b o with
  | none=>exact hF'
  | some v=>have:=hnew b o v hF' hlt;rw[h4 o ho1 ho2]at this;cases this
end
end Go.Vg
namespace Go.Vg
open Go.RowKit
def ofV1:Value→V
 | .bool b => .bool b
 | .int k n => .int k n
 | .string s=>if s.size≤1152921504606846976 then .str s else .junk
 | .pointer none => .nilp
 | .slice none 0 0 => .slice .nil 0 []
 | .map none => .nilmap
 | .nilFunc => .nilfunc
 | .nilIface => .nilif
 | _ => .junk
def ofV:Value→V
 | .agg cs => .agg (cs.toList.map ofV1)
 | v=>ofV1 v
def ev(E:Env)(tmps:List (Nat×V)):Operand→V
 | .tmp t=>b1Z tmps t
 | .const v=>ofV v
 | .global g=>match E.gl g with
  | some cs => .fptr cs
  | none => .junk
 | .func f => .func f []
theorem RV.ofV1{P:Program}{G:Gh}{arr:List Nat}(v:Value):RV P G arr (ofV1 v) v:=by
 unfold Vg.ofV1;split
 ·exact .bool _
 ·exact .int _ _
 ·split
  ·exact .str _ (by assumption)
  ·exact .junk _
 ·exact .nilp
 ·exact .snil _ _ trivial
 ·exact .nilmap
 ·exact .nilfunc
 ·exact .nilif
 ·exact .junk _
theorem RV.ofV{P:Program}{G:Gh}{arr:List Nat}(v:Value):RV P G arr (ofV v) v:=by
 unfold Vg.ofV;split
 ·rename_i cs;refine .agg _ _ (by simp) fun j c u hc hu=>?_
  simp only[h0u,Array.getElem?_toList,hu,h0D,Option.some.injEq]at hc;exact hc ▸ RV.ofV1 u
 ·exact RV.ofV1 v
theorem RV.ev{E:Env}{G:Gh}{heap:List VObj}{arr:List Nat}{w0:Base}{w:World}{tmps:List (Nat×V)}{n:Nat}{a:Act}(h:RelW E G heap arr w0 w)
  (ht:RelT E.P G arr tmps n a) (x:Operand):RV E.P G arr (ev E tmps x) (a.eval x):=by
 cases x with
 | tmp t=>exact ht.tm t
 | const v=>exact RV.ofV v
 | global g =>
  simp only[Vg.ev,Act.eval];split
  ·rename_i cs hg;exact(h.glob g cs hg).2
  ·exact .junk _
 | func f=>exact .func f [] #[] rfl (by simp)
def cellsV:V→List V
 | .agg cs=>cs
 | x=>[x]
def V.cell:V→Bool
 | .junk | .agg _ | .tuple _=>false
 | _=>true
theorem RV.cellsV{P:Program}{G:Gh}{arr:List Nat}{x:V}{v:Value}(h:RV P G arr x v)(hj:x ≠ .junk):(cellsV x).length=v.cells.size ∧
  ∀ (j:Nat) c u,(cellsV x)[j]? = some c→v.cells[j]? = some u→RV P G arr c u:=by
 cases h
 case junk=>exact absurd rfl hj
 case agg cs vs hl hr=>exact⟨hl,hr⟩
 all_goals
  refine⟨rfl,fun j c u hc hu=>?_⟩;simp only[Vg.cellsV,Value.cells]at hc hu;cases j with
  | succ j=>simp at hc
  | zero =>
   simp at hc hu;subst hc hu;constructor <;> assumption
theorem RV.cell_one{P:Program}{G:Gh}{arr:List Nat}{x:V}{v:Value}(h:RV P G arr x v)(hc:x.cell=true):(∀ cs,v ≠ .agg cs)∧(∀ cs,v ≠ .tuple cs):=by
 cases h <;> simp_all [V.cell]
section
variable {P : Program} {w : World}
theorem b0x{t:TypeId}{d:TypeDesc}(h:P.underlying t=some d):(underlying t).run P w = .ok d w:=by
 simp[underlying,program,Sem.run,h]
theorem b2N{t:TypeId}{d:TypeDesc}(h:P.underlying t=some d):∃ i,P.info? t=some i:=by
 cases hi:P.info? t with
 | some i=>exact⟨i,rfl⟩
 | none=>simp[Program.underlying,hi]at h
theorem c2U{t:TypeId}{i:TypeInfo}(h:P.info? t=some i):(typeInfo t).run P w = .ok i w:=by
 simp[typeInfo,program,Sem.run,h]
theorem b0M{t:TypeId}{i:TypeInfo}(h:P.info? t=some i):(sizeOf t).run P w = .ok (P.cellsOf t) w:=by
 simp[sizeOf,c2U h,Program.cellsOf,h]
def c0Q:TypeDesc→Bool
 | .struct _ | .array _ _=>true
 | _=>false
theorem b4Q{t:TypeId}{d:TypeDesc}(h:P.underlying t=some d) :
  (isAgg t).run P w = .ok (c0Q d) w:=by
 simp only[isAgg,h1E,b0x h,h1D];cases d <;> rfl
end
theorem Addr.add_mk(b o n:Nat):(⟨b,o,none⟩:Addr).add n=⟨b,o+n,none⟩:=by
 unfold Addr.add;split
 ·rename_i h;subst h;rfl
 ·rfl
theorem b7N{P:Program}{w:World}{b o:Nat}(f:Nat→Value):∀ (n i:Nat) (acc:Array Value),(∀ j,i≤j→j<i+n→w.cell? ⟨b,o+j,none⟩=some (f j)) →
  (loadCellsFrom ⟨b,o,none⟩ i n acc).run P w = .ok (acc++((List.range' i n).map f).toArray) w:=by
 intro n;induction n with
 | zero=>intro i acc _;simp[loadCellsFrom,Sem.run]
 | succ n ih =>
  intro i acc h;simp only[loadCellsFrom,h1E,Addr.add_mk];rw[run_load,h i (h0q _) (by omega)];simp only[h1D];rw[ih (i+1) (acc.push (f i)) (fun j h1 h2=>h j (by omega) (by omega))];simp[List.range'_succ]
theorem b7A{P:Program}{w:World}{b o n:Nat}(h:∀ j,j<n→∃ v,w.cell? ⟨b,o+j,none⟩=some v) :
  ∃ vs:Array Value,(loadCells ⟨b,o,none⟩ n).run P w = .ok vs w∧vs.size=n∧∀ j,j<n→vs[j]? = w.cell? ⟨b,o+j,none⟩:=by
 refine⟨((List.range' 0 n).map fun j=>(w.cell? ⟨b,o+j,none⟩).getD undef).toArray,?_,by simp,?_⟩
 ·unfold loadCells;rw[b7N (fun j=>(w.cell? ⟨b,o+j,none⟩).getD undef) n 0 #[] (fun j _ hj=>?_)]
  ·simp
  ·obtain⟨v,hv⟩:=h j (by omega);rw[hv];rfl
 ·intro j hj;obtain⟨v,hv⟩:=h j hj;simp[hj,hv]
theorem b2w{P:Program}:∀ (vs:List Value) (w:World) (b o i:Nat) (c:Array Value) (e:TypeId),w.heap[b]? = some (.cells c e (0,0))→o+i+vs.length≤c.size →
  (∀ v∈vs,(∀ cs,v ≠ .agg cs)∧∀ cs,v ≠ .tuple cs) →
  ∃ w' c',(storeCells ⟨b,o,none⟩ vs i).run P w = .ok () w'∧w'.os=w.os∧w'.tape=w.tape∧w'.output=w.output∧w'.heap.size=w.heap.size ∧
   (∀ k,k≠b→w'.heap[k]? = w.heap[k]?)∧w'.heap[b]? = some (.cells c' e (0,0))∧c'.size=c.size ∧
   ∀ j,c'[j]? = if o+i≤j∧j<o+i+vs.length then vs[j - (o+i)]? else c[j]?:=by
 intro vs;induction vs with
 | nil =>
  intro w b o i c e hb _ _;refine⟨w,c,by simp[storeCells],rfl,rfl,rfl,rfl,fun _ _=>rfl,hb,rfl,fun j=>?_⟩;rw[if_neg (by simp only[h0J];omega)]
 | cons v vs ih =>
  intro w b o i c e hb hle hv;simp only[h0o]at hle;have hcell:w.cell? ⟨b,o+i,none⟩=some c[o+i]:=by
   simp[World.cell?,hb]
  have hfr:w.frozen? ⟨b,o+i,none⟩=false:=by
   simp[World.frozen?,hb]
  have hst:(store ⟨b,o+i,none⟩ v).run P w = .ok () (w.setCell ⟨b,o+i,none⟩ v):=by
   have:=hv v (by simp);unfold store;cases v
   case agg cs=>exact absurd rfl (this.1 cs)
   case tuple cs=>exact absurd rfl (this.2 cs)
   all_goals simp[Sem.run,hcell,hfr]
  have hb':(w.setCell ⟨b,o+i,none⟩ v).heap[b]? = some (.cells (c.setIfInBounds (o+i) v) e (0,0)):=by
   simp[World.setCell,Array.getElem?_modify,hb]
  obtain⟨w',c',h1,h2,h3,h4,h5,h6,h7,h8,h9⟩:=ih (w.setCell ⟨b,o+i,none⟩ v) b o (i+1) (c.setIfInBounds (o+i) v) e hb' (by simp;omega)
   (fun u hu=>hv u (by simp[hu]))
  refine⟨w',c',?_,h2,h3,h4,by rw[h5];simp,fun k hk=>?_,h7,by rw[h8];simp,fun j=>?_⟩
  ·simp only[storeCells,h1E,Addr.add_mk,hst,h1D];exact h1
  ·rw[h6 k hk];exact Below.heap_setCell _ _ _ _ (by simpa using hk)
  ·rw[h9 j];simp only[h0o];by_cases e1:j=o+i
   ·subst e1;rw[if_neg (by omega),if_pos (by omega)];have:o+i<c.size:=by omega
    simp[this]
   ·by_cases e2:o+(i+1)≤j∧j<o+(i+1)+vs.length
    ·rw[if_pos e2,if_pos (by omega)];have:j - (o+i)=(j - (o+(i+1)))+1:=by omega
     rw[this];simp
    ·rw[if_neg e2,if_neg (by omega)];simp[Array.getElem?_setIfInBounds,Ne.symm e1]
def vAt(heap:List VObj):V→Option (List V)
 | .fptr cs=>some cs
 | .ptr id off=>match heap[id]? with
  | some ob=>ob.cs?.map fun cs=>cs.drop off
  | _=>none
 | .vptr id k gen off=>match heap[id]? with
  | some (.vec k' gen' _ cs)=>if k'=k∧gen'=gen then some (cs.drop off)else none
  | _=>none
 | _=>none
theorem d2c{E:Env}{G:Gh}{heap:List VObj}{arr:List Nat}{w0:Base}{w:World}(h:RelW E G heap arr w0 w){x:V}{v:Value}{cs:List V}
  (hx:RV E.P G arr x v) (hat:vAt heap x=some cs):∃ b o,v = .pointer (some ⟨b,o,none⟩) ∧
   ∀ (j:Nat) c,cs[j]? = some c→∃ u,w.cell? ⟨b,o+j,none⟩=some u∧RV E.P G arr c u:=by
 cases x <;> simp only[vAt]at hat <;> try cases hat
 case fptr =>
  cases hx with
  | fptr _ b o hd hr =>
   refine⟨b,o,rfl,fun j c hc=>?_⟩;obtain⟨u,hu⟩:=hd j (h0b.1 hc).1;exact⟨u,h.frz _ _ _ hu,hr j c u hc hu⟩
 case ptr id off =>
  cases hx with
  | ptr _ _ b hb =>
   split at hat
   ·rename_i ob hcs;obtain⟨cs',hcs',rfl⟩:=h0p.1 hat;obtain⟨b',hb',hro⟩:=h.obj id _ hcs;obtain⟨c,e,h1,h2,h3,_⟩:=hro.un hcs';rw[hb]at hb';cases hb'
    refine⟨b,off,rfl,fun j c' hc=>?_⟩;rw[h1d]at hc;obtain⟨u,hu,hr⟩:=h3 _ _ hc;exact⟨u,by simp[World.cell?,h1,hu],hr⟩
   ·cases hat
 case vptr id k gen off =>
  split at hat
  ·rename_i k' gen' e cs' hcs;split at hat
   ·rename_i hkg;obtain⟨rfl,rfl⟩:=hkg;cases hat
    obtain⟨h1,h2,b,hi,h3,h4,h5⟩:=h.vs.at_ id _ _ e cs' hcs;cases hx with
    | vptr _ _ _ _ _ _ hv =>
     obtain⟨n,g1,g2,g3⟩:=hv;rw[h1]at g1;cases g1
     obtain⟨b',hi',g4,g5,g6⟩:=g3 rfl;rw[h3]at g4;cases g4
     refine⟨b,off,by rw[g6,g5],fun j c hc=>?_⟩;rw[h1d]at hc;obtain⟨v,hv,hr,_⟩:=h5 _ _ hc;exact⟨v,hv,hr⟩
   ·cases hat
  ·cases hat
def vHead(cs:List V)(K:V→Prop):Prop :=
 match cs with
 | c::_=>K c
 | []=>False
def vLoadL(E:Env)(t:TypeId)(cs:List V)(K:V→Prop):Prop :=
 match E.P.underlying t with
 | some (.struct _) | some (.array _ _)=>E.P.cellsOf t≤cs.length∧K (.agg (cs.take (E.P.cellsOf t)))
 | some _=>vHead cs K
 | none=>False
theorem c7n{E:Env}{G:Gh}{heap:List VObj}{arr:List Nat}{w0:Base}{w:World}(h:RelW E G heap arr w0 w){x:V}{v:Value}{cs:List V}{t:TypeId}{K:V→Prop}
  (hx:RV E.P G arr x v) (hat:vAt heap x=some cs) (hK:vLoadL E t cs K):∃ u y,(Instr.loadAt t v).run E.P w = .ok u w∧K y∧RV E.P G arr y u:=by
 obtain⟨b,o,rfl,hc⟩:=d2c h hx hat;have hagg:∀ d,E.P.underlying t=some d→c0Q d=true→E.P.cellsOf t≤cs.length∧K (.agg (cs.take (E.P.cellsOf t))) →
   ∃ u y,(Instr.loadAt t (.pointer (some ⟨b,o,none⟩))).run E.P w = .ok u w∧K y∧RV E.P G arr y u:=by
  intro d hd ht ⟨hl,hk⟩;obtain⟨i,hi⟩:=b2N hd;obtain⟨vs,h1,h2,h3⟩:=b7A (P:=E.P) (w:=w) (b:=b) (o:=o) (n:=E.P.cellsOf t) (fun j hj=>by
   obtain⟨u,hu,_⟩:=hc j _ (h0f (show j<cs.length by omega));exact⟨u,hu⟩)
  refine⟨.agg vs,.agg (cs.take (E.P.cellsOf t)),?_,hk,.agg _ _ (by rw[h2];simp;omega) fun j c u hj hu=>?_⟩
  ·simp only[Instr.loadAt,Instr.sureAddr,loadVar,h1E,h1F,h1D,b4Q hd,ht,if_true,b0M hi,h1]
  ·have hj':j<E.P.cellsOf t:=by rw[←h2];exact(h0B.1 hu).1
   rw[List.getElem?_take,if_pos hj']at hj;obtain⟨u',hu',hr⟩:=hc j c hj;rw[h3 j hj',hu']at hu;cases hu
   exact hr
 have hone:∀ d,E.P.underlying t=some d→c0Q d=false→vHead cs K →
   ∃ u y,(Instr.loadAt t (.pointer (some ⟨b,o,none⟩))).run E.P w = .ok u w∧K y∧RV E.P G arr y u:=by
  intro d hd ht hk;cases cs with
  | nil=>exact hk.elim
  | cons c cs =>
   obtain⟨u,hu,hr⟩:=hc 0 c rfl;refine⟨u,c,?_,hk,hr⟩;simp only[Instr.loadAt,Instr.sureAddr,loadVar,h1E,h1F,h1D,b4Q hd,ht,h0r,if_false];rw[run_load,show o=o+0 from rfl,hu]
 unfold vLoadL at hK;cases hd:E.P.underlying t with
 | none=>rw[hd]at hK;exact hK.elim
 | some d =>
  rw[hd]at hK;cases d <;> first | exact hagg _ hd rfl hK | exact hone _ hd rfl hK
def c0S(cs:List V)(off:Nat)(xs:List V):List V:=cs.take off++xs++cs.drop (off+xs.length)
theorem b9c(cs:List V)(off:Nat)(xs:List V)(h:off+xs.length≤cs.length)(j:Nat) :
  (c0S cs off xs)[j]? = if off≤j∧j<off+xs.length then xs[j - off]? else cs[j]?:=by
 unfold c0S;rw[h0x];by_cases h1:j<off
 ·rw[h0e (by simp;omega),if_neg (by omega),List.getElem?_take,if_pos h1]
 ·rw[h0g (by simp;omega)];have hl:(cs.take off).length=off:=by simp;omega
  rw[hl];by_cases h2:j<off+xs.length
  ·rw[h0e (by omega),if_pos (by omega)]
  ·rw[h0g (by omega),if_neg (by omega),h1d];congr 1;omega
theorem b4Y(cs:List V)(off:Nat)(xs:List V)(h:off+xs.length≤cs.length):(c0S cs off xs).length=cs.length:=by
 simp[c0S];omega
def c0s(E:Env)(heap:List VObj)(t:TypeId)(a x:V)(K:List VObj→Prop):Prop :=
 match a with
 | .ptr id off=>match heap[id]? with
  | some ob=>match ob.cs? with
   | some cs=>(x ≠ .junk∧(cellsV x).all V.cell=true∧(cellsV x).length=E.P.cellsOf t∧(E.P.underlying t).isSome=true∧off+(cellsV x).length≤cs.length) ∧
     K (heap.set id (ob.put (c0S cs off (cellsV x))))
   | none=>False
  | _=>False
 | .vptr id k gen off=>match heap[id]? with
  | some (.vec k' gen' e cs)=>(k'=k∧gen'=gen∧x ≠ .junk∧(cellsV x).all V.cell=true∧(cellsV x).length=E.P.cellsOf t∧(E.P.underlying t).isSome=true∧off+(cellsV x).length≤cs.length∧0<(cellsV x).length) ∧
    K (heap.set id (.vec k gen e (c0S cs off (cellsV x))))
  | _=>False
 | _=>False
theorem RelW.storeVec{E:Env}{G:Gh}{heap:List VObj}{arr:List Nat}{w0:Base}{w w':World}(h:RelW E G heap arr w0 w){id k gen b hi off:Nat}{e:TypeId}{cs xs:List V}{vs:List Value}{c c':Array Value}{t:TypeId}
  (hid:heap[id]? = some (.vec k gen e cs)) (hρ:G.ρ[k]? = some (b,0,hi)) (hc:w.heap[b]? = some (.cells c t (0,0))) (hle:off+xs.length≤cs.length) (hch:cs.length≤hi) (hpos:0<xs.length) (hl:vs.length=xs.length)
  (hr:∀ (j:Nat) x v,xs[j]? = some x→vs[j]? = some v→RV E.P G arr x v) (hone:∀ v∈vs,v.oneCell'=true)
  (hos:w'.os=w.os) (ht:w'.tape=w.tape) (ho:w'.output=w.output) (hsz:w'.heap.size=w.heap.size) (hk:∀ k,k≠b→w'.heap[k]? = w.heap[k]?) (hc':w'.heap[b]? = some (.cells c' t (0,0))) (hcs:c'.size=c.size)
  (hget:∀ j,c'[j]? = if off≤j∧j<off+vs.length then vs[j - off]? else c[j]?):RelW E G (heap.set id (.vec k gen e (c0S cs off xs))) arr w0 w':=by
 have hhi:0<hi:=by omega
 have hidl:id<heap.length:=(h0b.1 hid).1;obtain⟨⟨c0,e0,r1,r2⟩,r3,r4,r5⟩:=h.reg k b 0 hi hρ hhi;rw[hc]at r1;cases r1
 have hcell:∀ b' o,(b'≠b∨¬ (off≤o∧o<off+vs.length))→w'.cell? ⟨b',o,none⟩=w.cell? ⟨b',o,none⟩:=fun b' o hor=>by
  by_cases e:b'=b
  ·subst e;have hn:¬ (off≤o∧o<off+vs.length):=by rcases hor with h | h;exact absurd rfl h;exact h
   unfold World.cell?;rw[hc',hc];simp only[h0y,h0r,if_false];rw[hget,if_neg hn]
  ·exact b2y (hk b' e)
 have hne:∀ (i c:Nat),G.φ[i]? = some c→∀ o,heap[i]? = some o→o.loose=false→c≠b:=fun i c hi' o ho hlo e=>by
  subst e;rw[VObj.loose_of (r3 i hi' o ho)]at hlo;cases hlo
 have hset:∀ (i:Nat) o,(heap.set id (.vec k gen e (c0S cs off xs)))[i]? = some o→i≠id→heap[i]? = some o:=fun i o hi' hn=>by rwa [h0m (Ne.symm hn)]at hi'
 refine⟨h.newF,h.glob,h.below.trans ⟨hos,ht,ho,by omega,fun k' hk'=>hk k' (by omega)⟩,fun b' o v hv=>?_,h.one,fun i ob hi'=>?_,by simp[h.lenφ],h.nod,fun i c1 o hc1 hd=>?_,fun i c1 hc1=>by rw[hsz];exact h.geφ i c1 hc1,h.lenρ,
  fun k' b' lo hi' hk' hlt=>?_,h.regd,h.fre,fun i t' s c1 hi' hc1=>?_,h.ini,?_⟩
 ·rw[hcell b' o]
  ·exact h.frz _ _ _ hv
  ·by_cases e:b'=b
   ·subst e;refine .inr fun hh=>?_
    rw[r4 o (Nat.zero_le _) (by omega)]at hv;cases hv
   ·exact .inl e
 ·by_cases e1:i=id
  ·subst e1;rw[h0i hidl]at hi';cases hi'
   obtain⟨c1,hc1,_⟩:=h.obj i _ hid;exact⟨c1,hc1,trivial⟩
  ·have hi2:=hset i ob hi' e1;obtain⟨c1,hc1,hr1⟩:=h.obj i ob hi2;refine⟨c1,hc1,?_⟩;cases hlo:ob.loose with
   | false=>exact hr1.keep (Ext.refl _ _) (hk c1 (hne i c1 hc1 ob hi2 hlo))
   | true =>
    cases ob <;> simp only[VObj.loose,h0r,reduceCtorEq]at hlo
    ·trivial
    ·trivial
 ·by_cases e1:i=id
  ·subst e1;exact h.sep i c1 o hc1 (by rw[hid];intro hh;cases hh)
  ·rw[h0m (Ne.symm e1)]at hd;exact h.sep i c1 o hc1 hd
 ·obtain⟨⟨c1,e1,q1,q2⟩,q3,q4,q5⟩:=h.reg k' b' lo hi' hk' hlt;refine⟨?_,fun i hi2 o ho2=>?_,q4,q5⟩
  ·by_cases eb:b'=b
   ·subst eb;rw[hc]at q1;cases q1
    exact⟨c',t,hc',by omega⟩
   ·exact⟨c1,e1,by rw[hk b' eb];exact q1,q2⟩
  ·by_cases e1:i=id
   ·subst e1;rw[h0i hidl]at ho2;cases ho2
    have:=q3 i hi2 _ hid;exact this
   ·exact q3 i hi2 o (hset i o ho2 e1)
 ·have e1:i≠id:=fun e1=>by subst e1;rw[h0i hidl]at hi';cases hi'
  have hi2:=hset i _ hi' e1;refine(h.bld i t' s c1 hi2 hc1).keep (hk c1 (hne i c1 hc1 _ hi2 rfl)) fun g hg hs=>⟨hk g fun eg=>?_,hs⟩
  subst eg;have:=hs.2.2 k 0 hi hρ;omega
 ·refine⟨fun i k1 g1 e1 cs1 hi1=>?_,fun i i' k1 g1 g1' e1 e1' cs1 cs1' hi1 hi1'=>?_⟩
  ·by_cases ei:i=id
   ·subst ei;rw[h0i hidl]at hi1;cases hi1
    obtain⟨q1,q2,b1,hi2,q3,q4,q5⟩:=h.vs.at_ i k gen e cs hid;rw[hρ]at q3;cases q3
    refine⟨q1,q2,b,hi,hρ,by rw[b4Y _ _ _ hle];exact hch,fun j x hj=>?_⟩;rw[b9c _ _ _ hle]at hj;by_cases hin:off≤j∧j<off+xs.length
    ·rw[if_pos hin]at hj;have hjl:j - off<vs.length:=by omega
     refine⟨vs[j - off],?_,hr _ _ _ hj (h0f hjl),hone _ (List.getElem_mem hjl)⟩;unfold World.cell?;rw[hc'];simp only[h0y,h0r,if_false];rw[hget,if_pos (by omega),h0f hjl]
    ·rw[if_neg hin]at hj;obtain⟨v,hv,hrv⟩:=q5 j x hj;exact⟨v,by rw[hcell b j (.inr (by omega))];exact hv,hrv⟩
   ·have hi2:=hset i _ hi1 ei;obtain⟨q1,q2,b1,hi3,q3,q4,q5⟩:=h.vs.at_ i k1 g1 e1 cs1 hi2;refine⟨q1,q2,b1,hi3,q3,q4,fun j x hj=>?_⟩;obtain⟨v,hv,hrv⟩:=q5 j x hj;refine⟨v,?_,hrv⟩;rw[hcell b1 j (.inl fun eb=>?_)]
    ·exact hv
    ·subst eb;have hkk:k1≠k:=fun ek=>by subst ek;exact ei (h.vs.uni _ _ _ _ _ _ _ _ _ hi2 hid)
     have:=h.regd k1 k b1 0 hi3 0 hi hkk q3 hρ (by have:=(h0b.1 hj).1;omega) hhi;have:=(h0b.1 hj).1;omega
  ·have key:∀ (i k1 g1:Nat) e1 cs1,(heap.set id (.vec k gen e (c0S cs off xs)))[i]? = some (.vec k1 g1 e1 cs1)→∃ g e2 cs2,heap[i]? = some (.vec k1 g e2 cs2):=fun i k1 g1 e1 cs1 hq=>by
    by_cases ei:i=id
    ·subst ei;rw[h0i hidl]at hq;cases hq
     exact⟨_,_,_,hid⟩
    ·exact⟨_,_,_,hset i _ hq ei⟩
   obtain⟨_,_,_,a1⟩:=key _ _ _ _ _ hi1;obtain⟨_,_,_,a2⟩:=key _ _ _ _ _ hi1';exact h.vs.uni _ _ _ _ _ _ _ _ _ a1 a2
theorem d3E{E:Env}{G:Gh}{heap:List VObj}{arr:List Nat}{w0:Base}{w:World}(h:RelW E G heap arr w0 w){a x:V}{va vx:Value}{t:TypeId}{K:List VObj→Prop}
  (ha:RV E.P G arr a va) (hx:RV E.P G arr x vx) (hK:c0s E heap t a x K) :
  ∃ w' heap',(Instr.storeAt t va vx).run E.P w = .ok () w'∧K heap'∧RelW E G heap' arr w0 w':=by
 cases a <;> simp only[c0s]at hK <;> try exact hK.elim
 case ptr id off =>
  split at hK
  ·rename_i ob hcs;split at hK
   case h_2=>exact hK.elim
   rename_i cs hcs';obtain⟨⟨h1,h2,h3,h4,h5⟩,hk⟩:=hK;cases ha with
   | ptr _ _ b hb =>
    obtain⟨b',hb',hro⟩:=h.obj id _ hcs;obtain⟨c,e,hc1,hc2,hc3,hput⟩:=hro.un hcs';rw[hb]at hb';cases hb';obtain⟨hl,hr⟩:=hx.cellsV h1;obtain⟨d,hd⟩:=h0I.1 h4;obtain⟨i,hi⟩:=b2N hd;have hcells:∀ v∈vx.cells.toList,(∀ cs,v ≠ .agg cs)∧∀ cs,v ≠ .tuple cs:=by
     intro v hv;obtain⟨j,hj,rfl⟩:=h1h hv;have hj':j<vx.cells.size:=by simpa using hj
     have hjc:j<(cellsV x).length:=by omega
     have:=hr j _ _ (h0f hjc) (h0t hj');exact this.cell_one (List.all_eq_true.1 h2 _ (List.getElem_mem hjc))
    obtain⟨w',c',g1,g2,g3,g4,g5,g6,g7,g8,g9⟩:=b2w (P:=E.P) vx.cells.toList w b off 0 c e hc1 (by simp;omega) hcells;refine⟨w',_,?_,hk,h.change (hbl:=by intro t s hh;unfold VObj.put at hh;split at hh <;> cases hh) (hnv:=by intro _ _ _ _ hh;unfold VObj.put at hh;split at hh <;> cases hh) (hnl:=by intro _ _ _ _ hh;rw[hcs]at hh;cases hh;cases hcs') hb (h0b.1 hcs).1 (by rw[hcs];intro hd;cases hd;cases hcs') g2 g3 g4 g5 g6 (hput w' c' _ g7 (by rw[g8,hc2,b4Y _ _ _ h5]) fun j y hy=>?_)⟩
    ·simp only[Instr.storeAt,Instr.sureAddr,storeVar,h1E,h1F,h1D,b0M hi];rw[if_neg (by omega)];exact g1
    ·rw[b9c _ _ _ h5]at hy;have:=g9 j;simp only[h1m,Array.length_toList]at this;by_cases hin:off≤j∧j<off+(cellsV x).length
     ·rw[if_pos hin]at hy;rw[if_pos (by omega)]at this;have hj':j - off<vx.cells.size:=by omega
      refine⟨vx.cells[j - off],by rw[this];simp[hj'],hr _ _ _ hy (h0t hj')⟩
     ·rw[if_neg hin]at hy;rw[if_neg (by omega)]at this;obtain⟨u,hu,hru⟩:=hc3 j y hy;exact⟨u,by rw[this];exact hu,hru⟩
  ·exact hK.elim
 case vptr id k gen off =>
  split at hK
  case h_2=>exact hK.elim
  rename_i k' gen' e cs hcs;obtain⟨⟨rfl,rfl,h1,h2,h3,h4,h5,h6⟩,hk⟩:=hK;obtain⟨q1,q2,b,hi,q3,q4,q5⟩:=h.vs.at_ id _ _ e cs hcs;cases ha with
  | vptr _ _ _ _ _ _ hv =>
   obtain⟨n,g1,g2,g3⟩:=hv;rw[q1]at g1;cases g1
   obtain⟨b',hi',g4,g5,g6⟩:=g3 rfl;rw[q3]at g4;cases g4
   subst g5;cases g6
   obtain⟨hl,hr⟩:=hx.cellsV h1;obtain⟨d,hd⟩:=h0I.1 h4;obtain⟨i,hi2⟩:=b2N hd;have hcells:∀ v∈vx.cells.toList,(∀ cs,v ≠ .agg cs)∧∀ cs,v ≠ .tuple cs:=by
    intro v hv;obtain⟨j,hj,rfl⟩:=h1h hv;have hj':j<vx.cells.size:=by simpa using hj
    have hjc:j<(cellsV x).length:=by omega
    have:=hr j _ _ (h0f hjc) (h0t hj');exact this.cell_one (List.all_eq_true.1 h2 _ (List.getElem_mem hjc))
   obtain⟨⟨c,t',hc1,hc2⟩,_⟩:=h.reg _ b 0 hi q3 (by omega);obtain⟨w',c',p1,p2,p3,p4,p5,p6,p7,p8,p9⟩:=b2w (P:=E.P) vx.cells.toList w b off 0 c t' hc1 (by simp;omega) hcells;refine⟨w',_,?_,hk,h.storeVec (vs:=vx.cells.toList) hcs q3 hc1 h5 q4 h6 (by simp;omega) (fun j y v hy hv=>hr j y v hy (by simpa using hv)) (fun v hv=>by
    obtain⟨g1,g2⟩:=hcells v hv;cases v <;> first | rfl | exact absurd rfl (g1 _) | exact absurd rfl (g2 _)) p2 p3 p4 p5 p6 p7 p8 (fun j=>by have:=p9 j;simpa using this)⟩
   simp only[Instr.storeAt,Instr.sureAddr,storeVar,h1E,h1F,h1D,b0M hi2];rw[if_neg (by omega)];exact p1
end Go.Vg
namespace Go.Vg
open Go.RowKit
theorem d3Q(need:Nat):∀ (r c:Nat),c≤need+need / 4+192→Builtin.growBy need r c≤need+need / 4+192:=by
 intro r;induction r with
 | zero=>intro c h;exact h
 | succ r ih =>
  intro c h;unfold Builtin.growBy;split
  ·exact h
  ·exact ih _ (by omega)
theorem b5W(need cap:Nat)(h:cap<need):Builtin.nextslicecap need cap≤need+need / 4+512:=by
 unfold Builtin.nextslicecap;split
 ·omega
 ·split
  ·omega
  ·have:=d3Q need 4 cap (by omega);omega
def b0W(P:Program)(e:TypeId):Bool :=
 match P.info? e with
 | some i=>(match i.zero with | some z=>z.cells.size == i.size && z.cells.all Value.oneCell' | none=>false) && decide (1≤i.size) && decide (1≤i.bytes) && decide (i.bytes≤1048576)
 | none=>false
theorem b2J{P:Program}{e:TypeId}(h:b0W P e=true):∃ i z,P.info? e=some i∧i.zero=some z∧z.cells.all Value.oneCell'=true∧z.cells.size=P.cellsOf e∧i.size=P.cellsOf e∧i.bytes=P.bytesOf e ∧
  1≤P.cellsOf e∧1≤P.bytesOf e∧P.bytesOf e≤1048576:=by
 unfold b0W at h;cases hi:P.info? e with
 | none=>simp[hi]at h
 | some i =>
  simp only[hi]at h;cases hz:i.zero with
  | none=>simp[hz]at h
  | some z =>
   simp only[hz,h0k,h0l,beq_iff_eq]at h;obtain⟨⟨⟨⟨h1,h0⟩,h2⟩,h3⟩,h4⟩:=h;refine⟨i,z,rfl,hz,h0,?_,?_,?_,?_,?_,?_⟩ <;> simp[Program.cellsOf,Program.bytesOf,hi, *]
def sl(e:TypeId)(es:List (List V)):V := .slice .shared (if es.isEmpty then 0 else e) es
theorem RV.anyElem{P:Program}{G:Gh}{arr:List Nat}{o:Own}{e e':TypeId}{v:Value}(h:RV P G arr (.slice o e []) v):RV P G arr (.slice .shared e' []) v:=by
 cases h with
 | snil o e ho=>exact .snil _ _ trivial
 | sodd e a c=>exact .sodd _ _ _
 | slice o e es b off cap ho h1 h2 h3 h4 h5 h6=>exact .slice _ _ [] b off cap trivial (by simp) (by simp) (by simp) (by simp) (by simp) (by simp)
theorem RV.sl{P:Program}{G:Gh}{arr:List Nat}{o:Own}{e:TypeId}{es:List (List V)}{v:Value}(h:RV P G arr (.slice o e es) v):RV P G arr (sl e es) v:=by
 cases es with
 | nil=>exact h.anyElem
 | cons x r =>
  show RV P G arr (.slice .shared e (x::r)) v;cases h with
  | slice _ _ _ b off cap ho h1 h2 h3 h4 h5 h6=>exact .slice _ _ _ _ _ _ trivial h1 h2 h3 h4 h5 h6
def share1:V→V
 | .slice _ e es=>sl e es
 | x=>x
theorem RV.share1{P:Program}{G:Gh}{arr:List Nat}{x:V}{v:Value}(h:RV P G arr x v):RV P G arr (share1 x) v:=by
 cases x
 case slice o e es=>exact h.sl
 all_goals exact h
def shareA:V→V
 | .agg cs => .agg (cs.map share1)
 | x=>share1 x
theorem RV.shareA{P:Program}{G:Gh}{arr:List Nat}{x:V}{v:Value}(h:RV P G arr x v):RV P G arr (shareA x) v:=by
 cases x
 case agg cs =>
  cases h with
  | agg _ vs hl hr =>
   refine .agg _ _ (by simpa using hl) fun j c u hc hu=>?_
   rw[h0u]at hc;obtain⟨c',hc',rfl⟩:=h0p.1 hc;exact(hr j c' u hc' hu).share1
 all_goals exact h.share1
def share:V→V
 | .tuple cs => .tuple (cs.map shareA)
 | x=>shareA x
theorem RV.share{P:Program}{G:Gh}{arr:List Nat}{x:V}{v:Value}(h:RV P G arr x v):RV P G arr (share x) v:=by
 cases x
 case tuple cs =>
  cases h with
  | tuple _ vs hl hr =>
   refine .tuple _ _ (by simpa using hl) fun j c u hc hu=>?_
   rw[h0u]at hc;obtain⟨c',hc',rfl⟩:=h0p.1 hc;exact(hr j c' u hc' hu).shareA
 all_goals exact h.shareA
def b6O(P:Program)(e:TypeId):V→Option (List (List V))
 | .slice _ e' es=>if e'=e∨es=[]then some es else none
 | _=>none
theorem c9s{E:Env}{G:Gh}{heap:List VObj}{arr:List Nat}{w0:Base}{w:World}(h:RelW E G heap arr w0 w){o:Own}{e:TypeId}{es:List (List V)}{v:Value}
  (hv:RV E.P G arr (.slice o e es) v):∃ vs:Array Value,(∃ a cap,v = .slice a es.length cap)∧(Builtin.firstCells (E.P.cellsOf e) es.length v).run E.P w = .ok vs w∧vs.size=es.length * E.P.cellsOf e ∧
   ∀ (i:Nat) el (j:Nat) c,es[i]? = some el→el[j]? = some c→∃ u,vs[i * E.P.cellsOf e+j]? = some u∧RV E.P G arr c u:=by
 cases hv with
 | snil o e ho=>exact⟨#[],⟨none,0,rfl⟩,by simp[Builtin.firstCells],by simp,by simp⟩
 | sodd e a c =>
  refine⟨#[],⟨a,c,rfl⟩,?_,by simp,by simp⟩;cases a with
  | none=>exact run_firstCells_none w _ 0 0 c
  | some a=>exact run_firstCells_some w _ 0 a 0 c [] (by simp) (by simp)
 | slice o e es b off cap ho h1 h2 h3 h4 h5 h6 =>
  obtain⟨vs,g1,g2,g3⟩:=b7A (P:=E.P) (w:=w) (b:=b) (o:=off) (n:=es.length * E.P.cellsOf e) (fun j hj=>by
   have hs:0<E.P.cellsOf e:=Nat.pos_of_ne_zero fun h0=>by simp[h0]at hj
   have hi:j / E.P.cellsOf e<es.length:=(Nat.div_lt_iff_lt_mul hs).2 hj;have hel:=h1 _ _ (h0f hi);obtain⟨u,hu⟩:=h5 _ _ (j % E.P.cellsOf e) (h0f hi) (by rw[hel];exact Nat.mod_lt _ hs);refine⟨u,?_⟩;have:j / E.P.cellsOf e * E.P.cellsOf e+j % E.P.cellsOf e=j:=Nat.div_add_mod' j _;rw[this]at hu;exact h.frz _ _ _ hu)
  refine⟨vs,⟨_,_,rfl⟩,by simpa[Builtin.firstCells]using g1,g2,fun i el j c hi hj=>?_⟩;have hel:=h1 i el hi;have hjl:=(h0b.1 hj).1;have hil:=(h0b.1 hi).1;obtain⟨u,hu⟩:=h5 i el j hi hjl;have hlt:i * E.P.cellsOf e+j<es.length * E.P.cellsOf e:=by
   have:(i+1) * E.P.cellsOf e≤es.length * E.P.cellsOf e:=h0P _ hil;rw[h0V]at this;omega
  exact⟨u,by rw[g3 _ hlt];exact h.frz _ _ _ hu,h6 i el j c u hi hj hu⟩
def Gh.freezeAt(G:Gh)(b lo:Nat)(c:Array Value):Gh:={ G with F:=fun b' o=>if b'=b∧lo≤o∧o<lo+c.size then c[o - lo]? else G.F b' o }
theorem RelW.allocA{E:Env}{G:Gh}{heap:List VObj}{arr:List Nat}{w0:Base}{w:World}(h:RelW E G heap arr w0 w)(c rest:Array Value)(e:TypeId)(k m hi:Nat)(arr':List Nat)(ρ':List (Nat×Nat×Nat))
  (hhi:hi≤c.size+rest.size) (hl:ρ'.length=arr'.length) (hk:ρ'[k]? = some (w.heap.size,c.size,hi)) (hak:arr'[k]? = some m)
  (hold:∀ j:Nat,j≠k→ρ'[j]? = G.ρ[j]?∧arr'[j]? = arr[j]?) (hkm:∀ n:Nat,arr[k]? = some n→n<m) (h1:∀ (j:Nat) v,c[j]? = some v→v.oneCell'=true) (hm:m<18446744073709551616) :
  Ext G arr ⟨(G.freezeAt w.heap.size 0 c).F,G.φ,ρ'⟩ arr'∧RelW E ⟨(G.freezeAt w.heap.size 0 c).F,G.φ,ρ'⟩ heap arr' w0 (w.alloc (.cells (c++rest) e)):=by
 have hF:∀ b o v,G.F b o=some v→(G.freezeAt w.heap.size 0 c).F b o=some v:=by
  intro b o v hv;simp only[Gh.freezeAt];rw[if_neg]
  ·exact hv
  ·rintro⟨rfl,_⟩;rw[h.F_new]at hv;cases hv
 have hx:Ext G arr ⟨(G.freezeAt w.heap.size 0 c).F,G.φ,ρ'⟩ arr':=by
  refine⟨hF,fun _ _ h=>h,fun j n hj=>?_⟩;by_cases e:j=k
  ·subst e;have:=hkm n hj;exact⟨m,hak,by omega,fun e=>by omega⟩
  ·exact⟨n,by rw[(hold j e).2];exact hj,h0q _,fun _=>(hold j e).1⟩
 have hs:=h.below.size;refine⟨hx,⟨fun b o v hv hlt=>h.newF b o v (by
   simp only[Gh.freezeAt]at hv
   rwa [if_neg (by omega)]at hv) hlt,fun g cs hg=>⟨(h.glob g cs hg).1,(h.glob g cs hg).2.mono hx⟩,h.below.alloc hs _,?_,fun b o v hv=>by
   simp only[Gh.freezeAt]at hv;split at hv
   ·exact h1 _ _ hv
   ·exact h.one _ _ _ hv,?_,h.lenφ,h.nod,?_,?_,hl,?_,?_,?_,?_,h.ini,h.vsK hx (fun _ _ _ _ _ h=>h) (fun j g hj hg=>by
    by_cases e:j=k
    ·subst e;have:=hkm g hj;omega
    ·rw[(hold j e).2];exact hj) fun j hj=>by rw[b0N,if_neg (by omega)]⟩⟩
 ·intro b o v hv;simp only[Gh.freezeAt]at hv;split at hv
  ·rename_i hc;obtain⟨rfl,_,hc2⟩:=hc;rw[World.cell?_alloc_new,h1z (by omega)];simpa using hv
  ·rw[World.cell?_alloc_old _ _ _ (by have:=b6L (h.frz _ _ _ hv);simp;omega)];exact h.frz _ _ _ hv
 ·intro id ob hid;obtain⟨b,hb,hr⟩:=h.obj id ob hid;exact⟨b,hb,hr.keep hx (by rw[b0N,if_neg (by have:=(h.geφ id b hb).2;omega)])⟩
 ·intro id b o hb hd;simp only[Gh.freezeAt];have:=(h.geφ id b hb).2;rw[if_neg (by omega)];exact h.sep id b o hb hd
 ·intro id b hb;have:=h.geφ id b hb;simp;omega
 ·intro j b lo hi' hj hlt;by_cases ej:j=k
  ·subst ej;simp only at hj;rw[hk]at hj;cases hj
   refine⟨⟨c++rest,e,by rw[b0N,if_pos rfl],by simpa using hhi⟩,fun id hid=>?_,fun o h1 h2=>?_,hs⟩
   ·have:=(h.geφ id _ hid).2;omega
   ·simp only[Gh.freezeAt];rw[if_neg (by omega)];exact h.F_new o
  ·simp only at hj;rw[(hold j ej).1]at hj;obtain⟨⟨c',e',h1,h2⟩,h3,h4,h5⟩:=h.reg j b lo hi' hj hlt;have hblt:b<w.heap.size:=(h0B.1 h1).1;refine⟨⟨c',e',by rw[b0N,if_neg (by omega)];exact h1,h2⟩,h3,fun o ho1 ho2=>?_,h5⟩;simp only[Gh.freezeAt];rw[if_neg (by omega)];exact h4 o ho1 ho2
 ·intro i j b lo hi1 lo' hi2 hij hi' hj' hlt hlt';simp only at hi' hj';by_cases ei:i=k
  ·subst ei;rw[hk]at hi';cases hi'
   rw[(hold j (Ne.symm hij)).1]at hj';obtain⟨⟨c',e',h1,_⟩,_⟩:=h.reg j _ lo' hi2 hj' hlt';have hblt:w.heap.size<w.heap.size:=(h0B.1 h1).1;omega
  ·by_cases ej:j=k
   ·subst ej;rw[hk]at hj';cases hj'
    rw[(hold i ei).1]at hi';obtain⟨⟨c',e',h1,_⟩,_⟩:=h.reg i _ lo hi1 hi' hlt;have hblt:w.heap.size<w.heap.size:=(h0B.1 h1).1;omega
   ·rw[(hold i ei).1]at hi';rw[(hold j ej).1]at hj';exact h.regd i j b lo hi1 lo' hi2 hij hi' hj' hlt hlt'
 ·intro j b lo hi' hj;by_cases ej:j=k
  ·subst ej;rw[show(⟨(G.freezeAt w.heap.size 0 c).F,G.φ,ρ'⟩:Gh).ρ=ρ' from rfl,hk]at hj;cases hj
   exact .inl h.below.size
  ·rw[show(⟨(G.freezeAt w.heap.size 0 c).F,G.φ,ρ'⟩:Gh).ρ=ρ' from rfl,(hold j ej).1]at hj;exact h.fre j b lo hi' hj
 ·refine h.bldA (fun k hk=>by rw[b0N,if_neg (by omega)]) fun g hg ⟨s1,s2,s3⟩=>⟨fun o=>?_,s2,fun j lo hi' hj=>?_⟩
  ·simp only[Gh.freezeAt];rw[if_neg (by omega)];exact s1 o
  ·by_cases ej:j=k
   ·subst ej;rw[show(⟨(G.freezeAt w.heap.size 0 c).F,G.φ,ρ'⟩:Gh).ρ=ρ' from rfl,hk]at hj;cases hj;omega
   ·rw[show(⟨(G.freezeAt w.heap.size 0 c).F,G.φ,ρ'⟩:Gh).ρ=ρ' from rfl,(hold j ej).1]at hj;exact s3 j lo hi' hj
theorem RelW.fillA{E:Env}{G:Gh}{heap:List VObj}{arr:List Nat}{w0:Base}{w:World}(h:RelW E G heap arr w0 w){k b lo hi n m:Nat}{c:Array Value}{w':World}{cb cb':Array Value}{e:TypeId}
  (hk:G.ρ[k]? = some (b,lo,hi)) (hlt:lo<hi) (hn:arr[k]? = some n) (hnm:n<m) (hc:lo+c.size≤hi)
  (hos:w'.os=w.os) (ht:w'.tape=w.tape) (ho:w'.output=w.output) (hsz:w'.heap.size=w.heap.size) (hkk:∀ j,j≠b→w'.heap[j]? = w.heap[j]?)
  (hb:w.heap[b]? = some (.cells cb e (0,0))) (hb':w'.heap[b]? = some (.cells cb' e (0,0))) (hcs:cb'.size=cb.size)
  (hget:∀ j,cb'[j]? = if lo≤j∧j<lo+c.size then c[j - lo]? else cb[j]?) (hone:∀ (j:Nat) v,c[j]? = some v→v.oneCell'=true) (hm:m<18446744073709551616) :
  Ext G arr ⟨(G.freezeAt b lo c).F,G.φ,G.ρ.set k (b,lo+c.size,hi)⟩ (arr.set k m) ∧
  RelW E ⟨(G.freezeAt b lo c).F,G.φ,G.ρ.set k (b,lo+c.size,hi)⟩ heap (arr.set k m) w0 w':=by
 obtain⟨_,r3,r4,r5⟩:=h.reg k b lo hi hk hlt;have hkl:k<arr.length:=(h0b.1 hn).1;have hkl':k<G.ρ.length:=(h0b.1 hk).1;have hF:∀ b' o v,G.F b' o=some v→(G.freezeAt b lo c).F b' o=some v:=by
  intro b' o v hv;simp only[Gh.freezeAt];rw[if_neg]
  ·exact hv
  ·rintro⟨rfl,h1,h2⟩;rw[r4 o h1 (by omega)]at hv;cases hv
 have hx:Ext G arr ⟨(G.freezeAt b lo c).F,G.φ,G.ρ.set k (b,lo+c.size,hi)⟩ (arr.set k m):=by
  refine⟨hF,fun _ _ h=>h,fun j p hj=>?_⟩;by_cases ej:j=k
  ·subst ej;rw[hn]at hj;cases hj
   exact⟨m,h0i hkl,by omega,fun e=>by omega⟩
  ·exact⟨p,by rw[h0m (Ne.symm ej)];exact hj,h0q _,fun _=>h0m (Ne.symm ej)⟩
 have hs:=h.below.size;have hvs:Vecs E.P ⟨(G.freezeAt b lo c).F,G.φ,G.ρ.set k (b,lo+c.size,hi)⟩ heap (arr.set k m) w':=by
  refine h.vs.keep hx (fun _ _ _ _ _ h=>h) (fun j g b1 hi1 h1 h2 h3=>?_) fun j g b1 hi1 o h1 h2 h3 ho1=>?_
  ·by_cases e:j=k
   ·subst e;rw[hn]at h1;cases h1;omega
   ·rw[h0m (Ne.symm e)];exact h1
  ·have e:j≠k:=fun e=>by subst e;rw[hn]at h1;cases h1;omega
   by_cases eb:b1=b
   ·subst eb;have:=h.regd j k b1 0 hi1 lo hi e h3 hk (by omega) hlt;unfold World.cell?;rw[hb',hb];simp only[h0y,h0r,if_false];rw[hget,if_neg (by omega)]
   ·exact b2y (hkk b1 eb)
 refine⟨hx,⟨fun b' o v hv hlt'=>h.newF b' o v (by
   simp only[Gh.freezeAt]at hv
   rwa [if_neg (by omega)]at hv) hlt',fun g cs hg=>⟨(h.glob g cs hg).1,(h.glob g cs hg).2.mono hx⟩,?_,?_,fun b' o v hv=>by
   simp only[Gh.freezeAt]at hv;split at hv
   ·exact hone _ _ hv
   ·exact h.one _ _ _ hv,?_,h.lenφ,h.nod,?_,?_,by simp[h.lenρ],?_,?_,?_,?_,h.ini,hvs⟩⟩
 ·exact h.below.trans ⟨hos,ht,ho,by omega,fun j hj=>hkk j (by omega)⟩
 ·intro b' o v hv;simp only[Gh.freezeAt]at hv;split at hv
  ·rename_i hc';obtain⟨rfl,h1,h2⟩:=hc';simp only[World.cell?,hb',h0y,h0r,if_false];rw[hget,if_pos ⟨h1,h2⟩];exact hv
  ·rename_i hc';have hold:=h.frz _ _ _ hv;by_cases eb:b'=b
   ·subst eb;simp only[World.cell?,hb,h0y,h0r,if_false]at hold;simp only[World.cell?,hb',h0y,h0r,if_false];rw[hget,if_neg (by intro hh;exact hc' ⟨rfl,hh⟩)];exact hold
   ·unfold World.cell? at hold ⊢;rw[hkk b' eb];exact hold
 ·intro id ob hid;obtain⟨b',hb1,hr⟩:=h.obj id ob hid;refine⟨b',hb1,?_⟩;cases hlo:ob.loose with
  | false=>exact hr.keep hx (hkk b' fun e=>by have:=VObj.loose_of (r3 id (e ▸ hb1) ob hid);rw[hlo]at this;cases this)
  | true =>
   cases ob <;> simp only[VObj.loose,h0r,reduceCtorEq]at hlo
   ·trivial
   ·trivial
 ·intro id b' o hb1 hd;simp only[Gh.freezeAt];rw[if_neg (by
   rintro⟨rfl,_⟩;cases hq:heap[id]? with
   | none =>
    have:=h.lenφ;have h1:id<G.φ.length:=(h0b.1 hb1).1;rw[List.getElem?_eq_none_iff]at hq;omega
   | some ob =>
    have hl:=r3 id hb1 ob hq;cases ob <;> simp only[VObj.looseAt,h0r,beq_iff_eq]at hl
    ·exact hd hq
    ·subst hl;obtain⟨q1,q2,_⟩:=h.vs.at_ _ _ _ _ _ hq;rw[hn]at q1;cases q1
     omega)]
  exact h.sep id b' o hb1 hd
 ·intro id b' hb1;rw[hsz];exact h.geφ id b' hb1
 ·intro j b' lo' hi' hj hlt';simp only at hj;by_cases ej:j=k
  ·subst ej;rw[h0i hkl']at hj;cases hj
   obtain⟨⟨c1,e1,h1,h2⟩,_⟩:=h.reg j b lo hi hk hlt;rw[hb]at h1;cases h1
   refine⟨⟨cb',e,hb',by omega⟩,r3,fun o h1 h2=>?_,r5⟩;simp only[Gh.freezeAt];rw[if_neg (by omega)];exact r4 o (by omega) h2
  ·rw[h0m (Ne.symm ej)]at hj;obtain⟨⟨c1,e1,h1,h2⟩,h3,h4,h5⟩:=h.reg j b' lo' hi' hj hlt';refine⟨?_,h3,fun o ho1 ho2=>?_,h5⟩
   ·by_cases eb:b'=b
    ·subst eb;rw[hb]at h1;cases h1
     exact⟨cb',e,hb',by omega⟩
    ·exact⟨c1,e1,by rw[hkk b' eb];exact h1,h2⟩
   ·simp only[Gh.freezeAt];rw[if_neg]
    ·exact h4 o ho1 ho2
    ·rintro⟨rfl,h6,h7⟩;have:=h.regd j k b' lo' hi' lo hi ej hj hk hlt' hlt;omega
 ·intro i j b' lo1 hi1 lo2 hi2 hij hi' hj' hlt1 hlt2;simp only at hi' hj';by_cases ei:i=k
  ·subst ei;rw[h0i hkl']at hi';cases hi'
   rw[h0m hij]at hj';have:=h.regd i j b lo hi lo2 hi2 hij hk hj' hlt hlt2;omega
  ·rw[h0m (Ne.symm ei)]at hi';by_cases ej:j=k
   ·subst ej;rw[h0i hkl']at hj';cases hj'
    have:=h.regd i j b lo1 hi1 lo hi hij hi' hk hlt1 hlt;omega
   ·rw[h0m (Ne.symm ej)]at hj';exact h.regd i j b' lo1 hi1 lo2 hi2 hij hi' hj' hlt1 hlt2
 ·intro j b' lo' hi' hj;have hj:(G.ρ.set k (b,lo+c.size,hi))[j]? = some (b',lo',hi'):=hj;by_cases ej:j=k
  ·subst ej;rw[h0i hkl']at hj;cases hj
   exact .inl r5
  ·rw[h0m (Ne.symm ej)]at hj;exact h.fre j b' lo' hi' hj
 ·intro id t s b' hi' hb'';refine(h.bld id t s b' hi' hb'').keep (hkk b' fun e=>by have:=r3 id (by rw[←e];exact hb'') _ hi';cases this) fun g hg ⟨s1,s2,s3⟩=>?_
  have hne:g≠b:=fun e=>by subst e;have:=s3 k lo hi hk;omega
  refine⟨hkk g hne,fun o=>?_,s2,fun j lo' hi' hj=>?_⟩
  ·simp only[Gh.freezeAt];rw[if_neg (fun hh=>hne hh.1)];exact s1 o
  ·have hj:(G.ρ.set k (b,lo+c.size,hi))[j]? = some (g,lo',hi'):=hj;by_cases ej:j=k
   ·subst ej;rw[h0i hkl']at hj;cases hj;exact absurd rfl hne
   ·rw[h0m (Ne.symm ej)]at hj;exact s3 j lo' hi' hj
theorem RelW.slot{E:Env}{G:Gh}{heap:List VObj}{arr:List Nat}{w0:Base}{w:World}(h:RelW E G heap arr w0 w)(n:Nat) :
  Ext G arr { G with ρ:=G.ρ++[(0,0,0)] } (arr++[n])∧RelW E { G with ρ:=G.ρ++[(0,0,0)] } heap (arr++[n]) w0 w:=by
 have hx:Ext G arr { G with ρ:=G.ρ++[(0,0,0)] } (arr++[n]):=by
  refine⟨fun _ _ _ h=>h,fun _ _ h=>h,fun j p hj=>⟨p,?_,h0q _,fun _=>?_⟩⟩
  ·rw[h0e (h0b.1 hj).1];exact hj
  ·have:=(h0b.1 hj).1;exact h0e (by rw[h.lenρ];exact this)
 have hget:∀ (j b' lo' hi':Nat),(G.ρ++[(0,0,0)])[j]? = some (b',lo',hi')→lo'<hi'→G.ρ[j]? = some (b',lo',hi'):=by
  intro j b' lo' hi' hj hlt;rcases Nat.lt_trichotomy j G.ρ.length with hjl | hjl | hjl
  ·rwa [h0e hjl]at hj
  ·subst hjl;rw[h0g (h0q _)]at hj;simp at hj;omega
  ·rw[h0O (by simp;omega)]at hj;cases hj
 refine⟨hx,⟨h.newF,fun g cs hg=>⟨(h.glob g cs hg).1,(h.glob g cs hg).2.mono hx⟩,h.below,h.frz,h.one,fun id ob hid=>(h.obj id ob hid).imp fun b' hb=>⟨hb.1,hb.2.keep hx rfl⟩,
  h.lenφ,h.nod,h.sep,h.geφ,by simp[h.lenρ],fun j b' lo' hi' hj hlt=>h.reg j b' lo' hi' (hget j b' lo' hi' hj hlt) hlt,fun i j b' lo1 hi1 lo2 hi2 hij hi' hj' hlt1 hlt2=>?_,fun j b' lo' hi' hj=>?_,h.bldA (fun _ _=>rfl) (fun g hg ⟨s1,s2,s3⟩=>⟨s1,s2,fun j lo' hi' hj=>?_⟩),h.ini,h.vsK hx (fun _ _ _ _ _ h=>h) (fun j g hj _=>by rw[h0e (h0b.1 hj).1];exact hj) fun _ _=>rfl⟩⟩
 ·exact h.regd i j b' lo1 hi1 lo2 hi2 hij (hget _ _ _ _ hi' hlt1) (hget _ _ _ _ hj' hlt2) hlt1 hlt2
 ·have hj:(G.ρ++[(0,0,0)])[j]? = some (b',lo',hi'):=hj;rcases Nat.lt_trichotomy j G.ρ.length with hjl | hjl | hjl
  ·rw[h0e hjl]at hj;exact h.fre j b' lo' hi' hj
  ·subst hjl;rw[h0g (h0q _)]at hj;simp at hj;exact .inr ⟨hj.1.symm,hj.2.1.symm,hj.2.2.symm⟩
  ·rw[h0O (by simp;omega)]at hj;cases hj
 ·rcases h1A lo' hi' with hlt | hge
  ·exact s3 j lo' hi' (hget j g lo' hi' hj hlt)
  ·exact hge
theorem RelW.slotMove{E:Env}{G:Gh}{heap:List VObj}{arr:List Nat}{w0:Base}{w:World}(h:RelW E G heap arr w0 w){k len m b lo hi lo0 hi0:Nat}(hk:arr[k]? = some len)(hsm:len<18446744073709551616)
  (hρ:G.ρ[k]? = some (b,lo0,hi0)) (hreg:(lo=lo0∧hi=hi0)∨(hi≤lo∧lo≤lo0∧hi≤lo)) :
  Ext G arr { G with ρ:=G.ρ.set k (0,0,0)++[(b,lo,hi)] } (arr.set k (len+1)++[m])∧RelW E { G with ρ:=G.ρ.set k (0,0,0)++[(b,lo,hi)] } heap (arr.set k (len+1)++[m]) w0 w:=by
 have hkl:=(h0b.1 hk).1;have hlr:=h.lenρ;have hne:∀ j,j≠k→j<arr.length→(G.ρ.set k (0,0,0)++[(b,lo,hi)])[j]? = G.ρ[j]?:=fun j hj hl=>by
  rw[h0e (by simp;omega),h0m (Ne.symm hj)]
 have hx:Ext G arr { G with ρ:=G.ρ.set k (0,0,0)++[(b,lo,hi)] } (arr.set k (len+1)++[m]):=by
  refine⟨fun _ _ _ h=>h,fun _ _ h=>h,fun j p hj=>?_⟩;have hjl:=(h0b.1 hj).1;by_cases e:j=k
  ·subst e;rw[hk]at hj;cases hj
   exact⟨len+1,by rw[h0e (by simpa using hjl),h0i hjl],by omega,fun h=>by omega⟩
  ·exact⟨p,by rw[h0e (by simpa using hjl),h0m (Ne.symm e)];exact hj,h0q _,fun _=>hne j e hjl⟩
 have hget:∀ (j b' lo' hi':Nat),(G.ρ.set k (0,0,0)++[(b,lo,hi)])[j]? = some (b',lo',hi')→lo'<hi'→(j≠k∧j<arr.length∧G.ρ[j]? = some (b',lo',hi'))∨(j=arr.length∧b'=b∧lo'=lo0∧hi'=hi0):=by
  intro j b' lo' hi' hj hlt;rcases Nat.lt_trichotomy j arr.length with hjl | hjl | hjl
  ·by_cases e:j=k
   ·subst e;rw[h0e (by simp;omega),h0i (by omega)]at hj;simp at hj;omega
   ·rw[hne j e hjl]at hj;exact .inl ⟨e,hjl,hj⟩
  ·subst hjl;rw[h0g (by simp;omega)]at hj;simp[hlr]at hj;rcases hreg with⟨r1,r2⟩ | ⟨r1,_,_⟩
   ·exact .inr ⟨rfl,hj.1.symm,by omega,by omega⟩
   ·omega
  ·rw[h0O (by simp;omega)]at hj;cases hj
 refine⟨hx,⟨h.newF,fun g cs hg=>⟨(h.glob g cs hg).1,(h.glob g cs hg).2.mono hx⟩,h.below,h.frz,h.one,fun id ob hid=>(h.obj id ob hid).imp fun b' hb=>⟨hb.1,hb.2.keep hx rfl⟩,
  h.lenφ,h.nod,h.sep,h.geφ,by simp[h.lenρ],fun j b' lo' hi' hj hlt=>?_,fun i j b' lo1 hi1 lo2 hi2 hij hi' hj' hlt1 hlt2=>?_,fun j b' lo' hi' hj=>?_,h.bldA (fun _ _=>rfl) (fun g hg ⟨s1,s2,s3⟩=>⟨s1,s2,fun j lo' hi' hj=>?_⟩),h.ini,h.vsK hx (fun _ _ _ _ _ h=>h) (fun j g hj hge=>?_) fun _ _=>rfl⟩⟩
 ·rcases hget j b' lo' hi' hj hlt with⟨e1,e2,e3⟩ | ⟨rfl,rfl,rfl,rfl⟩
  ·exact h.reg j b' lo' hi' e3 hlt
  ·obtain⟨q1,q2,q3,q4⟩:=h.reg k _ _ _ hρ hlt;refine⟨q1,fun id hid ob hob=>?_,q3,q4⟩;have:=q2 id hid ob hob;cases ob with
   | dead=>rfl
   | vec k' gen e cs =>
    simp only[VObj.looseAt,beq_iff_eq]at this;subst this;obtain⟨z1,z2,_⟩:=h.vs.at_ id _ gen e cs hob;rw[hk]at z1;cases z1
    omega
   | _=>simp[VObj.looseAt]at this
 ·rcases hget i b' lo1 hi1 hi' hlt1 with⟨e1,e2,e3⟩ | ⟨rfl,e2,e3,e4⟩ <;> rcases hget j b' lo2 hi2 hj' hlt2 with⟨f1,f2,f3⟩ | ⟨rfl,f2,f3,f4⟩
  ·exact h.regd i j b' lo1 hi1 lo2 hi2 hij e3 f3 hlt1 hlt2
  ·subst f2 f3 f4;exact h.regd i k _ lo1 hi1 _ _ e1 e3 hρ hlt1 hlt2
  ·subst e2 e3 e4;exact h.regd k j _ _ _ lo2 hi2 (Ne.symm f1) hρ f3 hlt1 hlt2
  ·exact absurd rfl hij
 ·have hj:(G.ρ.set k (0,0,0)++[(b,lo,hi)])[j]? = some (b',lo',hi'):=hj;rcases Nat.lt_trichotomy j arr.length with hjl | hjl | hjl
  ·by_cases e:j=k
   ·subst e;rw[h0e (by simp;omega),h0i (by omega)]at hj;simp at hj;exact .inr ⟨hj.1.symm,hj.2.1.symm,hj.2.2.symm⟩
   ·rw[hne j e hjl]at hj;exact h.fre j b' lo' hi' hj
  ·subst hjl;rw[h0g (by simp;omega)]at hj;simp[hlr]at hj;obtain⟨rfl,rfl,rfl⟩:=hj;rcases h.fre k _ _ _ hρ with hf | ⟨f1,f2,f3⟩
   ·exact .inl hf
   ·right;rcases hreg with⟨r1,r2⟩ | ⟨r1,r2,_⟩ <;> exact⟨f1,by omega,by omega⟩
  ·rw[h0O (by simp;omega)]at hj;cases hj
 ·rcases h1A lo' hi' with hlt | hge
  ·rcases hget j g lo' hi' hj hlt with⟨e1,e2,e3⟩ | ⟨rfl,rfl,rfl,rfl⟩
   ·exact s3 j lo' hi' e3
   ·exact s3 k _ _ hρ
  ·exact hge
 ·have e:j≠k:=fun e=>by subst e;rw[hk]at hj;cases hj;omega
  have hjl:=(h0b.1 hj).1;rw[h0e (by simpa using hjl),h0m (Ne.symm e)];exact hj
end Go.Vg
namespace Go.Vg
open Go.RowKit
def c2Z(arr:List Nat)(o:Own)(e e1:TypeId)(es xs:List (List V))(K:V→List Nat→Prop):Prop :=
 match o with
 | .shared=>False
 | .full=>if xs=[]then K (.slice .full e1 es) arr else K (.slice (.arr arr.length) e (es++xs)) (arr++[es.length+xs.length])
 | .nil=>es=[]∧K (.slice (.arr arr.length) e xs) (arr++[xs.length])
 | .arr k=>(e1=e∧arr[k]? = some es.length)∧K (.slice (.arr k) e (es++xs)) (arr.set k (es.length+xs.length))
def b2r(s:ByteArray):List (List V):=s.data.toList.map fun b=>[.int .u8 b.toNat]
def b5F(E:Env)(arr:List Nat)(sType xType:TypeId)(s x:V)(K:V→List Nat→Prop):Prop :=
 match E.P.underlying sType,E.P.underlying xType,s,x with
 | some (.slice e),some (.slice _),.slice o e1 es,.slice _ e2 xs =>
  ((es=[]∨e1=e)∧(xs=[]∨e2=e)∧b0W E.P e=true∧(es.length+xs.length) * E.P.bytesOf e≤140737488355328)∧c2Z arr o e e1 es xs K
 | some (.slice e),some .string,.slice o e1 es,.str b =>
  ((es=[]∨e1=e)∧E.P.cellsOf e=1∧b0W E.P e=true∧(es.length+(b2r b).length) * E.P.bytesOf e≤140737488355328)∧c2Z arr o e e1 es (b2r b) K
 | _,_,_,_=>False
theorem b4p(z:Array Value)(n:Nat):(Builtin.zeroCells z n).size=n * z.size:=by simp[Builtin.zeroCells]
theorem f1d{P:Program}{G:Gh}{arr:List Nat}{o:Own}{e e1:TypeId}{es:List (List V)}{v:Value}(h:RV P G arr (.slice o e1 es) v)(he:es=[]∨e1=e) :
  (∀ (i:Nat) el,es[i]? = some el→el.length=P.cellsOf e)∧RV P G arr (.slice .shared e es) v:=by
 rcases he with rfl | rfl
 ·refine⟨by simp,?_⟩;cases h with
  | snil=>exact .snil _ _ trivial
  | sodd=>exact .sodd _ _ _
  | slice _ _ _ b off cap ho h1 h2 h3 h4 h5 h6 =>
   exact .slice .shared e [] b off cap trivial (by simp) (by simp) (by simp) (by simp) (by simp) (by simp)
 ·cases h with
  | snil=>exact⟨by simp,.snil _ _ trivial⟩
  | sodd=>exact⟨by simp,.sodd _ _ _⟩
  | slice _ _ _ b off cap ho h1 h2 h3 h4 h5 h6=>exact⟨h1,.slice _ _ _ _ _ _ trivial h1 h2 h3 h4 h5 h6⟩
theorem RV.ofCells{P:Program}{G:Gh}{arr:List Nat}{o:Own}{e:TypeId}{es:List (List V)}{b off cap:Nat}(ho:c3j G arr o b off es.length cap (P.cellsOf e))
  (h1:∀ (i:Nat) el,es[i]? = some el→el.length=P.cellsOf e) (h2:es.length * P.bytesOf e≤140737488355328) (h2':1≤P.bytesOf e) (h4:es.length≤cap)
  (h:∀ (i:Nat) el (j:Nat) c,es[i]? = some el→el[j]? = some c→∃ u,G.F b (off+(i * P.cellsOf e+j))=some u∧RV P G arr c u) :
  RV P G arr (.slice o e es) (.slice (some ⟨b,off,none⟩) es.length cap):=by
 refine .slice o e es b off cap ho h1 h2 (h1n (Nat.le_mul_of_pos_right _ h2') h2) h4 (fun i el j hi hj=>?_) fun i el j c v hi hj hv=>?_
 ·obtain⟨u,hu,_⟩:=h i el j _ hi (h0f hj);exact⟨u,hu⟩
 ·obtain⟨u,hu,hr⟩:=h i el j c hi hj;rw[hv]at hu;cases hu
  exact hr
theorem b5P{E:Env}{G:Gh}{heap:List VObj}{arr:List Nat}{w0:Base}{w:World}(h:RelW E G heap arr w0 w){o:Own}{e e' tx:TypeId}{es:List (List V)}{v:Value}
  (hk:E.P.underlying tx=some (.slice e')) (hv:RV E.P G arr (.slice o e es) v):∃ news:List Value,Src E.P (E.P.cellsOf e) tx v es.length news w ∧
   ∀ (i:Nat) el (j:Nat) c,es[i]? = some el→el[j]? = some c→∃ u,news[i * E.P.cellsOf e+j]? = some u∧RV E.P G arr c u:=by
 cases hv with
 | snil o e ho=>exact⟨[],Src.ofNil w hk 0,by simp⟩
 | sodd e a c =>
  refine⟨[],?_,by simp⟩;cases a with
  | none=>exact Src.ofNil w hk c
  | some a=>exact Src.ofSlice w hk a 0 c [] (by simp) (by simp) (by simp)
 | slice o e es b off cap ho h1 h2 h3 h4 h5 h6 =>
  have hF:∀ j,j<es.length * E.P.cellsOf e→∃ u,G.F b (off+j)=some u:=fun j hj=>by
   have hs:0<E.P.cellsOf e:=Nat.pos_of_ne_zero fun h0=>by simp[h0]at hj
   have hi:j / E.P.cellsOf e<es.length:=(Nat.div_lt_iff_lt_mul hs).2 hj;have hel:=h1 _ _ (h0f hi);obtain⟨u,hu⟩:=h5 _ _ (j % E.P.cellsOf e) (h0f hi) (by rw[hel];exact Nat.mod_lt _ hs);have:j / E.P.cellsOf e * E.P.cellsOf e+j % E.P.cellsOf e=j:=Nat.div_add_mod' j _;rw[this]at hu;exact⟨u,hu⟩
  have hnews:∀ (j:Nat) u,((List.range (es.length * E.P.cellsOf e)).map fun j=>(G.F b (off+j)).getD undef)[j]? = some u→G.F b (off+j)=some u:=by
   intro j u hu;rw[h0u]at hu;obtain⟨j',hj',rfl⟩:=h0p.1 hu;have hjl:=(h0b.1 hj').1;rw[List.length_range]at hjl;rw[List.getElem?_range hjl]at hj';cases hj'
   obtain⟨u,hu⟩:=hF j hjl;rw[hu];rfl
  refine⟨(List.range (es.length * E.P.cellsOf e)).map fun j=>(G.F b (off+j)).getD undef,Src.ofSlice w hk ⟨b,off,none⟩ es.length cap _ (by simp) (fun j u hu=>?_) (fun u hu=>?_),fun i el j c hi hj=>?_⟩
  ·rw[Addr.add_mk];exact h.frz _ _ _ (hnews j u hu)
  ·obtain⟨j,hj,rfl⟩:=h1h hu;exact h.one _ _ _ (hnews j _ (h0f hj))
  ·have hjl:=(h0b.1 hj).1;have hil:=(h0b.1 hi).1;have hel:=h1 i el hi;obtain⟨u,hu⟩:=h5 i el j hi hjl;have hlt:i * E.P.cellsOf e+j<es.length * E.P.cellsOf e:=by
    have:(i+1) * E.P.cellsOf e≤es.length * E.P.cellsOf e:=h0P _ hil;rw[h0V]at this;omega
   refine⟨u,?_,h6 i el j c u hi hj hu⟩;rw[h0u,List.getElem?_range hlt];simp[hu]
theorem c4H{sz:Nat}{es xs:List (List V)}{old new:List Value}(ho:old.length=es.length * sz)
  {R:V→Value→Prop} (hr1:∀ (i:Nat) el (j:Nat) c,es[i]? = some el→el[j]? = some c→∃ u,old[i * sz+j]? = some u∧R c u)
  (hr2:∀ (i:Nat) el (j:Nat) c,xs[i]? = some el→el[j]? = some c→∃ u,new[i * sz+j]? = some u∧R c u) :
  ∀ (i:Nat) el (j:Nat) c,(es++xs)[i]? = some el→el[j]? = some c→∃ u,(old++new)[i * sz+j]? = some u∧R c u:=by
 intro i el j c hi hj;by_cases hil:i<es.length
 ·rw[h0e hil]at hi;obtain⟨u,hu,hr⟩:=hr1 i el j c hi hj;refine⟨u,?_,hr⟩;rw[h0e (h0b.1 hu).1];exact hu
 ·rw[h0g (by omega)]at hi;obtain⟨u,hu,hr⟩:=hr2 _ el j c hi hj;refine⟨u,?_,hr⟩;have hmul:i * sz=es.length * sz+(i - es.length) * sz:=by rw[←h0V];congr 1;omega
  rw[h0g (by omega),ho];rw[show i * sz+j - es.length * sz=(i - es.length) * sz+j by omega];exact hu
theorem d3O{sz:Nat}{es xs:List (List V)}(h1:∀ (i:Nat) el,es[i]? = some el→el.length=sz)(h2:∀ (i:Nat) el,xs[i]? = some el→el.length=sz) :
  ∀ (i:Nat) el,(es++xs)[i]? = some el→el.length=sz:=by
 intro i el hi;by_cases hil:i<es.length
 ·rw[h0e hil]at hi;exact h1 i el hi
 ·rw[h0g (by omega)]at hi;exact h2 _ el hi
theorem c0i{E:Env}{G:Gh}{heap:List VObj}{arr:List Nat}{w0:Base}{w:World}(h:RelW E G heap arr w0 w){vs vx:Value}{t:TypeId}{sT xT:TypeId}{e e1:TypeId}{o:Own}{es xs:List (List V)}
  {K:V→List Nat→Prop} (hs:RV E.P G arr (.slice o e1 es) vs) (hsT:E.P.underlying sT=some (.slice e)) (he1:es=[]∨e1=e) (hok:b0W E.P e=true)
  (hbytes:(es.length+xs.length) * E.P.bytesOf e≤140737488355328) (hlen2:∀ (i:Nat) el,xs[i]? = some el→el.length=E.P.cellsOf e)
  (hsrc:∃ news:List Value,Src E.P (E.P.cellsOf e) xT vx xs.length news w∧∀ (i:Nat) el (j:Nat) c,xs[i]? = some el→el[j]? = some c→∃ u,news[i * E.P.cellsOf e+j]? = some u∧RV E.P G arr c u)
  (hK:c2Z arr o e e1 es xs K) :
  ∃ u y arr' G' w',(Builtin.append_ #[sT,xT] t #[vs,vx]).run E.P w = .ok u w'∧K y arr'∧Ext G arr G' arr'∧RelW E G' heap arr' w0 w'∧RV E.P G' arr' y u:=by
 unfold c2Z at hK;obtain⟨i,z,hi,hz,hz1,hzs,his,hib,hs1,hb1,hb2⟩:=b2J hok;obtain⟨hlen1,hsh1⟩:=f1d hs he1;have hlen:=d3O hlen1 hlen2;obtain⟨olds,hso,hget1⟩:=b5P h hsT hsh1;obtain⟨news,hsn,hget2⟩:=hsrc;have hget:=c4H hso.newsLen hget1 hget2;have hneed:es.length+xs.length≤140737488355328:=h1n (Nat.le_mul_of_pos_right _ hb1) hbytes;have hmulle:(es++xs).length * E.P.bytesOf e≤140737488355328:=by rw[h0h];exact hbytes
 have hone:∀ (j:Nat) v,(olds++news).toArray[j]? = some v→v.oneCell'=true:=fun j v hv=>by
  have hm:v∈olds++news:=by simpa using Array.mem_of_getElem? hv
  rcases h0E.1 hm with hm | hm
  ·exact hso.one v hm
  ·exact hsn.one v hm
 -- a new row
 have grow:∀ (a:Option Addr) (cap k:Nat) (arr':List Nat),vs = .slice a es.length cap→cap<es.length+xs.length→arr'[k]? = some (es.length+xs.length) →
   (∀ j:Nat,j≠k→arr'[j]? = arr[j]?)→(∀ n:Nat,arr[k]? = some n→n<es.length+xs.length)→k≤arr.length→(arr'.length=if k<arr.length then arr.length else arr.length+1) →
   ∃ u G' w',(Builtin.append_ #[sT,xT] t #[vs,vx]).run E.P w = .ok u w'∧Ext G arr G' arr'∧RelW E G' heap arr' w0 w'∧RV E.P G' arr' (.slice (.arr k) e (es++xs)) u:=by
  intro a cap k arr' hvs hcap hak hoth hkm hkl harl;subst hvs;have hnc:=b5W (es.length+xs.length) cap hcap;have hfit:Builtin.nextslicecap (es.length+xs.length) cap * i.bytes≤281474976710656:=by
   rw[hib];have h1:Builtin.nextslicecap (es.length+xs.length) cap * E.P.bytesOf e≤(es.length+xs.length+(es.length+xs.length) / 4+512) * E.P.bytesOf e:=h0P _ hnc;have h2:(es.length+xs.length) / 4 * E.P.bytesOf e≤140737488355328 / 4:=by
    have:(es.length+xs.length) / 4 * E.P.bytesOf e≤(es.length+xs.length) * E.P.bytesOf e / 4:=by
     rw[Nat.le_div_iff_mul_le (by omega)];have:=Nat.div_mul_le_self (es.length+xs.length) 4
     calc (es.length+xs.length) / 4 * E.P.bytesOf e * 4=(es.length+xs.length) / 4 * 4 * E.P.bytesOf e:=by rw[Nat.mul_right_comm]
      _≤(es.length+xs.length) * E.P.bytesOf e:=h0P _ this
    omega
   have h3:512 * E.P.bytesOf e≤536870912:=by omega
   rw[h0V,h0V]at h1;omega
  have hrun:=run_append_grow_src (P:=E.P) w sT xT t e i z hsT hi hz a es.length cap olds (by rw[his];exact hso.cellsD) vx xs.length news (by rw[his];exact hsn) hcap (by omega) hfit;generalize hcapN:grownCap w (es.length+xs.length) cap e=newCap at hrun;have hge:es.length+xs.length≤newCap:=by
   rw[←hcapN];simp only[grownCap,Question.cut];omega
  have hwd:=h.drew (w.drawn+1);have hsize:(olds++news).toArray.size=(es.length+xs.length) * E.P.cellsOf e:=by
   simp[hso.newsLen,hsn.newsLen,h0V]
  obtain⟨hx',hr'⟩:=hwd.allocA (olds++news).toArray (Builtin.zeroCells z.cells (newCap - (es.length+xs.length))) e k (es.length+xs.length) (newCap * E.P.cellsOf e) arr'
   (if k<arr.length then G.ρ.set k (w.heap.size,(es.length+xs.length) * E.P.cellsOf e,newCap * E.P.cellsOf e)else G.ρ++[(w.heap.size,(es.length+xs.length) * E.P.cellsOf e,newCap * E.P.cellsOf e)])
   (by rw[hsize,b4p,hzs,←h0V];exact Nat.le_of_eq (by congr 1;omega))
   (by
    have:=h.lenρ;split
    ·rename_i hk;rw[harl,if_pos hk];simp[this]
    ·rename_i hk;rw[harl,if_neg hk];simp[this])
   (by
    have:=h.lenρ;rw[hsize];show _=some (w.heap.size,_,_);split
    ·rename_i hk;exact h0i (by omega)
    ·rename_i hk;rw[h0g (by omega)];simp[show k - G.ρ.length=0 by omega])
   hak (fun j hj=>⟨by
    have:=h.lenρ;split
    ·exact h0m (Ne.symm hj)
    ·rename_i hk;by_cases hjl:j<G.ρ.length
     ·exact h0e hjl
     ·rw[h0g (by omega),h0O (by simp;omega),h0O (by omega)],hoth j hj⟩) hkm hone (by omega)
  refine⟨_,_,_,hrun,hx',hr',?_⟩;have hl':(es++xs).length=es.length+xs.length:=h0h;have key:∀ G',G'.ρ[k]? = some (w.heap.size,(es.length+xs.length) * E.P.cellsOf e,newCap * E.P.cellsOf e) →
    (∀ (i':Nat) el (j:Nat) c,(es++xs)[i']? = some el→el[j]? = some c→∃ u,G'.F w.heap.size (0+(i' * E.P.cellsOf e+j))=some u∧RV E.P G' arr' c u) →
    RV E.P G' arr' (.slice (.arr k) e (es++xs)) (.slice (some ⟨w.heap.size,0,none⟩) (es.length+xs.length) newCap):=by
   intro G' hρ hc;have:=RV.ofCells (P:=E.P) (G:=G') (arr:=arr') (o := .arr k) (e:=e) (es:=es++xs) (b:=w.heap.size) (off:=0) (cap:=newCap)
    ⟨es.length+xs.length,hak,by omega,fun _=>by rw[hρ,hl'];simp⟩ hlen hmulle hb1 (by omega) hc
   rwa [hl']at this
  refine key _ ?_ fun i' el j c hi' hj'=>?_
  ·have:=h.lenρ;show(if k<arr.length then _ else _)[k]? = _;split
   ·rename_i hk;exact h0i (by omega)
   ·rename_i hk;rw[h0g (by omega)];simp[show k - G.ρ.length=0 by omega]
  ·obtain⟨u,hu,hr⟩:=hget i' el j c hi' hj';refine⟨u,?_,hr.mono hx'⟩;have hlt:=(h0b.1 hu).1;simp only[Gh.freezeAt,h0w,Nat.zero_le,true_and,Nat.sub_zero];rw[if_pos (by simpa using hlt)];simpa using hu
 have hvs:(vs = .slice none 0 0∧es=[])∨∃ b off cap,vs = .slice (some ⟨b,off,none⟩) es.length cap∧c3j G arr o b off es.length cap (E.P.cellsOf e1)∧es.length≤cap:=by
  cases hs with
  | snil=>exact .inl ⟨rfl,rfl⟩
  | sodd=>exact hK.elim
  | slice _ _ _ b off cap ho _ _ _ h4=>exact .inr ⟨b,off,cap,rfl,ho,h4⟩
 have hnone:xs=[]→vs = .slice none 0 0→es=[]→(Builtin.append_ #[sT,xT] t #[vs,vx]).run E.P w = .ok (.slice none 0 0) w:=by
  rintro rfl rfl rfl;have h0:news=[]:=h0G (by have:=hsn.newsLen;simpa using this);subst h0;have hl:=hsn.len w;have hc:=hsn.cells;simp only[h0J]at hl hc;rw[←his]at hc;rcases hsn.kind with⟨e',hk⟩ | hk <;> simp[Builtin.append_,run_underlying hsT,run_underlying hk,sizeOf,typeInfo,hi,hl,hc]
 have hstay:∀ b off cap,xs=[]→vs = .slice (some ⟨b,off,none⟩) es.length cap→es.length≤cap→(Builtin.append_ #[sT,xT] t #[vs,vx]).run E.P w = .ok vs w:=by
  rintro b off cap rfl rfl hle;have h0:news=[]:=h0G (by have:=hsn.newsLen;simpa using this);subst h0;have:=run_append_room_src (P:=E.P) w sT xT t e i hsT hi b off es.length cap vx 0 [] (by rw[his];exact hsn) (by omega) (by simp) (by simp);simpa[World.setCells]using this
 -- the first append to what has no slot yet
 have first:(∀ b off cap,vs = .slice (some ⟨b,off,none⟩) es.length cap→cap=es.length∧xs≠[])→K (.slice (.arr arr.length) e (es++xs)) (arr++[es.length+xs.length]) →
   ∃ u y arr' G' w',(Builtin.append_ #[sT,xT] t #[vs,vx]).run E.P w = .ok u w'∧K y arr'∧Ext G arr G' arr'∧RelW E G' heap arr' w0 w'∧RV E.P G' arr' y u:=by
  intro hfull hk;by_cases hx0:xs=[]
  ·rcases hvs with⟨hv,he⟩ | ⟨b,off,cap,hv,ho,hle⟩
   ·obtain⟨hx',hr'⟩:=h.slot (es.length+xs.length);refine⟨_,_,_,_,w,hnone hx0 hv he,hk,hx',hr',?_⟩;subst hx0 he;exact .snil _ _ ⟨0,by simp⟩
   ·exact absurd hx0 (hfull b off cap hv).2
  ·have hpos:0<xs.length:=List.length_pos_iff.2 hx0;obtain⟨a,cap,hv,hcap⟩:∃ a cap,vs = .slice a es.length cap∧cap<es.length+xs.length:=by
    rcases hvs with⟨hv,he⟩ | ⟨b,off,cap,hv,ho,hle⟩
    ·subst he;exact⟨none,0,hv,by omega⟩
    ·have:=(hfull b off cap hv).1;exact⟨_,cap,hv,by omega⟩
   obtain⟨u,G',w',g1,g2,g3,g4⟩:=grow a cap arr.length (arr++[es.length+xs.length]) hv hcap (by simp) (fun j hj=>by
    by_cases hjl:j<arr.length
    ·exact h0e hjl
    ·rw[h0O (by simp;omega),h0O (by omega)]) (fun n hn=>by simp at hn) (h0q _) (by simp)
   exact⟨u,_,_,G',w',g1,hk,g2,g3,g4⟩
 cases o with
 | shared=>exact hK.elim
 | full =>
  by_cases hx0:xs=[]
  ·rw[if_pos hx0]at hK;refine⟨vs,_,_,G,w,?_,hK,Ext.refl _ _,h,hs⟩;rcases hvs with⟨hv,he⟩ | ⟨b,off,cap,hv,ho,hle⟩
   ·rw[hnone hx0 hv he,hv]
   ·exact hstay b off cap hx0 hv hle
  rw[if_neg hx0]at hK;refine first (fun b off cap hv=>?_) hK;rcases hvs with⟨hv',_⟩ | ⟨b',off',cap',hv',ho,_⟩
  ·rw[hv]at hv';cases hv'
  ·rw[hv]at hv';cases hv';exact⟨ho,hx0⟩
 | nil =>
  obtain⟨he,hk⟩:=hK;refine first (fun b off cap hv=>?_) (by subst he;simpa using hk);rcases hvs with⟨hv',_⟩ | ⟨b',off',cap',hv',ho,_⟩
  ·rw[hv]at hv';cases hv'
  ·exact ho.elim
 | arr k =>
  obtain⟨⟨hee,hak⟩,hk⟩:=hK;subst hee;have hkl:=(h0b.1 hak).1;by_cases hx0:xs=[]
  ·refine⟨vs,_,_,G,w,?_,hk,?_⟩
   ·rcases hvs with⟨hv,he⟩ | ⟨b,off,cap,hv,ho,hle⟩
    ·rw[hnone hx0 hv he,hv]
    ·exact hstay b off cap hx0 hv hle
   ·subst hx0;have hset:arr.set k (es.length+([]:List (List V)).length)=arr:=by
     refine List.ext_getElem? fun j=>?_
     by_cases hj:j=k
     ·subst hj;rw[h0i hkl];simpa using hak.symm
     ·rw[h0m (Ne.symm hj)]
    rw[hset];exact⟨Ext.refl _ _,h,by simpa using hs⟩
  ·have hpos:0<xs.length:=List.length_pos_iff.2 hx0;have hgrow:∀ a cap,vs = .slice a es.length cap→cap<es.length+xs.length →
     ∃ u y arr' G' w',(Builtin.append_ #[sT,xT] t #[vs,vx]).run E.P w = .ok u w'∧K y arr'∧Ext G arr G' arr'∧RelW E G' heap arr' w0 w'∧RV E.P G' arr' y u:=by
    intro a cap hv hcap;obtain⟨u,G',w',g1,g2,g3,g4⟩:=grow a cap k (arr.set k (es.length+xs.length)) hv hcap (h0i hkl) (fun j hj=>h0m (Ne.symm hj))
     (fun n hn=>by rw[hak]at hn;cases hn;omega) (by omega) (by simp[hkl])
    exact⟨u,_,_,G',w',g1,hk,g2,g3,g4⟩
   rcases hvs with⟨hv,he⟩ | ⟨b,off,cap,hv,ho,hle⟩
   ·subst he;exact hgrow none 0 hv (by simpa using hpos)
   ·by_cases hcap:cap<es.length+xs.length
    ·exact hgrow _ cap hv hcap
    ·subst hv;obtain⟨n,hn1,hn2,hn3⟩:=ho;rw[hak]at hn1;cases hn1
     have hρ:=hn3 rfl;have hmul:(es.length+xs.length) * E.P.cellsOf e1≤cap * E.P.cellsOf e1:=h0P _ (by omega);rw[h0V]at hmul;have hxp:1≤xs.length * E.P.cellsOf e1:=Nat.mul_pos hpos hs1;obtain⟨⟨cb,eb,hb1',hb2'⟩,r3,r4,r5⟩:=h.reg k b _ _ hρ (by omega);have hnl:=hsn.newsLen;have hrun:=run_append_room_src (P:=E.P) w sT xT t e1 i hsT hi b off es.length cap vx xs.length news (by rw[his];exact hsn) (by omega)
      (fun j hj=>by rw[his];simp only[World.cell?,hb1'];simp;omega) (fun j hj=>by rw[his];simp[World.frozen?,hb1'])
     obtain⟨w',cb',q1,q2,q3,q4,q5,q6,q7,q8,q9⟩:=b2w (P:=E.P) news w b (off+es.length * E.P.cellsOf e1) 0 cb eb hb1' (by omega) (fun v hv=>by
      have:=hsn.one v hv;exact⟨fun cs e=>by subst e;simp[Value.oneCell']at this,fun cs e=>by subst e;simp[Value.oneCell']at this⟩)
     have hw':w.setCells b (off+es.length * E.P.cellsOf e1) news=w':=by
      have:=run_storeCells_cells (P:=E.P) b (off+es.length * E.P.cellsOf e1) news 0 w (fun j hj=>by simp only[World.cell?,hb1'];simp;omega) (fun j hj=>by simp[World.frozen?,hb1']) hsn.one;rw[q1]at this;simp only[h1m]at this
      injection this with _ this
      exact this.symm
     rw[his,hw']at hrun;obtain⟨hx',hr'⟩:=h.fillA (k:=k) (b:=b) (n:=es.length) (m:=es.length+xs.length) (c:=news.toArray) (w':=w') (cb:=cb) (cb':=cb') (e:=eb) hρ (by omega) hak (by omega) (by simp[hnl];omega)
      q2 q3 q4 q5 q6 hb1' q7 q8 (fun j=>by have:=q9 j;simpa using this) (fun j v hv=>hsn.one v (by simpa using Array.mem_of_getElem? hv)) (by omega)
     refine⟨_,_,_,_,w',hrun,hk,hx',hr',?_⟩;have hl':(es++xs).length=es.length+xs.length:=h0h;have key:=RV.ofCells (P:=E.P) (G:=⟨(G.freezeAt b (off+es.length * E.P.cellsOf e1) news.toArray).F,G.φ,G.ρ.set k (b,off+es.length * E.P.cellsOf e1+news.toArray.size,off+cap * E.P.cellsOf e1)⟩)
      (arr:=arr.set k (es.length+xs.length)) (o := .arr k) (e:=e1) (es:=es++xs) (b:=b) (off:=off) (cap:=cap)
      ⟨es.length+xs.length,h0i hkl,by omega,fun _=>by
       have:=h.lenρ;show(G.ρ.set _ _)[_]? = _;rw[h0i (by omega)];simp[hnl,hl',h0V,h1s]⟩ hlen hmulle hb1 (by omega) (fun i' el j c hi' hj'=>by
      by_cases hil:i'<es.length
      ·rw[h0e hil]at hi';cases hsh1 with
       | sodd=>simp at hi'
       | slice _ _ _ _ _ _ _ h1 h2 h3 h4 h5 h6 =>
        obtain⟨u,hu⟩:=h5 i' el j hi' (h0b.1 hj').1;exact⟨u,hx'.F _ _ _ hu,(h6 i' el j c u hi' hj' hu).mono hx'⟩
      ·rw[h0g (by omega)]at hi';obtain⟨u,hu,hr⟩:=hget2 _ el j c hi' hj';refine⟨u,?_,hr.mono hx'⟩;have hul:=(h0b.1 hu).1;have hmm:i' * E.P.cellsOf e1=es.length * E.P.cellsOf e1+(i' - es.length) * E.P.cellsOf e1:=by rw[←h0V];congr 1;omega
       have hidx:off+(i' * E.P.cellsOf e1+j) - (off+es.length * E.P.cellsOf e1)=(i' - es.length) * E.P.cellsOf e1+j:=by omega
       simp only[Gh.freezeAt];rw[if_pos ⟨by trivial,by omega,by simp;omega⟩,hidx];simpa using hu)
     rw[hl']at key;exact key
theorem c9G{E:Env}{G:Gh}{heap:List VObj}{arr:List Nat}{w0:Base}{w:World}(h:RelW E G heap arr w0 w){s x:V}{vs vx:Value}{t:TypeId}{sT xT:TypeId}
  {K:V→List Nat→Prop} (hs:RV E.P G arr s vs) (hx:RV E.P G arr x vx) (hK:b5F E arr sT xT s x K) :
  ∃ u y arr' G' w',(Builtin.append_ #[sT,xT] t #[vs,vx]).run E.P w = .ok u w'∧K y arr'∧Ext G arr G' arr'∧RelW E G' heap arr' w0 w'∧RV E.P G' arr' y u:=by
 unfold b5F at hK;split at hK
 case h_3=>exact hK.elim
 ·rename_i e ex o e1 es o2 e2 xs hsT hxT;obtain⟨⟨he1,he2,hok,hbytes⟩,hK⟩:=hK;obtain⟨hlen2,hsh2⟩:=f1d hx he2;exact c0i h hs hsT he1 hok hbytes hlen2 (b5P h hxT hsh2) hK
 ·rename_i e o e1 es b hsT hxT;obtain⟨⟨he1,hc1,hok,hbytes⟩,hK⟩:=hK;have hl:(b2r b).length=b.size:=by simp[b2r]
  have hget:∀ (i:Nat) el,(b2r b)[i]? = some el→∃ y:UInt8,b.data.toList[i]? = some y∧el=[.int .u8 y.toNat]:=fun i el hi=>by
   obtain⟨y,hy,rfl⟩:=h0u ▸ hi |> h0p.1
   exact⟨y,hy,rfl⟩
  cases hx
  refine c0i h hs hsT he1 hok hbytes (fun i el hi=>?_) ⟨Go.byteCells b,by rw[hc1,hl];exact Src.ofString w hxT b,fun i el j c hi hj=>?_⟩ hK
  ·obtain⟨y,_,rfl⟩:=hget i el hi;rw[hc1];rfl
  ·obtain⟨y,hy,rfl⟩:=hget i el hi;cases j with
   | succ j=>simp at hj
   | zero =>
    simp at hj;subst hj;exact⟨.int .u8 y.toNat,by rw[hc1];simp only[Go.byteCells,Nat.mul_one,h1m,h0u,hy,h0D],.int _ _⟩
end Go.Vg
