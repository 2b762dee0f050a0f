/- The operations on trees, part 2: appends. -/
import Derived.Calls
import Derived.Orders
import Derived.Below
import Derived.Laws.World
import Derived.Laws.Sem
import Derived.Deep.AppendSrc
set_option linter.unusedVariables false
namespace Go.Vg
open Go.RowKit

/-- How a slice may be appended to: not at all, always into a new array (its capacity is its length), it is nil, or by the slot k of the state. -/
inductive Own where
  | shared | full | nil | arr (k : Nat)
  deriving DecidableEq

inductive V where
  | junk
  | bool (b : Bool)
  | int (k : IntKind) (n : Int)
  | str (s : ByteArray)
  | nilp
  | ptr (id off : Nat)
  | fptr (cs : List V)
  | slice (o : Own) (e : TypeId) (es : List (List V))
  | mslice (id off len cap : Nat) (e : TypeId)
  | nilmap
  | map (id : Nat)
  | nilfunc
  | func (f : FuncId) (caps : List V)
  | nilif
  | iface (t : TypeId) (v : V)
  | agg (cs : List V)
  | tuple (vs : List V)
  | vec (id k gen len : Nat) (e : TypeId)
  | vptr (id k gen off : Nat)

inductive VObj where
  | cells (cs : List V)
  | map (es : List (V × V))
  | siter (s : ByteArray) (pos : Nat)
  | dead
  | tcells (t : TypeId) (cs : List V)
  | builder (t : TypeId) (s : ByteArray)
  | vec (k gen : Nat) (e : TypeId) (cs : List V)

/-- An object whose own block says nothing. -/
def VObj.loose : VObj → Bool
  | .dead | .vec .. => true
  | _ => false

/-- An object whose block may be that of the region of slot k. -/
def VObj.looseAt (k : Nat) : VObj → Bool
  | .dead => true
  | .vec k' .. => k' == k
  | _ => false
theorem VObj.loose_of {k : Nat} {o : VObj} (h : o.looseAt k = true) : o.loose = true := by
  cases o <;> simp only [VObj.looseAt, Bool.false_eq_true] at h <;> rfl

/-- The cells of an object; the object with other cells. -/
def VObj.cs? : VObj → Option (List V)
  | .cells cs => some cs
  | .tcells _ cs => some cs
  | _ => none
def VObj.put (ob : VObj) (cs : List V) : VObj := match ob with
  | .tcells t _ => .tcells t cs
  | _ => .cells cs

/-- The ghost: frozen cells, the blocks of the mutable objects, the spare regions of the slots. -/
structure Gh where
  F : Nat → Nat → Option Value
  φ : List Nat
  ρ : List (Nat × Nat × Nat)

def OwnOK (G : Gh) (arr : List Nat) (o : Own) (b off len cap s : Nat) : Prop :=
  match o with
  | .shared => True
  | .full => cap = len
  | .nil => False
  | .arr k => ∃ n, arr[k]? = some n ∧ len ≤ n ∧ (n = len → G.ρ[k]? = some (b, off + len * s, off + cap * s))

def OwnNil (arr : List Nat) (o : Own) : Prop :=
  match o with
  | .arr k => ∃ n : Nat, arr[k]? = some n
  | _ => True

/-- What holds of slot k at the generation gen. -/
def VecV (G : Gh) (arr : List Nat) (k gen : Nat) (C : Nat → Nat → Prop) : Prop := ∃ n, arr[k]? = some n ∧ gen ≤ n ∧ (n = gen → ∃ b hi, G.ρ[k]? = some (b, 0, hi) ∧ C b hi)

inductive RV (P : Program) (G : Gh) (arr : List Nat) : V → Value → Prop
  | junk (v) : RV P G arr .junk v
  | bool (b) : RV P G arr (.bool b) (.bool b)
  | int (k n) : RV P G arr (.int k n) (.int k n)
  | str (s) : s.size ≤ 1152921504606846976 → RV P G arr (.str s) (.string s)
  | nilp : RV P G arr .nilp (.pointer none)
  | ptr (id off b) : G.φ[id]? = some b → RV P G arr (.ptr id off) (.pointer (some ⟨b, off, none⟩))
  | fptr (cs b o) : (∀ j, j < cs.length → ∃ v, G.F b (o + j) = some v) → (∀ (j : Nat) c v, cs[j]? = some c → G.F b (o + j) = some v → RV P G arr c v) →
      RV P G arr (.fptr cs) (.pointer (some ⟨b, o, none⟩))
  | snil (o e) : OwnNil arr o → RV P G arr (.slice o e []) (.slice none 0 0)
  | sodd (e a c) : RV P G arr (.slice .shared e []) (.slice a 0 c)
  | slice (o e es b off cap) : OwnOK G arr o b off es.length cap (P.cellsOf e) →
      (∀ (i : Nat) el, es[i]? = some el → el.length = P.cellsOf e) → es.length * P.bytesOf e ≤ 140737488355328 → es.length ≤ 140737488355328 →
      es.length ≤ cap →
      (∀ (i : Nat) el (j : Nat), es[i]? = some el → j < el.length → ∃ v, G.F b (off + (i * P.cellsOf e + j)) = some v) →
      (∀ (i : Nat) el (j : Nat) c v, es[i]? = some el → el[j]? = some c → G.F b (off + (i * P.cellsOf e + j)) = some v → RV P G arr c v) →
      RV P G arr (.slice o e es) (.slice (some ⟨b, off, none⟩) es.length cap)
  | mslice (id off len cap e b) : G.φ[id]? = some b → len ≤ 140737488355328 → len ≤ cap → len * P.bytesOf e ≤ 140737488355328 →
      RV P G arr (.mslice id off len cap e) (.slice (some ⟨b, off, none⟩) len cap)
  | nilmap : RV P G arr .nilmap (.map none)
  | map (id b) : G.φ[id]? = some b → RV P G arr (.map id) (.map (some b))
  | nilfunc : RV P G arr .nilfunc .nilFunc
  | func (f caps cs) : caps.length = cs.size → (∀ (j : Nat) c v, caps[j]? = some c → cs[j]? = some v → RV P G arr c v) →
      RV P G arr (.func f caps) (.func (.func f) #[] cs)
  | nilif : RV P G arr .nilif .nilIface
  | iface (t x v) : RV P G arr x v → RV P G arr (.iface t x) (.iface t v)
  | agg (cs vs) : cs.length = vs.size → (∀ (j : Nat) c v, cs[j]? = some c → vs[j]? = some v → RV P G arr c v) →
      RV P G arr (.agg cs) (.agg vs)
  | tuple (cs vs) : cs.length = vs.size → (∀ (j : Nat) c v, cs[j]? = some c → vs[j]? = some v → RV P G arr c v) →
      RV P G arr (.tuple cs) (.tuple vs)
  | vec (id k gen len e b o cap) : VecV G arr k gen (fun b' hi => hi = cap * P.cellsOf e ∧ len ≤ cap ∧ b' = b ∧ o = 0) → len ≤ 140737488355328 → len * P.bytesOf e ≤ 140737488355328 →
      RV P G arr (.vec id k gen len e) (.slice (some ⟨b, o, none⟩) len cap)
  | vptr (id k gen off b o) : VecV G arr k gen (fun b' _ => b' = b ∧ o = off) → RV P G arr (.vptr id k gen off) (.pointer (some ⟨b, o, none⟩))

/-- Later: more is frozen, more objects, more slots; a slot's region turns only together with its length. -/
structure Ext (G : Gh) (arr : List Nat) (G' : Gh) (arr' : List Nat) : Prop where
  F : ∀ b o v, G.F b o = some v → G'.F b o = some v
  φ : ∀ (id : Nat) b, G.φ[id]? = some b → G'.φ[id]? = some b
  ρ : ∀ (k : Nat) n, arr[k]? = some n → ∃ n', arr'[k]? = some n' ∧ n ≤ n' ∧ (n' = n → G'.ρ[k]? = G.ρ[k]?)

theorem Ext.refl (G : Gh) (arr : List Nat) : Ext G arr G arr :=
  ⟨fun _ _ _ h => h, fun _ _ h => h, fun _ n h => ⟨n, h, Nat.le_refl _, fun _ => rfl⟩⟩

theorem Ext.trans {G G' G'' : Gh} {arr arr' arr'' : List Nat} (h : Ext G arr G' arr') (h' : Ext G' arr' G'' arr'') : Ext G arr G'' arr'' := by
  refine ⟨fun b o v hv => h'.F _ _ _ (h.F _ _ _ hv), fun id b hb => h'.φ _ _ (h.φ _ _ hb), fun k n hn => ?_⟩
  obtain ⟨n1, h1, h2, h3⟩ := h.ρ k n hn
  obtain ⟨n2, h4, h5, h6⟩ := h'.ρ k n1 h1
  refine ⟨n2, h4, Nat.le_trans h2 h5, fun e => ?_⟩
  have e1 : n1 = n := by omega
  have e2 : n2 = n1 := by omega
  rw [h6 e2, h3 e1]

theorem OwnOK.mono {G G' : Gh} {arr arr' : List Nat} (h : Ext G arr G' arr') {o : Own} {b off len cap s : Nat} (ho : OwnOK G arr o b off len cap s) :
    OwnOK G' arr' o b off len cap s := by
  cases o with
  | shared => trivial
  | full => exact ho
  | nil => exact ho
  | arr k =>
    obtain ⟨n, h1, h2, h3⟩ := ho
    obtain ⟨n', h4, h5, h6⟩ := h.ρ k n h1
    refine ⟨n', h4, Nat.le_trans h2 h5, fun e => ?_⟩
    have : n = len := by omega
    rw [h6 (by omega), h3 this]

theorem OwnNil.mono {G G' : Gh} {arr arr' : List Nat} (h : Ext G arr G' arr') {o : Own} (ho : OwnNil arr o) : OwnNil arr' o := by
  cases o with
  | arr k =>
    obtain ⟨n, h1⟩ := ho
    obtain ⟨n', h4, _⟩ := h.ρ k n h1
    exact ⟨n', h4⟩
  | _ => trivial

theorem VecV.mono {G G' : Gh} {arr arr' : List Nat} (h : Ext G arr G' arr') {k gen : Nat} {C : Nat → Nat → Prop} (hv : VecV G arr k gen C) : VecV G' arr' k gen C := by
  obtain ⟨n, h1, h2, h3⟩ := hv
  obtain ⟨n', h4, h5, h6⟩ := h.ρ k n h1
  refine ⟨n', h4, Nat.le_trans h2 h5, fun e => ?_⟩
  have : n' = n := by omega
  rw [h6 this]
  exact h3 (by omega)

theorem RV.mono {P : Program} {G G' : Gh} {arr arr' : List Nat} (h : Ext G arr G' arr') {x : V} {v : Value} (hx : RV P G arr x v) : RV P G' arr' x v := by
  induction hx with
  | junk v => exact .junk v
  | bool b => exact .bool b
  | int k n => exact .int k n
  | str s hs => exact .str s hs
  | nilp => exact .nilp
  | ptr id off b hb => exact .ptr id off b (h.φ _ _ hb)
  | fptr cs b o hd _ ih =>
    refine .fptr cs b o (fun j hj => (hd j hj).imp fun v hv => h.F _ _ _ hv) fun j c v hc hv => ?_
    obtain ⟨u, hu⟩ := hd j (List.getElem?_eq_some_iff.1 hc).1
    have := h.F _ _ _ hu
    rw [hv] at this
    exact ih j c v hc (by rw [hu, this])
  | snil o e ho => exact .snil o e (ho.mono h)
  | sodd e a c => exact .sodd e a c
  | slice o e es b off cap ho h1 h2 h3 h4 hd _ ih =>
    refine .slice o e es b off cap (ho.mono h) h1 h2 h3 h4 (fun i el j hi hj => (hd i el j hi hj).imp fun v hv => h.F _ _ _ hv) fun i el j c v hi hj hv => ?_
    obtain ⟨u, hu⟩ := hd i el j hi (List.getElem?_eq_some_iff.1 hj).1
    have := h.F _ _ _ hu
    rw [hv] at this
    exact ih i el j c v hi hj (by rw [hu, this])
  | mslice id off len cap e b hb h1 h2 h3 => exact .mslice id off len cap e b (h.φ _ _ hb) h1 h2 h3
  | nilmap => exact .nilmap
  | map id b hb => exact .map id b (h.φ _ _ hb)
  | nilfunc => exact .nilfunc
  | func f caps cs hl _ ih => exact .func f caps cs hl ih
  | nilif => exact .nilif
  | iface t x v _ ih => exact .iface t x v ih
  | agg cs vs hl _ ih => exact .agg cs vs hl ih
  | tuple cs vs hl _ ih => exact .tuple cs vs hl ih
  | vec id k gen len e b o cap hv h1 h2 => exact .vec id k gen len e b o cap (hv.mono h) h1 h2
  | vptr id k gen off b o hv => exact .vptr id k gen off b o (hv.mono h)

/-- A tree of immutable parts: it means the same whatever the objects and slots are. -/
def Own.plain : Own → Bool
  | .arr _ => false
  | _ => true

mutual
def V.pure : V → Bool
  | .ptr .. | .mslice .. | .map _ | .vec .. | .vptr .. => false
  | .fptr cs => pureL cs
  | .slice o _ es => o.plain && pureLL es
  | .func _ cs => pureL cs
  | .iface _ v => v.pure
  | .agg cs => pureL cs
  | .tuple cs => pureL cs
  | _ => true
def pureL : List V → Bool
  | [] => true
  | x :: r => x.pure && pureL r
def pureLL : List (List V) → Bool
  | [] => true
  | x :: r => pureL x && pureLL r
end

theorem pureL_get {cs : List V} (h : pureL cs = true) : ∀ (j : Nat) c, cs[j]? = some c → c.pure = true := by
  induction cs with
  | nil => intro j c hc; simp at hc
  | cons x r ih =>
    simp only [pureL, Bool.and_eq_true] at h
    intro j c hc
    cases j with
    | zero => simp at hc; exact hc ▸ h.1
    | succ j => exact ih h.2 j c (by simpa using hc)

theorem pureLL_get {cs : List (List V)} (h : pureLL cs = true) : ∀ (j : Nat) c, cs[j]? = some c → pureL c = true := by
  induction cs with
  | nil => intro j c hc; simp at hc
  | cons x r ih =>
    simp only [pureLL, Bool.and_eq_true] at h
    intro j c hc
    cases j with
    | zero => simp at hc; exact hc ▸ h.1
    | succ j => exact ih h.2 j c (by simpa using hc)

/-- What is pure reads alike under any ghost with the same frozen cells. -/
theorem RV.pure {P : Program} {G : Gh} {arr : List Nat} {x : V} {v : Value} (hx : RV P G arr x v) : x.pure = true → ∀ (G' : Gh) (arr' : List Nat),
    (∀ b o u, G.F b o = some u → G'.F b o = some u) → RV P G' arr' x v := by
  induction hx with
  | junk v => intro _ G' arr' _; exact .junk v
  | bool b => intro _ G' arr' _; exact .bool b
  | int k n => intro _ G' arr' _; exact .int k n
  | str s hs => intro _ G' arr' _; exact .str s hs
  | nilp => intro _ G' arr' _; exact .nilp
  | ptr id off b hb => intro h; simp [V.pure] at h
  | fptr cs b o hd _ ih =>
    intro h G' arr' hF
    simp only [V.pure] at h
    refine .fptr cs b o (fun j hj => (hd j hj).imp fun v hv => hF _ _ _ hv) fun j c v hc hv => ?_
    obtain ⟨u, hu⟩ := hd j (List.getElem?_eq_some_iff.1 hc).1
    have := hF _ _ _ hu
    rw [hv] at this
    exact ih j c v hc (by rw [hu, this]) (pureL_get h j c hc) G' arr' hF
  | sodd e a c => intro _ G' arr' _; exact .sodd e a c
  | snil o e ho =>
    intro h G' arr' hF
    refine .snil o e ?_
    simp only [V.pure, Bool.and_eq_true] at h
    cases o <;> simp_all [Own.plain, OwnNil]
  | slice o e es b off cap ho h1 h2 h3 h4 hd _ ih =>
    intro h G' arr' hF
    simp only [V.pure, Bool.and_eq_true] at h
    refine .slice o e es b off cap ?_ h1 h2 h3 h4 (fun i el j hi hj => (hd i el j hi hj).imp fun v hv => hF _ _ _ hv) fun i el j c v hi hj hv => ?_
    · have := h.1
      cases o <;> simp_all [Own.plain, OwnOK]
    · obtain ⟨u, hu⟩ := hd i el j hi (List.getElem?_eq_some_iff.1 hj).1
      have := hF _ _ _ hu
      rw [hv] at this
      exact ih i el j c v hi hj (by rw [hu, this]) (pureL_get (pureLL_get h.2 i el hi) j c hj) G' arr' hF
  | mslice id off len cap e b hb h1 h2 h3 => intro h; simp [V.pure] at h
  | nilmap => intro _ G' arr' _; exact .nilmap
  | map id b hb => intro h; simp [V.pure] at h
  | nilfunc => intro _ G' arr' _; exact .nilfunc
  | func f caps cs hl _ ih =>
    intro h G' arr' hF
    simp only [V.pure] at h
    exact .func f caps cs hl fun j c v hj hv => ih j c v hj hv (pureL_get h j c hj) G' arr' hF
  | nilif => intro _ G' arr' _; exact .nilif
  | iface t x v _ ih => intro h G' arr' hF; simp only [V.pure] at h; exact .iface t x v (ih h G' arr' hF)
  | agg cs vs hl _ ih =>
    intro h G' arr' hF
    simp only [V.pure] at h
    exact .agg cs vs hl fun j c v hj hv => ih j c v hj hv (pureL_get h j c hj) G' arr' hF
  | vec id k gen len e b o cap hv h1 h2 => intro h; simp [V.pure] at h
  | vptr id k gen off b o hv => intro h; simp [V.pure] at h
  | tuple cs vs hl _ ih =>
    intro h G' arr' hF
    simp only [V.pure] at h
    exact .tuple cs vs hl fun j c v hj hv => ih j c v hj hv (pureL_get h j c hj) G' arr' hF

/-- A program, what its package-level variables read as, and in which states of the memory it may panic. -/
structure Env where
  P : Program
  gl : Nat → Option (List V)
  tag : TypeId → Bool := fun _ => false
  byteT : TypeId := 0
  ini : World → Prop := fun _ => True
  iniM : ∀ w w' : World, ini w → Below w.heap.size w w' → ini w' := by exact fun _ _ h _ => h
  die : List VObj → List Nat → Prop := fun _ _ => False
  vecT : TypeId → Bool := fun _ => false

/-- The same, without panics. -/
def Env.alive (E : Env) : Env := { E with die := fun _ _ => False }

/-! ### Objects and the world -/
def RObj (P : Program) (G : Gh) (arr : List Nat) (w : World) (b : Nat) : VObj → Prop
  | .cells cs => ∃ c e, w.heap[b]? = some (.cells c e (0, 0)) ∧ c.size = cs.length ∧ ∀ (j : Nat) x, cs[j]? = some x → ∃ v, c[j]? = some v ∧ RV P G arr x v
  | .map es => ∃ m clk, w.heap[b]? = some (.map m clk) ∧ m.size = es.length ∧
      ∀ (j : Nat) kx vx, es[j]? = some (kx, vx) → ∃ e : MapEntry, m[j]? = some e ∧ RV P G arr kx e.key ∧ RV P G arr vx e.val
  | .siter s pos => w.heap[b]? = some (.stringIter s pos) ∧ s.size ≤ 1152921504606846976
  | .dead => True
  | .vec .. => True
  | .builder t _ => ∃ p v, w.heap[b]? = some (.cells #[p, v] t (0, 0)) ∧ (p = .pointer none ∨ p = .pointer (some ⟨b, 0, none⟩))
  | .tcells t cs => ∃ c, w.heap[b]? = some (.cells c t (0, 0)) ∧ c.size = cs.length ∧ ∀ (j : Nat) x, cs[j]? = some x → ∃ v, c[j]? = some v ∧ RV P G arr x v

theorem RObj.un {P : Program} {G : Gh} {arr : List Nat} {w : World} {b : Nat} {ob : VObj} {cs : List V} (h : RObj P G arr w b ob) (hc : ob.cs? = some cs) :
    ∃ c e, w.heap[b]? = some (.cells c e (0, 0)) ∧ c.size = cs.length ∧ (∀ (j : Nat) x, cs[j]? = some x → ∃ v, c[j]? = some v ∧ RV P G arr x v) ∧
      ∀ (w' : World) c' cs', w'.heap[b]? = some (.cells c' e (0, 0)) → c'.size = cs'.length → (∀ (j : Nat) x, cs'[j]? = some x → ∃ v, c'[j]? = some v ∧ RV P G arr x v) → RObj P G arr w' b (ob.put cs') := by
  cases ob <;> simp only [VObj.cs?, Option.some.injEq, reduceCtorEq] at hc
  · subst hc
    obtain ⟨c, e, h1, h2, h3⟩ := h
    exact ⟨c, e, h1, h2, h3, fun w' c' cs' g1 g2 g3 => ⟨c', e, g1, g2, g3⟩⟩
  · subst hc
    obtain ⟨c, h1, h2, h3⟩ := h
    exact ⟨c, _, h1, h2, h3, fun w' c' cs' g1 g2 g3 => ⟨c', g1, g2, g3⟩⟩

/-- A block that is a builder's own. -/
def SepB (G : Gh) (g : Nat) : Prop := (∀ o, G.F g o = none) ∧ (∀ i : Nat, G.φ[i]? ≠ some g) ∧ ∀ (k lo hi : Nat), G.ρ[k]? = some (g, lo, hi) → hi ≤ lo
/-- The bytes of a builder, in a block of its own. -/
def Bld (E : Env) (G : Gh) (w : World) (t : TypeId) (s : ByteArray) (b : Nat) : Prop := ∃ p v, w.heap[b]? = some (.cells #[p, v] t (0, 0)) ∧
  ((v = .slice none 0 0 ∧ s.size = 0) ∨ ∃ g cap cur, v = .slice (some ⟨g, 0, none⟩) s.size cap ∧ b < g ∧ w.heap[g]? = some (.cells cur E.byteT (0, 0)) ∧ s.size ≤ cap ∧ cap ≤ maxLen ∧ cur.size = cap ∧
    cur.toList.take s.size = byteCells s ∧ SepB G g)
theorem Bld.keep {E : Env} {G G' : Gh} {w w' : World} {t : TypeId} {s : ByteArray} {b : Nat} (h : Bld E G w t s b) (hb : w'.heap[b]? = w.heap[b]?)
    (hg : ∀ g, g < w.heap.size → SepB G g → w'.heap[g]? = w.heap[g]? ∧ SepB G' g) : Bld E G' w' t s b := by
  obtain ⟨p, v, h1, h2⟩ := h
  refine ⟨p, v, by rw [hb]; exact h1, h2.imp id fun ⟨g, cap, cur, g1, g2, g3, g4, g5, g6, g7, g8⟩ => ?_⟩
  have hlt : g < w.heap.size := (Array.getElem?_eq_some_iff.1 g3).1
  obtain ⟨q1, q2⟩ := hg g hlt g8
  exact ⟨g, cap, cur, g1, g2, by rw [q1]; exact g3, g4, g5, g6, g7, q2⟩

/-- What a slice that grows holds: its cells in the region of its slot. -/
def VecAt (P : Program) (G : Gh) (arr : List Nat) (w : World) (k gen : Nat) (e : TypeId) (cs : List V) : Prop :=
  arr[k]? = some gen ∧ 18446744073709551616 ≤ gen ∧ ∃ b hi, G.ρ[k]? = some (b, 0, hi) ∧ cs.length ≤ hi ∧ ∀ (j : Nat) x, cs[j]? = some x → ∃ v, w.cell? ⟨b, j, none⟩ = some v ∧ RV P G arr x v ∧ v.oneCell' = true
structure Vecs (P : Program) (G : Gh) (heap : List VObj) (arr : List Nat) (w : World) : Prop where
  at_ : ∀ (id k gen : Nat) e cs, heap[id]? = some (.vec k gen e cs) → VecAt P G arr w k gen e cs
  uni : ∀ (id id' k g g' : Nat) e e' cs cs', heap[id]? = some (.vec k g e cs) → heap[id']? = some (.vec k g' e' cs') → id = id'
theorem Vecs.nil {P : Program} {G : Gh} {arr : List Nat} {w : World} : Vecs P G [] arr w := ⟨fun _ _ _ _ _ h => by simp at h, fun _ _ _ _ _ _ _ _ _ h => by simp at h⟩
theorem Vecs.keep {P : Program} {G G' : Gh} {heap heap' : List VObj} {arr arr' : List Nat} {w w' : World} (h : Vecs P G heap arr w) (hx : Ext G arr G' arr')
    (hh : ∀ (id k gen : Nat) e cs, heap'[id]? = some (.vec k gen e cs) → heap[id]? = some (.vec k gen e cs))
    (hs : ∀ (k gen b hi : Nat), arr[k]? = some gen → 18446744073709551616 ≤ gen → G.ρ[k]? = some (b, 0, hi) → arr'[k]? = some gen)
    (hw : ∀ (k gen b hi j : Nat), arr[k]? = some gen → 18446744073709551616 ≤ gen → G.ρ[k]? = some (b, 0, hi) → j < hi → w'.cell? ⟨b, j, none⟩ = w.cell? ⟨b, j, none⟩) : Vecs P G' heap' arr' w' := by
  refine ⟨fun id k gen e cs hi => ?_, fun id id' k g g' e e' cs cs' h1 h2 => h.uni id id' k g g' e e' cs cs' (hh _ _ _ _ _ h1) (hh _ _ _ _ _ h2)⟩
  obtain ⟨h1, h2, b, hi', h3, h4, h5⟩ := h.at_ id k gen e cs (hh _ _ _ _ _ hi)
  have ha := hs k gen b hi' h1 h2 h3
  obtain ⟨n', q1, q2, q3⟩ := hx.ρ k gen h1
  rw [ha] at q1
  cases q1
  refine ⟨ha, h2, b, hi', by rw [q3 rfl]; exact h3, h4, fun j x hj => ?_⟩
  obtain ⟨v, hv, hr, ho⟩ := h5 j x hj
  exact ⟨v, by rw [hw k gen b hi' j h1 h2 h3 (Nat.lt_of_lt_of_le (List.getElem?_eq_some_iff.1 hj).1 h4)]; exact hv, hr.mono hx, ho⟩

/-- What was there at the beginning: the world, and what of it was frozen. -/
structure Base where
  w : World
  F : Nat → Nat → Option Value
  dfs : List Deferred := []

/-- The memory part of a state, over the base that was there at the beginning. -/
structure RelW (E : Env) (G : Gh) (heap : List VObj) (arr : List Nat) (w0 : Base) (w : World) : Prop where
  newF : ∀ b o v, G.F b o = some v → b < w0.w.heap.size → w0.F b o = some v
  glob : ∀ g cs, E.gl g = some cs → pureL cs = true ∧ RV E.P G arr (.fptr cs) (.pointer (some ⟨g, 0, none⟩))
  below : Below w0.w.heap.size w0.w w
  frz : ∀ b o v, G.F b o = some v → w.cell? ⟨b, o, none⟩ = some v
  one : ∀ b o v, G.F b o = some v → v.oneCell' = true
  obj : ∀ (id : Nat) ob, heap[id]? = some ob → ∃ b, G.φ[id]? = some b ∧ RObj E.P G arr w b ob
  lenφ : G.φ.length = heap.length
  nod : ∀ (i j : Nat) b, G.φ[i]? = some b → G.φ[j]? = some b → i = j
  sep : ∀ (id : Nat) b o, G.φ[id]? = some b → heap[id]? ≠ some .dead → G.F b o = none
  geφ : ∀ (id : Nat) b, G.φ[id]? = some b → w0.w.heap.size ≤ b ∧ b < w.heap.size
  lenρ : G.ρ.length = arr.length
  reg : ∀ (k b lo hi : Nat), G.ρ[k]? = some (b, lo, hi) → lo < hi →
    (∃ c e, w.heap[b]? = some (.cells c e (0, 0)) ∧ hi ≤ c.size) ∧ (∀ id : Nat, G.φ[id]? = some b → ∀ ob, heap[id]? = some ob → ob.looseAt k = true) ∧ (∀ o, lo ≤ o → o < hi → G.F b o = none) ∧ w0.w.heap.size ≤ b
  regd : ∀ (k k' b lo hi lo' hi' : Nat), k ≠ k' → G.ρ[k]? = some (b, lo, hi) → G.ρ[k']? = some (b, lo', hi') → lo < hi → lo' < hi' → hi ≤ lo' ∨ hi' ≤ lo
  fre : ∀ (k b lo hi : Nat), G.ρ[k]? = some (b, lo, hi) → w0.w.heap.size ≤ b ∨ (b = 0 ∧ lo = 0 ∧ hi = 0)
  bld : ∀ (id : Nat) t s b, heap[id]? = some (.builder t s) → G.φ[id]? = some b → Bld E G w t s b
  ini : E.ini w0.w
  vs : Vecs E.P G heap arr w

/-! ### States -/
def look : List (Nat × V) → Nat → V
  | [], _ => .junk
  | (j, x) :: r, i => if i = j then x else look r i

structure St where
  tmps : List (Nat × V)
  heap : List VObj
  arr : List Nat

def St.put (s : St) (d : Option Nat) (x : V) : St :=
  match d with
  | some d => { s with tmps := (d, x) :: s.tmps }
  | none => s

@[simp] theorem St.put_heap (s : St) (d : Option Nat) (x : V) : (s.put d x).heap = s.heap := by cases d <;> rfl
@[simp] theorem St.put_arr (s : St) (d : Option Nat) (x : V) : (s.put d x).arr = s.arr := by cases d <;> rfl

structure RelT (P : Program) (G : Gh) (arr : List Nat) (tmps : List (Nat × V)) (n : Nat) (a : Act) : Prop where
  tm : ∀ i : Nat, RV P G arr (look tmps i) (a.tmps.getD i undef)
  sz : a.tmps.size = n

theorem RelT.mono {P : Program} {G G' : Gh} {arr arr' : List Nat} {tmps : List (Nat × V)} {n : Nat} {a : Act} (h : Ext G arr G' arr') (hr : RelT P G arr tmps n a) :
    RelT P G' arr' tmps n a := ⟨fun i => (hr.tm i).mono h, hr.sz⟩

theorem RelT.put {P : Program} {G : Gh} {arr : List Nat} {tmps : List (Nat × V)} {n : Nat} {a : Act} (hr : RelT P G arr tmps n a) {d : Nat} (hd : d < n) {x : V} {v : Value}
    (hx : RV P G arr x v) : RelT P G arr ((d, x) :: tmps) n (a.put (some d) v) := by
  refine ⟨fun i => ?_, by simp [Act.put, hr.sz]⟩
  simp only [look, Act.put]
  have hs := hr.sz
  by_cases hi : i = d
  · subst hi
    rw [if_pos rfl]
    have : (a.tmps.setIfInBounds i v).getD i undef = v := by
      simp [Array.getD_eq_getD_getElem?, hs, hd]
    rw [this]; exact hx
  · rw [if_neg hi]
    have : (a.tmps.setIfInBounds d v).getD i undef = a.tmps.getD i undef := by
      simp [Array.getD_eq_getD_getElem?, Ne.symm hi]
    rw [this]; exact hr.tm i

end Go.Vg
set_option linter.unusedVariables false
namespace Go.Vg
open Go.RowKit

/-- A new frozen row at block b. -/
def Gh.freezeNew (G : Gh) (b : Nat) (c : Array Value) : Gh := { G with F := fun b' o => if b' = b then c[o]? else G.F b' o }

theorem cell_lt {w : World} {b o : Nat} {v : Value} (h : w.cell? ⟨b, o, none⟩ = some v) : b < w.heap.size := World.block_lt_of_cell? w ⟨b, o, none⟩ h

section
variable {E : Env} {G : Gh} {heap : List VObj} {arr : List Nat} {w0 : Base} {w : World}

theorem RelW.F_new (h : RelW E G heap arr w0 w) (o : Nat) : G.F w.heap.size o = none := by
  cases hF : G.F w.heap.size o with
  | none => rfl
  | some v => have := cell_lt (h.frz _ _ _ hF); omega

theorem RelW.extF (h : RelW E G heap arr w0 w) (c : Array Value) : Ext G arr (G.freezeNew w.heap.size c) arr := by
  refine ⟨fun b o v hv => ?_, fun _ _ h => h, fun _ n h => ⟨n, h, Nat.le_refl _, fun _ => rfl⟩⟩
  simp only [Gh.freezeNew]
  by_cases e : b = w.heap.size
  · subst e; rw [h.F_new] at hv; cases hv
  · rw [if_neg e]; exact hv

theorem heap_alloc (w : World) (o : Obj) (k : Nat) : (w.alloc o).heap[k]? = if k = w.heap.size then some o else w.heap[k]? := by
  show (w.heap.push o)[k]? = _
  rw [Array.getElem?_push]

theorem RObj.keep {P : Program} {G G' : Gh} {arr arr' : List Nat} {w w' : World} {b : Nat} {ob : VObj} (hx : Ext G arr G' arr') (hb : w'.heap[b]? = w.heap[b]?) (h : RObj P G arr w b ob) :
    RObj P G' arr' w' b ob := by
  cases ob with
  | cells cs =>
    obtain ⟨c, e, h1, h2, h3⟩ := h
    exact ⟨c, e, by rw [hb]; exact h1, h2, fun j x hj => (h3 j x hj).imp fun v hv => ⟨hv.1, hv.2.mono hx⟩⟩
  | map es =>
    obtain ⟨m, clk, h1, h2, h3⟩ := h
    exact ⟨m, clk, by rw [hb]; exact h1, h2, fun j kx vx hj => (h3 j kx vx hj).imp fun e he => ⟨he.1, he.2.1.mono hx, he.2.2.mono hx⟩⟩
  | siter s pos => exact ⟨by rw [hb]; exact h.1, h.2⟩
  | dead => trivial
  | vec k gen e cs => trivial
  | builder t s =>
    obtain ⟨p, v, h1, h2⟩ := h
    exact ⟨p, v, by rw [hb]; exact h1, h2⟩
  | tcells t cs =>
    obtain ⟨c, h1, h2, h3⟩ := h
    exact ⟨c, by rw [hb]; exact h1, h2, fun j x hj => (h3 j x hj).imp fun v hv => ⟨hv.1, hv.2.mono hx⟩⟩

theorem RelW.bldA (h : RelW E G heap arr w0 w) {G' : Gh} {w' : World} (hw : ∀ k, k < w.heap.size → w'.heap[k]? = w.heap[k]?) (hs : ∀ g, g < w.heap.size → SepB G g → SepB G' g) :
    ∀ (id : Nat) t s b, heap[id]? = some (.builder t s) → G.φ[id]? = some b → Bld E G' w' t s b := fun id t s b hi hb =>
  (h.bld id t s b hi hb).keep (hw b (h.geφ id b hb).2) fun g hg hsb => ⟨hw g hg, hs g hg hsb⟩

/-- The block of a slice that grows is there, and no live object's. -/
theorem RelW.vecB (h : RelW E G heap arr w0 w) {k gen b hi j : Nat} (hρ : G.ρ[k]? = some (b, 0, hi)) (hj : j < hi) : b < w.heap.size ∧ w0.w.heap.size ≤ b ∧ ∀ id : Nat, G.φ[id]? = some b → ∀ ob, heap[id]? = some ob → ob.loose = true := by
  obtain ⟨⟨c, e, h1, _⟩, h2, _, h4⟩ := h.reg k b 0 hi hρ (by omega)
  exact ⟨(Array.getElem?_eq_some_iff.1 h1).1, h4, fun id hid ob hob => VObj.loose_of (h2 id hid ob hob)⟩
theorem cell_same {w w' : World} {b j : Nat} (h : w'.heap[b]? = w.heap[b]?) : w'.cell? ⟨b, j, none⟩ = w.cell? ⟨b, j, none⟩ := by
  unfold World.cell?
  rw [h]
/-- Old blocks, slots and objects are as they were. -/
theorem RelW.vsK (h : RelW E G heap arr w0 w) {G' : Gh} {arr' : List Nat} {w' : World} {heap' : List VObj} (hx : Ext G arr G' arr')
    (hh : ∀ (id k gen : Nat) e cs, heap'[id]? = some (.vec k gen e cs) → heap[id]? = some (.vec k gen e cs))
    (ha : ∀ (k gen : Nat), arr[k]? = some gen → 18446744073709551616 ≤ gen → arr'[k]? = some gen) (hw : ∀ k, k < w.heap.size → w'.heap[k]? = w.heap[k]?) : Vecs E.P G' heap' arr' w' :=
  h.vs.keep hx hh (fun k gen b hi h1 h2 _ => ha k gen h1 h2) fun k gen b hi j h1 h2 h3 hj => cell_same (hw b (h.vecB (gen := gen) h3 hj).1)

/-- A new frozen row. -/
theorem RelW.allocF (h : RelW E G heap arr w0 w) (c : Array Value) (e : TypeId) (h1 : ∀ (j : Nat) v, c[j]? = some v → v.oneCell' = true) : RelW E (G.freezeNew w.heap.size c) heap arr w0 (w.alloc (.cells c e)) := by
  have hx := h.extF c
  refine ⟨fun b o v hv hlt => h.newF b o v (by
      simp only [Gh.freezeNew] at hv
      rwa [if_neg (by have := h.below.size; omega)] at hv) hlt, fun g cs hg => ⟨(h.glob g cs hg).1, (h.glob g cs hg).2.mono hx⟩, h.below.alloc h.below.size _, ?_, fun b o v hv => by
      simp only [Gh.freezeNew] at hv
      split at hv
      · exact h1 _ _ hv
      · exact h.one _ _ _ hv, ?_, h.lenφ, h.nod, ?_, ?_, h.lenρ, ?_, h.regd, h.fre, h.bldA (fun k hk => by rw [heap_alloc, if_neg (by omega)]) fun g hg ⟨s1, s2, s3⟩ => ⟨fun o => by
        simp only [Gh.freezeNew]; rw [if_neg (by omega)]; exact s1 o, s2, s3⟩, h.ini, h.vsK hx (fun _ _ _ _ _ h => h) (fun _ _ h _ => h) fun k hk => by rw [heap_alloc, if_neg (by omega)]⟩
  · intro b o v hv
    simp only [Gh.freezeNew] at hv
    by_cases eb : b = w.heap.size
    · rw [if_pos eb] at hv; subst eb; rw [World.cell?_alloc_new]; exact hv
    · rw [if_neg eb] at hv
      rw [World.cell?_alloc_old _ _ _ eb]; exact h.frz _ _ _ hv
  · intro id ob hid
    obtain ⟨b, hb, hr⟩ := h.obj id ob hid
    refine ⟨b, hb, hr.keep hx ?_⟩
    rw [heap_alloc, if_neg (by have := (h.geφ id b hb).2; omega)]
  · intro id b o hb hd
    simp only [Gh.freezeNew]
    rw [if_neg (by have := (h.geφ id b hb).2; omega)]
    exact h.sep id b o hb hd
  · intro id b hb
    have := h.geφ id b hb
    simp; omega
  · intro k b lo hi hk hlt
    obtain ⟨⟨c', e', h1, h2⟩, h3, h4, h5⟩ := h.reg k b lo hi hk hlt
    have hlt : b < w.heap.size := (Array.getElem?_eq_some_iff.1 h1).1
    refine ⟨⟨c', e', by rw [heap_alloc, if_neg (by omega)]; exact h1, h2⟩, h3, fun o ho1 ho2 => ?_, h5⟩
    simp only [Gh.freezeNew]
    rw [if_neg (by omega)]
    exact h4 o ho1 ho2

/-- A new object. -/
def Gh.newObj (G : Gh) (b : Nat) : Gh := { G with φ := G.φ ++ [b] }

theorem Gh.ext_newObj (G : Gh) (arr : List Nat) (b : Nat) : Ext G arr (G.newObj b) arr := by
  refine ⟨fun _ _ _ h => h, fun id b' hb => ?_, fun _ n h => ⟨n, h, Nat.le_refl _, fun _ => rfl⟩⟩
  simp only [Gh.newObj]
  rw [List.getElem?_append_left (List.getElem?_eq_some_iff.1 hb).1]; exact hb

theorem RelW.allocM (h : RelW E G heap arr w0 w) (o : Obj) (ob : VObj) (ho : RObj E.P G arr (w.alloc o) w.heap.size ob)
    (hbl : ∀ t s, ob = .builder t s → Bld E (G.newObj w.heap.size) (w.alloc o) t s w.heap.size := by intro _ _ h; cases h) (hnv : ∀ k gen e cs, ob ≠ .vec k gen e cs := by intro _ _ _ _ h; cases h) :
    RelW E (G.newObj w.heap.size) (heap ++ [ob]) arr w0 (w.alloc o) := by
  have hx := G.ext_newObj arr w.heap.size
  have hget : ∀ (id : Nat) b, (G.newObj w.heap.size).φ[id]? = some b → (id < heap.length ∧ G.φ[id]? = some b) ∨ (id = heap.length ∧ b = w.heap.size) := by
    intro id b hb
    simp only [Gh.newObj] at hb
    have hl := h.lenφ
    rcases Nat.lt_trichotomy id heap.length with hid | hid | hid
    · rw [List.getElem?_append_left (by omega)] at hb; exact .inl ⟨hid, hb⟩
    · subst hid; rw [List.getElem?_append_right (by omega)] at hb; simp [hl] at hb; exact .inr ⟨rfl, hb.symm⟩
    · rw [List.getElem?_append_right (by omega)] at hb
      rw [List.getElem?_eq_none (by simp; omega)] at hb; cases hb
  refine ⟨h.newF, fun g cs hg => ⟨(h.glob g cs hg).1, (h.glob g cs hg).2.mono hx⟩, h.below.alloc h.below.size _, ?_, h.one, ?_, ?_, ?_, ?_, ?_, h.lenρ, ?_, h.regd, h.fre, ?_, h.ini, h.vsK hx (fun id k gen e cs hi => ?_) (fun _ _ h _ => h) fun k hk => by rw [heap_alloc, if_neg (by omega)]⟩
  rotate_right 1
  · rcases Nat.lt_trichotomy id heap.length with hl | hl | hl
    · rwa [List.getElem?_append_left hl] at hi
    · subst hl
      rw [List.getElem?_append_right (Nat.le_refl _)] at hi
      simp at hi
      exact absurd hi (hnv k gen e cs)
    · rw [List.getElem?_eq_none (by simp; omega)] at hi; cases hi
  rotate_right 1
  · intro id t s b hi hb
    rcases hget id b hb with ⟨h1, h2⟩ | ⟨h1, h2⟩
    · rw [List.getElem?_append_left h1] at hi
      refine h.bldA (w' := w.alloc o) (G' := G.newObj w.heap.size) (fun k hk => by rw [heap_alloc, if_neg (by omega)]) (fun g hg ⟨s1, s2, s3⟩ => ⟨s1, fun i hi' => ?_, s3⟩) id t s b hi h2
      rcases hget i g hi' with ⟨h3, h4⟩ | ⟨h3, h4⟩
      · exact s2 i h4
      · omega
    · subst h1 h2
      rw [List.getElem?_append_right (Nat.le_refl _)] at hi
      simp at hi
      exact hbl t s hi
  · intro b o' v hv
    rw [World.cell?_alloc_old _ _ _ (by have := cell_lt (h.frz _ _ _ hv); simp; omega)]
    exact h.frz _ _ _ hv
  · intro id ob' hid
    rcases Nat.lt_trichotomy id heap.length with hi | hi | hi
    · rw [List.getElem?_append_left hi] at hid
      obtain ⟨b, hb, hr⟩ := h.obj id ob' hid
      refine ⟨b, hx.φ _ _ hb, hr.keep hx ?_⟩
      rw [heap_alloc, if_neg (by have := (h.geφ id b hb).2; omega)]
    · subst hi
      rw [List.getElem?_append_right (by omega)] at hid
      simp at hid
      subst hid
      refine ⟨w.heap.size, ?_, ho.keep hx rfl⟩
      simp [Gh.newObj, h.lenφ]
    · rw [List.getElem?_eq_none (by simp; omega)] at hid; cases hid
  · simp [Gh.newObj, h.lenφ]
  · intro i j b hi hj
    rcases hget i b hi with ⟨h1, h2⟩ | ⟨h1, h2⟩ <;> rcases hget j b hj with ⟨h3, h4⟩ | ⟨h3, h4⟩
    · exact h.nod i j b h2 h4
    · have := (h.geφ i b h2).2; omega
    · have := (h.geφ j b h4).2; omega
    · omega
  · intro id b o' hb hd
    rcases hget id b hb with ⟨h1, h2⟩ | ⟨h1, h2⟩
    · exact h.sep id b o' h2 (by rwa [List.getElem?_append_left h1] at hd)
    · subst h2; exact h.F_new o'
  · intro id b hb
    have hs := h.below.size
    rcases hget id b hb with ⟨h1, h2⟩ | ⟨h1, h2⟩
    · have := h.geφ id b h2; simp; omega
    · subst h2; simp; omega
  · intro k b lo hi hk hlt
    obtain ⟨⟨c', e', h1, h2⟩, h3, h4, h5⟩ := h.reg k b lo hi hk hlt
    have hlt : b < w.heap.size := (Array.getElem?_eq_some_iff.1 h1).1
    refine ⟨⟨c', e', by rw [heap_alloc, if_neg (by omega)]; exact h1, h2⟩, fun id hid ob' hob => ?_, h4, h5⟩
    rcases hget id b hid with ⟨h6, h7⟩ | ⟨h6, h7⟩
    · rw [List.getElem?_append_left h6] at hob
      exact h3 id h7 ob' hob
    · omega

theorem RelW.drew (h : RelW E G heap arr w0 w) (n : Nat) : RelW E G heap arr w0 { w with drawn := n } :=
  ⟨h.newF, h.glob, ⟨h.below.os, h.below.tape, h.below.output, h.below.size, h.below.block⟩, h.frz, h.one, fun id ob hid => (h.obj id ob hid).imp fun b hb => ⟨hb.1, hb.2.keep (Ext.refl _ _) rfl⟩,
    h.lenφ, h.nod, h.sep, h.geφ, h.lenρ, h.reg, h.regd, h.fre, h.bldA (fun _ _ => rfl) (fun _ _ hs => hs), h.ini, h.vsK (Ext.refl _ _) (fun _ _ _ _ _ h => h) (fun _ _ h _ => h) fun _ _ => rfl⟩

/-- An object is changed: block b alone turns, from an object of cells to one of cells (its own), or a map to a map. -/
theorem RelW.change (h : RelW E G heap arr w0 w) {id b : Nat} (hb : G.φ[id]? = some b) {w' : World} {ob : VObj} (hid : id < heap.length) (hlive : heap[id]? ≠ some .dead)
    (hos : w'.os = w.os) (ht : w'.tape = w.tape) (ho : w'.output = w.output) (hsz : w'.heap.size = w.heap.size) (hk : ∀ k, k ≠ b → w'.heap[k]? = w.heap[k]?)
    (hr : RObj E.P G arr w' b ob) (hbl : ∀ t s, ob = .builder t s → Bld E G w' t s b := by intro _ _ h; cases h) (hnv : ∀ k gen e cs, ob ≠ .vec k gen e cs := by intro _ _ _ _ h; cases h)
    (hnl : ∀ k gen e cs, heap[id]? ≠ some (.vec k gen e cs) := by intro _ _ _ _ h; simp_all) : RelW E G (heap.set id ob) arr w0 w' := by
  have hlo : ∀ o, heap[id]? = some o → o.loose = true → False := fun o ho hl => by
    cases o <;> simp only [VObj.loose, Bool.false_eq_true] at hl
    · exact hlive ho
    · exact hnl _ _ _ _ ho
  have hne : ∀ c, (∀ i : Nat, G.φ[i]? = some c → ∀ o, heap[i]? = some o → o.loose = true) → c ≠ b := fun c hc e => by
    subst e
    exact hlo _ (List.getElem?_eq_getElem hid) (hc id hb _ (List.getElem?_eq_getElem hid))
  refine ⟨h.newF, h.glob, ?_, ?_, h.one, ?_, by simp [h.lenφ], h.nod, fun i c o hc hd => ?_, fun i c hc => by rw [hsz]; exact h.geφ i c hc, h.lenρ, ?_, h.regd, h.fre, ?_, h.ini,
    h.vs.keep (Ext.refl _ _) (fun i k gen e cs hi => ?_) (fun _ _ _ _ h _ _ => h) fun k gen c hi j h1 h2 h3 hj => cell_same (hk c (hne c (h.vecB (gen := gen) h3 hj).2.2))⟩
  rotate_right 1
  · by_cases e1 : i = id
    · subst e1
      rw [List.getElem?_set_self hid] at hi
      cases hi
      exact absurd rfl (hnv k gen e cs)
    · rwa [List.getElem?_set_ne (Ne.symm e1)] at hi
  rotate_right 1
  · intro i t s c hi hc
    by_cases e : i = id
    · subst e
      rw [List.getElem?_set_self hid] at hi
      cases hi
      rw [hb] at hc; cases hc
      exact hbl t s rfl
    · rw [List.getElem?_set_ne (Ne.symm e)] at hi
      refine (h.bld i t s c hi hc).keep (hk c fun ec => e (h.nod i id c hc (by rw [ec]; exact hb))) fun g hg hs => ⟨hk g fun eg => hs.2.1 id (by rw [eg]; exact hb), hs⟩
  · refine h.below.trans ⟨hos, ht, ho, by omega, fun k hkk => hk k ?_⟩
    have := (h.geφ id b hb).1; omega
  · intro b' o v hv
    have hne : b' ≠ b := fun e => by subst e; rw [h.sep id b' o hb hlive] at hv; cases hv
    have := h.frz _ _ _ hv
    unfold World.cell? at this ⊢
    rw [hk b' hne]; exact this
  · intro i ob' hi
    by_cases e : i = id
    · subst e
      rw [List.getElem?_set_self hid] at hi
      cases hi
      exact ⟨b, hb, hr⟩
    · rw [List.getElem?_set_ne (Ne.symm e)] at hi
      obtain ⟨c, hc, hrc⟩ := h.obj i ob' hi
      refine ⟨c, hc, hrc.keep (Ext.refl _ _) (hk c fun ec => e ?_)⟩
      subst ec
      exact h.nod i id c hc hb
  · by_cases e : i = id
    · subst e; exact h.sep i c o hc hlive
    · rw [List.getElem?_set_ne (Ne.symm e)] at hd
      exact h.sep i c o hc hd
  · intro k b' lo hi hk' hlt
    obtain ⟨⟨c', e', h1, h2⟩, h3, h4, h5⟩ := h.reg k b' lo hi hk' hlt
    refine ⟨⟨c', e', by rw [hk b' (hne b' fun i hi o ho => VObj.loose_of (h3 i hi o ho))]; exact h1, h2⟩, fun i hi' o ho => ?_, h4, h5⟩
    by_cases e : i = id
    · subst e
      exact absurd hi' (fun q => hne b' (fun i hi o ho => VObj.loose_of (h3 i hi o ho)) (by rw [hb] at q; exact (Option.some.inj q).symm))
    · rw [List.getElem?_set_ne (Ne.symm e)] at ho
      exact h3 i hi' o ho

/-- For a callee that gets pure arguments and nothing else: all objects and slots are hidden from it. -/
theorem RelW.hide (h : RelW E G heap arr w0 w) : RelW E ⟨G.F, [], []⟩ [] [] { w := w, F := G.F } w := by
  refine ⟨fun b o v hv _ => hv, fun g cs hg => ?_, Below.refl _ _, h.frz, h.one, by simp, rfl, by simp, by simp, by simp, rfl, by simp, by simp, by simp, by simp, E.iniM _ _ h.ini h.below, Vecs.nil⟩
  obtain ⟨h1, h2⟩ := h.glob g cs hg
  exact ⟨h1, h2.pure h1 _ _ fun _ _ _ h => h⟩

/-- Behind such a call. -/
theorem RelW.back (h : RelW E G heap arr w0 w) {F' : Nat → Nat → Option Value} {w' : World} (hF : ∀ b o v, G.F b o = some v → F' b o = some v)
    (hnew : ∀ b o v, F' b o = some v → b < w.heap.size → G.F b o = some v) (hfrz : ∀ b o v, F' b o = some v → w'.cell? ⟨b, o, none⟩ = some v) (hone : ∀ b o v, F' b o = some v → v.oneCell' = true) (hb : Below w.heap.size w w') :
    RelW E { G with F := F' } heap arr w0 w' ∧ Ext G arr { G with F := F' } arr := by
  have hx : Ext G arr { G with F := F' } arr := ⟨hF, fun _ _ h => h, fun _ n h => ⟨n, h, Nat.le_refl _, fun _ => rfl⟩⟩
  have hs := h.below.size
  have hs' := hb.size
  have hnone : ∀ g o, g < w.heap.size → G.F g o = none → F' g o = none := fun g o hg hn => by
    cases hF' : F' g o with
    | none => rfl
    | some v => have := hnew g o v hF' hg; rw [hn] at this; cases this
  refine ⟨⟨fun b o v hv hlt => h.newF b o v (hnew b o v hv (by omega)) hlt, fun g cs hg => ⟨(h.glob g cs hg).1, (h.glob g cs hg).2.mono hx⟩, h.below.trans (hb.mono hs), hfrz, hone, ?_, h.lenφ, h.nod, ?_, ?_, h.lenρ, ?_, h.regd, h.fre, h.bldA hb.block fun g hg ⟨s1, s2, s3⟩ => ⟨fun o => hnone g o hg (s1 o), s2, s3⟩, h.ini, h.vsK hx (fun _ _ _ _ _ h => h) (fun _ _ h _ => h) hb.block⟩, hx⟩
  · intro id ob hid
    obtain ⟨b, hb', hr⟩ := h.obj id ob hid
    exact ⟨b, hb', hr.keep hx (hb.block b (h.geφ id b hb').2)⟩
  · intro id b o hb' hd
    cases hF' : F' b o with
    | none => exact hF'
    | some v => have := hnew b o v hF' (h.geφ id b hb').2; rw [h.sep id b o hb' hd] at this; cases this
  · intro id b hb'
    have := h.geφ id b hb'
    omega
  · intro k b lo hi hk hlt
    obtain ⟨⟨c', e', h1, h2⟩, h3, h4, h5⟩ := h.reg k b lo hi hk hlt
    have hlt : b < w.heap.size := (Array.getElem?_eq_some_iff.1 h1).1
    refine ⟨⟨c', e', by rw [hb.block b hlt]; exact h1, h2⟩, h3, fun o ho1 ho2 => ?_, h5⟩
    cases hF' : F' b o with
    | none => exact hF'
    | some v => have := hnew b o v hF' hlt; rw [h4 o ho1 ho2] at this; cases this

end
end Go.Vg
set_option linter.unusedVariables false
set_option linter.unusedSimpArgs false
namespace Go.Vg
open Go.RowKit

/-! ### Words -/
def ofV1 : Value → V
  | .bool b => .bool b
  | .int k n => .int k n
  | .string s => if s.size ≤ 1152921504606846976 then .str s else .junk
  | .pointer none => .nilp
  | .slice none 0 0 => .slice .nil 0 []
  | .map none => .nilmap
  | .nilFunc => .nilfunc
  | .nilIface => .nilif
  | _ => .junk

def ofV : Value → V
  | .agg cs => .agg (cs.toList.map ofV1)
  | v => ofV1 v

def ev (E : Env) (tmps : List (Nat × V)) : Operand → V
  | .tmp t => look tmps t
  | .const v => ofV v
  | .global g => match E.gl g with
    | some cs => .fptr cs
    | none => .junk
  | .func f => .func f []

theorem RV.ofV1 {P : Program} {G : Gh} {arr : List Nat} (v : Value) : RV P G arr (ofV1 v) v := by
  unfold Vg.ofV1
  split
  · exact .bool _
  · exact .int _ _
  · split
    · exact .str _ (by assumption)
    · exact .junk _
  · exact .nilp
  · exact .snil _ _ trivial
  · exact .nilmap
  · exact .nilfunc
  · exact .nilif
  · exact .junk _

theorem RV.ofV {P : Program} {G : Gh} {arr : List Nat} (v : Value) : RV P G arr (ofV v) v := by
  unfold Vg.ofV
  split
  · rename_i cs
    refine .agg _ _ (by simp) fun j c u hc hu => ?_
    simp only [List.getElem?_map, Array.getElem?_toList, hu, Option.map_some, Option.some.injEq] at hc
    exact hc ▸ RV.ofV1 u
  · exact RV.ofV1 v

theorem RV.ev {E : Env} {G : Gh} {heap : List VObj} {arr : List Nat} {w0 : Base} {w : World} {tmps : List (Nat × V)} {n : Nat} {a : Act} (h : RelW E G heap arr w0 w)
    (ht : RelT E.P G arr tmps n a) (x : Operand) : RV E.P G arr (ev E tmps x) (a.eval x) := by
  cases x with
  | tmp t => exact ht.tm t
  | const v => exact RV.ofV v
  | global g =>
    simp only [Vg.ev, Act.eval]
    split
    · rename_i cs hg; exact (h.glob g cs hg).2
    · exact .junk _
  | func f => exact .func f [] #[] rfl (by simp)

/-- The cells of a value. -/
def cellsV : V → List V
  | .agg cs => cs
  | x => [x]

/-- A value of one cell. -/
def V.cell : V → Bool
  | .junk | .agg _ | .tuple _ => false
  | _ => true

theorem RV.cellsV {P : Program} {G : Gh} {arr : List Nat} {x : V} {v : Value} (h : RV P G arr x v) (hj : x ≠ .junk) : (cellsV x).length = v.cells.size ∧
    ∀ (j : Nat) c u, (cellsV x)[j]? = some c → v.cells[j]? = some u → RV P G arr c u := by
  cases h
  case junk => exact absurd rfl hj
  case agg cs vs hl hr => exact ⟨hl, hr⟩
  all_goals
    refine ⟨rfl, fun j c u hc hu => ?_⟩
    simp only [Vg.cellsV, Value.cells] at hc hu
    cases j with
    | succ j => simp at hc
    | zero =>
      simp at hc hu
      subst hc hu
      constructor <;> assumption

theorem RV.cell_one {P : Program} {G : Gh} {arr : List Nat} {x : V} {v : Value} (h : RV P G arr x v) (hc : x.cell = true) : (∀ cs, v ≠ .agg cs) ∧ (∀ cs, v ≠ .tuple cs) := by
  cases h <;> simp_all [V.cell]

section
variable {P : Program} {w : World}
theorem run_und {t : TypeId} {d : TypeDesc} (h : P.underlying t = some d) : (underlying t).run P w = .ok d w := by
  simp [underlying, program, Sem.run, h]
theorem info_of_und {t : TypeId} {d : TypeDesc} (h : P.underlying t = some d) : ∃ i, P.info? t = some i := by
  cases hi : P.info? t with
  | some i => exact ⟨i, rfl⟩
  | none => simp [Program.underlying, hi] at h
theorem run_info {t : TypeId} {i : TypeInfo} (h : P.info? t = some i) : (typeInfo t).run P w = .ok i w := by
  simp [typeInfo, program, Sem.run, h]
theorem run_sizeOf {t : TypeId} {i : TypeInfo} (h : P.info? t = some i) : (sizeOf t).run P w = .ok (P.cellsOf t) w := by
  simp [sizeOf, run_info h, Program.cellsOf, h]
def aggB : TypeDesc → Bool
  | .struct _ | .array _ _ => true
  | _ => false
theorem run_isAgg {t : TypeId} {d : TypeDesc} (h : P.underlying t = some d) :
    (isAgg t).run P w = .ok (aggB d) w := by
  simp only [isAgg, Sem.run_bind, run_und h, Result.andThen_ok]
  cases d <;> rfl
end

/-! ### Reading and writing cells -/
theorem Addr.add_mk (b o n : Nat) : (⟨b, o, none⟩ : Addr).add n = ⟨b, o + n, none⟩ := by
  unfold Addr.add
  split
  · rename_i h; subst h; rfl
  · rfl

theorem run_loadCellsFrom {P : Program} {w : World} {b o : Nat} (f : Nat → Value) : ∀ (n i : Nat) (acc : Array Value), (∀ j, i ≤ j → j < i + n → w.cell? ⟨b, o + j, none⟩ = some (f j)) →
    (loadCellsFrom ⟨b, o, none⟩ i n acc).run P w = .ok (acc ++ ((List.range' i n).map f).toArray) w := by
  intro n
  induction n with
  | zero => intro i acc _; simp [loadCellsFrom, Sem.run]
  | succ n ih =>
    intro i acc h
    simp only [loadCellsFrom, Sem.run_bind, Addr.add_mk]
    rw [run_load, h i (Nat.le_refl _) (by omega)]
    simp only [Result.andThen_ok]
    rw [ih (i + 1) (acc.push (f i)) (fun j h1 h2 => h j (by omega) (by omega))]
    simp [List.range'_succ]

/-- n cells that are there, as an array. -/
theorem run_loadCells {P : Program} {w : World} {b o n : Nat} (h : ∀ j, j < n → ∃ v, w.cell? ⟨b, o + j, none⟩ = some v) :
    ∃ vs : Array Value, (loadCells ⟨b, o, none⟩ n).run P w = .ok vs w ∧ vs.size = n ∧ ∀ j, j < n → vs[j]? = w.cell? ⟨b, o + j, none⟩ := by
  refine ⟨((List.range' 0 n).map fun j => (w.cell? ⟨b, o + j, none⟩).getD undef).toArray, ?_, by simp, ?_⟩
  · unfold loadCells
    rw [run_loadCellsFrom (fun j => (w.cell? ⟨b, o + j, none⟩).getD undef) n 0 #[] (fun j _ hj => ?_)]
    · simp
    · obtain ⟨v, hv⟩ := h j (by omega)
      rw [hv]; rfl
  · intro j hj
    obtain ⟨v, hv⟩ := h j hj
    simp [hj, hv]

/-- Writing cells of one block of cells. -/
theorem run_storeCells {P : Program} : ∀ (vs : List Value) (w : World) (b o i : Nat) (c : Array Value) (e : TypeId), w.heap[b]? = some (.cells c e (0, 0)) → o + i + vs.length ≤ c.size →
    (∀ v ∈ vs, (∀ cs, v ≠ .agg cs) ∧ ∀ cs, v ≠ .tuple cs) →
    ∃ w' c', (storeCells ⟨b, o, none⟩ vs i).run P w = .ok () w' ∧ w'.os = w.os ∧ w'.tape = w.tape ∧ w'.output = w.output ∧ w'.heap.size = w.heap.size ∧
      (∀ k, k ≠ b → w'.heap[k]? = w.heap[k]?) ∧ w'.heap[b]? = some (.cells c' e (0, 0)) ∧ c'.size = c.size ∧
      ∀ j, c'[j]? = if o + i ≤ j ∧ j < o + i + vs.length then vs[j - (o + i)]? else c[j]? := by
  intro vs
  induction vs with
  | nil =>
    intro w b o i c e hb _ _
    refine ⟨w, c, by simp [storeCells], rfl, rfl, rfl, rfl, fun _ _ => rfl, hb, rfl, fun j => ?_⟩
    rw [if_neg (by simp only [List.length_nil]; omega)]
  | cons v vs ih =>
    intro w b o i c e hb hle hv
    simp only [List.length_cons] at hle
    have hcell : w.cell? ⟨b, o + i, none⟩ = some c[o + i] := by
      simp [World.cell?, hb]
    have hfr : w.frozen? ⟨b, o + i, none⟩ = false := by
      simp [World.frozen?, hb]
    have hst : (store ⟨b, o + i, none⟩ v).run P w = .ok () (w.setCell ⟨b, o + i, none⟩ v) := by
      have := hv v (by simp)
      unfold store
      cases v
      case agg cs => exact absurd rfl (this.1 cs)
      case tuple cs => exact absurd rfl (this.2 cs)
      all_goals simp [Sem.run, hcell, hfr]
    have hb' : (w.setCell ⟨b, o + i, none⟩ v).heap[b]? = some (.cells (c.setIfInBounds (o + i) v) e (0, 0)) := by
      simp [World.setCell, Array.getElem?_modify, hb]
    obtain ⟨w', c', h1, h2, h3, h4, h5, h6, h7, h8, h9⟩ := ih (w.setCell ⟨b, o + i, none⟩ v) b o (i + 1) (c.setIfInBounds (o + i) v) e hb' (by simp; omega)
      (fun u hu => hv u (by simp [hu]))
    refine ⟨w', c', ?_, h2, h3, h4, by rw [h5]; simp, fun k hk => ?_, h7, by rw [h8]; simp, fun j => ?_⟩
    · simp only [storeCells, Sem.run_bind, Addr.add_mk, hst, Result.andThen_ok]
      exact h1
    · rw [h6 k hk]
      exact Below.heap_setCell _ _ _ _ (by simpa using hk)
    · rw [h9 j]
      simp only [List.length_cons]
      by_cases e1 : j = o + i
      · subst e1
        rw [if_neg (by omega), if_pos (by omega)]
        have : o + i < c.size := by omega
        simp [this]
      · by_cases e2 : o + (i + 1) ≤ j ∧ j < o + (i + 1) + vs.length
        · rw [if_pos e2, if_pos (by omega)]
          have : j - (o + i) = (j - (o + (i + 1))) + 1 := by omega
          rw [this]; simp
        · rw [if_neg e2, if_neg (by omega)]
          simp [Array.getElem?_setIfInBounds, Ne.symm e1]

/-- The cells behind an address. -/
def vAt (heap : List VObj) : V → Option (List V)
  | .fptr cs => some cs
  | .ptr id off => match heap[id]? with
    | some ob => ob.cs?.map fun cs => cs.drop off
    | _ => none
  | .vptr id k gen off => match heap[id]? with
    | some (.vec k' gen' _ cs) => if k' = k ∧ gen' = gen then some (cs.drop off) else none
    | _ => none
  | _ => none

theorem read_at {E : Env} {G : Gh} {heap : List VObj} {arr : List Nat} {w0 : Base} {w : World} (h : RelW E G heap arr w0 w) {x : V} {v : Value} {cs : List V}
    (hx : RV E.P G arr x v) (hat : vAt heap x = some cs) : ∃ b o, v = .pointer (some ⟨b, o, none⟩) ∧
      ∀ (j : Nat) c, cs[j]? = some c → ∃ u, w.cell? ⟨b, o + j, none⟩ = some u ∧ RV E.P G arr c u := by
  cases x <;> simp only [vAt] at hat <;> try cases hat
  case fptr =>
    cases hx with
    | fptr _ b o hd hr =>
      refine ⟨b, o, rfl, fun j c hc => ?_⟩
      obtain ⟨u, hu⟩ := hd j (List.getElem?_eq_some_iff.1 hc).1
      exact ⟨u, h.frz _ _ _ hu, hr j c u hc hu⟩
  case ptr id off =>
    cases hx with
    | ptr _ _ b hb =>
      split at hat
      · rename_i ob hcs
        obtain ⟨cs', hcs', rfl⟩ := Option.map_eq_some_iff.1 hat
        obtain ⟨b', hb', hro⟩ := h.obj id _ hcs
        obtain ⟨c, e, h1, h2, h3, _⟩ := hro.un hcs'
        rw [hb] at hb'
        cases hb'
        refine ⟨b, off, rfl, fun j c' hc => ?_⟩
        rw [List.getElem?_drop] at hc
        obtain ⟨u, hu, hr⟩ := h3 _ _ hc
        exact ⟨u, by simp [World.cell?, h1, hu], hr⟩
      · cases hat
  case vptr id k gen off =>
    split at hat
    · rename_i k' gen' e cs' hcs
      split at hat
      · rename_i hkg
        obtain ⟨rfl, rfl⟩ := hkg
        cases hat
        obtain ⟨h1, h2, b, hi, h3, h4, h5⟩ := h.vs.at_ id _ _ e cs' hcs
        cases hx with
        | vptr _ _ _ _ _ _ hv =>
          obtain ⟨n, g1, g2, g3⟩ := hv
          rw [h1] at g1
          cases g1
          obtain ⟨b', hi', g4, g5, g6⟩ := g3 rfl
          rw [h3] at g4
          cases g4
          refine ⟨b, off, by rw [g6, g5], fun j c hc => ?_⟩
          rw [List.getElem?_drop] at hc
          obtain ⟨v, hv, hr, _⟩ := h5 _ _ hc
          exact ⟨v, hv, hr⟩
      · cases hat
    · cases hat

def vHead (cs : List V) (K : V → Prop) : Prop :=
  match cs with
  | c :: _ => K c
  | [] => False

/-- Loading a variable of type t. -/
def vLoadL (E : Env) (t : TypeId) (cs : List V) (K : V → Prop) : Prop :=
  match E.P.underlying t with
  | some (.struct _) | some (.array _ _) => E.P.cellsOf t ≤ cs.length ∧ K (.agg (cs.take (E.P.cellsOf t)))
  | some _ => vHead cs K
  | none => False

theorem load_out {E : Env} {G : Gh} {heap : List VObj} {arr : List Nat} {w0 : Base} {w : World} (h : RelW E G heap arr w0 w) {x : V} {v : Value} {cs : List V} {t : TypeId} {K : V → Prop}
    (hx : RV E.P G arr x v) (hat : vAt heap x = some cs) (hK : vLoadL E t cs K) : ∃ u y, (Instr.loadAt t v).run E.P w = .ok u w ∧ K y ∧ RV E.P G arr y u := by
  obtain ⟨b, o, rfl, hc⟩ := read_at h hx hat
  have hagg : ∀ d, E.P.underlying t = some d → aggB d = true → E.P.cellsOf t ≤ cs.length ∧ K (.agg (cs.take (E.P.cellsOf t))) →
      ∃ u y, (Instr.loadAt t (.pointer (some ⟨b, o, none⟩))).run E.P w = .ok u w ∧ K y ∧ RV E.P G arr y u := by
    intro d hd ht ⟨hl, hk⟩
    obtain ⟨i, hi⟩ := info_of_und hd
    obtain ⟨vs, h1, h2, h3⟩ := run_loadCells (P := E.P) (w := w) (b := b) (o := o) (n := E.P.cellsOf t) (fun j hj => by
      obtain ⟨u, hu, _⟩ := hc j _ (List.getElem?_eq_getElem (show j < cs.length by omega))
      exact ⟨u, hu⟩)
    refine ⟨.agg vs, .agg (cs.take (E.P.cellsOf t)), ?_, hk, .agg _ _ (by rw [h2]; simp; omega) fun j c u hj hu => ?_⟩
    · simp only [Instr.loadAt, Instr.sureAddr, loadVar, Sem.run_bind, Sem.run_pure, Result.andThen_ok, run_isAgg hd, ht, if_true, run_sizeOf hi, h1]
    · have hj' : j < E.P.cellsOf t := by rw [← h2]; exact (Array.getElem?_eq_some_iff.1 hu).1
      rw [List.getElem?_take, if_pos hj'] at hj
      obtain ⟨u', hu', hr⟩ := hc j c hj
      rw [h3 j hj', hu'] at hu
      cases hu
      exact hr
  have hone : ∀ d, E.P.underlying t = some d → aggB d = false → vHead cs K →
      ∃ u y, (Instr.loadAt t (.pointer (some ⟨b, o, none⟩))).run E.P w = .ok u w ∧ K y ∧ RV E.P G arr y u := by
    intro d hd ht hk
    cases cs with
    | nil => exact hk.elim
    | cons c cs =>
      obtain ⟨u, hu, hr⟩ := hc 0 c rfl
      refine ⟨u, c, ?_, hk, hr⟩
      simp only [Instr.loadAt, Instr.sureAddr, loadVar, Sem.run_bind, Sem.run_pure, Result.andThen_ok, run_isAgg hd, ht, Bool.false_eq_true, if_false]
      rw [run_load, show o = o + 0 from rfl, hu]
  unfold vLoadL at hK
  cases hd : E.P.underlying t with
  | none => rw [hd] at hK; exact hK.elim
  | some d =>
    rw [hd] at hK
    cases d <;> first | exact hagg _ hd rfl hK | exact hone _ hd rfl hK

/-- Writing cells xs over cs from off on. -/
def over (cs : List V) (off : Nat) (xs : List V) : List V := cs.take off ++ xs ++ cs.drop (off + xs.length)

theorem over_get (cs : List V) (off : Nat) (xs : List V) (h : off + xs.length ≤ cs.length) (j : Nat) :
    (over cs off xs)[j]? = if off ≤ j ∧ j < off + xs.length then xs[j - off]? else cs[j]? := by
  unfold over
  rw [List.append_assoc]
  by_cases h1 : j < off
  · rw [List.getElem?_append_left (by simp; omega), if_neg (by omega), List.getElem?_take, if_pos h1]
  · rw [List.getElem?_append_right (by simp; omega)]
    have hl : (cs.take off).length = off := by simp; omega
    rw [hl]
    by_cases h2 : j < off + xs.length
    · rw [List.getElem?_append_left (by omega), if_pos (by omega)]
    · rw [List.getElem?_append_right (by omega), if_neg (by omega), List.getElem?_drop]
      congr 1; omega

theorem over_length (cs : List V) (off : Nat) (xs : List V) (h : off + xs.length ≤ cs.length) : (over cs off xs).length = cs.length := by
  simp [over]; omega

def vStore (E : Env) (heap : List VObj) (t : TypeId) (a x : V) (K : List VObj → Prop) : Prop :=
  match a with
  | .ptr id off => match heap[id]? with
    | some ob => match ob.cs? with
      | some cs => (x ≠ .junk ∧ (cellsV x).all V.cell = true ∧ (cellsV x).length = E.P.cellsOf t ∧ (E.P.underlying t).isSome = true ∧ off + (cellsV x).length ≤ cs.length) ∧
          K (heap.set id (ob.put (over cs off (cellsV x))))
      | none => False
    | _ => False
  | .vptr id k gen off => match heap[id]? with
    | some (.vec k' gen' e cs) => (k' = k ∧ gen' = gen ∧ x ≠ .junk ∧ (cellsV x).all V.cell = true ∧ (cellsV x).length = E.P.cellsOf t ∧ (E.P.underlying t).isSome = true ∧ off + (cellsV x).length ≤ cs.length ∧ 0 < (cellsV x).length) ∧
        K (heap.set id (.vec k gen e (over cs off (cellsV x))))
    | _ => False
  | _ => False

/-- A slice that grows is written to. -/
theorem RelW.storeVec {E : Env} {G : Gh} {heap : List VObj} {arr : List Nat} {w0 : Base} {w w' : World} (h : RelW E G heap arr w0 w) {id k gen b hi off : Nat} {e : TypeId} {cs xs : List V} {vs : List Value} {c c' : Array Value} {t : TypeId}
    (hid : heap[id]? = some (.vec k gen e cs)) (hρ : G.ρ[k]? = some (b, 0, hi)) (hc : w.heap[b]? = some (.cells c t (0, 0))) (hle : off + xs.length ≤ cs.length) (hch : cs.length ≤ hi) (hpos : 0 < xs.length) (hl : vs.length = xs.length)
    (hr : ∀ (j : Nat) x v, xs[j]? = some x → vs[j]? = some v → RV E.P G arr x v) (hone : ∀ v ∈ vs, v.oneCell' = true)
    (hos : w'.os = w.os) (ht : w'.tape = w.tape) (ho : w'.output = w.output) (hsz : w'.heap.size = w.heap.size) (hk : ∀ k, k ≠ b → w'.heap[k]? = w.heap[k]?) (hc' : w'.heap[b]? = some (.cells c' t (0, 0))) (hcs : c'.size = c.size)
    (hget : ∀ j, c'[j]? = if off ≤ j ∧ j < off + vs.length then vs[j - off]? else c[j]?) : RelW E G (heap.set id (.vec k gen e (over cs off xs))) arr w0 w' := by
  have hhi : 0 < hi := by omega
  have hidl : id < heap.length := (List.getElem?_eq_some_iff.1 hid).1
  obtain ⟨⟨c0, e0, r1, r2⟩, r3, r4, r5⟩ := h.reg k b 0 hi hρ hhi
  rw [hc] at r1
  cases r1
  have hcell : ∀ b' o, (b' ≠ b ∨ ¬ (off ≤ o ∧ o < off + vs.length)) → w'.cell? ⟨b', o, none⟩ = w.cell? ⟨b', o, none⟩ := fun b' o hor => by
    by_cases e : b' = b
    · subst e
      have hn : ¬ (off ≤ o ∧ o < off + vs.length) := by rcases hor with h | h; exact absurd rfl h; exact h
      unfold World.cell?
      rw [hc', hc]
      simp only [Option.isSome_none, Bool.false_eq_true, if_false]
      rw [hget, if_neg hn]
    · exact cell_same (hk b' e)
  have hne : ∀ (i c : Nat), G.φ[i]? = some c → ∀ o, heap[i]? = some o → o.loose = false → c ≠ b := fun i c hi' o ho hlo e => by
    subst e
    rw [VObj.loose_of (r3 i hi' o ho)] at hlo; cases hlo
  have hset : ∀ (i : Nat) o, (heap.set id (.vec k gen e (over cs off xs)))[i]? = some o → i ≠ id → heap[i]? = some o := fun i o hi' hn => by rwa [List.getElem?_set_ne (Ne.symm hn)] at hi'
  refine ⟨h.newF, h.glob, h.below.trans ⟨hos, ht, ho, by omega, fun k' hk' => hk k' (by omega)⟩, fun b' o v hv => ?_, h.one, fun i ob hi' => ?_, by simp [h.lenφ], h.nod, fun i c1 o hc1 hd => ?_, fun i c1 hc1 => by rw [hsz]; exact h.geφ i c1 hc1, h.lenρ,
    fun k' b' lo hi' hk' hlt => ?_, h.regd, h.fre, fun i t' s c1 hi' hc1 => ?_, h.ini, ?_⟩
  · rw [hcell b' o]
    · exact h.frz _ _ _ hv
    · by_cases e : b' = b
      · subst e
        refine .inr fun hh => ?_
        rw [r4 o (Nat.zero_le _) (by omega)] at hv
        cases hv
      · exact .inl e
  · by_cases e1 : i = id
    · subst e1
      rw [List.getElem?_set_self hidl] at hi'
      cases hi'
      obtain ⟨c1, hc1, _⟩ := h.obj i _ hid
      exact ⟨c1, hc1, trivial⟩
    · have hi2 := hset i ob hi' e1
      obtain ⟨c1, hc1, hr1⟩ := h.obj i ob hi2
      refine ⟨c1, hc1, ?_⟩
      cases hlo : ob.loose with
      | false => exact hr1.keep (Ext.refl _ _) (hk c1 (hne i c1 hc1 ob hi2 hlo))
      | true =>
        cases ob <;> simp only [VObj.loose, Bool.false_eq_true, reduceCtorEq] at hlo
        · trivial
        · trivial
  · by_cases e1 : i = id
    · subst e1
      exact h.sep i c1 o hc1 (by rw [hid]; intro hh; cases hh)
    · rw [List.getElem?_set_ne (Ne.symm e1)] at hd
      exact h.sep i c1 o hc1 hd
  · obtain ⟨⟨c1, e1, q1, q2⟩, q3, q4, q5⟩ := h.reg k' b' lo hi' hk' hlt
    refine ⟨?_, fun i hi2 o ho2 => ?_, q4, q5⟩
    · by_cases eb : b' = b
      · subst eb
        rw [hc] at q1
        cases q1
        exact ⟨c', t, hc', by omega⟩
      · exact ⟨c1, e1, by rw [hk b' eb]; exact q1, q2⟩
    · by_cases e1 : i = id
      · subst e1
        rw [List.getElem?_set_self hidl] at ho2
        cases ho2
        have := q3 i hi2 _ hid
        exact this
      · exact q3 i hi2 o (hset i o ho2 e1)
  · have e1 : i ≠ id := fun e1 => by subst e1; rw [List.getElem?_set_self hidl] at hi'; cases hi'
    have hi2 := hset i _ hi' e1
    refine (h.bld i t' s c1 hi2 hc1).keep (hk c1 (hne i c1 hc1 _ hi2 rfl)) fun g hg hs => ⟨hk g fun eg => ?_, hs⟩
    subst eg
    have := hs.2.2 k 0 hi hρ
    omega
  · refine ⟨fun i k1 g1 e1 cs1 hi1 => ?_, fun i i' k1 g1 g1' e1 e1' cs1 cs1' hi1 hi1' => ?_⟩
    · by_cases ei : i = id
      · subst ei
        rw [List.getElem?_set_self hidl] at hi1
        cases hi1
        obtain ⟨q1, q2, b1, hi2, q3, q4, q5⟩ := h.vs.at_ i k gen e cs hid
        rw [hρ] at q3
        cases q3
        refine ⟨q1, q2, b, hi, hρ, by rw [over_length _ _ _ hle]; exact hch, fun j x hj => ?_⟩
        rw [over_get _ _ _ hle] at hj
        by_cases hin : off ≤ j ∧ j < off + xs.length
        · rw [if_pos hin] at hj
          have hjl : j - off < vs.length := by omega
          refine ⟨vs[j - off], ?_, hr _ _ _ hj (List.getElem?_eq_getElem hjl), hone _ (List.getElem_mem hjl)⟩
          unfold World.cell?
          rw [hc']
          simp only [Option.isSome_none, Bool.false_eq_true, if_false]
          rw [hget, if_pos (by omega), List.getElem?_eq_getElem hjl]
        · rw [if_neg hin] at hj
          obtain ⟨v, hv, hrv⟩ := q5 j x hj
          exact ⟨v, by rw [hcell b j (.inr (by omega))]; exact hv, hrv⟩
      · have hi2 := hset i _ hi1 ei
        obtain ⟨q1, q2, b1, hi3, q3, q4, q5⟩ := h.vs.at_ i k1 g1 e1 cs1 hi2
        refine ⟨q1, q2, b1, hi3, q3, q4, fun j x hj => ?_⟩
        obtain ⟨v, hv, hrv⟩ := q5 j x hj
        refine ⟨v, ?_, hrv⟩
        rw [hcell b1 j (.inl fun eb => ?_)]
        · exact hv
        · subst eb
          have hkk : k1 ≠ k := fun ek => by subst ek; exact ei (h.vs.uni _ _ _ _ _ _ _ _ _ hi2 hid)
          have := h.regd k1 k b1 0 hi3 0 hi hkk q3 hρ (by have := (List.getElem?_eq_some_iff.1 hj).1; omega) hhi
          have := (List.getElem?_eq_some_iff.1 hj).1
          omega
    · have key : ∀ (i k1 g1 : Nat) e1 cs1, (heap.set id (.vec k gen e (over cs off xs)))[i]? = some (.vec k1 g1 e1 cs1) → ∃ g e2 cs2, heap[i]? = some (.vec k1 g e2 cs2) := fun i k1 g1 e1 cs1 hq => by
        by_cases ei : i = id
        · subst ei
          rw [List.getElem?_set_self hidl] at hq
          cases hq
          exact ⟨_, _, _, hid⟩
        · exact ⟨_, _, _, hset i _ hq ei⟩
      obtain ⟨_, _, _, a1⟩ := key _ _ _ _ _ hi1
      obtain ⟨_, _, _, a2⟩ := key _ _ _ _ _ hi1'
      exact h.vs.uni _ _ _ _ _ _ _ _ _ a1 a2

theorem store_out {E : Env} {G : Gh} {heap : List VObj} {arr : List Nat} {w0 : Base} {w : World} (h : RelW E G heap arr w0 w) {a x : V} {va vx : Value} {t : TypeId} {K : List VObj → Prop}
    (ha : RV E.P G arr a va) (hx : RV E.P G arr x vx) (hK : vStore E heap t a x K) :
    ∃ w' heap', (Instr.storeAt t va vx).run E.P w = .ok () w' ∧ K heap' ∧ RelW E G heap' arr w0 w' := by
  cases a <;> simp only [vStore] at hK <;> try exact hK.elim
  case ptr id off =>
    split at hK
    · rename_i ob hcs
      split at hK
      case h_2 => exact hK.elim
      rename_i cs hcs'
      obtain ⟨⟨h1, h2, h3, h4, h5⟩, hk⟩ := hK
      cases ha with
      | ptr _ _ b hb =>
        obtain ⟨b', hb', hro⟩ := h.obj id _ hcs
        obtain ⟨c, e, hc1, hc2, hc3, hput⟩ := hro.un hcs'
        rw [hb] at hb'; cases hb'
        obtain ⟨hl, hr⟩ := hx.cellsV h1
        obtain ⟨d, hd⟩ := Option.isSome_iff_exists.1 h4
        obtain ⟨i, hi⟩ := info_of_und hd
        have hcells : ∀ v ∈ vx.cells.toList, (∀ cs, v ≠ .agg cs) ∧ ∀ cs, v ≠ .tuple cs := by
          intro v hv
          obtain ⟨j, hj, rfl⟩ := List.getElem_of_mem hv
          have hj' : j < vx.cells.size := by simpa using hj
          have hjc : j < (cellsV x).length := by omega
          have := hr j _ _ (List.getElem?_eq_getElem hjc) (Array.getElem?_eq_getElem hj')
          exact this.cell_one (List.all_eq_true.1 h2 _ (List.getElem_mem hjc))
        obtain ⟨w', c', g1, g2, g3, g4, g5, g6, g7, g8, g9⟩ := run_storeCells (P := E.P) vx.cells.toList w b off 0 c e hc1 (by simp; omega) hcells
        refine ⟨w', _, ?_, hk, h.change (hbl := by intro t s hh; unfold VObj.put at hh; split at hh <;> cases hh) (hnv := by intro _ _ _ _ hh; unfold VObj.put at hh; split at hh <;> cases hh) (hnl := by intro _ _ _ _ hh; rw [hcs] at hh; cases hh; cases hcs') hb (List.getElem?_eq_some_iff.1 hcs).1 (by rw [hcs]; intro hd; cases hd; cases hcs') g2 g3 g4 g5 g6 (hput w' c' _ g7 (by rw [g8, hc2, over_length _ _ _ h5]) fun j y hy => ?_)⟩
        · simp only [Instr.storeAt, Instr.sureAddr, storeVar, Sem.run_bind, Sem.run_pure, Result.andThen_ok, run_sizeOf hi]
          rw [if_neg (by omega)]
          exact g1
        · rw [over_get _ _ _ h5] at hy
          have := g9 j
          simp only [Nat.add_zero, Array.length_toList] at this
          by_cases hin : off ≤ j ∧ j < off + (cellsV x).length
          · rw [if_pos hin] at hy
            rw [if_pos (by omega)] at this
            have hj' : j - off < vx.cells.size := by omega
            refine ⟨vx.cells[j - off], by rw [this]; simp [hj'], hr _ _ _ hy (Array.getElem?_eq_getElem hj')⟩
          · rw [if_neg hin] at hy
            rw [if_neg (by omega)] at this
            obtain ⟨u, hu, hru⟩ := hc3 j y hy
            exact ⟨u, by rw [this]; exact hu, hru⟩
    · exact hK.elim
  case vptr id k gen off =>
    split at hK
    case h_2 => exact hK.elim
    rename_i k' gen' e cs hcs
    obtain ⟨⟨rfl, rfl, h1, h2, h3, h4, h5, h6⟩, hk⟩ := hK
    obtain ⟨q1, q2, b, hi, q3, q4, q5⟩ := h.vs.at_ id _ _ e cs hcs
    cases ha with
    | vptr _ _ _ _ _ _ hv =>
      obtain ⟨n, g1, g2, g3⟩ := hv
      rw [q1] at g1
      cases g1
      obtain ⟨b', hi', g4, g5, g6⟩ := g3 rfl
      rw [q3] at g4
      cases g4
      subst g5
      cases g6
      obtain ⟨hl, hr⟩ := hx.cellsV h1
      obtain ⟨d, hd⟩ := Option.isSome_iff_exists.1 h4
      obtain ⟨i, hi2⟩ := info_of_und hd
      have hcells : ∀ v ∈ vx.cells.toList, (∀ cs, v ≠ .agg cs) ∧ ∀ cs, v ≠ .tuple cs := by
        intro v hv
        obtain ⟨j, hj, rfl⟩ := List.getElem_of_mem hv
        have hj' : j < vx.cells.size := by simpa using hj
        have hjc : j < (cellsV x).length := by omega
        have := hr j _ _ (List.getElem?_eq_getElem hjc) (Array.getElem?_eq_getElem hj')
        exact this.cell_one (List.all_eq_true.1 h2 _ (List.getElem_mem hjc))
      obtain ⟨⟨c, t', hc1, hc2⟩, _⟩ := h.reg _ b 0 hi q3 (by omega)
      obtain ⟨w', c', p1, p2, p3, p4, p5, p6, p7, p8, p9⟩ := run_storeCells (P := E.P) vx.cells.toList w b off 0 c t' hc1 (by simp; omega) hcells
      refine ⟨w', _, ?_, hk, h.storeVec (vs := vx.cells.toList) hcs q3 hc1 h5 q4 h6 (by simp; omega) (fun j y v hy hv => hr j y v hy (by simpa using hv)) (fun v hv => by
        obtain ⟨g1, g2⟩ := hcells v hv
        cases v <;> first | rfl | exact absurd rfl (g1 _) | exact absurd rfl (g2 _)) p2 p3 p4 p5 p6 p7 p8 (fun j => by have := p9 j; simpa using this)⟩
      simp only [Instr.storeAt, Instr.sureAddr, storeVar, Sem.run_bind, Sem.run_pure, Result.andThen_ok, run_sizeOf hi2]
      rw [if_neg (by omega)]
      exact p1

end Go.Vg
set_option linter.unusedVariables false
set_option linter.unusedSimpArgs false
namespace Go.Vg
open Go.RowKit

/-! ### Sizes -/
theorem growBy_le (need : Nat) : ∀ (r c : Nat), c ≤ need + need / 4 + 192 → Builtin.growBy need r c ≤ need + need / 4 + 192 := by
  intro r
  induction r with
  | zero => intro c h; exact h
  | succ r ih =>
    intro c h
    unfold Builtin.growBy
    split
    · exact h
    · exact ih _ (by omega)

theorem nextslicecap_le (need cap : Nat) (h : cap < need) : Builtin.nextslicecap need cap ≤ need + need / 4 + 512 := by
  unfold Builtin.nextslicecap
  split
  · omega
  · split
    · omega
    · have := growBy_le need 4 cap (by omega); omega

/-- An element type that lists may have: its zero has its size, which is not nothing, and its bytes are few. -/
def elemOK (P : Program) (e : TypeId) : Bool :=
  match P.info? e with
  | some i => (match i.zero with | some z => z.cells.size == i.size && z.cells.all Value.oneCell' | none => false) && decide (1 ≤ i.size) && decide (1 ≤ i.bytes) && decide (i.bytes ≤ 1048576)
  | none => false

theorem elemOK_spec {P : Program} {e : TypeId} (h : elemOK P e = true) : ∃ i z, P.info? e = some i ∧ i.zero = some z ∧ z.cells.all Value.oneCell' = true ∧ z.cells.size = P.cellsOf e ∧ i.size = P.cellsOf e ∧ i.bytes = P.bytesOf e ∧
    1 ≤ P.cellsOf e ∧ 1 ≤ P.bytesOf e ∧ P.bytesOf e ≤ 1048576 := by
  unfold elemOK at h
  cases hi : P.info? e with
  | none => simp [hi] at h
  | some i =>
    simp only [hi] at h
    cases hz : i.zero with
    | none => simp [hz] at h
    | some z =>
      simp only [hz, Bool.and_eq_true, decide_eq_true_eq, beq_iff_eq] at h
      obtain ⟨⟨⟨⟨h1, h0⟩, h2⟩, h3⟩, h4⟩ := h
      refine ⟨i, z, rfl, hz, h0, ?_, ?_, ?_, ?_, ?_, ?_⟩ <;> simp [Program.cellsOf, Program.bytesOf, hi, *]

/-- A shared slice, told so that a list without elements has one form. -/
def sl (e : TypeId) (es : List (List V)) : V := .slice .shared (if es.isEmpty then 0 else e) es

theorem RV.anyElem {P : Program} {G : Gh} {arr : List Nat} {o : Own} {e e' : TypeId} {v : Value} (h : RV P G arr (.slice o e []) v) : RV P G arr (.slice .shared e' []) v := by
  cases h with
  | snil o e ho => exact .snil _ _ trivial
  | sodd e a c => exact .sodd _ _ _
  | slice o e es b off cap ho h1 h2 h3 h4 h5 h6 => exact .slice _ _ [] b off cap trivial (by simp) (by simp) (by simp) (by simp) (by simp) (by simp)

theorem RV.sl {P : Program} {G : Gh} {arr : List Nat} {o : Own} {e : TypeId} {es : List (List V)} {v : Value} (h : RV P G arr (.slice o e es) v) : RV P G arr (sl e es) v := by
  cases es with
  | nil => exact h.anyElem
  | cons x r =>
    show RV P G arr (.slice .shared e (x :: r)) v
    cases h with
    | slice _ _ _ b off cap ho h1 h2 h3 h4 h5 h6 => exact .slice _ _ _ _ _ _ trivial h1 h2 h3 h4 h5 h6

/-- What is written into a list: the own of a slice is left behind. -/
def share1 : V → V
  | .slice _ e es => sl e es
  | x => x

theorem RV.share1 {P : Program} {G : Gh} {arr : List Nat} {x : V} {v : Value} (h : RV P G arr x v) : RV P G arr (share1 x) v := by
  cases x
  case slice o e es => exact h.sl
  all_goals exact h

def shareA : V → V
  | .agg cs => .agg (cs.map share1)
  | x => share1 x

theorem RV.shareA {P : Program} {G : Gh} {arr : List Nat} {x : V} {v : Value} (h : RV P G arr x v) : RV P G arr (shareA x) v := by
  cases x
  case agg cs =>
    cases h with
    | agg _ vs hl hr =>
      refine .agg _ _ (by simpa using hl) fun j c u hc hu => ?_
      rw [List.getElem?_map] at hc
      obtain ⟨c', hc', rfl⟩ := Option.map_eq_some_iff.1 hc
      exact (hr j c' u hc' hu).share1
  all_goals exact h.share1

def share : V → V
  | .tuple cs => .tuple (cs.map shareA)
  | x => shareA x

theorem RV.share {P : Program} {G : Gh} {arr : List Nat} {x : V} {v : Value} (h : RV P G arr x v) : RV P G arr (share x) v := by
  cases x
  case tuple cs =>
    cases h with
    | tuple _ vs hl hr =>
      refine .tuple _ _ (by simpa using hl) fun j c u hc hu => ?_
      rw [List.getElem?_map] at hc
      obtain ⟨c', hc', rfl⟩ := Option.map_eq_some_iff.1 hc
      exact (hr j c' u hc' hu).shareA
  all_goals exact h.shareA

/-- The elements that a slice or a string hands to an append. -/
def elems (P : Program) (e : TypeId) : V → Option (List (List V))
  | .slice _ e' es => if e' = e ∨ es = [] then some es else none
  | _ => none

/-- What a slice of list es, at an address, reads as: its cells in memory. -/
theorem elems_read {E : Env} {G : Gh} {heap : List VObj} {arr : List Nat} {w0 : Base} {w : World} (h : RelW E G heap arr w0 w) {o : Own} {e : TypeId} {es : List (List V)} {v : Value}
    (hv : RV E.P G arr (.slice o e es) v) : ∃ vs : Array Value, (∃ a cap, v = .slice a es.length cap) ∧ (Builtin.firstCells (E.P.cellsOf e) es.length v).run E.P w = .ok vs w ∧ vs.size = es.length * E.P.cellsOf e ∧
      ∀ (i : Nat) el (j : Nat) c, es[i]? = some el → el[j]? = some c → ∃ u, vs[i * E.P.cellsOf e + j]? = some u ∧ RV E.P G arr c u := by
  cases hv with
  | snil o e ho => exact ⟨#[], ⟨none, 0, rfl⟩, by simp [Builtin.firstCells], by simp, by simp⟩
  | sodd e a c =>
    refine ⟨#[], ⟨a, c, rfl⟩, ?_, by simp, by simp⟩
    cases a with
    | none => exact run_firstCells_none w _ 0 0 c
    | some a => exact run_firstCells_some w _ 0 a 0 c [] (by simp) (by simp)
  | slice o e es b off cap ho h1 h2 h3 h4 h5 h6 =>
    obtain ⟨vs, g1, g2, g3⟩ := run_loadCells (P := E.P) (w := w) (b := b) (o := off) (n := es.length * E.P.cellsOf e) (fun j hj => by
      have hs : 0 < E.P.cellsOf e := Nat.pos_of_ne_zero fun h0 => by simp [h0] at hj
      have hi : j / E.P.cellsOf e < es.length := (Nat.div_lt_iff_lt_mul hs).2 hj
      have hel := h1 _ _ (List.getElem?_eq_getElem hi)
      obtain ⟨u, hu⟩ := h5 _ _ (j % E.P.cellsOf e) (List.getElem?_eq_getElem hi) (by rw [hel]; exact Nat.mod_lt _ hs)
      refine ⟨u, ?_⟩
      have : j / E.P.cellsOf e * E.P.cellsOf e + j % E.P.cellsOf e = j := Nat.div_add_mod' j _
      rw [this] at hu
      exact h.frz _ _ _ hu)
    refine ⟨vs, ⟨_, _, rfl⟩, by simpa [Builtin.firstCells] using g1, g2, fun i el j c hi hj => ?_⟩
    have hel := h1 i el hi
    have hjl := (List.getElem?_eq_some_iff.1 hj).1
    have hil := (List.getElem?_eq_some_iff.1 hi).1
    obtain ⟨u, hu⟩ := h5 i el j hi hjl
    have hlt : i * E.P.cellsOf e + j < es.length * E.P.cellsOf e := by
      have : (i + 1) * E.P.cellsOf e ≤ es.length * E.P.cellsOf e := Nat.mul_le_mul_right _ hil
      rw [Nat.add_mul] at this
      omega
    exact ⟨u, by rw [g3 _ hlt]; exact h.frz _ _ _ hu, h6 i el j c u hi hj hu⟩

/-- Frozen cells c from lo on in block b. -/
def Gh.freezeAt (G : Gh) (b lo : Nat) (c : Array Value) : Gh := { G with F := fun b' o => if b' = b ∧ lo ≤ o ∧ o < lo + c.size then c[o - lo]? else G.F b' o }

/-- A new row of which the first cells are frozen, and the rest is the spare region of a slot. -/
theorem RelW.allocA {E : Env} {G : Gh} {heap : List VObj} {arr : List Nat} {w0 : Base} {w : World} (h : RelW E G heap arr w0 w) (c rest : Array Value) (e : TypeId) (k m hi : Nat) (arr' : List Nat) (ρ' : List (Nat × Nat × Nat))
    (hhi : hi ≤ c.size + rest.size) (hl : ρ'.length = arr'.length) (hk : ρ'[k]? = some (w.heap.size, c.size, hi)) (hak : arr'[k]? = some m)
    (hold : ∀ j : Nat, j ≠ k → ρ'[j]? = G.ρ[j]? ∧ arr'[j]? = arr[j]?) (hkm : ∀ n : Nat, arr[k]? = some n → n < m) (h1 : ∀ (j : Nat) v, c[j]? = some v → v.oneCell' = true) (hm : m < 18446744073709551616) :
    Ext G arr ⟨(G.freezeAt w.heap.size 0 c).F, G.φ, ρ'⟩ arr' ∧ RelW E ⟨(G.freezeAt w.heap.size 0 c).F, G.φ, ρ'⟩ heap arr' w0 (w.alloc (.cells (c ++ rest) e)) := by
  have hF : ∀ b o v, G.F b o = some v → (G.freezeAt w.heap.size 0 c).F b o = some v := by
    intro b o v hv
    simp only [Gh.freezeAt]
    rw [if_neg]
    · exact hv
    · rintro ⟨rfl, _⟩
      rw [h.F_new] at hv; cases hv
  have hx : Ext G arr ⟨(G.freezeAt w.heap.size 0 c).F, G.φ, ρ'⟩ arr' := by
    refine ⟨hF, fun _ _ h => h, fun j n hj => ?_⟩
    by_cases e : j = k
    · subst e
      have := hkm n hj
      exact ⟨m, hak, by omega, fun e => by omega⟩
    · exact ⟨n, by rw [(hold j e).2]; exact hj, Nat.le_refl _, fun _ => (hold j e).1⟩
  have hs := h.below.size
  refine ⟨hx, ⟨fun b o v hv hlt => h.newF b o v (by
      simp only [Gh.freezeAt] at hv
      rwa [if_neg (by omega)] at hv) hlt, fun g cs hg => ⟨(h.glob g cs hg).1, (h.glob g cs hg).2.mono hx⟩, h.below.alloc hs _, ?_, fun b o v hv => by
      simp only [Gh.freezeAt] at hv
      split at hv
      · exact h1 _ _ hv
      · exact h.one _ _ _ hv, ?_, h.lenφ, h.nod, ?_, ?_, hl, ?_, ?_, ?_, ?_, h.ini, h.vsK hx (fun _ _ _ _ _ h => h) (fun j g hj hg => by
        by_cases e : j = k
        · subst e
          have := hkm g hj
          omega
        · rw [(hold j e).2]; exact hj) fun j hj => by rw [heap_alloc, if_neg (by omega)]⟩⟩
  · intro b o v hv
    simp only [Gh.freezeAt] at hv
    split at hv
    · rename_i hc
      obtain ⟨rfl, _, hc2⟩ := hc
      rw [World.cell?_alloc_new, Array.getElem?_append_left (by omega)]
      simpa using hv
    · rw [World.cell?_alloc_old _ _ _ (by have := cell_lt (h.frz _ _ _ hv); simp; omega)]
      exact h.frz _ _ _ hv
  · intro id ob hid
    obtain ⟨b, hb, hr⟩ := h.obj id ob hid
    exact ⟨b, hb, hr.keep hx (by rw [heap_alloc, if_neg (by have := (h.geφ id b hb).2; omega)])⟩
  · intro id b o hb hd
    simp only [Gh.freezeAt]
    have := (h.geφ id b hb).2
    rw [if_neg (by omega)]
    exact h.sep id b o hb hd
  · intro id b hb
    have := h.geφ id b hb
    simp; omega
  · intro j b lo hi' hj hlt
    by_cases ej : j = k
    · subst ej
      simp only at hj
      rw [hk] at hj
      cases hj
      refine ⟨⟨c ++ rest, e, by rw [heap_alloc, if_pos rfl], by simpa using hhi⟩, fun id hid => ?_, fun o h1 h2 => ?_, hs⟩
      · have := (h.geφ id _ hid).2; omega
      · simp only [Gh.freezeAt]
        rw [if_neg (by omega)]
        exact h.F_new o
    · simp only at hj
      rw [(hold j ej).1] at hj
      obtain ⟨⟨c', e', h1, h2⟩, h3, h4, h5⟩ := h.reg j b lo hi' hj hlt
      have hblt : b < w.heap.size := (Array.getElem?_eq_some_iff.1 h1).1
      refine ⟨⟨c', e', by rw [heap_alloc, if_neg (by omega)]; exact h1, h2⟩, h3, fun o ho1 ho2 => ?_, h5⟩
      simp only [Gh.freezeAt]
      rw [if_neg (by omega)]
      exact h4 o ho1 ho2
  · intro i j b lo hi1 lo' hi2 hij hi' hj' hlt hlt'
    simp only at hi' hj'
    by_cases ei : i = k
    · subst ei
      rw [hk] at hi'
      cases hi'
      rw [(hold j (Ne.symm hij)).1] at hj'
      obtain ⟨⟨c', e', h1, _⟩, _⟩ := h.reg j _ lo' hi2 hj' hlt'
      have hblt : w.heap.size < w.heap.size := (Array.getElem?_eq_some_iff.1 h1).1
      omega
    · by_cases ej : j = k
      · subst ej
        rw [hk] at hj'
        cases hj'
        rw [(hold i ei).1] at hi'
        obtain ⟨⟨c', e', h1, _⟩, _⟩ := h.reg i _ lo hi1 hi' hlt
        have hblt : w.heap.size < w.heap.size := (Array.getElem?_eq_some_iff.1 h1).1
        omega
      · rw [(hold i ei).1] at hi'
        rw [(hold j ej).1] at hj'
        exact h.regd i j b lo hi1 lo' hi2 hij hi' hj' hlt hlt'
  · intro j b lo hi' hj
    by_cases ej : j = k
    · subst ej
      rw [show (⟨(G.freezeAt w.heap.size 0 c).F, G.φ, ρ'⟩ : Gh).ρ = ρ' from rfl, hk] at hj
      cases hj
      exact .inl h.below.size
    · rw [show (⟨(G.freezeAt w.heap.size 0 c).F, G.φ, ρ'⟩ : Gh).ρ = ρ' from rfl, (hold j ej).1] at hj
      exact h.fre j b lo hi' hj
  · refine h.bldA (fun k hk => by rw [heap_alloc, if_neg (by omega)]) fun g hg ⟨s1, s2, s3⟩ => ⟨fun o => ?_, s2, fun j lo hi' hj => ?_⟩
    · simp only [Gh.freezeAt]; rw [if_neg (by omega)]; exact s1 o
    · by_cases ej : j = k
      · subst ej
        rw [show (⟨(G.freezeAt w.heap.size 0 c).F, G.φ, ρ'⟩ : Gh).ρ = ρ' from rfl, hk] at hj
        cases hj; omega
      · rw [show (⟨(G.freezeAt w.heap.size 0 c).F, G.φ, ρ'⟩ : Gh).ρ = ρ' from rfl, (hold j ej).1] at hj
        exact s3 j lo hi' hj

/-- A slot's spare region is written from its begin on, and what was written is frozen. -/
theorem RelW.fillA {E : Env} {G : Gh} {heap : List VObj} {arr : List Nat} {w0 : Base} {w : World} (h : RelW E G heap arr w0 w) {k b lo hi n m : Nat} {c : Array Value} {w' : World} {cb cb' : Array Value} {e : TypeId}
    (hk : G.ρ[k]? = some (b, lo, hi)) (hlt : lo < hi) (hn : arr[k]? = some n) (hnm : n < m) (hc : lo + c.size ≤ hi)
    (hos : w'.os = w.os) (ht : w'.tape = w.tape) (ho : w'.output = w.output) (hsz : w'.heap.size = w.heap.size) (hkk : ∀ j, j ≠ b → w'.heap[j]? = w.heap[j]?)
    (hb : w.heap[b]? = some (.cells cb e (0, 0))) (hb' : w'.heap[b]? = some (.cells cb' e (0, 0))) (hcs : cb'.size = cb.size)
    (hget : ∀ j, cb'[j]? = if lo ≤ j ∧ j < lo + c.size then c[j - lo]? else cb[j]?) (hone : ∀ (j : Nat) v, c[j]? = some v → v.oneCell' = true) (hm : m < 18446744073709551616) :
    Ext G arr ⟨(G.freezeAt b lo c).F, G.φ, G.ρ.set k (b, lo + c.size, hi)⟩ (arr.set k m) ∧
    RelW E ⟨(G.freezeAt b lo c).F, G.φ, G.ρ.set k (b, lo + c.size, hi)⟩ heap (arr.set k m) w0 w' := by
  obtain ⟨_, r3, r4, r5⟩ := h.reg k b lo hi hk hlt
  have hkl : k < arr.length := (List.getElem?_eq_some_iff.1 hn).1
  have hkl' : k < G.ρ.length := (List.getElem?_eq_some_iff.1 hk).1
  have hF : ∀ b' o v, G.F b' o = some v → (G.freezeAt b lo c).F b' o = some v := by
    intro b' o v hv
    simp only [Gh.freezeAt]
    rw [if_neg]
    · exact hv
    · rintro ⟨rfl, h1, h2⟩
      rw [r4 o h1 (by omega)] at hv; cases hv
  have hx : Ext G arr ⟨(G.freezeAt b lo c).F, G.φ, G.ρ.set k (b, lo + c.size, hi)⟩ (arr.set k m) := by
    refine ⟨hF, fun _ _ h => h, fun j p hj => ?_⟩
    by_cases ej : j = k
    · subst ej
      rw [hn] at hj
      cases hj
      exact ⟨m, List.getElem?_set_self hkl, by omega, fun e => by omega⟩
    · exact ⟨p, by rw [List.getElem?_set_ne (Ne.symm ej)]; exact hj, Nat.le_refl _, fun _ => List.getElem?_set_ne (Ne.symm ej)⟩
  have hs := h.below.size
  have hvs : Vecs E.P ⟨(G.freezeAt b lo c).F, G.φ, G.ρ.set k (b, lo + c.size, hi)⟩ heap (arr.set k m) w' := by
    refine h.vs.keep hx (fun _ _ _ _ _ h => h) (fun j g b1 hi1 h1 h2 h3 => ?_) fun j g b1 hi1 o h1 h2 h3 ho1 => ?_
    · by_cases e : j = k
      · subst e
        rw [hn] at h1; cases h1
        omega
      · rw [List.getElem?_set_ne (Ne.symm e)]; exact h1
    · have e : j ≠ k := fun e => by subst e; rw [hn] at h1; cases h1; omega
      by_cases eb : b1 = b
      · subst eb
        have := h.regd j k b1 0 hi1 lo hi e h3 hk (by omega) hlt
        unfold World.cell?
        rw [hb', hb]
        simp only [Option.isSome_none, Bool.false_eq_true, if_false]
        rw [hget, if_neg (by omega)]
      · exact cell_same (hkk b1 eb)
  refine ⟨hx, ⟨fun b' o v hv hlt' => h.newF b' o v (by
      simp only [Gh.freezeAt] at hv
      rwa [if_neg (by omega)] at hv) hlt', fun g cs hg => ⟨(h.glob g cs hg).1, (h.glob g cs hg).2.mono hx⟩, ?_, ?_, fun b' o v hv => by
      simp only [Gh.freezeAt] at hv
      split at hv
      · exact hone _ _ hv
      · exact h.one _ _ _ hv, ?_, h.lenφ, h.nod, ?_, ?_, by simp [h.lenρ], ?_, ?_, ?_, ?_, h.ini, hvs⟩⟩
  · exact h.below.trans ⟨hos, ht, ho, by omega, fun j hj => hkk j (by omega)⟩
  · intro b' o v hv
    simp only [Gh.freezeAt] at hv
    split at hv
    · rename_i hc'
      obtain ⟨rfl, h1, h2⟩ := hc'
      simp only [World.cell?, hb', Option.isSome_none, Bool.false_eq_true, if_false]
      rw [hget, if_pos ⟨h1, h2⟩]; exact hv
    · rename_i hc'
      have hold := h.frz _ _ _ hv
      by_cases eb : b' = b
      · subst eb
        simp only [World.cell?, hb, Option.isSome_none, Bool.false_eq_true, if_false] at hold
        simp only [World.cell?, hb', Option.isSome_none, Bool.false_eq_true, if_false]
        rw [hget, if_neg (by intro hh; exact hc' ⟨rfl, hh⟩)]; exact hold
      · unfold World.cell? at hold ⊢
        rw [hkk b' eb]; exact hold
  · intro id ob hid
    obtain ⟨b', hb1, hr⟩ := h.obj id ob hid
    refine ⟨b', hb1, ?_⟩
    cases hlo : ob.loose with
    | false => exact hr.keep hx (hkk b' fun e => by have := VObj.loose_of (r3 id (e ▸ hb1) ob hid); rw [hlo] at this; cases this)
    | true =>
      cases ob <;> simp only [VObj.loose, Bool.false_eq_true, reduceCtorEq] at hlo
      · trivial
      · trivial
  · intro id b' o hb1 hd
    simp only [Gh.freezeAt]
    rw [if_neg (by
      rintro ⟨rfl, _⟩
      cases hq : heap[id]? with
      | none =>
        have := h.lenφ
        have h1 : id < G.φ.length := (List.getElem?_eq_some_iff.1 hb1).1
        rw [List.getElem?_eq_none_iff] at hq
        omega
      | some ob =>
        have hl := r3 id hb1 ob hq
        cases ob <;> simp only [VObj.looseAt, Bool.false_eq_true, beq_iff_eq] at hl
        · exact hd hq
        · subst hl
          obtain ⟨q1, q2, _⟩ := h.vs.at_ _ _ _ _ _ hq
          rw [hn] at q1
          cases q1
          omega)]
    exact h.sep id b' o hb1 hd
  · intro id b' hb1; rw [hsz]; exact h.geφ id b' hb1
  · intro j b' lo' hi' hj hlt'
    simp only at hj
    by_cases ej : j = k
    · subst ej
      rw [List.getElem?_set_self hkl'] at hj
      cases hj
      obtain ⟨⟨c1, e1, h1, h2⟩, _⟩ := h.reg j b lo hi hk hlt
      rw [hb] at h1
      cases h1
      refine ⟨⟨cb', e, hb', by omega⟩, r3, fun o h1 h2 => ?_, r5⟩
      simp only [Gh.freezeAt]
      rw [if_neg (by omega)]
      exact r4 o (by omega) h2
    · rw [List.getElem?_set_ne (Ne.symm ej)] at hj
      obtain ⟨⟨c1, e1, h1, h2⟩, h3, h4, h5⟩ := h.reg j b' lo' hi' hj hlt'
      refine ⟨?_, h3, fun o ho1 ho2 => ?_, h5⟩
      · by_cases eb : b' = b
        · subst eb
          rw [hb] at h1
          cases h1
          exact ⟨cb', e, hb', by omega⟩
        · exact ⟨c1, e1, by rw [hkk b' eb]; exact h1, h2⟩
      · simp only [Gh.freezeAt]
        rw [if_neg]
        · exact h4 o ho1 ho2
        · rintro ⟨rfl, h6, h7⟩
          have := h.regd j k b' lo' hi' lo hi ej hj hk hlt' hlt
          omega
  · intro i j b' lo1 hi1 lo2 hi2 hij hi' hj' hlt1 hlt2
    simp only at hi' hj'
    by_cases ei : i = k
    · subst ei
      rw [List.getElem?_set_self hkl'] at hi'
      cases hi'
      rw [List.getElem?_set_ne hij] at hj'
      have := h.regd i j b lo hi lo2 hi2 hij hk hj' hlt hlt2
      omega
    · rw [List.getElem?_set_ne (Ne.symm ei)] at hi'
      by_cases ej : j = k
      · subst ej
        rw [List.getElem?_set_self hkl'] at hj'
        cases hj'
        have := h.regd i j b lo1 hi1 lo hi hij hi' hk hlt1 hlt
        omega
      · rw [List.getElem?_set_ne (Ne.symm ej)] at hj'
        exact h.regd i j b' lo1 hi1 lo2 hi2 hij hi' hj' hlt1 hlt2
  · intro j b' lo' hi' hj
    have hj : (G.ρ.set k (b, lo + c.size, hi))[j]? = some (b', lo', hi') := hj
    by_cases ej : j = k
    · subst ej
      rw [List.getElem?_set_self hkl'] at hj
      cases hj
      exact .inl r5
    · rw [List.getElem?_set_ne (Ne.symm ej)] at hj
      exact h.fre j b' lo' hi' hj
  · intro id t s b' hi' hb''
    refine (h.bld id t s b' hi' hb'').keep (hkk b' fun e => by have := r3 id (by rw [← e]; exact hb'') _ hi'; cases this) fun g hg ⟨s1, s2, s3⟩ => ?_
    have hne : g ≠ b := fun e => by subst e; have := s3 k lo hi hk; omega
    refine ⟨hkk g hne, fun o => ?_, s2, fun j lo' hi' hj => ?_⟩
    · simp only [Gh.freezeAt]; rw [if_neg (fun hh => hne hh.1)]; exact s1 o
    · have hj : (G.ρ.set k (b, lo + c.size, hi))[j]? = some (g, lo', hi') := hj
      by_cases ej : j = k
      · subst ej
        rw [List.getElem?_set_self hkl'] at hj
        cases hj; exact absurd rfl hne
      · rw [List.getElem?_set_ne (Ne.symm ej)] at hj
        exact s3 j lo' hi' hj

/-- A slot more, without a region; or a slot without a region whose length is as it was. -/
theorem RelW.slot {E : Env} {G : Gh} {heap : List VObj} {arr : List Nat} {w0 : Base} {w : World} (h : RelW E G heap arr w0 w) (n : Nat) :
    Ext G arr { G with ρ := G.ρ ++ [(0, 0, 0)] } (arr ++ [n]) ∧ RelW E { G with ρ := G.ρ ++ [(0, 0, 0)] } heap (arr ++ [n]) w0 w := by
  have hx : Ext G arr { G with ρ := G.ρ ++ [(0, 0, 0)] } (arr ++ [n]) := by
    refine ⟨fun _ _ _ h => h, fun _ _ h => h, fun j p hj => ⟨p, ?_, Nat.le_refl _, fun _ => ?_⟩⟩
    · rw [List.getElem?_append_left (List.getElem?_eq_some_iff.1 hj).1]; exact hj
    · have := (List.getElem?_eq_some_iff.1 hj).1
      exact List.getElem?_append_left (by rw [h.lenρ]; exact this)
  have hget : ∀ (j b' lo' hi' : Nat), (G.ρ ++ [(0, 0, 0)])[j]? = some (b', lo', hi') → lo' < hi' → G.ρ[j]? = some (b', lo', hi') := by
    intro j b' lo' hi' hj hlt
    rcases Nat.lt_trichotomy j G.ρ.length with hjl | hjl | hjl
    · rwa [List.getElem?_append_left hjl] at hj
    · subst hjl; rw [List.getElem?_append_right (Nat.le_refl _)] at hj; simp at hj; omega
    · rw [List.getElem?_eq_none (by simp; omega)] at hj; cases hj
  refine ⟨hx, ⟨h.newF, fun g cs hg => ⟨(h.glob g cs hg).1, (h.glob g cs hg).2.mono hx⟩, h.below, h.frz, h.one, fun id ob hid => (h.obj id ob hid).imp fun b' hb => ⟨hb.1, hb.2.keep hx rfl⟩,
    h.lenφ, h.nod, h.sep, h.geφ, by simp [h.lenρ], fun j b' lo' hi' hj hlt => h.reg j b' lo' hi' (hget j b' lo' hi' hj hlt) hlt, fun i j b' lo1 hi1 lo2 hi2 hij hi' hj' hlt1 hlt2 => ?_, fun j b' lo' hi' hj => ?_, h.bldA (fun _ _ => rfl) (fun g hg ⟨s1, s2, s3⟩ => ⟨s1, s2, fun j lo' hi' hj => ?_⟩), h.ini, h.vsK hx (fun _ _ _ _ _ h => h) (fun j g hj _ => by rw [List.getElem?_append_left (List.getElem?_eq_some_iff.1 hj).1]; exact hj) fun _ _ => rfl⟩⟩
  · exact h.regd i j b' lo1 hi1 lo2 hi2 hij (hget _ _ _ _ hi' hlt1) (hget _ _ _ _ hj' hlt2) hlt1 hlt2
  · have hj : (G.ρ ++ [(0, 0, 0)])[j]? = some (b', lo', hi') := hj
    rcases Nat.lt_trichotomy j G.ρ.length with hjl | hjl | hjl
    · rw [List.getElem?_append_left hjl] at hj; exact h.fre j b' lo' hi' hj
    · subst hjl; rw [List.getElem?_append_right (Nat.le_refl _)] at hj; simp at hj; exact .inr ⟨hj.1.symm, hj.2.1.symm, hj.2.2.symm⟩
    · rw [List.getElem?_eq_none (by simp; omega)] at hj; cases hj
  · rcases Nat.lt_or_ge lo' hi' with hlt | hge
    · exact s3 j lo' hi' (hget j g lo' hi' hj hlt)
    · exact hge

end Go.Vg
