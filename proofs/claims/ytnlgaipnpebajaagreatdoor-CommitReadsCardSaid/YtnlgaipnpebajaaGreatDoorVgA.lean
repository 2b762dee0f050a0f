/- The values of the layer Vg: trees in the place of memory, and what it means that a machine's value reads as such a tree. -/
import Derived.Calls
import Derived.Orders
import Derived.Below
import Derived.Laws.World
import Derived.Laws.Sem
import Derived.Deep.AppendSrc
set_option linter.unusedVariables false
namespace Go.Vg
open Go.RowKit

/-- How a slice may be appended to: not at all, always into a new array (its capacity is its length), it is nil, or by the slot k of the state. -/
inductive Own where
  | shared | full | nil | arr (k : Nat)
  deriving DecidableEq

inductive V where
  | junk
  | bool (b : Bool)
  | int (k : IntKind) (n : Int)
  | str (s : ByteArray)
  | nilp
  | ptr (id off : Nat)
  | fptr (cs : List V)
  | slice (o : Own) (e : TypeId) (es : List (List V))
  | mslice (id off len cap : Nat) (e : TypeId)
  | nilmap
  | map (id : Nat)
  | nilfunc
  | func (f : FuncId) (caps : List V)
  | nilif
  | iface (t : TypeId) (v : V)
  | agg (cs : List V)
  | tuple (vs : List V)

inductive VObj where
  | cells (cs : List V)
  | map (es : List (V × V))
  | siter (s : ByteArray) (pos : Nat)
  | dead
  | tcells (t : TypeId) (cs : List V)
  | builder (t : TypeId) (s : ByteArray)

/-- The cells of an object; the object with other cells. -/
def VObj.cs? : VObj → Option (List V)
  | .cells cs => some cs
  | .tcells _ cs => some cs
  | _ => none
def VObj.put (ob : VObj) (cs : List V) : VObj := match ob with
  | .tcells t _ => .tcells t cs
  | _ => .cells cs

/-- The ghost: frozen cells, the blocks of the mutable objects, the spare regions of the slots. -/
structure Gh where
  F : Nat → Nat → Option Value
  φ : List Nat
  ρ : List (Nat × Nat × Nat)

def OwnOK (G : Gh) (arr : List Nat) (o : Own) (b off len cap s : Nat) : Prop :=
  match o with
  | .shared => True
  | .full => cap = len
  | .nil => False
  | .arr k => ∃ n, arr[k]? = some n ∧ len ≤ n ∧ (n = len → G.ρ[k]? = some (b, off + len * s, off + cap * s))

def OwnNil (arr : List Nat) (o : Own) : Prop :=
  match o with
  | .arr k => ∃ n : Nat, arr[k]? = some n
  | _ => True

inductive RV (P : Program) (G : Gh) (arr : List Nat) : V → Value → Prop
  | junk (v) : RV P G arr .junk v
  | bool (b) : RV P G arr (.bool b) (.bool b)
  | int (k n) : RV P G arr (.int k n) (.int k n)
  | str (s) : s.size ≤ 1152921504606846976 → RV P G arr (.str s) (.string s)
  | nilp : RV P G arr .nilp (.pointer none)
  | ptr (id off b) : G.φ[id]? = some b → RV P G arr (.ptr id off) (.pointer (some ⟨b, off, none⟩))
  | fptr (cs b o) : (∀ j, j < cs.length → ∃ v, G.F b (o + j) = some v) → (∀ (j : Nat) c v, cs[j]? = some c → G.F b (o + j) = some v → RV P G arr c v) →
      RV P G arr (.fptr cs) (.pointer (some ⟨b, o, none⟩))
  | snil (o e) : OwnNil arr o → RV P G arr (.slice o e []) (.slice none 0 0)
  | sodd (e a c) : RV P G arr (.slice .shared e []) (.slice a 0 c)
  | slice (o e es b off cap) : OwnOK G arr o b off es.length cap (P.cellsOf e) →
      (∀ (i : Nat) el, es[i]? = some el → el.length = P.cellsOf e) → es.length * P.bytesOf e ≤ 140737488355328 → es.length ≤ 140737488355328 →
      es.length ≤ cap →
      (∀ (i : Nat) el (j : Nat), es[i]? = some el → j < el.length → ∃ v, G.F b (off + (i * P.cellsOf e + j)) = some v) →
      (∀ (i : Nat) el (j : Nat) c v, es[i]? = some el → el[j]? = some c → G.F b (off + (i * P.cellsOf e + j)) = some v → RV P G arr c v) →
      RV P G arr (.slice o e es) (.slice (some ⟨b, off, none⟩) es.length cap)
  | mslice (id off len cap e b) : G.φ[id]? = some b → len ≤ 140737488355328 → len ≤ cap → len * P.bytesOf e ≤ 140737488355328 →
      RV P G arr (.mslice id off len cap e) (.slice (some ⟨b, off, none⟩) len cap)
  | nilmap : RV P G arr .nilmap (.map none)
  | map (id b) : G.φ[id]? = some b → RV P G arr (.map id) (.map (some b))
  | nilfunc : RV P G arr .nilfunc .nilFunc
  | func (f caps cs) : caps.length = cs.size → (∀ (j : Nat) c v, caps[j]? = some c → cs[j]? = some v → RV P G arr c v) →
      RV P G arr (.func f caps) (.func (.func f) #[] cs)
  | nilif : RV P G arr .nilif .nilIface
  | iface (t x v) : RV P G arr x v → RV P G arr (.iface t x) (.iface t v)
  | agg (cs vs) : cs.length = vs.size → (∀ (j : Nat) c v, cs[j]? = some c → vs[j]? = some v → RV P G arr c v) →
      RV P G arr (.agg cs) (.agg vs)
  | tuple (cs vs) : cs.length = vs.size → (∀ (j : Nat) c v, cs[j]? = some c → vs[j]? = some v → RV P G arr c v) →
      RV P G arr (.tuple cs) (.tuple vs)

/-- Later: more is frozen, more objects, more slots; a slot's region turns only together with its length. -/
structure Ext (G : Gh) (arr : List Nat) (G' : Gh) (arr' : List Nat) : Prop where
  F : ∀ b o v, G.F b o = some v → G'.F b o = some v
  φ : ∀ (id : Nat) b, G.φ[id]? = some b → G'.φ[id]? = some b
  ρ : ∀ (k : Nat) n, arr[k]? = some n → ∃ n', arr'[k]? = some n' ∧ n ≤ n' ∧ (n' = n → G'.ρ[k]? = G.ρ[k]?)

theorem Ext.refl (G : Gh) (arr : List Nat) : Ext G arr G arr :=
  ⟨fun _ _ _ h => h, fun _ _ h => h, fun _ n h => ⟨n, h, Nat.le_refl _, fun _ => rfl⟩⟩

theorem Ext.trans {G G' G'' : Gh} {arr arr' arr'' : List Nat} (h : Ext G arr G' arr') (h' : Ext G' arr' G'' arr'') : Ext G arr G'' arr'' := by
  refine ⟨fun b o v hv => h'.F _ _ _ (h.F _ _ _ hv), fun id b hb => h'.φ _ _ (h.φ _ _ hb), fun k n hn => ?_⟩
  obtain ⟨n1, h1, h2, h3⟩ := h.ρ k n hn
  obtain ⟨n2, h4, h5, h6⟩ := h'.ρ k n1 h1
  refine ⟨n2, h4, Nat.le_trans h2 h5, fun e => ?_⟩
  have e1 : n1 = n := by omega
  have e2 : n2 = n1 := by omega
  rw [h6 e2, h3 e1]

theorem OwnOK.mono {G G' : Gh} {arr arr' : List Nat} (h : Ext G arr G' arr') {o : Own} {b off len cap s : Nat} (ho : OwnOK G arr o b off len cap s) :
    OwnOK G' arr' o b off len cap s := by
  cases o with
  | shared => trivial
  | full => exact ho
  | nil => exact ho
  | arr k =>
    obtain ⟨n, h1, h2, h3⟩ := ho
    obtain ⟨n', h4, h5, h6⟩ := h.ρ k n h1
    refine ⟨n', h4, Nat.le_trans h2 h5, fun e => ?_⟩
    have : n = len := by omega
    rw [h6 (by omega), h3 this]

theorem OwnNil.mono {G G' : Gh} {arr arr' : List Nat} (h : Ext G arr G' arr') {o : Own} (ho : OwnNil arr o) : OwnNil arr' o := by
  cases o with
  | arr k =>
    obtain ⟨n, h1⟩ := ho
    obtain ⟨n', h4, _⟩ := h.ρ k n h1
    exact ⟨n', h4⟩
  | _ => trivial

theorem RV.mono {P : Program} {G G' : Gh} {arr arr' : List Nat} (h : Ext G arr G' arr') {x : V} {v : Value} (hx : RV P G arr x v) : RV P G' arr' x v := by
  induction hx with
  | junk v => exact .junk v
  | bool b => exact .bool b
  | int k n => exact .int k n
  | str s hs => exact .str s hs
  | nilp => exact .nilp
  | ptr id off b hb => exact .ptr id off b (h.φ _ _ hb)
  | fptr cs b o hd _ ih =>
    refine .fptr cs b o (fun j hj => (hd j hj).imp fun v hv => h.F _ _ _ hv) fun j c v hc hv => ?_
    obtain ⟨u, hu⟩ := hd j (List.getElem?_eq_some_iff.1 hc).1
    have := h.F _ _ _ hu
    rw [hv] at this
    exact ih j c v hc (by rw [hu, this])
  | snil o e ho => exact .snil o e (ho.mono h)
  | sodd e a c => exact .sodd e a c
  | slice o e es b off cap ho h1 h2 h3 h4 hd _ ih =>
    refine .slice o e es b off cap (ho.mono h) h1 h2 h3 h4 (fun i el j hi hj => (hd i el j hi hj).imp fun v hv => h.F _ _ _ hv) fun i el j c v hi hj hv => ?_
    obtain ⟨u, hu⟩ := hd i el j hi (List.getElem?_eq_some_iff.1 hj).1
    have := h.F _ _ _ hu
    rw [hv] at this
    exact ih i el j c v hi hj (by rw [hu, this])
  | mslice id off len cap e b hb h1 h2 h3 => exact .mslice id off len cap e b (h.φ _ _ hb) h1 h2 h3
  | nilmap => exact .nilmap
  | map id b hb => exact .map id b (h.φ _ _ hb)
  | nilfunc => exact .nilfunc
  | func f caps cs hl _ ih => exact .func f caps cs hl ih
  | nilif => exact .nilif
  | iface t x v _ ih => exact .iface t x v ih
  | agg cs vs hl _ ih => exact .agg cs vs hl ih
  | tuple cs vs hl _ ih => exact .tuple cs vs hl ih

/-- A tree of immutable parts: it means the same whatever the objects and slots are. -/
def Own.plain : Own → Bool
  | .arr _ => false
  | _ => true

mutual
def V.pure : V → Bool
  | .ptr .. | .mslice .. | .map _ => false
  | .fptr cs => pureL cs
  | .slice o _ es => o.plain && pureLL es
  | .func _ cs => pureL cs
  | .iface _ v => v.pure
  | .agg cs => pureL cs
  | .tuple cs => pureL cs
  | _ => true
def pureL : List V → Bool
  | [] => true
  | x :: r => x.pure && pureL r
def pureLL : List (List V) → Bool
  | [] => true
  | x :: r => pureL x && pureLL r
end

theorem pureL_get {cs : List V} (h : pureL cs = true) : ∀ (j : Nat) c, cs[j]? = some c → c.pure = true := by
  induction cs with
  | nil => intro j c hc; simp at hc
  | cons x r ih =>
    simp only [pureL, Bool.and_eq_true] at h
    intro j c hc
    cases j with
    | zero => simp at hc; exact hc ▸ h.1
    | succ j => exact ih h.2 j c (by simpa using hc)

theorem pureLL_get {cs : List (List V)} (h : pureLL cs = true) : ∀ (j : Nat) c, cs[j]? = some c → pureL c = true := by
  induction cs with
  | nil => intro j c hc; simp at hc
  | cons x r ih =>
    simp only [pureLL, Bool.and_eq_true] at h
    intro j c hc
    cases j with
    | zero => simp at hc; exact hc ▸ h.1
    | succ j => exact ih h.2 j c (by simpa using hc)

/-- What is pure reads alike under any ghost with the same frozen cells. -/
theorem RV.pure {P : Program} {G : Gh} {arr : List Nat} {x : V} {v : Value} (hx : RV P G arr x v) : x.pure = true → ∀ (G' : Gh) (arr' : List Nat),
    (∀ b o u, G.F b o = some u → G'.F b o = some u) → RV P G' arr' x v := by
  induction hx with
  | junk v => intro _ G' arr' _; exact .junk v
  | bool b => intro _ G' arr' _; exact .bool b
  | int k n => intro _ G' arr' _; exact .int k n
  | str s hs => intro _ G' arr' _; exact .str s hs
  | nilp => intro _ G' arr' _; exact .nilp
  | ptr id off b hb => intro h; simp [V.pure] at h
  | fptr cs b o hd _ ih =>
    intro h G' arr' hF
    simp only [V.pure] at h
    refine .fptr cs b o (fun j hj => (hd j hj).imp fun v hv => hF _ _ _ hv) fun j c v hc hv => ?_
    obtain ⟨u, hu⟩ := hd j (List.getElem?_eq_some_iff.1 hc).1
    have := hF _ _ _ hu
    rw [hv] at this
    exact ih j c v hc (by rw [hu, this]) (pureL_get h j c hc) G' arr' hF
  | sodd e a c => intro _ G' arr' _; exact .sodd e a c
  | snil o e ho =>
    intro h G' arr' hF
    refine .snil o e ?_
    simp only [V.pure, Bool.and_eq_true] at h
    cases o <;> simp_all [Own.plain, OwnNil]
  | slice o e es b off cap ho h1 h2 h3 h4 hd _ ih =>
    intro h G' arr' hF
    simp only [V.pure, Bool.and_eq_true] at h
    refine .slice o e es b off cap ?_ h1 h2 h3 h4 (fun i el j hi hj => (hd i el j hi hj).imp fun v hv => hF _ _ _ hv) fun i el j c v hi hj hv => ?_
    · have := h.1
      cases o <;> simp_all [Own.plain, OwnOK]
    · obtain ⟨u, hu⟩ := hd i el j hi (List.getElem?_eq_some_iff.1 hj).1
      have := hF _ _ _ hu
      rw [hv] at this
      exact ih i el j c v hi hj (by rw [hu, this]) (pureL_get (pureLL_get h.2 i el hi) j c hj) G' arr' hF
  | mslice id off len cap e b hb h1 h2 h3 => intro h; simp [V.pure] at h
  | nilmap => intro _ G' arr' _; exact .nilmap
  | map id b hb => intro h; simp [V.pure] at h
  | nilfunc => intro _ G' arr' _; exact .nilfunc
  | func f caps cs hl _ ih =>
    intro h G' arr' hF
    simp only [V.pure] at h
    exact .func f caps cs hl fun j c v hj hv => ih j c v hj hv (pureL_get h j c hj) G' arr' hF
  | nilif => intro _ G' arr' _; exact .nilif
  | iface t x v _ ih => intro h G' arr' hF; simp only [V.pure] at h; exact .iface t x v (ih h G' arr' hF)
  | agg cs vs hl _ ih =>
    intro h G' arr' hF
    simp only [V.pure] at h
    exact .agg cs vs hl fun j c v hj hv => ih j c v hj hv (pureL_get h j c hj) G' arr' hF
  | tuple cs vs hl _ ih =>
    intro h G' arr' hF
    simp only [V.pure] at h
    exact .tuple cs vs hl fun j c v hj hv => ih j c v hj hv (pureL_get h j c hj) G' arr' hF

/-- A program, what its package-level variables read as, and in which states of the memory it may panic. -/
structure Env where
  P : Program
  gl : Nat → Option (List V)
  tag : TypeId → Bool := fun _ => false
  byteT : TypeId := 0
  ini : World → Prop := fun _ => True
  iniM : ∀ w w' : World, ini w → Below w.heap.size w w' → ini w' := by exact fun _ _ h _ => h
  die : List VObj → List Nat → Prop := fun _ _ => False

/-- The same, without panics. -/
def Env.alive (E : Env) : Env := { E with die := fun _ _ => False }

/-! ### Objects and the world -/
def RObj (P : Program) (G : Gh) (arr : List Nat) (w : World) (b : Nat) : VObj → Prop
  | .cells cs => ∃ c e, w.heap[b]? = some (.cells c e (0, 0)) ∧ c.size = cs.length ∧ ∀ (j : Nat) x, cs[j]? = some x → ∃ v, c[j]? = some v ∧ RV P G arr x v
  | .map es => ∃ m clk, w.heap[b]? = some (.map m clk) ∧ m.size = es.length ∧
      ∀ (j : Nat) kx vx, es[j]? = some (kx, vx) → ∃ e : MapEntry, m[j]? = some e ∧ RV P G arr kx e.key ∧ RV P G arr vx e.val
  | .siter s pos => w.heap[b]? = some (.stringIter s pos) ∧ s.size ≤ 1152921504606846976
  | .dead => True
  | .builder t _ => ∃ p v, w.heap[b]? = some (.cells #[p, v] t (0, 0)) ∧ (p = .pointer none ∨ p = .pointer (some ⟨b, 0, none⟩))
  | .tcells t cs => ∃ c, w.heap[b]? = some (.cells c t (0, 0)) ∧ c.size = cs.length ∧ ∀ (j : Nat) x, cs[j]? = some x → ∃ v, c[j]? = some v ∧ RV P G arr x v

theorem RObj.un {P : Program} {G : Gh} {arr : List Nat} {w : World} {b : Nat} {ob : VObj} {cs : List V} (h : RObj P G arr w b ob) (hc : ob.cs? = some cs) :
    ∃ c e, w.heap[b]? = some (.cells c e (0, 0)) ∧ c.size = cs.length ∧ (∀ (j : Nat) x, cs[j]? = some x → ∃ v, c[j]? = some v ∧ RV P G arr x v) ∧
      ∀ (w' : World) c' cs', w'.heap[b]? = some (.cells c' e (0, 0)) → c'.size = cs'.length → (∀ (j : Nat) x, cs'[j]? = some x → ∃ v, c'[j]? = some v ∧ RV P G arr x v) → RObj P G arr w' b (ob.put cs') := by
  cases ob <;> simp only [VObj.cs?, Option.some.injEq, reduceCtorEq] at hc
  · subst hc
    obtain ⟨c, e, h1, h2, h3⟩ := h
    exact ⟨c, e, h1, h2, h3, fun w' c' cs' g1 g2 g3 => ⟨c', e, g1, g2, g3⟩⟩
  · subst hc
    obtain ⟨c, h1, h2, h3⟩ := h
    exact ⟨c, _, h1, h2, h3, fun w' c' cs' g1 g2 g3 => ⟨c', g1, g2, g3⟩⟩

/-- A block that is a builder's own. -/
def SepB (G : Gh) (g : Nat) : Prop := (∀ o, G.F g o = none) ∧ (∀ i : Nat, G.φ[i]? ≠ some g) ∧ ∀ (k lo hi : Nat), G.ρ[k]? = some (g, lo, hi) → hi ≤ lo
/-- The bytes of a builder, in a block of its own. -/
def Bld (E : Env) (G : Gh) (w : World) (t : TypeId) (s : ByteArray) (b : Nat) : Prop := ∃ p v, w.heap[b]? = some (.cells #[p, v] t (0, 0)) ∧
  ((v = .slice none 0 0 ∧ s.size = 0) ∨ ∃ g cap cur, v = .slice (some ⟨g, 0, none⟩) s.size cap ∧ b < g ∧ w.heap[g]? = some (.cells cur E.byteT (0, 0)) ∧ s.size ≤ cap ∧ cap ≤ maxLen ∧ cur.size = cap ∧
    cur.toList.take s.size = byteCells s ∧ SepB G g)
theorem Bld.keep {E : Env} {G G' : Gh} {w w' : World} {t : TypeId} {s : ByteArray} {b : Nat} (h : Bld E G w t s b) (hb : w'.heap[b]? = w.heap[b]?)
    (hg : ∀ g, g < w.heap.size → SepB G g → w'.heap[g]? = w.heap[g]? ∧ SepB G' g) : Bld E G' w' t s b := by
  obtain ⟨p, v, h1, h2⟩ := h
  refine ⟨p, v, by rw [hb]; exact h1, h2.imp id fun ⟨g, cap, cur, g1, g2, g3, g4, g5, g6, g7, g8⟩ => ?_⟩
  have hlt : g < w.heap.size := (Array.getElem?_eq_some_iff.1 g3).1
  obtain ⟨q1, q2⟩ := hg g hlt g8
  exact ⟨g, cap, cur, g1, g2, by rw [q1]; exact g3, g4, g5, g6, g7, q2⟩

/-- What was there at the beginning: the world, and what of it was frozen. -/
structure Base where
  w : World
  F : Nat → Nat → Option Value
  dfs : List Deferred := []

/-- The memory part of a state, over the base that was there at the beginning. -/
structure RelW (E : Env) (G : Gh) (heap : List VObj) (arr : List Nat) (w0 : Base) (w : World) : Prop where
  newF : ∀ b o v, G.F b o = some v → b < w0.w.heap.size → w0.F b o = some v
  glob : ∀ g cs, E.gl g = some cs → pureL cs = true ∧ RV E.P G arr (.fptr cs) (.pointer (some ⟨g, 0, none⟩))
  below : Below w0.w.heap.size w0.w w
  frz : ∀ b o v, G.F b o = some v → w.cell? ⟨b, o, none⟩ = some v
  one : ∀ b o v, G.F b o = some v → v.oneCell' = true
  obj : ∀ (id : Nat) ob, heap[id]? = some ob → ∃ b, G.φ[id]? = some b ∧ RObj E.P G arr w b ob
  lenφ : G.φ.length = heap.length
  nod : ∀ (i j : Nat) b, G.φ[i]? = some b → G.φ[j]? = some b → i = j
  sep : ∀ (id : Nat) b o, G.φ[id]? = some b → heap[id]? ≠ some .dead → G.F b o = none
  geφ : ∀ (id : Nat) b, G.φ[id]? = some b → w0.w.heap.size ≤ b ∧ b < w.heap.size
  lenρ : G.ρ.length = arr.length
  reg : ∀ (k b lo hi : Nat), G.ρ[k]? = some (b, lo, hi) → lo < hi →
    (∃ c e, w.heap[b]? = some (.cells c e (0, 0)) ∧ hi ≤ c.size) ∧ (∀ id : Nat, G.φ[id]? ≠ some b) ∧ (∀ o, lo ≤ o → o < hi → G.F b o = none) ∧ w0.w.heap.size ≤ b
  regd : ∀ (k k' b lo hi lo' hi' : Nat), k ≠ k' → G.ρ[k]? = some (b, lo, hi) → G.ρ[k']? = some (b, lo', hi') → lo < hi → lo' < hi' → hi ≤ lo' ∨ hi' ≤ lo
  fre : ∀ (k b lo hi : Nat), G.ρ[k]? = some (b, lo, hi) → w0.w.heap.size ≤ b ∨ (b = 0 ∧ lo = 0 ∧ hi = 0)
  bld : ∀ (id : Nat) t s b, heap[id]? = some (.builder t s) → G.φ[id]? = some b → Bld E G w t s b
  ini : E.ini w0.w

/-! ### States -/
def look : List (Nat × V) → Nat → V
  | [], _ => .junk
  | (j, x) :: r, i => if i = j then x else look r i

structure St where
  tmps : List (Nat × V)
  heap : List VObj
  arr : List Nat

def St.put (s : St) (d : Option Nat) (x : V) : St :=
  match d with
  | some d => { s with tmps := (d, x) :: s.tmps }
  | none => s

@[simp] theorem St.put_heap (s : St) (d : Option Nat) (x : V) : (s.put d x).heap = s.heap := by cases d <;> rfl
@[simp] theorem St.put_arr (s : St) (d : Option Nat) (x : V) : (s.put d x).arr = s.arr := by cases d <;> rfl

structure RelT (P : Program) (G : Gh) (arr : List Nat) (tmps : List (Nat × V)) (n : Nat) (a : Act) : Prop where
  tm : ∀ i : Nat, RV P G arr (look tmps i) (a.tmps.getD i undef)
  sz : a.tmps.size = n

theorem RelT.mono {P : Program} {G G' : Gh} {arr arr' : List Nat} {tmps : List (Nat × V)} {n : Nat} {a : Act} (h : Ext G arr G' arr') (hr : RelT P G arr tmps n a) :
    RelT P G' arr' tmps n a := ⟨fun i => (hr.tm i).mono h, hr.sz⟩

theorem RelT.put {P : Program} {G : Gh} {arr : List Nat} {tmps : List (Nat × V)} {n : Nat} {a : Act} (hr : RelT P G arr tmps n a) {d : Nat} (hd : d < n) {x : V} {v : Value}
    (hx : RV P G arr x v) : RelT P G arr ((d, x) :: tmps) n (a.put (some d) v) := by
  refine ⟨fun i => ?_, by simp [Act.put, hr.sz]⟩
  simp only [look, Act.put]
  have hs := hr.sz
  by_cases hi : i = d
  · subst hi
    rw [if_pos rfl]
    have : (a.tmps.setIfInBounds i v).getD i undef = v := by
      simp [Array.getD_eq_getD_getElem?, hs, hd]
    rw [this]; exact hx
  · rw [if_neg hi]
    have : (a.tmps.setIfInBounds d v).getD i undef = a.tmps.getD i undef := by
      simp [Array.getD_eq_getD_getElem?, Ne.symm hi]
    rw [this]; exact hr.tm i

end Go.Vg
