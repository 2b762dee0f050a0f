/- The operations on trees, part 1, and that the machine's operations do the same. -/
import Derived.Calls
import Derived.Orders
import Derived.Below
import Derived.Laws.World
import Derived.Laws.Sem
import Derived.Deep.AppendSrc
set_option linter.unusedVariables false
namespace Go.Vg
open Go.RowKit

/-- How a slice may be appended to: not at all, always into a new array (its capacity is its length), it is nil, or by the slot k of the state. -/
inductive Own where
  | shared | full | nil | arr (k : Nat)
  deriving DecidableEq

inductive V where
  | junk
  | bool (b : Bool)
  | int (k : IntKind) (n : Int)
  | str (s : ByteArray)
  | nilp
  | ptr (id off : Nat)
  | fptr (cs : List V)
  | slice (o : Own) (e : TypeId) (es : List (List V))
  | mslice (id off len cap : Nat) (e : TypeId)
  | nilmap
  | map (id : Nat)
  | nilfunc
  | func (f : FuncId) (caps : List V)
  | nilif
  | iface (t : TypeId) (v : V)
  | agg (cs : List V)
  | tuple (vs : List V)

inductive VObj where
  | cells (cs : List V)
  | map (es : List (V × V))
  | siter (s : ByteArray) (pos : Nat)
  | dead
  | tcells (t : TypeId) (cs : List V)
  | builder (t : TypeId) (s : ByteArray)

/-- The cells of an object; the object with other cells. -/
def VObj.cs? : VObj → Option (List V)
  | .cells cs => some cs
  | .tcells _ cs => some cs
  | _ => none
def VObj.put (ob : VObj) (cs : List V) : VObj := match ob with
  | .tcells t _ => .tcells t cs
  | _ => .cells cs

/-- The ghost: frozen cells, the blocks of the mutable objects, the spare regions of the slots. -/
structure Gh where
  F : Nat → Nat → Option Value
  φ : List Nat
  ρ : List (Nat × Nat × Nat)

def OwnOK (G : Gh) (arr : List Nat) (o : Own) (b off len cap s : Nat) : Prop :=
  match o with
  | .shared => True
  | .full => cap = len
  | .nil => False
  | .arr k => ∃ n, arr[k]? = some n ∧ len ≤ n ∧ (n = len → G.ρ[k]? = some (b, off + len * s, off + cap * s))

def OwnNil (arr : List Nat) (o : Own) : Prop :=
  match o with
  | .arr k => ∃ n : Nat, arr[k]? = some n
  | _ => True

inductive RV (P : Program) (G : Gh) (arr : List Nat) : V → Value → Prop
  | junk (v) : RV P G arr .junk v
  | bool (b) : RV P G arr (.bool b) (.bool b)
  | int (k n) : RV P G arr (.int k n) (.int k n)
  | str (s) : s.size ≤ 1152921504606846976 → RV P G arr (.str s) (.string s)
  | nilp : RV P G arr .nilp (.pointer none)
  | ptr (id off b) : G.φ[id]? = some b → RV P G arr (.ptr id off) (.pointer (some ⟨b, off, none⟩))
  | fptr (cs b o) : (∀ j, j < cs.length → ∃ v, G.F b (o + j) = some v) → (∀ (j : Nat) c v, cs[j]? = some c → G.F b (o + j) = some v → RV P G arr c v) →
      RV P G arr (.fptr cs) (.pointer (some ⟨b, o, none⟩))
  | snil (o e) : OwnNil arr o → RV P G arr (.slice o e []) (.slice none 0 0)
  | sodd (e a c) : RV P G arr (.slice .shared e []) (.slice a 0 c)
  | slice (o e es b off cap) : OwnOK G arr o b off es.length cap (P.cellsOf e) →
      (∀ (i : Nat) el, es[i]? = some el → el.length = P.cellsOf e) → es.length * P.bytesOf e ≤ 140737488355328 → es.length ≤ 140737488355328 →
      es.length ≤ cap →
      (∀ (i : Nat) el (j : Nat), es[i]? = some el → j < el.length → ∃ v, G.F b (off + (i * P.cellsOf e + j)) = some v) →
      (∀ (i : Nat) el (j : Nat) c v, es[i]? = some el → el[j]? = some c → G.F b (off + (i * P.cellsOf e + j)) = some v → RV P G arr c v) →
      RV P G arr (.slice o e es) (.slice (some ⟨b, off, none⟩) es.length cap)
  | mslice (id off len cap e b) : G.φ[id]? = some b → len ≤ 140737488355328 → len ≤ cap → len * P.bytesOf e ≤ 140737488355328 →
      RV P G arr (.mslice id off len cap e) (.slice (some ⟨b, off, none⟩) len cap)
  | nilmap : RV P G arr .nilmap (.map none)
  | map (id b) : G.φ[id]? = some b → RV P G arr (.map id) (.map (some b))
  | nilfunc : RV P G arr .nilfunc .nilFunc
  | func (f caps cs) : caps.length = cs.size → (∀ (j : Nat) c v, caps[j]? = some c → cs[j]? = some v → RV P G arr c v) →
      RV P G arr (.func f caps) (.func (.func f) #[] cs)
  | nilif : RV P G arr .nilif .nilIface
  | iface (t x v) : RV P G arr x v → RV P G arr (.iface t x) (.iface t v)
  | agg (cs vs) : cs.length = vs.size → (∀ (j : Nat) c v, cs[j]? = some c → vs[j]? = some v → RV P G arr c v) →
      RV P G arr (.agg cs) (.agg vs)
  | tuple (cs vs) : cs.length = vs.size → (∀ (j : Nat) c v, cs[j]? = some c → vs[j]? = some v → RV P G arr c v) →
      RV P G arr (.tuple cs) (.tuple vs)

/-- Later: more is frozen, more objects, more slots; a slot's region turns only together with its length. -/
structure Ext (G : Gh) (arr : List Nat) (G' : Gh) (arr' : List Nat) : Prop where
  F : ∀ b o v, G.F b o = some v → G'.F b o = some v
  φ : ∀ (id : Nat) b, G.φ[id]? = some b → G'.φ[id]? = some b
  ρ : ∀ (k : Nat) n, arr[k]? = some n → ∃ n', arr'[k]? = some n' ∧ n ≤ n' ∧ (n' = n → G'.ρ[k]? = G.ρ[k]?)

theorem Ext.refl (G : Gh) (arr : List Nat) : Ext G arr G arr :=
  ⟨fun _ _ _ h => h, fun _ _ h => h, fun _ n h => ⟨n, h, Nat.le_refl _, fun _ => rfl⟩⟩

theorem Ext.trans {G G' G'' : Gh} {arr arr' arr'' : List Nat} (h : Ext G arr G' arr') (h' : Ext G' arr' G'' arr'') : Ext G arr G'' arr'' := by
  refine ⟨fun b o v hv => h'.F _ _ _ (h.F _ _ _ hv), fun id b hb => h'.φ _ _ (h.φ _ _ hb), fun k n hn => ?_⟩
  obtain ⟨n1, h1, h2, h3⟩ := h.ρ k n hn
  obtain ⟨n2, h4, h5, h6⟩ := h'.ρ k n1 h1
  refine ⟨n2, h4, Nat.le_trans h2 h5, fun e => ?_⟩
  have e1 : n1 = n := by omega
  have e2 : n2 = n1 := by omega
  rw [h6 e2, h3 e1]

theorem OwnOK.mono {G G' : Gh} {arr arr' : List Nat} (h : Ext G arr G' arr') {o : Own} {b off len cap s : Nat} (ho : OwnOK G arr o b off len cap s) :
    OwnOK G' arr' o b off len cap s := by
  cases o with
  | shared => trivial
  | full => exact ho
  | nil => exact ho
  | arr k =>
    obtain ⟨n, h1, h2, h3⟩ := ho
    obtain ⟨n', h4, h5, h6⟩ := h.ρ k n h1
    refine ⟨n', h4, Nat.le_trans h2 h5, fun e => ?_⟩
    have : n = len := by omega
    rw [h6 (by omega), h3 this]

theorem OwnNil.mono {G G' : Gh} {arr arr' : List Nat} (h : Ext G arr G' arr') {o : Own} (ho : OwnNil arr o) : OwnNil arr' o := by
  cases o with
  | arr k =>
    obtain ⟨n, h1⟩ := ho
    obtain ⟨n', h4, _⟩ := h.ρ k n h1
    exact ⟨n', h4⟩
  | _ => trivial

theorem RV.mono {P : Program} {G G' : Gh} {arr arr' : List Nat} (h : Ext G arr G' arr') {x : V} {v : Value} (hx : RV P G arr x v) : RV P G' arr' x v := by
  induction hx with
  | junk v => exact .junk v
  | bool b => exact .bool b
  | int k n => exact .int k n
  | str s hs => exact .str s hs
  | nilp => exact .nilp
  | ptr id off b hb => exact .ptr id off b (h.φ _ _ hb)
  | fptr cs b o hd _ ih =>
    refine .fptr cs b o (fun j hj => (hd j hj).imp fun v hv => h.F _ _ _ hv) fun j c v hc hv => ?_
    obtain ⟨u, hu⟩ := hd j (List.getElem?_eq_some_iff.1 hc).1
    have := h.F _ _ _ hu
    rw [hv] at this
    exact ih j c v hc (by rw [hu, this])
  | snil o e ho => exact .snil o e (ho.mono h)
  | sodd e a c => exact .sodd e a c
  | slice o e es b off cap ho h1 h2 h3 h4 hd _ ih =>
    refine .slice o e es b off cap (ho.mono h) h1 h2 h3 h4 (fun i el j hi hj => (hd i el j hi hj).imp fun v hv => h.F _ _ _ hv) fun i el j c v hi hj hv => ?_
    obtain ⟨u, hu⟩ := hd i el j hi (List.getElem?_eq_some_iff.1 hj).1
    have := h.F _ _ _ hu
    rw [hv] at this
    exact ih i el j c v hi hj (by rw [hu, this])
  | mslice id off len cap e b hb h1 h2 h3 => exact .mslice id off len cap e b (h.φ _ _ hb) h1 h2 h3
  | nilmap => exact .nilmap
  | map id b hb => exact .map id b (h.φ _ _ hb)
  | nilfunc => exact .nilfunc
  | func f caps cs hl _ ih => exact .func f caps cs hl ih
  | nilif => exact .nilif
  | iface t x v _ ih => exact .iface t x v ih
  | agg cs vs hl _ ih => exact .agg cs vs hl ih
  | tuple cs vs hl _ ih => exact .tuple cs vs hl ih

/-- A tree of immutable parts: it means the same whatever the objects and slots are. -/
def Own.plain : Own → Bool
  | .arr _ => false
  | _ => true

mutual
def V.pure : V → Bool
  | .ptr .. | .mslice .. | .map _ => false
  | .fptr cs => pureL cs
  | .slice o _ es => o.plain && pureLL es
  | .func _ cs => pureL cs
  | .iface _ v => v.pure
  | .agg cs => pureL cs
  | .tuple cs => pureL cs
  | _ => true
def pureL : List V → Bool
  | [] => true
  | x :: r => x.pure && pureL r
def pureLL : List (List V) → Bool
  | [] => true
  | x :: r => pureL x && pureLL r
end

theorem pureL_get {cs : List V} (h : pureL cs = true) : ∀ (j : Nat) c, cs[j]? = some c → c.pure = true := by
  induction cs with
  | nil => intro j c hc; simp at hc
  | cons x r ih =>
    simp only [pureL, Bool.and_eq_true] at h
    intro j c hc
    cases j with
    | zero => simp at hc; exact hc ▸ h.1
    | succ j => exact ih h.2 j c (by simpa using hc)

theorem pureLL_get {cs : List (List V)} (h : pureLL cs = true) : ∀ (j : Nat) c, cs[j]? = some c → pureL c = true := by
  induction cs with
  | nil => intro j c hc; simp at hc
  | cons x r ih =>
    simp only [pureLL, Bool.and_eq_true] at h
    intro j c hc
    cases j with
    | zero => simp at hc; exact hc ▸ h.1
    | succ j => exact ih h.2 j c (by simpa using hc)

/-- What is pure reads alike under any ghost with the same frozen cells. -/
theorem RV.pure {P : Program} {G : Gh} {arr : List Nat} {x : V} {v : Value} (hx : RV P G arr x v) : x.pure = true → ∀ (G' : Gh) (arr' : List Nat),
    (∀ b o u, G.F b o = some u → G'.F b o = some u) → RV P G' arr' x v := by
  induction hx with
  | junk v => intro _ G' arr' _; exact .junk v
  | bool b => intro _ G' arr' _; exact .bool b
  | int k n => intro _ G' arr' _; exact .int k n
  | str s hs => intro _ G' arr' _; exact .str s hs
  | nilp => intro _ G' arr' _; exact .nilp
  | ptr id off b hb => intro h; simp [V.pure] at h
  | fptr cs b o hd _ ih =>
    intro h G' arr' hF
    simp only [V.pure] at h
    refine .fptr cs b o (fun j hj => (hd j hj).imp fun v hv => hF _ _ _ hv) fun j c v hc hv => ?_
    obtain ⟨u, hu⟩ := hd j (List.getElem?_eq_some_iff.1 hc).1
    have := hF _ _ _ hu
    rw [hv] at this
    exact ih j c v hc (by rw [hu, this]) (pureL_get h j c hc) G' arr' hF
  | sodd e a c => intro _ G' arr' _; exact .sodd e a c
  | snil o e ho =>
    intro h G' arr' hF
    refine .snil o e ?_
    simp only [V.pure, Bool.and_eq_true] at h
    cases o <;> simp_all [Own.plain, OwnNil]
  | slice o e es b off cap ho h1 h2 h3 h4 hd _ ih =>
    intro h G' arr' hF
    simp only [V.pure, Bool.and_eq_true] at h
    refine .slice o e es b off cap ?_ h1 h2 h3 h4 (fun i el j hi hj => (hd i el j hi hj).imp fun v hv => hF _ _ _ hv) fun i el j c v hi hj hv => ?_
    · have := h.1
      cases o <;> simp_all [Own.plain, OwnOK]
    · obtain ⟨u, hu⟩ := hd i el j hi (List.getElem?_eq_some_iff.1 hj).1
      have := hF _ _ _ hu
      rw [hv] at this
      exact ih i el j c v hi hj (by rw [hu, this]) (pureL_get (pureLL_get h.2 i el hi) j c hj) G' arr' hF
  | mslice id off len cap e b hb h1 h2 h3 => intro h; simp [V.pure] at h
  | nilmap => intro _ G' arr' _; exact .nilmap
  | map id b hb => intro h; simp [V.pure] at h
  | nilfunc => intro _ G' arr' _; exact .nilfunc
  | func f caps cs hl _ ih =>
    intro h G' arr' hF
    simp only [V.pure] at h
    exact .func f caps cs hl fun j c v hj hv => ih j c v hj hv (pureL_get h j c hj) G' arr' hF
  | nilif => intro _ G' arr' _; exact .nilif
  | iface t x v _ ih => intro h G' arr' hF; simp only [V.pure] at h; exact .iface t x v (ih h G' arr' hF)
  | agg cs vs hl _ ih =>
    intro h G' arr' hF
    simp only [V.pure] at h
    exact .agg cs vs hl fun j c v hj hv => ih j c v hj hv (pureL_get h j c hj) G' arr' hF
  | tuple cs vs hl _ ih =>
    intro h G' arr' hF
    simp only [V.pure] at h
    exact .tuple cs vs hl fun j c v hj hv => ih j c v hj hv (pureL_get h j c hj) G' arr' hF

/-- A program, what its package-level variables read as, and in which states of the memory it may panic. -/
structure Env where
  P : Program
  gl : Nat → Option (List V)
  tag : TypeId → Bool := fun _ => false
  byteT : TypeId := 0
  ini : World → Prop := fun _ => True
  iniM : ∀ w w' : World, ini w → Below w.heap.size w w' → ini w' := by exact fun _ _ h _ => h
  die : List VObj → List Nat → Prop := fun _ _ => False

/-- The same, without panics. -/
def Env.alive (E : Env) : Env := { E with die := fun _ _ => False }

/-! ### Objects and the world -/
def RObj (P : Program) (G : Gh) (arr : List Nat) (w : World) (b : Nat) : VObj → Prop
  | .cells cs => ∃ c e, w.heap[b]? = some (.cells c e (0, 0)) ∧ c.size = cs.length ∧ ∀ (j : Nat) x, cs[j]? = some x → ∃ v, c[j]? = some v ∧ RV P G arr x v
  | .map es => ∃ m clk, w.heap[b]? = some (.map m clk) ∧ m.size = es.length ∧
      ∀ (j : Nat) kx vx, es[j]? = some (kx, vx) → ∃ e : MapEntry, m[j]? = some e ∧ RV P G arr kx e.key ∧ RV P G arr vx e.val
  | .siter s pos => w.heap[b]? = some (.stringIter s pos) ∧ s.size ≤ 1152921504606846976
  | .dead => True
  | .builder t _ => ∃ p v, w.heap[b]? = some (.cells #[p, v] t (0, 0)) ∧ (p = .pointer none ∨ p = .pointer (some ⟨b, 0, none⟩))
  | .tcells t cs => ∃ c, w.heap[b]? = some (.cells c t (0, 0)) ∧ c.size = cs.length ∧ ∀ (j : Nat) x, cs[j]? = some x → ∃ v, c[j]? = some v ∧ RV P G arr x v

theorem RObj.un {P : Program} {G : Gh} {arr : List Nat} {w : World} {b : Nat} {ob : VObj} {cs : List V} (h : RObj P G arr w b ob) (hc : ob.cs? = some cs) :
    ∃ c e, w.heap[b]? = some (.cells c e (0, 0)) ∧ c.size = cs.length ∧ (∀ (j : Nat) x, cs[j]? = some x → ∃ v, c[j]? = some v ∧ RV P G arr x v) ∧
      ∀ (w' : World) c' cs', w'.heap[b]? = some (.cells c' e (0, 0)) → c'.size = cs'.length → (∀ (j : Nat) x, cs'[j]? = some x → ∃ v, c'[j]? = some v ∧ RV P G arr x v) → RObj P G arr w' b (ob.put cs') := by
  cases ob <;> simp only [VObj.cs?, Option.some.injEq, reduceCtorEq] at hc
  · subst hc
    obtain ⟨c, e, h1, h2, h3⟩ := h
    exact ⟨c, e, h1, h2, h3, fun w' c' cs' g1 g2 g3 => ⟨c', e, g1, g2, g3⟩⟩
  · subst hc
    obtain ⟨c, h1, h2, h3⟩ := h
    exact ⟨c, _, h1, h2, h3, fun w' c' cs' g1 g2 g3 => ⟨c', g1, g2, g3⟩⟩

/-- A block that is a builder's own. -/
def SepB (G : Gh) (g : Nat) : Prop := (∀ o, G.F g o = none) ∧ (∀ i : Nat, G.φ[i]? ≠ some g) ∧ ∀ (k lo hi : Nat), G.ρ[k]? = some (g, lo, hi) → hi ≤ lo
/-- The bytes of a builder, in a block of its own. -/
def Bld (E : Env) (G : Gh) (w : World) (t : TypeId) (s : ByteArray) (b : Nat) : Prop := ∃ p v, w.heap[b]? = some (.cells #[p, v] t (0, 0)) ∧
  ((v = .slice none 0 0 ∧ s.size = 0) ∨ ∃ g cap cur, v = .slice (some ⟨g, 0, none⟩) s.size cap ∧ b < g ∧ w.heap[g]? = some (.cells cur E.byteT (0, 0)) ∧ s.size ≤ cap ∧ cap ≤ maxLen ∧ cur.size = cap ∧
    cur.toList.take s.size = byteCells s ∧ SepB G g)
theorem Bld.keep {E : Env} {G G' : Gh} {w w' : World} {t : TypeId} {s : ByteArray} {b : Nat} (h : Bld E G w t s b) (hb : w'.heap[b]? = w.heap[b]?)
    (hg : ∀ g, g < w.heap.size → SepB G g → w'.heap[g]? = w.heap[g]? ∧ SepB G' g) : Bld E G' w' t s b := by
  obtain ⟨p, v, h1, h2⟩ := h
  refine ⟨p, v, by rw [hb]; exact h1, h2.imp id fun ⟨g, cap, cur, g1, g2, g3, g4, g5, g6, g7, g8⟩ => ?_⟩
  have hlt : g < w.heap.size := (Array.getElem?_eq_some_iff.1 g3).1
  obtain ⟨q1, q2⟩ := hg g hlt g8
  exact ⟨g, cap, cur, g1, g2, by rw [q1]; exact g3, g4, g5, g6, g7, q2⟩

/-- What was there at the beginning: the world, and what of it was frozen. -/
structure Base where
  w : World
  F : Nat → Nat → Option Value
  dfs : List Deferred := []

/-- The memory part of a state, over the base that was there at the beginning. -/
structure RelW (E : Env) (G : Gh) (heap : List VObj) (arr : List Nat) (w0 : Base) (w : World) : Prop where
  newF : ∀ b o v, G.F b o = some v → b < w0.w.heap.size → w0.F b o = some v
  glob : ∀ g cs, E.gl g = some cs → pureL cs = true ∧ RV E.P G arr (.fptr cs) (.pointer (some ⟨g, 0, none⟩))
  below : Below w0.w.heap.size w0.w w
  frz : ∀ b o v, G.F b o = some v → w.cell? ⟨b, o, none⟩ = some v
  one : ∀ b o v, G.F b o = some v → v.oneCell' = true
  obj : ∀ (id : Nat) ob, heap[id]? = some ob → ∃ b, G.φ[id]? = some b ∧ RObj E.P G arr w b ob
  lenφ : G.φ.length = heap.length
  nod : ∀ (i j : Nat) b, G.φ[i]? = some b → G.φ[j]? = some b → i = j
  sep : ∀ (id : Nat) b o, G.φ[id]? = some b → heap[id]? ≠ some .dead → G.F b o = none
  geφ : ∀ (id : Nat) b, G.φ[id]? = some b → w0.w.heap.size ≤ b ∧ b < w.heap.size
  lenρ : G.ρ.length = arr.length
  reg : ∀ (k b lo hi : Nat), G.ρ[k]? = some (b, lo, hi) → lo < hi →
    (∃ c e, w.heap[b]? = some (.cells c e (0, 0)) ∧ hi ≤ c.size) ∧ (∀ id : Nat, G.φ[id]? ≠ some b) ∧ (∀ o, lo ≤ o → o < hi → G.F b o = none) ∧ w0.w.heap.size ≤ b
  regd : ∀ (k k' b lo hi lo' hi' : Nat), k ≠ k' → G.ρ[k]? = some (b, lo, hi) → G.ρ[k']? = some (b, lo', hi') → lo < hi → lo' < hi' → hi ≤ lo' ∨ hi' ≤ lo
  fre : ∀ (k b lo hi : Nat), G.ρ[k]? = some (b, lo, hi) → w0.w.heap.size ≤ b ∨ (b = 0 ∧ lo = 0 ∧ hi = 0)
  bld : ∀ (id : Nat) t s b, heap[id]? = some (.builder t s) → G.φ[id]? = some b → Bld E G w t s b
  ini : E.ini w0.w

/-! ### States -/
def look : List (Nat × V) → Nat → V
  | [], _ => .junk
  | (j, x) :: r, i => if i = j then x else look r i

structure St where
  tmps : List (Nat × V)
  heap : List VObj
  arr : List Nat

def St.put (s : St) (d : Option Nat) (x : V) : St :=
  match d with
  | some d => { s with tmps := (d, x) :: s.tmps }
  | none => s

@[simp] theorem St.put_heap (s : St) (d : Option Nat) (x : V) : (s.put d x).heap = s.heap := by cases d <;> rfl
@[simp] theorem St.put_arr (s : St) (d : Option Nat) (x : V) : (s.put d x).arr = s.arr := by cases d <;> rfl

structure RelT (P : Program) (G : Gh) (arr : List Nat) (tmps : List (Nat × V)) (n : Nat) (a : Act) : Prop where
  tm : ∀ i : Nat, RV P G arr (look tmps i) (a.tmps.getD i undef)
  sz : a.tmps.size = n

theorem RelT.mono {P : Program} {G G' : Gh} {arr arr' : List Nat} {tmps : List (Nat × V)} {n : Nat} {a : Act} (h : Ext G arr G' arr') (hr : RelT P G arr tmps n a) :
    RelT P G' arr' tmps n a := ⟨fun i => (hr.tm i).mono h, hr.sz⟩

theorem RelT.put {P : Program} {G : Gh} {arr : List Nat} {tmps : List (Nat × V)} {n : Nat} {a : Act} (hr : RelT P G arr tmps n a) {d : Nat} (hd : d < n) {x : V} {v : Value}
    (hx : RV P G arr x v) : RelT P G arr ((d, x) :: tmps) n (a.put (some d) v) := by
  refine ⟨fun i => ?_, by simp [Act.put, hr.sz]⟩
  simp only [look, Act.put]
  have hs := hr.sz
  by_cases hi : i = d
  · subst hi
    rw [if_pos rfl]
    have : (a.tmps.setIfInBounds i v).getD i undef = v := by
      simp [Array.getD_eq_getD_getElem?, hs, hd]
    rw [this]; exact hx
  · rw [if_neg hi]
    have : (a.tmps.setIfInBounds d v).getD i undef = a.tmps.getD i undef := by
      simp [Array.getD_eq_getD_getElem?, Ne.symm hi]
    rw [this]; exact hr.tm i

end Go.Vg
set_option linter.unusedVariables false
namespace Go.Vg
open Go.RowKit

/-- A new frozen row at block b. -/
def Gh.freezeNew (G : Gh) (b : Nat) (c : Array Value) : Gh := { G with F := fun b' o => if b' = b then c[o]? else G.F b' o }

theorem cell_lt {w : World} {b o : Nat} {v : Value} (h : w.cell? ⟨b, o, none⟩ = some v) : b < w.heap.size := World.block_lt_of_cell? w ⟨b, o, none⟩ h

section
variable {E : Env} {G : Gh} {heap : List VObj} {arr : List Nat} {w0 : Base} {w : World}

theorem RelW.F_new (h : RelW E G heap arr w0 w) (o : Nat) : G.F w.heap.size o = none := by
  cases hF : G.F w.heap.size o with
  | none => rfl
  | some v => have := cell_lt (h.frz _ _ _ hF); omega

theorem RelW.extF (h : RelW E G heap arr w0 w) (c : Array Value) : Ext G arr (G.freezeNew w.heap.size c) arr := by
  refine ⟨fun b o v hv => ?_, fun _ _ h => h, fun _ n h => ⟨n, h, Nat.le_refl _, fun _ => rfl⟩⟩
  simp only [Gh.freezeNew]
  by_cases e : b = w.heap.size
  · subst e; rw [h.F_new] at hv; cases hv
  · rw [if_neg e]; exact hv

theorem heap_alloc (w : World) (o : Obj) (k : Nat) : (w.alloc o).heap[k]? = if k = w.heap.size then some o else w.heap[k]? := by
  show (w.heap.push o)[k]? = _
  rw [Array.getElem?_push]

theorem RObj.keep {P : Program} {G G' : Gh} {arr arr' : List Nat} {w w' : World} {b : Nat} {ob : VObj} (hx : Ext G arr G' arr') (hb : w'.heap[b]? = w.heap[b]?) (h : RObj P G arr w b ob) :
    RObj P G' arr' w' b ob := by
  cases ob with
  | cells cs =>
    obtain ⟨c, e, h1, h2, h3⟩ := h
    exact ⟨c, e, by rw [hb]; exact h1, h2, fun j x hj => (h3 j x hj).imp fun v hv => ⟨hv.1, hv.2.mono hx⟩⟩
  | map es =>
    obtain ⟨m, clk, h1, h2, h3⟩ := h
    exact ⟨m, clk, by rw [hb]; exact h1, h2, fun j kx vx hj => (h3 j kx vx hj).imp fun e he => ⟨he.1, he.2.1.mono hx, he.2.2.mono hx⟩⟩
  | siter s pos => exact ⟨by rw [hb]; exact h.1, h.2⟩
  | dead => trivial
  | builder t s =>
    obtain ⟨p, v, h1, h2⟩ := h
    exact ⟨p, v, by rw [hb]; exact h1, h2⟩
  | tcells t cs =>
    obtain ⟨c, h1, h2, h3⟩ := h
    exact ⟨c, by rw [hb]; exact h1, h2, fun j x hj => (h3 j x hj).imp fun v hv => ⟨hv.1, hv.2.mono hx⟩⟩

theorem RelW.bldA (h : RelW E G heap arr w0 w) {G' : Gh} {w' : World} (hw : ∀ k, k < w.heap.size → w'.heap[k]? = w.heap[k]?) (hs : ∀ g, g < w.heap.size → SepB G g → SepB G' g) :
    ∀ (id : Nat) t s b, heap[id]? = some (.builder t s) → G.φ[id]? = some b → Bld E G' w' t s b := fun id t s b hi hb =>
  (h.bld id t s b hi hb).keep (hw b (h.geφ id b hb).2) fun g hg hsb => ⟨hw g hg, hs g hg hsb⟩

/-- A new frozen row. -/
theorem RelW.allocF (h : RelW E G heap arr w0 w) (c : Array Value) (e : TypeId) (h1 : ∀ (j : Nat) v, c[j]? = some v → v.oneCell' = true) : RelW E (G.freezeNew w.heap.size c) heap arr w0 (w.alloc (.cells c e)) := by
  have hx := h.extF c
  refine ⟨fun b o v hv hlt => h.newF b o v (by
      simp only [Gh.freezeNew] at hv
      rwa [if_neg (by have := h.below.size; omega)] at hv) hlt, fun g cs hg => ⟨(h.glob g cs hg).1, (h.glob g cs hg).2.mono hx⟩, h.below.alloc h.below.size _, ?_, fun b o v hv => by
      simp only [Gh.freezeNew] at hv
      split at hv
      · exact h1 _ _ hv
      · exact h.one _ _ _ hv, ?_, h.lenφ, h.nod, ?_, ?_, h.lenρ, ?_, h.regd, h.fre, h.bldA (fun k hk => by rw [heap_alloc, if_neg (by omega)]) fun g hg ⟨s1, s2, s3⟩ => ⟨fun o => by
        simp only [Gh.freezeNew]; rw [if_neg (by omega)]; exact s1 o, s2, s3⟩, h.ini⟩
  · intro b o v hv
    simp only [Gh.freezeNew] at hv
    by_cases eb : b = w.heap.size
    · rw [if_pos eb] at hv; subst eb; rw [World.cell?_alloc_new]; exact hv
    · rw [if_neg eb] at hv
      rw [World.cell?_alloc_old _ _ _ eb]; exact h.frz _ _ _ hv
  · intro id ob hid
    obtain ⟨b, hb, hr⟩ := h.obj id ob hid
    refine ⟨b, hb, hr.keep hx ?_⟩
    rw [heap_alloc, if_neg (by have := (h.geφ id b hb).2; omega)]
  · intro id b o hb hd
    simp only [Gh.freezeNew]
    rw [if_neg (by have := (h.geφ id b hb).2; omega)]
    exact h.sep id b o hb hd
  · intro id b hb
    have := h.geφ id b hb
    simp; omega
  · intro k b lo hi hk hlt
    obtain ⟨⟨c', e', h1, h2⟩, h3, h4, h5⟩ := h.reg k b lo hi hk hlt
    have hlt : b < w.heap.size := (Array.getElem?_eq_some_iff.1 h1).1
    refine ⟨⟨c', e', by rw [heap_alloc, if_neg (by omega)]; exact h1, h2⟩, h3, fun o ho1 ho2 => ?_, h5⟩
    simp only [Gh.freezeNew]
    rw [if_neg (by omega)]
    exact h4 o ho1 ho2

/-- A new object. -/
def Gh.newObj (G : Gh) (b : Nat) : Gh := { G with φ := G.φ ++ [b] }

theorem Gh.ext_newObj (G : Gh) (arr : List Nat) (b : Nat) : Ext G arr (G.newObj b) arr := by
  refine ⟨fun _ _ _ h => h, fun id b' hb => ?_, fun _ n h => ⟨n, h, Nat.le_refl _, fun _ => rfl⟩⟩
  simp only [Gh.newObj]
  rw [List.getElem?_append_left (List.getElem?_eq_some_iff.1 hb).1]; exact hb

theorem RelW.allocM (h : RelW E G heap arr w0 w) (o : Obj) (ob : VObj) (ho : RObj E.P G arr (w.alloc o) w.heap.size ob)
    (hbl : ∀ t s, ob = .builder t s → Bld E (G.newObj w.heap.size) (w.alloc o) t s w.heap.size := by intro _ _ h; cases h) :
    RelW E (G.newObj w.heap.size) (heap ++ [ob]) arr w0 (w.alloc o) := by
  have hx := G.ext_newObj arr w.heap.size
  have hget : ∀ (id : Nat) b, (G.newObj w.heap.size).φ[id]? = some b → (id < heap.length ∧ G.φ[id]? = some b) ∨ (id = heap.length ∧ b = w.heap.size) := by
    intro id b hb
    simp only [Gh.newObj] at hb
    have hl := h.lenφ
    rcases Nat.lt_trichotomy id heap.length with hid | hid | hid
    · rw [List.getElem?_append_left (by omega)] at hb; exact .inl ⟨hid, hb⟩
    · subst hid; rw [List.getElem?_append_right (by omega)] at hb; simp [hl] at hb; exact .inr ⟨rfl, hb.symm⟩
    · rw [List.getElem?_append_right (by omega)] at hb
      rw [List.getElem?_eq_none (by simp; omega)] at hb; cases hb
  refine ⟨h.newF, fun g cs hg => ⟨(h.glob g cs hg).1, (h.glob g cs hg).2.mono hx⟩, h.below.alloc h.below.size _, ?_, h.one, ?_, ?_, ?_, ?_, ?_, h.lenρ, ?_, h.regd, h.fre, ?_, h.ini⟩
  rotate_right 1
  · intro id t s b hi hb
    rcases hget id b hb with ⟨h1, h2⟩ | ⟨h1, h2⟩
    · rw [List.getElem?_append_left h1] at hi
      refine h.bldA (w' := w.alloc o) (G' := G.newObj w.heap.size) (fun k hk => by rw [heap_alloc, if_neg (by omega)]) (fun g hg ⟨s1, s2, s3⟩ => ⟨s1, fun i hi' => ?_, s3⟩) id t s b hi h2
      rcases hget i g hi' with ⟨h3, h4⟩ | ⟨h3, h4⟩
      · exact s2 i h4
      · omega
    · subst h1 h2
      rw [List.getElem?_append_right (Nat.le_refl _)] at hi
      simp at hi
      exact hbl t s hi
  · intro b o' v hv
    rw [World.cell?_alloc_old _ _ _ (by have := cell_lt (h.frz _ _ _ hv); simp; omega)]
    exact h.frz _ _ _ hv
  · intro id ob' hid
    rcases Nat.lt_trichotomy id heap.length with hi | hi | hi
    · rw [List.getElem?_append_left hi] at hid
      obtain ⟨b, hb, hr⟩ := h.obj id ob' hid
      refine ⟨b, hx.φ _ _ hb, hr.keep hx ?_⟩
      rw [heap_alloc, if_neg (by have := (h.geφ id b hb).2; omega)]
    · subst hi
      rw [List.getElem?_append_right (by omega)] at hid
      simp at hid
      subst hid
      refine ⟨w.heap.size, ?_, ho.keep hx rfl⟩
      simp [Gh.newObj, h.lenφ]
    · rw [List.getElem?_eq_none (by simp; omega)] at hid; cases hid
  · simp [Gh.newObj, h.lenφ]
  · intro i j b hi hj
    rcases hget i b hi with ⟨h1, h2⟩ | ⟨h1, h2⟩ <;> rcases hget j b hj with ⟨h3, h4⟩ | ⟨h3, h4⟩
    · exact h.nod i j b h2 h4
    · have := (h.geφ i b h2).2; omega
    · have := (h.geφ j b h4).2; omega
    · omega
  · intro id b o' hb hd
    rcases hget id b hb with ⟨h1, h2⟩ | ⟨h1, h2⟩
    · exact h.sep id b o' h2 (by rwa [List.getElem?_append_left h1] at hd)
    · subst h2; exact h.F_new o'
  · intro id b hb
    have hs := h.below.size
    rcases hget id b hb with ⟨h1, h2⟩ | ⟨h1, h2⟩
    · have := h.geφ id b h2; simp; omega
    · subst h2; simp; omega
  · intro k b lo hi hk hlt
    obtain ⟨⟨c', e', h1, h2⟩, h3, h4, h5⟩ := h.reg k b lo hi hk hlt
    have hlt : b < w.heap.size := (Array.getElem?_eq_some_iff.1 h1).1
    refine ⟨⟨c', e', by rw [heap_alloc, if_neg (by omega)]; exact h1, h2⟩, fun id hid => ?_, h4, h5⟩
    rcases hget id b hid with ⟨h6, h7⟩ | ⟨h6, h7⟩
    · exact h3 id h7
    · omega

theorem RelW.drew (h : RelW E G heap arr w0 w) (n : Nat) : RelW E G heap arr w0 { w with drawn := n } :=
  ⟨h.newF, h.glob, ⟨h.below.os, h.below.tape, h.below.output, h.below.size, h.below.block⟩, h.frz, h.one, fun id ob hid => (h.obj id ob hid).imp fun b hb => ⟨hb.1, hb.2.keep (Ext.refl _ _) rfl⟩,
    h.lenφ, h.nod, h.sep, h.geφ, h.lenρ, h.reg, h.regd, h.fre, h.bldA (fun _ _ => rfl) (fun _ _ hs => hs), h.ini⟩

/-- An object is changed: block b alone turns, from an object of cells to one of cells (its own), or a map to a map. -/
theorem RelW.change (h : RelW E G heap arr w0 w) {id b : Nat} (hb : G.φ[id]? = some b) {w' : World} {ob : VObj} (hid : id < heap.length) (hlive : heap[id]? ≠ some .dead)
    (hos : w'.os = w.os) (ht : w'.tape = w.tape) (ho : w'.output = w.output) (hsz : w'.heap.size = w.heap.size) (hk : ∀ k, k ≠ b → w'.heap[k]? = w.heap[k]?)
    (hr : RObj E.P G arr w' b ob) (hbl : ∀ t s, ob = .builder t s → Bld E G w' t s b := by intro _ _ h; cases h) : RelW E G (heap.set id ob) arr w0 w' := by
  refine ⟨h.newF, h.glob, ?_, ?_, h.one, ?_, by simp [h.lenφ], h.nod, fun i c o hc hd => ?_, fun i c hc => by rw [hsz]; exact h.geφ i c hc, h.lenρ, ?_, h.regd, h.fre, ?_, h.ini⟩
  rotate_right 1
  · intro i t s c hi hc
    by_cases e : i = id
    · subst e
      rw [List.getElem?_set_self hid] at hi
      cases hi
      rw [hb] at hc; cases hc
      exact hbl t s rfl
    · rw [List.getElem?_set_ne (Ne.symm e)] at hi
      refine (h.bld i t s c hi hc).keep (hk c fun ec => e (h.nod i id c hc (by rw [ec]; exact hb))) fun g hg hs => ⟨hk g fun eg => hs.2.1 id (by rw [eg]; exact hb), hs⟩
  · refine h.below.trans ⟨hos, ht, ho, by omega, fun k hkk => hk k ?_⟩
    have := (h.geφ id b hb).1; omega
  · intro b' o v hv
    have hne : b' ≠ b := fun e => by subst e; rw [h.sep id b' o hb hlive] at hv; cases hv
    have := h.frz _ _ _ hv
    unfold World.cell? at this ⊢
    rw [hk b' hne]; exact this
  · intro i ob' hi
    by_cases e : i = id
    · subst e
      rw [List.getElem?_set_self hid] at hi
      cases hi
      exact ⟨b, hb, hr⟩
    · rw [List.getElem?_set_ne (Ne.symm e)] at hi
      obtain ⟨c, hc, hrc⟩ := h.obj i ob' hi
      refine ⟨c, hc, hrc.keep (Ext.refl _ _) (hk c fun ec => e ?_)⟩
      subst ec
      exact h.nod i id c hc hb
  · by_cases e : i = id
    · subst e; exact h.sep i c o hc hlive
    · rw [List.getElem?_set_ne (Ne.symm e)] at hd
      exact h.sep i c o hc hd
  · intro k b' lo hi hk' hlt
    obtain ⟨⟨c', e', h1, h2⟩, h3, h4, h5⟩ := h.reg k b' lo hi hk' hlt
    exact ⟨⟨c', e', by rw [hk b' (fun e => h3 id (e ▸ hb))]; exact h1, h2⟩, h3, h4, h5⟩

/-- For a callee that gets pure arguments and nothing else: all objects and slots are hidden from it. -/
theorem RelW.hide (h : RelW E G heap arr w0 w) : RelW E ⟨G.F, [], []⟩ [] [] { w := w, F := G.F } w := by
  refine ⟨fun b o v hv _ => hv, fun g cs hg => ?_, Below.refl _ _, h.frz, h.one, by simp, rfl, by simp, by simp, by simp, rfl, by simp, by simp, by simp, by simp, E.iniM _ _ h.ini h.below⟩
  obtain ⟨h1, h2⟩ := h.glob g cs hg
  exact ⟨h1, h2.pure h1 _ _ fun _ _ _ h => h⟩

/-- Behind such a call. -/
theorem RelW.back (h : RelW E G heap arr w0 w) {F' : Nat → Nat → Option Value} {w' : World} (hF : ∀ b o v, G.F b o = some v → F' b o = some v)
    (hnew : ∀ b o v, F' b o = some v → b < w.heap.size → G.F b o = some v) (hfrz : ∀ b o v, F' b o = some v → w'.cell? ⟨b, o, none⟩ = some v) (hone : ∀ b o v, F' b o = some v → v.oneCell' = true) (hb : Below w.heap.size w w') :
    RelW E { G with F := F' } heap arr w0 w' ∧ Ext G arr { G with F := F' } arr := by
  have hx : Ext G arr { G with F := F' } arr := ⟨hF, fun _ _ h => h, fun _ n h => ⟨n, h, Nat.le_refl _, fun _ => rfl⟩⟩
  have hs := h.below.size
  have hs' := hb.size
  have hnone : ∀ g o, g < w.heap.size → G.F g o = none → F' g o = none := fun g o hg hn => by
    cases hF' : F' g o with
    | none => rfl
    | some v => have := hnew g o v hF' hg; rw [hn] at this; cases this
  refine ⟨⟨fun b o v hv hlt => h.newF b o v (hnew b o v hv (by omega)) hlt, fun g cs hg => ⟨(h.glob g cs hg).1, (h.glob g cs hg).2.mono hx⟩, h.below.trans (hb.mono hs), hfrz, hone, ?_, h.lenφ, h.nod, ?_, ?_, h.lenρ, ?_, h.regd, h.fre, h.bldA hb.block fun g hg ⟨s1, s2, s3⟩ => ⟨fun o => hnone g o hg (s1 o), s2, s3⟩, h.ini⟩, hx⟩
  · intro id ob hid
    obtain ⟨b, hb', hr⟩ := h.obj id ob hid
    exact ⟨b, hb', hr.keep hx (hb.block b (h.geφ id b hb').2)⟩
  · intro id b o hb' hd
    cases hF' : F' b o with
    | none => exact hF'
    | some v => have := hnew b o v hF' (h.geφ id b hb').2; rw [h.sep id b o hb' hd] at this; cases this
  · intro id b hb'
    have := h.geφ id b hb'
    omega
  · intro k b lo hi hk hlt
    obtain ⟨⟨c', e', h1, h2⟩, h3, h4, h5⟩ := h.reg k b lo hi hk hlt
    have hlt : b < w.heap.size := (Array.getElem?_eq_some_iff.1 h1).1
    refine ⟨⟨c', e', by rw [hb.block b hlt]; exact h1, h2⟩, h3, fun o ho1 ho2 => ?_, h5⟩
    cases hF' : F' b o with
    | none => exact hF'
    | some v => have := hnew b o v hF' hlt; rw [h4 o ho1 ho2] at this; cases this

end
end Go.Vg
set_option linter.unusedVariables false
set_option linter.unusedSimpArgs false
namespace Go.Vg
open Go.RowKit

/-! ### Words -/
def ofV1 : Value → V
  | .bool b => .bool b
  | .int k n => .int k n
  | .string s => if s.size ≤ 1152921504606846976 then .str s else .junk
  | .pointer none => .nilp
  | .slice none 0 0 => .slice .nil 0 []
  | .map none => .nilmap
  | .nilFunc => .nilfunc
  | .nilIface => .nilif
  | _ => .junk

def ofV : Value → V
  | .agg cs => .agg (cs.toList.map ofV1)
  | v => ofV1 v

def ev (E : Env) (tmps : List (Nat × V)) : Operand → V
  | .tmp t => look tmps t
  | .const v => ofV v
  | .global g => match E.gl g with
    | some cs => .fptr cs
    | none => .junk
  | .func f => .func f []

theorem RV.ofV1 {P : Program} {G : Gh} {arr : List Nat} (v : Value) : RV P G arr (ofV1 v) v := by
  unfold Vg.ofV1
  split
  · exact .bool _
  · exact .int _ _
  · split
    · exact .str _ (by assumption)
    · exact .junk _
  · exact .nilp
  · exact .snil _ _ trivial
  · exact .nilmap
  · exact .nilfunc
  · exact .nilif
  · exact .junk _

theorem RV.ofV {P : Program} {G : Gh} {arr : List Nat} (v : Value) : RV P G arr (ofV v) v := by
  unfold Vg.ofV
  split
  · rename_i cs
    refine .agg _ _ (by simp) fun j c u hc hu => ?_
    simp only [List.getElem?_map, Array.getElem?_toList, hu, Option.map_some, Option.some.injEq] at hc
    exact hc ▸ RV.ofV1 u
  · exact RV.ofV1 v

theorem RV.ev {E : Env} {G : Gh} {heap : List VObj} {arr : List Nat} {w0 : Base} {w : World} {tmps : List (Nat × V)} {n : Nat} {a : Act} (h : RelW E G heap arr w0 w)
    (ht : RelT E.P G arr tmps n a) (x : Operand) : RV E.P G arr (ev E tmps x) (a.eval x) := by
  cases x with
  | tmp t => exact ht.tm t
  | const v => exact RV.ofV v
  | global g =>
    simp only [Vg.ev, Act.eval]
    split
    · rename_i cs hg; exact (h.glob g cs hg).2
    · exact .junk _
  | func f => exact .func f [] #[] rfl (by simp)

/-- The cells of a value. -/
def cellsV : V → List V
  | .agg cs => cs
  | x => [x]

/-- A value of one cell. -/
def V.cell : V → Bool
  | .junk | .agg _ | .tuple _ => false
  | _ => true

theorem RV.cellsV {P : Program} {G : Gh} {arr : List Nat} {x : V} {v : Value} (h : RV P G arr x v) (hj : x ≠ .junk) : (cellsV x).length = v.cells.size ∧
    ∀ (j : Nat) c u, (cellsV x)[j]? = some c → v.cells[j]? = some u → RV P G arr c u := by
  cases h
  case junk => exact absurd rfl hj
  case agg cs vs hl hr => exact ⟨hl, hr⟩
  all_goals
    refine ⟨rfl, fun j c u hc hu => ?_⟩
    simp only [Vg.cellsV, Value.cells] at hc hu
    cases j with
    | succ j => simp at hc
    | zero =>
      simp at hc hu
      subst hc hu
      constructor <;> assumption

theorem RV.cell_one {P : Program} {G : Gh} {arr : List Nat} {x : V} {v : Value} (h : RV P G arr x v) (hc : x.cell = true) : (∀ cs, v ≠ .agg cs) ∧ (∀ cs, v ≠ .tuple cs) := by
  cases h <;> simp_all [V.cell]

section
variable {P : Program} {w : World}
theorem run_und {t : TypeId} {d : TypeDesc} (h : P.underlying t = some d) : (underlying t).run P w = .ok d w := by
  simp [underlying, program, Sem.run, h]
theorem info_of_und {t : TypeId} {d : TypeDesc} (h : P.underlying t = some d) : ∃ i, P.info? t = some i := by
  cases hi : P.info? t with
  | some i => exact ⟨i, rfl⟩
  | none => simp [Program.underlying, hi] at h
theorem run_info {t : TypeId} {i : TypeInfo} (h : P.info? t = some i) : (typeInfo t).run P w = .ok i w := by
  simp [typeInfo, program, Sem.run, h]
theorem run_sizeOf {t : TypeId} {i : TypeInfo} (h : P.info? t = some i) : (sizeOf t).run P w = .ok (P.cellsOf t) w := by
  simp [sizeOf, run_info h, Program.cellsOf, h]
def aggB : TypeDesc → Bool
  | .struct _ | .array _ _ => true
  | _ => false
theorem run_isAgg {t : TypeId} {d : TypeDesc} (h : P.underlying t = some d) :
    (isAgg t).run P w = .ok (aggB d) w := by
  simp only [isAgg, Sem.run_bind, run_und h, Result.andThen_ok]
  cases d <;> rfl
end

/-! ### Reading and writing cells -/
theorem Addr.add_mk (b o n : Nat) : (⟨b, o, none⟩ : Addr).add n = ⟨b, o + n, none⟩ := by
  unfold Addr.add
  split
  · rename_i h; subst h; rfl
  · rfl

theorem run_loadCellsFrom {P : Program} {w : World} {b o : Nat} (f : Nat → Value) : ∀ (n i : Nat) (acc : Array Value), (∀ j, i ≤ j → j < i + n → w.cell? ⟨b, o + j, none⟩ = some (f j)) →
    (loadCellsFrom ⟨b, o, none⟩ i n acc).run P w = .ok (acc ++ ((List.range' i n).map f).toArray) w := by
  intro n
  induction n with
  | zero => intro i acc _; simp [loadCellsFrom, Sem.run]
  | succ n ih =>
    intro i acc h
    simp only [loadCellsFrom, Sem.run_bind, Addr.add_mk]
    rw [run_load, h i (Nat.le_refl _) (by omega)]
    simp only [Result.andThen_ok]
    rw [ih (i + 1) (acc.push (f i)) (fun j h1 h2 => h j (by omega) (by omega))]
    simp [List.range'_succ]

/-- n cells that are there, as an array. -/
theorem run_loadCells {P : Program} {w : World} {b o n : Nat} (h : ∀ j, j < n → ∃ v, w.cell? ⟨b, o + j, none⟩ = some v) :
    ∃ vs : Array Value, (loadCells ⟨b, o, none⟩ n).run P w = .ok vs w ∧ vs.size = n ∧ ∀ j, j < n → vs[j]? = w.cell? ⟨b, o + j, none⟩ := by
  refine ⟨((List.range' 0 n).map fun j => (w.cell? ⟨b, o + j, none⟩).getD undef).toArray, ?_, by simp, ?_⟩
  · unfold loadCells
    rw [run_loadCellsFrom (fun j => (w.cell? ⟨b, o + j, none⟩).getD undef) n 0 #[] (fun j _ hj => ?_)]
    · simp
    · obtain ⟨v, hv⟩ := h j (by omega)
      rw [hv]; rfl
  · intro j hj
    obtain ⟨v, hv⟩ := h j hj
    simp [hj, hv]

/-- Writing cells of one block of cells. -/
theorem run_storeCells {P : Program} : ∀ (vs : List Value) (w : World) (b o i : Nat) (c : Array Value) (e : TypeId), w.heap[b]? = some (.cells c e (0, 0)) → o + i + vs.length ≤ c.size →
    (∀ v ∈ vs, (∀ cs, v ≠ .agg cs) ∧ ∀ cs, v ≠ .tuple cs) →
    ∃ w' c', (storeCells ⟨b, o, none⟩ vs i).run P w = .ok () w' ∧ w'.os = w.os ∧ w'.tape = w.tape ∧ w'.output = w.output ∧ w'.heap.size = w.heap.size ∧
      (∀ k, k ≠ b → w'.heap[k]? = w.heap[k]?) ∧ w'.heap[b]? = some (.cells c' e (0, 0)) ∧ c'.size = c.size ∧
      ∀ j, c'[j]? = if o + i ≤ j ∧ j < o + i + vs.length then vs[j - (o + i)]? else c[j]? := by
  intro vs
  induction vs with
  | nil =>
    intro w b o i c e hb _ _
    refine ⟨w, c, by simp [storeCells], rfl, rfl, rfl, rfl, fun _ _ => rfl, hb, rfl, fun j => ?_⟩
    rw [if_neg (by simp only [List.length_nil]; omega)]
  | cons v vs ih =>
    intro w b o i c e hb hle hv
    simp only [List.length_cons] at hle
    have hcell : w.cell? ⟨b, o + i, none⟩ = some c[o + i] := by
      simp [World.cell?, hb]
    have hfr : w.frozen? ⟨b, o + i, none⟩ = false := by
      simp [World.frozen?, hb]
    have hst : (store ⟨b, o + i, none⟩ v).run P w = .ok () (w.setCell ⟨b, o + i, none⟩ v) := by
      have := hv v (by simp)
      unfold store
      cases v
      case agg cs => exact absurd rfl (this.1 cs)
      case tuple cs => exact absurd rfl (this.2 cs)
      all_goals simp [Sem.run, hcell, hfr]
    have hb' : (w.setCell ⟨b, o + i, none⟩ v).heap[b]? = some (.cells (c.setIfInBounds (o + i) v) e (0, 0)) := by
      simp [World.setCell, Array.getElem?_modify, hb]
    obtain ⟨w', c', h1, h2, h3, h4, h5, h6, h7, h8, h9⟩ := ih (w.setCell ⟨b, o + i, none⟩ v) b o (i + 1) (c.setIfInBounds (o + i) v) e hb' (by simp; omega)
      (fun u hu => hv u (by simp [hu]))
    refine ⟨w', c', ?_, h2, h3, h4, by rw [h5]; simp, fun k hk => ?_, h7, by rw [h8]; simp, fun j => ?_⟩
    · simp only [storeCells, Sem.run_bind, Addr.add_mk, hst, Result.andThen_ok]
      exact h1
    · rw [h6 k hk]
      exact Below.heap_setCell _ _ _ _ (by simpa using hk)
    · rw [h9 j]
      simp only [List.length_cons]
      by_cases e1 : j = o + i
      · subst e1
        rw [if_neg (by omega), if_pos (by omega)]
        have : o + i < c.size := by omega
        simp [this]
      · by_cases e2 : o + (i + 1) ≤ j ∧ j < o + (i + 1) + vs.length
        · rw [if_pos e2, if_pos (by omega)]
          have : j - (o + i) = (j - (o + (i + 1))) + 1 := by omega
          rw [this]; simp
        · rw [if_neg e2, if_neg (by omega)]
          simp [Array.getElem?_setIfInBounds, Ne.symm e1]

/-- The cells behind an address. -/
def vAt (heap : List VObj) : V → Option (List V)
  | .fptr cs => some cs
  | .ptr id off => match heap[id]? with
    | some ob => ob.cs?.map fun cs => cs.drop off
    | _ => none
  | _ => none

theorem read_at {E : Env} {G : Gh} {heap : List VObj} {arr : List Nat} {w0 : Base} {w : World} (h : RelW E G heap arr w0 w) {x : V} {v : Value} {cs : List V}
    (hx : RV E.P G arr x v) (hat : vAt heap x = some cs) : ∃ b o, v = .pointer (some ⟨b, o, none⟩) ∧
      ∀ (j : Nat) c, cs[j]? = some c → ∃ u, w.cell? ⟨b, o + j, none⟩ = some u ∧ RV E.P G arr c u := by
  cases x <;> simp only [vAt] at hat <;> try cases hat
  case fptr =>
    cases hx with
    | fptr _ b o hd hr =>
      refine ⟨b, o, rfl, fun j c hc => ?_⟩
      obtain ⟨u, hu⟩ := hd j (List.getElem?_eq_some_iff.1 hc).1
      exact ⟨u, h.frz _ _ _ hu, hr j c u hc hu⟩
  case ptr id off =>
    cases hx with
    | ptr _ _ b hb =>
      split at hat
      · rename_i ob hcs
        obtain ⟨cs', hcs', rfl⟩ := Option.map_eq_some_iff.1 hat
        obtain ⟨b', hb', hro⟩ := h.obj id _ hcs
        obtain ⟨c, e, h1, h2, h3, _⟩ := hro.un hcs'
        rw [hb] at hb'
        cases hb'
        refine ⟨b, off, rfl, fun j c' hc => ?_⟩
        rw [List.getElem?_drop] at hc
        obtain ⟨u, hu, hr⟩ := h3 _ _ hc
        exact ⟨u, by simp [World.cell?, h1, hu], hr⟩
      · cases hat

def vHead (cs : List V) (K : V → Prop) : Prop :=
  match cs with
  | c :: _ => K c
  | [] => False

/-- Loading a variable of type t. -/
def vLoadL (E : Env) (t : TypeId) (cs : List V) (K : V → Prop) : Prop :=
  match E.P.underlying t with
  | some (.struct _) | some (.array _ _) => E.P.cellsOf t ≤ cs.length ∧ K (.agg (cs.take (E.P.cellsOf t)))
  | some _ => vHead cs K
  | none => False

theorem load_out {E : Env} {G : Gh} {heap : List VObj} {arr : List Nat} {w0 : Base} {w : World} (h : RelW E G heap arr w0 w) {x : V} {v : Value} {cs : List V} {t : TypeId} {K : V → Prop}
    (hx : RV E.P G arr x v) (hat : vAt heap x = some cs) (hK : vLoadL E t cs K) : ∃ u y, (Instr.loadAt t v).run E.P w = .ok u w ∧ K y ∧ RV E.P G arr y u := by
  obtain ⟨b, o, rfl, hc⟩ := read_at h hx hat
  have hagg : ∀ d, E.P.underlying t = some d → aggB d = true → E.P.cellsOf t ≤ cs.length ∧ K (.agg (cs.take (E.P.cellsOf t))) →
      ∃ u y, (Instr.loadAt t (.pointer (some ⟨b, o, none⟩))).run E.P w = .ok u w ∧ K y ∧ RV E.P G arr y u := by
    intro d hd ht ⟨hl, hk⟩
    obtain ⟨i, hi⟩ := info_of_und hd
    obtain ⟨vs, h1, h2, h3⟩ := run_loadCells (P := E.P) (w := w) (b := b) (o := o) (n := E.P.cellsOf t) (fun j hj => by
      obtain ⟨u, hu, _⟩ := hc j _ (List.getElem?_eq_getElem (show j < cs.length by omega))
      exact ⟨u, hu⟩)
    refine ⟨.agg vs, .agg (cs.take (E.P.cellsOf t)), ?_, hk, .agg _ _ (by rw [h2]; simp; omega) fun j c u hj hu => ?_⟩
    · simp only [Instr.loadAt, Instr.sureAddr, loadVar, Sem.run_bind, Sem.run_pure, Result.andThen_ok, run_isAgg hd, ht, if_true, run_sizeOf hi, h1]
    · have hj' : j < E.P.cellsOf t := by rw [← h2]; exact (Array.getElem?_eq_some_iff.1 hu).1
      rw [List.getElem?_take, if_pos hj'] at hj
      obtain ⟨u', hu', hr⟩ := hc j c hj
      rw [h3 j hj', hu'] at hu
      cases hu
      exact hr
  have hone : ∀ d, E.P.underlying t = some d → aggB d = false → vHead cs K →
      ∃ u y, (Instr.loadAt t (.pointer (some ⟨b, o, none⟩))).run E.P w = .ok u w ∧ K y ∧ RV E.P G arr y u := by
    intro d hd ht hk
    cases cs with
    | nil => exact hk.elim
    | cons c cs =>
      obtain ⟨u, hu, hr⟩ := hc 0 c rfl
      refine ⟨u, c, ?_, hk, hr⟩
      simp only [Instr.loadAt, Instr.sureAddr, loadVar, Sem.run_bind, Sem.run_pure, Result.andThen_ok, run_isAgg hd, ht, Bool.false_eq_true, if_false]
      rw [run_load, show o = o + 0 from rfl, hu]
  unfold vLoadL at hK
  cases hd : E.P.underlying t with
  | none => rw [hd] at hK; exact hK.elim
  | some d =>
    rw [hd] at hK
    cases d <;> first | exact hagg _ hd rfl hK | exact hone _ hd rfl hK

/-- Writing cells xs over cs from off on. -/
def over (cs : List V) (off : Nat) (xs : List V) : List V := cs.take off ++ xs ++ cs.drop (off + xs.length)

theorem over_get (cs : List V) (off : Nat) (xs : List V) (h : off + xs.length ≤ cs.length) (j : Nat) :
    (over cs off xs)[j]? = if off ≤ j ∧ j < off + xs.length then xs[j - off]? else cs[j]? := by
  unfold over
  rw [List.append_assoc]
  by_cases h1 : j < off
  · rw [List.getElem?_append_left (by simp; omega), if_neg (by omega), List.getElem?_take, if_pos h1]
  · rw [List.getElem?_append_right (by simp; omega)]
    have hl : (cs.take off).length = off := by simp; omega
    rw [hl]
    by_cases h2 : j < off + xs.length
    · rw [List.getElem?_append_left (by omega), if_pos (by omega)]
    · rw [List.getElem?_append_right (by omega), if_neg (by omega), List.getElem?_drop]
      congr 1; omega

theorem over_length (cs : List V) (off : Nat) (xs : List V) (h : off + xs.length ≤ cs.length) : (over cs off xs).length = cs.length := by
  simp [over]; omega

def vStore (E : Env) (heap : List VObj) (t : TypeId) (a x : V) (K : List VObj → Prop) : Prop :=
  match a with
  | .ptr id off => match heap[id]? with
    | some ob => match ob.cs? with
      | some cs => (x ≠ .junk ∧ (cellsV x).all V.cell = true ∧ (cellsV x).length = E.P.cellsOf t ∧ (E.P.underlying t).isSome = true ∧ off + (cellsV x).length ≤ cs.length) ∧
          K (heap.set id (ob.put (over cs off (cellsV x))))
      | none => False
    | _ => False
  | _ => False

theorem store_out {E : Env} {G : Gh} {heap : List VObj} {arr : List Nat} {w0 : Base} {w : World} (h : RelW E G heap arr w0 w) {a x : V} {va vx : Value} {t : TypeId} {K : List VObj → Prop}
    (ha : RV E.P G arr a va) (hx : RV E.P G arr x vx) (hK : vStore E heap t a x K) :
    ∃ w' heap', (Instr.storeAt t va vx).run E.P w = .ok () w' ∧ K heap' ∧ RelW E G heap' arr w0 w' := by
  cases a <;> simp only [vStore] at hK <;> try exact hK.elim
  case ptr id off =>
    split at hK
    · rename_i ob hcs
      split at hK
      case h_2 => exact hK.elim
      rename_i cs hcs'
      obtain ⟨⟨h1, h2, h3, h4, h5⟩, hk⟩ := hK
      cases ha with
      | ptr _ _ b hb =>
        obtain ⟨b', hb', hro⟩ := h.obj id _ hcs
        obtain ⟨c, e, hc1, hc2, hc3, hput⟩ := hro.un hcs'
        rw [hb] at hb'; cases hb'
        obtain ⟨hl, hr⟩ := hx.cellsV h1
        obtain ⟨d, hd⟩ := Option.isSome_iff_exists.1 h4
        obtain ⟨i, hi⟩ := info_of_und hd
        have hcells : ∀ v ∈ vx.cells.toList, (∀ cs, v ≠ .agg cs) ∧ ∀ cs, v ≠ .tuple cs := by
          intro v hv
          obtain ⟨j, hj, rfl⟩ := List.getElem_of_mem hv
          have hj' : j < vx.cells.size := by simpa using hj
          have hjc : j < (cellsV x).length := by omega
          have := hr j _ _ (List.getElem?_eq_getElem hjc) (Array.getElem?_eq_getElem hj')
          exact this.cell_one (List.all_eq_true.1 h2 _ (List.getElem_mem hjc))
        obtain ⟨w', c', g1, g2, g3, g4, g5, g6, g7, g8, g9⟩ := run_storeCells (P := E.P) vx.cells.toList w b off 0 c e hc1 (by simp; omega) hcells
        refine ⟨w', _, ?_, hk, h.change (hbl := by intro t s hh; unfold VObj.put at hh; split at hh <;> cases hh) hb (List.getElem?_eq_some_iff.1 hcs).1 (by rw [hcs]; intro hd; cases hd; cases hcs') g2 g3 g4 g5 g6 (hput w' c' _ g7 (by rw [g8, hc2, over_length _ _ _ h5]) fun j y hy => ?_)⟩
        · simp only [Instr.storeAt, Instr.sureAddr, storeVar, Sem.run_bind, Sem.run_pure, Result.andThen_ok, run_sizeOf hi]
          rw [if_neg (by omega)]
          exact g1
        · rw [over_get _ _ _ h5] at hy
          have := g9 j
          simp only [Nat.add_zero, Array.length_toList] at this
          by_cases hin : off ≤ j ∧ j < off + (cellsV x).length
          · rw [if_pos hin] at hy
            rw [if_pos (by omega)] at this
            have hj' : j - off < vx.cells.size := by omega
            refine ⟨vx.cells[j - off], by rw [this]; simp [hj'], hr _ _ _ hy (Array.getElem?_eq_getElem hj')⟩
          · rw [if_neg hin] at hy
            rw [if_neg (by omega)] at this
            obtain ⟨u, hu, hru⟩ := hc3 j y hy
            exact ⟨u, by rw [this]; exact hu, hru⟩
    · exact hK.elim

end Go.Vg
