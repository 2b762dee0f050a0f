/- A row's first world, with a listed variable that is read as a tree. -/
import Derived.Test.YtamednbojpnalaaGreatDoorVgS
import Derived.Handed
import Derived.Lib.LaidU8
import Derived.Shelf.Vars
import Derived.Carry
import Derived.ChangeMaps5
set_option linter.unusedVariables false
namespace Go.Vg
open Go.RowKit

/-- The wrap of a row with listed variables, the world's shape handed on too. -/
theorem returnsInHanded_both {H : Type} {enc : TypeId × Value → H} {a : Assume} {C : Checked} {os : Os} {f : FuncId} {fn : Func} {s : ChangeSpec} {conds : List PathCond} {apart fresh handsOn again : Bool} {X : World → Array Value → Prop}
    (hX : ∀ (w w' : World) (args : Array Value), w.heap = w'.heap → X w args → X w' args)
    (own : ownKnob C.prog.godebug = none) (started : os.Started) (noInit : C.prog.inits.idxOf? f = none) (hfn : C.prog.funcs[f]? = some fn)
    (witness : ∃ (w : World) (tape : Tape) (i : Input), w.os = os ∧ (w.forCall tape i).Shaped C.prog ∧ i.vars = [] ∧ Input.okWide C.prog (w.forCall tape i) .any w.heap.size f i ∧
      ((s.pre enc C.prog fn conds apart (w.forCall tape i).memory i.args ∧ X (w.forCall tape i).memory i.args) ∧ sizedMet enc C.prog fn (OpenSpec.ofChange s) apart (w.forCall tape i).memory i.args) ∧ a.holds C.prog (lone (Frame.enter C.prog f i.args .normal) [] (w.forCall tape i)))
    (contract : ∀ (W : World) (args : Array Value) (ds gs : List (DataW H)) (before : List MemPlace),
      DataW.Whole enc C.prog fn.params.toList s.vars apart W args.toList ds gs before →
      (DataW.weightsEach C.prog (fn.params.toList ++ s.plain.varTypes C.prog) (ds ++ gs)).all (· ≤ reachBytes) = true → X W args → W.ShapedOpen C.prog →
      Calls C.prog f args W fun e W' => ∃ v, e = .returned v ∧ s.post enc C.prog fn apart fresh handsOn again W args v W') :
    ReturnsInHanded a C os f .any (fun w args => (s.pre enc C.prog fn conds apart w args ∧ X w args) ∧ sizedMet enc C.prog fn (OpenSpec.ofChange s) apart w args) (s.post enc C.prog fn apart fresh handsOn again) := by
  refine returnsInHanded_of_calls own started noInit witness fun w tape i _ hsh _ hok hpre hh => ?_
  obtain ⟨⟨⟨ds, gs, before, hw, hc⟩, hx⟩, hz⟩ := hpre
  refine (contract (w.forCall tape i) i.args ds gs before (DataW.Whole.of_heap (w' := w.forCall tape i) (by rfl) hw) (hz.weights hw) (hX _ _ _ (by rfl) hx) hsh).mono fun e W' ⟨v, he, hp⟩ => ?_
  subst he
  exact ChangeSpec.post_blind hp

/-- The same, and that each argument is a value of its type. -/
theorem returnsInHanded_wide {H : Type} {enc : TypeId × Value → H} {a : Assume} {C : Checked} {os : Os} {f : FuncId} {fn : Func} {s : ChangeSpec} {conds : List PathCond} {apart fresh handsOn again : Bool} {X : World → Array Value → Prop}
    (hX : ∀ (w w' : World) (args : Array Value), w.heap = w'.heap → X w args → X w' args)
    (own : ownKnob C.prog.godebug = none) (started : os.Started) (noInit : C.prog.inits.idxOf? f = none) (hfn : C.prog.funcs[f]? = some fn)
    (witness : ∃ (w : World) (tape : Tape) (i : Input), w.os = os ∧ (w.forCall tape i).Shaped C.prog ∧ i.vars = [] ∧ Input.okWide C.prog (w.forCall tape i) .any w.heap.size f i ∧
      ((s.pre enc C.prog fn conds apart (w.forCall tape i).memory i.args ∧ X (w.forCall tape i).memory i.args) ∧ sizedMet enc C.prog fn (OpenSpec.ofChange s) apart (w.forCall tape i).memory i.args) ∧ a.holds C.prog (lone (Frame.enter C.prog f i.args .normal) [] (w.forCall tape i)))
    (contract : ∀ (W : World) (args : Array Value) (ds gs : List (DataW H)) (before : List MemPlace),
      DataW.Whole enc C.prog fn.params.toList s.vars apart W args.toList ds gs before →
      (DataW.weightsEach C.prog (fn.params.toList ++ s.plain.varTypes C.prog) (ds ++ gs)).all (· ≤ reachBytes) = true → X W args → W.ShapedOpen C.prog →
      (∃ b : Nat, ∀ (j : Nat) t v, fn.params[j]? = some t → args[j]? = some v → Value.okWide C.prog W .any b t v) →
      Calls C.prog f args W fun e W' => ∃ v, e = .returned v ∧ s.post enc C.prog fn apart fresh handsOn again W args v W') :
    ReturnsInHanded a C os f .any (fun w args => (s.pre enc C.prog fn conds apart w args ∧ X w args) ∧ sizedMet enc C.prog fn (OpenSpec.ofChange s) apart w args) (s.post enc C.prog fn apart fresh handsOn again) := by
  refine returnsInHanded_of_calls own started noInit witness fun w tape i _ hsh _ hok hpre hh => ?_
  obtain ⟨⟨⟨ds, gs, before, hw, hc⟩, hx⟩, hz⟩ := hpre
  have hin : ∃ b : Nat, ∀ (j : Nat) t v, fn.params[j]? = some t → i.args[j]? = some v → Value.okWide C.prog (w.forCall tape i) .any b t v := by
    obtain ⟨_, _, _, fn', hf', _, _, _, _, hv⟩ := hok
    rw [hfn] at hf'
    cases hf'
    exact ⟨_, hv⟩
  refine (contract (w.forCall tape i) i.args ds gs before (DataW.Whole.of_heap (w' := w.forCall tape i) (by rfl) hw) (hz.weights hw) (hX _ _ _ (by rfl) hx) hsh hin).mono fun e W' ⟨v, he, hp⟩ => ?_
  subst he
  exact ChangeSpec.post_blind hp

/-- All that was there at the start, frozen. -/
def startG (W : World) : Gh := ⟨allF W, [], []⟩
theorem allF_some {W : World} {b o : Nat} {v : Value} (h : allF W b o = some v) : W.cell? ⟨b, o, none⟩ = some v ∧ v.oneCell' = true := by
  unfold allF at h
  split at h
  · rename_i u hu
    split at h
    · rename_i h1
      cases h
      exact ⟨hu, h1⟩
    · cases h
  · cases h
theorem relW_start {E : Env} {W : World} (hg : ∀ g, E.gl g = none) (hi : E.ini W) : RelW E (startG W) [] [] ⟨W, allF W, []⟩ W where
  newF := fun b o v h _ => h
  glob := fun g cs h => by rw [hg] at h; cases h
  below := Below.refl _ _
  frz := fun b o v h => (allF_some h).1
  one := fun b o v h => (allF_some h).2
  obj := fun id ob h => by simp at h
  lenφ := rfl
  vs := Vecs.nil
  nod := fun i j b h => by simp [startG] at h
  sep := fun id b o h => by simp [startG] at h
  geφ := fun id b h => by simp [startG] at h
  lenρ := rfl
  reg := fun k b lo hi h => by simp [startG] at h
  regd := fun k k' b lo hi lo' hi' _ h => by simp [startG] at h
  fre := fun k b lo hi h => by simp [startG] at h
  bld := fun id t s b h => by simp at h
  ini := hi

/-- An argument of a struct type of at least two cells. -/
theorem arg_agg {H : Type} {enc : TypeId × Value → H} {P : Program} {W : World} {T : TypeId} {v : Value} {d : DataW H} {p : List MemPlace} (ty : Ty) (h2 : 2 ≤ ty.cells) (hok : ty.ok P (.inl T) = true)
    (h : DataW.Trod enc P W 0 (fun _ => true) true T v d p) (hw : (d.weights P T).all (· ≤ reachBytes) = true) : ∃ xs, ty.sem xs ∧ RV P (startG W) [] (.agg xs) v := by
  obtain ⟨fuel, h⟩ := h
  obtain ⟨xs, h1, h3, h4, h5⟩ := (Ty.read (G := startG W) (fun b o v hc h1 => by simp only [startG, allF, hc, h1, if_true]) ty).1 T fuel v.cells.toList d p hok h hw
  refine ⟨xs, h1, ?_⟩
  have hsz : v.cells.size = ty.cells := by simpa using h4
  cases v with
  | agg vs =>
    refine .agg xs vs (by rw [h3, ← hsz]; rfl) fun j c u hc hu => (h5 j c u hc ?_).1
    show vs.toList[j]? = some u
    simpa using hu
  | _ => exact absurd hsz (by simp only [Value.cells]; simp; omega)
theorem arg_one {H : Type} {enc : TypeId × Value → H} {P : Program} {W : World} {T : TypeId} {v : Value} {d : DataW H} {p : List MemPlace} (ty : Ty) (h2 : ty.cells = 1) (hn : ∀ t f r, ty ≠ .cons t f r) (hok : ty.ok P (.inl T) = true)
    (h : DataW.Trod enc P W 0 (fun _ => true) true T v d p) (hw : (d.weights P T).all (· ≤ reachBytes) = true) (hagg : ∀ vs, v ≠ .agg vs) : ∃ x, ty.sem [x] ∧ RV P (startG W) [] x v := by
  obtain ⟨fuel, h⟩ := h
  obtain ⟨xs, h1, h3, h4, h5⟩ := (Ty.read (G := startG W) (fun b o v hc h1 => by simp only [startG, allF, hc, h1, if_true]) ty).1 T fuel v.cells.toList d p hok h hw
  rw [h2] at h3
  obtain ⟨x, rfl⟩ := List.length_eq_one_iff.1 h3
  refine ⟨x, h1, ?_⟩
  have hv : v.cells.toList = [v] := by
    cases v with
    | agg vs => exact absurd rfl (hagg vs)
    | _ => rfl
  rw [hv] at h5
  exact (h5 0 x v rfl rfl).1

/-- A text as an argument. -/
theorem arg_str {H : Type} {enc : TypeId × Value → H} {P : Program} {W : World} {T : TypeId} {v : Value} {d : DataW H} {p : List MemPlace} {b : Nat} (ht : P.underlying T = some .string) (hval : Value.okWide P W .any b T v)
    (h : DataW.Trod enc P W 0 (fun _ => true) true T v d p) (hw : (d.weights P T).all (· ≤ reachBytes) = true) : ∃ s, RV P (startG W) [] (.str s) v := by
  obtain ⟨s, rfl, _, _, hs⟩ := Go.ChangeMaps.open_string ht hval h
  obtain ⟨x, ⟨s', hx⟩, hr⟩ := arg_one .str rfl (fun _ _ _ => Ty.noConfusion) (by simp [Ty.ok, ht, isStr]) h hw (fun _ => Value.noConfusion)
  cases hx
  exact ⟨s', hr⟩
/-- A number as an argument. -/
theorem arg_int {H : Type} {enc : TypeId × Value → H} {P : Program} {W : World} {T : TypeId} {v : Value} {d : DataW H} {p : List MemPlace} {b : Nat} {k : IntKind} (ht : P.underlying T = some (.int k)) (hval : Value.okWide P W .any b T v)
    (h : DataW.Trod enc P W 0 (fun _ => true) true T v d p) : ∃ n, RV P (startG W) [] (.int k n) v := by
  obtain ⟨n, rfl, _, _, _⟩ := Go.ChangeShapes.open_int ht hval h
  exact ⟨n, .int _ _⟩

/-- A pure law that answers 'true', as the machine has it. -/
theorem calls_true {E : Env} {f : FuncId} {args : List V} {vals : Array Value} {W : World} (h : VPure E f args (.bool true)) (hg : ∀ g, E.gl g = none) (hi : E.ini W) (ha : Args E.P (startG W) [] args vals) :
    Calls E.P f vals W fun e W' => e = .returned (.bool true) ∧ Below W.heap.size W W' := by
  have h3 := h.2.2 (startG W) ⟨W, allF W, []⟩ W vals (relW_start (E := E.alive) hg hi) ha
  refine h3.mono fun e W' hgo => ?_
  obtain ⟨val, rfl, v, heap', arr', G', rfl, hx, hr, hv⟩ := hgo.alive
  cases hv
  exact ⟨rfl, hr.below⟩

/-! ### The package-level variables -/
theorem tab_of_reads {P : Program} {W : World} {name : String} {k : IntKind} {zs : List Int} {g : Nat} {t e : TypeId} {n : Nat}
    (hg : P.globalNamed name = some g) (hty : (P.globals[g]?).map (·.type) = some t) (ht : P.underlying t = some (.array n e)) (he : P.underlying e = some (.int k)) (hce : P.cellsOf e = 1) (hct : P.cellsOf t = n)
    (h : Lib.VarReads P W name (Lib.tabData k zs)) : Lib.TabIs P W name k zs := by
  obtain ⟨g', t', cs, fuel, p, hg', ht', hvar, hd⟩ := h
  obtain rfl := Option.some.inj (hg.symm.trans hg')
  obtain rfl := Option.some.inj (hty.symm.trans ht')
  unfold Lib.TabIs
  rw [hvar, ← Lib.cells_of_tab ht he hce hct hd]
theorem iface_of_reads {P : Program} {W : World} {name nm : String} {d : DataW Unit} {g : Nat} {t : TypeId}
    (hg : P.globalNamed name = some g) (hty : (P.globals[g]?).map (·.type) = some t) (ht : ∃ ms, P.underlying t = some (.interface ms))
    (h : Lib.VarReads P W name (.iface nm d)) : ∃ u p, W.var? P name = some #[.iface u p] := by
  obtain ⟨g', t', cs, fuel, p, hg', ht', hvar, hd⟩ := h
  obtain rfl := Option.some.inj (hg.symm.trans hg')
  obtain rfl := Option.some.inj (hty.symm.trans ht')
  obtain ⟨ms, ht⟩ := ht
  rw [hvar]
  obtain ⟨l⟩ := cs
  cases fuel with
  | zero => simp [DataW.trod] at hd
  | succ fuel =>
    unfold DataW.trod at hd
    rw [ht] at hd
    rcases l with _ | ⟨c, _ | ⟨c', r⟩⟩ <;> (try cases c) <;> simp only [reduceCtorEq, Option.some.injEq, Prod.mk.injEq, false_and] at hd
    exact ⟨_, _, rfl⟩
theorem int_of_shaped {P : Program} {w : World} {name : String} {g : Nat} {t : TypeId} {zero : Array Value} {k : IntKind} (hn : P.globalNamed name = some g)
    (h : w.ShapedOpen P) (hg : g < P.globals.size)
    (h0 : ((begin P (fun _ _ => 0) default).world.heap[g]?).bind Obj.row? = some (zero, t)) (hz : zero.size = 1)
    (hb : P.buildable t = true) (hc : P.cellTypes P.depth t = some [t]) (hu : P.underlying t = some (.int k)) : ∃ m, w.var? P name = some #[.int k m] := by
  obtain ⟨m, hm⟩ := Go.Proofs.cell_of_shapedOpen_int h hg h0 hz hb hc hu
  obtain ⟨cs, hh, hs, _⟩ := h.1 g zero t hg h0
  refine ⟨m, ?_⟩
  obtain ⟨l⟩ := cs
  rw [hz] at hs
  obtain ⟨x, rfl⟩ : ∃ x, l = [x] := List.length_eq_one_iff.1 (by simpa using hs)
  have hx : x = .int k m := by
    unfold World.cell? at hm
    simp only [hh] at hm
    simpa using hm
  subst hx
  simp only [World.var?, hn, Option.bind_some, hh]
end Go.Vg
set_option linter.unusedVariables false
namespace Go.Vg
open Go.RowKit

/-- The shape of a type: as Ty, with arrays and with types told by a predicate (for recursive types). -/
inductive Tz where
  | int (k : IntKind) | str | bool
  | sl (e : TypeId) (t : Tz)
  | arr (e : TypeId) (n : Nat) (t : Tz)
  | unit
  | cons (t : TypeId) (f r : Tz)
  | leaf (T : TypeId) (n : Nat) (S : List V → Prop)
def Tz.cells : Tz → Nat
  | .int _ | .str | .bool | .sl _ _ => 1
  | .arr _ n t => n * t.cells
  | .unit => 0
  | .cons _ f r => f.cells + r.cells
  | .leaf _ n _ => n
def isArr (e : TypeId) (n : Nat) : Option TypeDesc → Bool | some (.array n' e') => decide (e' = e) && decide (n' = n) | _ => false
def Tz.ok (P : Program) : Tz → TypeId ⊕ (Nat × List Field) → Bool
  | .int k, .inl T => isInt k (P.underlying T)
  | .str, .inl T => isStr (P.underlying T)
  | .bool, .inl T => isBool (P.underlying T)
  | .sl e t, .inl T => isSlice e (P.underlying T) && decide (P.cellsOf e = t.cells) && decide (1 ≤ t.cells) && decide (1 ≤ P.bytesOf e) && t.ok P (.inl e)
  | .arr e n t, .inl T => isArr e n (P.underlying T) && decide (P.cellsOf e = t.cells) && decide (P.cellsOf T = n * t.cells) && t.ok P (.inl e)
  | .unit, .inl T => match fieldsOf (P.underlying T) with
    | some [] => decide (P.cellsOf T = 0)
    | _ => false
  | .unit, .inr (_, []) => true
  | .cons t f r, .inl T => match fieldsOf (P.underlying T) with
    | some (fd :: fs) => decide (P.cellsOf T = f.cells + r.cells) && decide (fd.type = t) && decide (fd.offset = 0) && decide (P.cellsOf t = f.cells) && f.ok P (.inl t) && r.ok P (.inr (f.cells, fs))
    | _ => false
  | .cons t f r, .inr (o, fd :: fs) => decide (fd.type = t) && decide (fd.offset = o) && decide (P.cellsOf t = f.cells) && f.ok P (.inl t) && r.ok P (.inr (o + f.cells, fs))
  | .leaf R _ _, .inl T => decide (T = R)
  | _, _ => false
def elemsOf {H : Type} : DataW H → List (DataW H)
  | .slice es _ => es
  | .agg es => es
  | _ => []
/-- The trees of a shape, with the data that the row's reading tells. -/
def Tz.sem {H : Type} : Tz → DataW H → List V → Prop
  | .int k, d, xs => ∃ n, xs = [.int k n] ∧ d = .lit (.int k n)
  | .str, d, xs => ∃ s : ByteArray, xs = [.str s] ∧ d = .lit (.string s.data.toList)
  | .bool, d, xs => ∃ b, xs = [.bool b] ∧ d = .lit (.bool b)
  | .sl e t, d, xs => ∃ es : List (List V), xs = [Vg.sl e es] ∧ es.length = (elemsOf d).length ∧ ∀ (i : Nat) el, es[i]? = some el → t.sem ((elemsOf d).getD i .nil) el
  | .arr _ n t, d, xs => ∃ es : List (List V), xs = es.flatten ∧ es.length = n ∧ (elemsOf d).length = n ∧ ∀ (i : Nat) el, es[i]? = some el → t.sem ((elemsOf d).getD i .nil) el
  | .unit, _, xs => xs = []
  | .cons _ f r, d, xs => ∃ a b, xs = a ++ b ∧ f.sem ((elemsOf d).headD .nil) a ∧ r.sem (.agg (elemsOf d).tail) b
  | .leaf _ _ S, _, xs => S xs
/-- The tree that data tell, where nothing is told by a predicate. -/
def Tz.val {H : Type} : Tz → DataW H → List V
  | .int k, .lit (.int _ n) => [.int k n]
  | .str, .lit (.string s) => [.str ⟨⟨s⟩⟩]
  | .bool, .lit (.bool b) => [.bool b]
  | .sl e t, d => [Vg.sl e ((elemsOf d).map t.val)]
  | .arr _ _ t, d => ((elemsOf d).map t.val).flatten
  | .cons _ f r, d => f.val ((elemsOf d).headD .nil) ++ r.val (.agg (elemsOf d).tail)
  | _, _ => []
def Tz.closed : Tz → Bool
  | .sl _ t => t.closed
  | .arr _ _ t => t.closed
  | .cons _ f r => f.closed && r.closed
  | .leaf .. => false
  | _ => true
theorem map_of {α β : Type} {f : α → β} {dflt : α} {ls : List α} {bs : List β} (h1 : bs.length = ls.length) (h2 : ∀ (i : Nat) b, bs[i]? = some b → b = f (ls.getD i dflt)) : bs = ls.map f := by
  apply List.ext_getElem (by simpa using h1)
  intro i hi hj
  rw [h2 i _ (List.getElem?_eq_getElem hi)]
  have : i < ls.length := by omega
  simp [List.getD_eq_getElem?_getD, List.getElem?_eq_getElem this]
theorem Tz.val_of {H : Type} : ∀ (t : Tz) (d : DataW H) (xs : List V), t.closed = true → t.sem d xs → xs = t.val d
  | .int k, d, xs, _, h => by obtain ⟨n, rfl, rfl⟩ := h; rfl
  | .str, d, xs, _, h => by obtain ⟨n, rfl, rfl⟩ := h; rfl
  | .bool, d, xs, _, h => by obtain ⟨n, rfl, rfl⟩ := h; rfl
  | .sl e t, d, xs, hc, h => by
    obtain ⟨es, rfl, h1, h2⟩ := h
    rw [map_of (dflt := .nil) h1 fun i b hb => t.val_of _ _ hc (h2 i b hb)]
    rfl
  | .arr e n t, d, xs, hc, h => by
    obtain ⟨es, rfl, h1, h1', h2⟩ := h
    rw [map_of (dflt := .nil) (h1.trans h1'.symm) fun i b hb => t.val_of _ _ hc (h2 i b hb)]
    rfl
  | .unit, d, xs, _, h => h
  | .cons t f r, d, xs, hc, h => by
    obtain ⟨a, b, rfl, h1, h2⟩ := h
    simp only [Tz.closed, Bool.and_eq_true] at hc
    rw [f.val_of _ _ hc.1 h1, r.val_of _ _ hc.2 h2]
    rfl

theorem flatten_get {α : Type} {c : Nat} : ∀ {es : List (List α)} {j : Nat} {x : α}, (∀ (i : Nat) el, es[i]? = some el → el.length = c) → es.flatten[j]? = some x → ∃ i el k, es[i]? = some el ∧ el[k]? = some x ∧ j = i * c + k ∧ k < c
  | [], j, x, h, hx => by simp at hx
  | e :: es, j, x, h, hx => by
    have he := h 0 e rfl
    rw [List.flatten_cons] at hx
    rcases Nat.lt_or_ge j e.length with hj | hj
    · rw [List.getElem?_append_left hj] at hx
      exact ⟨0, e, j, rfl, hx, by omega, by omega⟩
    · rw [List.getElem?_append_right hj] at hx
      obtain ⟨i, el, k, h1, h2, h3, h4⟩ := flatten_get (fun i el hi => h (i + 1) el (by simpa using hi)) hx
      exact ⟨i + 1, el, k, by simpa using h1, h2, by rw [Nat.add_one_mul]; omega, h4⟩
theorem flatten_len {α : Type} {c : Nat} : ∀ {es : List (List α)}, (∀ (i : Nat) el, es[i]? = some el → el.length = c) → es.flatten.length = es.length * c
  | [], h => by simp
  | e :: es, h => by
    rw [List.flatten_cons, List.length_append, h 0 e rfl, flatten_len fun i el hi => h (i + 1) el (by simpa using hi), List.length_cons, Nat.add_one_mul]
    omega

section
variable {H : Type} {enc : TypeId × Value → H} {P : Program} {w : World} {G : Gh} {held : Bool}
def LeafR (enc : TypeId × Value → H) (P : Program) (w : World) (G : Gh) (held : Bool) (F : Nat) (T : TypeId) (n : Nat) (S : List V → Prop) : Prop := ∀ fuel, fuel < F → ∀ (cs : List Value) (d : DataW H) (ps : List MemPlace),
  DataW.trod enc P w 0 (fun _ => true) held fuel T cs = some (d, ps) → (d.weights P T).all (· ≤ reachBytes) = true → ∃ xs, S xs ∧ xs.length = n ∧ cs.length = n ∧ Good P G xs (cs[·]?)
def Tz.lv (enc : TypeId × Value → H) (P : Program) (w : World) (G : Gh) (held : Bool) : Nat → Tz → Prop
  | F, .sl _ t => t.lv enc P w G held (F - 1)
  | F, .arr _ _ t => t.lv enc P w G held (F - 1)
  | F, .cons _ f r => f.lv enc P w G held (F - 1) ∧ r.lv enc P w G held F
  | F, .leaf T n S => LeafR enc P w G held F T n S
  | _, _ => True
def ReadZ (enc : TypeId × Value → H) (P : Program) (w : World) (G : Gh) (held : Bool) (F : Nat) (ty : Tz) : Prop := ∀ (T : TypeId) (fuel : Nat) (cs : List Value) (d : DataW H) (ps : List MemPlace), fuel < F → ty.ok P (.inl T) = true → DataW.trod enc P w 0 (fun _ => true) held fuel T cs = some (d, ps) →
  (d.weights P T).all (· ≤ reachBytes) = true → ∃ xs, ty.sem d xs ∧ xs.length = ty.cells ∧ cs.length = ty.cells ∧ Good P G xs (cs[·]?)
def ReadFZ (enc : TypeId × Value → H) (P : Program) (w : World) (G : Gh) (held : Bool) (F : Nat) (ty : Tz) : Prop := ∀ (o : Nat) (fs : List Field) (fuel : Nat) (cs : List Value) (ys : List (DataW H × List MemPlace)), fuel + 1 < F → ty.ok P (.inr (o, fs)) = true →
  fs.mapM (fun f => DataW.trod enc P w 0 (fun _ => true) held fuel f.type ((cs.drop f.offset).take (P.cellsOf f.type))) = some ys →
  (DataW.weightsEach P (fs.map (·.type)) (ys.map (·.1))).all (· ≤ reachBytes) = true → ∃ xs, ty.sem (.agg (ys.map (·.1))) xs ∧ xs.length = ty.cells ∧ Good P G xs fun j => cs[o + j]?
theorem isArr_eq {e : TypeId} {n : Nat} {d : Option TypeDesc} (h : isArr e n d = true) : d = some (.array n e) := by
  unfold isArr at h
  split at h
  · simp only [Bool.and_eq_true, decide_eq_true_eq] at h
    obtain ⟨rfl, rfl⟩ := h
    rfl
  · cases h
theorem trod_intZ {T : TypeId} {k : IntKind} {f : Nat} {cs : List Value} {d : DataW H} {ps : List MemPlace} (hd : P.underlying T = some (.int k))
    (h : DataW.trod enc P w 0 (fun _ => true) held (f + 1) T cs = some (d, ps)) : ∃ n, cs = [.int k n] ∧ d = .lit (.int k n) := by
  unfold DataW.trod at h
  rw [hd] at h
  rcases cs with _ | ⟨c, _ | ⟨c', r⟩⟩ <;> (try cases c) <;> simp only [reduceCtorEq] at h
  rename_i k' n
  split at h
  · rename_i hk
    obtain ⟨rfl, hw⟩ := hk
    simp only [Option.some.injEq, Prod.mk.injEq] at h
    exact ⟨n, rfl, h.1.symm⟩
  · cases h
theorem trod_strZ {T : TypeId} {f : Nat} {cs : List Value} {d : DataW H} {ps : List MemPlace} (hd : P.underlying T = some .string)
    (h : DataW.trod enc P w 0 (fun _ => true) held (f + 1) T cs = some (d, ps)) : ∃ s : ByteArray, cs = [.string s] ∧ d = .lit (.string s.data.toList) := by
  unfold DataW.trod at h
  rw [hd] at h
  rcases cs with _ | ⟨c, _ | ⟨c', r⟩⟩ <;> (try cases c) <;> simp only [reduceCtorEq] at h
  rename_i s
  split at h
  · simp only [Option.some.injEq, Prod.mk.injEq] at h
    exact ⟨s, rfl, h.1.symm⟩
  · cases h
theorem trod_boolZ {T : TypeId} {f : Nat} {cs : List Value} {d : DataW H} {ps : List MemPlace} (hd : P.underlying T = some .bool)
    (h : DataW.trod enc P w 0 (fun _ => true) held (f + 1) T cs = some (d, ps)) : ∃ b : Bool, cs = [.bool b] ∧ d = .lit (.bool b) := by
  unfold DataW.trod at h
  rw [hd] at h
  rcases cs with _ | ⟨c, _ | ⟨c', r⟩⟩ <;> (try cases c) <;> simp only [reduceCtorEq] at h
  simp only [Option.some.injEq, Prod.mk.injEq] at h
  exact ⟨_, rfl, h.1.symm⟩
theorem trod_sliceZ {T e : TypeId} {f : Nat} {cs : List Value} {d : DataW H} {ps : List MemPlace} (hd : P.underlying T = some (.slice e))
    (h : DataW.trod enc P w 0 (fun _ => true) held (f + 1) T cs = some (d, ps)) : (cs = [.slice none 0 0] ∧ d = .nil) ∨ ∃ a len cap elems rest, cs = [.slice (some a) len cap] ∧ len ≤ cap ∧
      (List.range len).mapM (fun i => (w.cells? 0 (a.add (i * P.cellsOf e)) (P.cellsOf e)).bind (DataW.trod enc P w 0 (fun _ => true) held f e)) = some elems ∧ d = .slice (elems.map (·.1)) rest := by
  unfold DataW.trod at h
  rw [hd] at h
  rcases cs with _ | ⟨c, _ | ⟨c', r⟩⟩ <;> (try cases c) <;> simp only [reduceCtorEq] at h
  rename_i a len cap
  cases a with
  | none =>
    rcases len with _ | len <;> rcases cap with _ | cap <;> simp only [reduceCtorEq] at h
    simp only [Option.some.injEq, Prod.mk.injEq] at h
    exact .inl ⟨rfl, h.1.symm⟩
  | some a =>
    right
    simp only at h
    split at h
    · rename_i hc
      simp only [Option.bind_eq_some_iff, Option.map_eq_some_iff, Prod.mk.injEq] at h
      obtain ⟨elems, he, rest, hr, hd', _⟩ := h
      exact ⟨a, len, cap, elems, _, rfl, hc.2.1, he, hd'.symm⟩
    · cases h
theorem trod_structZ {T : TypeId} {fs : Array Field} {f : Nat} {cs : List Value} {d : DataW H} {ps : List MemPlace} (hd : P.underlying T = some (.struct fs))
    (h : DataW.trod enc P w 0 (fun _ => true) held (f + 1) T cs = some (d, ps)) : cs.length = P.cellsOf T ∧ ∃ xs,
      fs.toList.mapM (fun fd => DataW.trod enc P w 0 (fun _ => true) held f fd.type ((cs.drop fd.offset).take (P.cellsOf fd.type))) = some xs ∧ d = .agg (xs.map (·.1)) := by
  unfold DataW.trod at h
  rw [hd] at h
  simp only at h
  split at h
  · rename_i hc
    simp only [Option.map_eq_some_iff, Prod.mk.injEq] at h
    obtain ⟨xs, hx, hd', _⟩ := h
    exact ⟨hc, xs, hx, hd'.symm⟩
  · cases h
theorem trod_arrayZ {T e : TypeId} {n : Nat} {f : Nat} {cs : List Value} {d : DataW H} {ps : List MemPlace} (hd : P.underlying T = some (.array n e))
    (h : DataW.trod enc P w 0 (fun _ => true) held (f + 1) T cs = some (d, ps)) : cs.length = P.cellsOf T ∧ ∃ xs,
      (List.range n).mapM (fun i => DataW.trod enc P w 0 (fun _ => true) held f e ((cs.drop (i * P.cellsOf e)).take (P.cellsOf e))) = some xs ∧ d = .agg (xs.map (·.1)) := by
  unfold DataW.trod at h
  rw [hd] at h
  simp only at h
  split at h
  · rename_i hc
    simp only [Option.map_eq_some_iff, Prod.mk.injEq] at h
    obtain ⟨xs, hx, hd', _⟩ := h
    exact ⟨hc, xs, hx, hd'.symm⟩
  · cases h
theorem getD_map {α β : Type} {f : α → β} {l : List α} {i : Nat} {a : α} {b : β} (h : l[i]? = some a) : (l.map f).getD i b = f a := by
  simp [List.getD_eq_getElem?_getD, h]

theorem Tz.read (hG : ∀ b o v, w.cell? ⟨b, o, none⟩ = some v → v.oneCell' = true → G.F b o = some v) : ∀ (ty : Tz) (F : Nat), ty.lv enc P w G held F → ReadZ enc P w G held F ty ∧ ReadFZ enc P w G held F ty := by
  intro ty
  induction ty with
  | int k =>
    intro F _
    refine ⟨fun T fuel cs d ps hF hok ht hw => ?_, fun o fs fuel cs ys _ hok => by simp [Tz.ok] at hok⟩
    have hd := isInt_eq (by simpa [Tz.ok] using hok)
    cases fuel with
    | zero => cases ht
    | succ fuel =>
      obtain ⟨n, rfl, rfl⟩ := trod_intZ hd ht
      exact ⟨[.int k n], ⟨n, rfl, rfl⟩, rfl, rfl, good_one (.int _ _) rfl⟩
  | str =>
    intro F _
    refine ⟨fun T fuel cs d ps hF hok ht hw => ?_, fun o fs fuel cs ys _ hok => by simp [Tz.ok] at hok⟩
    have hd := isStr_eq (by simpa [Tz.ok] using hok)
    cases fuel with
    | zero => cases ht
    | succ fuel =>
      obtain ⟨s, rfl, rfl⟩ := trod_strZ hd ht
      refine ⟨[.str s], ⟨s, rfl, rfl⟩, rfl, rfl, good_one (.str _ ?_) rfl⟩
      simp only [DataW.weights, List.all_cons, List.all_nil, Bool.and_true, decide_eq_true_eq] at hw
      have : s.size = s.data.toList.length := by simp
      unfold reachBytes at hw
      omega
  | bool =>
    intro F _
    refine ⟨fun T fuel cs d ps hF hok ht hw => ?_, fun o fs fuel cs ys _ hok => by simp [Tz.ok] at hok⟩
    have hd := isBool_eq (by simpa [Tz.ok] using hok)
    cases fuel with
    | zero => cases ht
    | succ fuel =>
      obtain ⟨b, rfl, rfl⟩ := trod_boolZ hd ht
      exact ⟨[.bool b], ⟨b, rfl, rfl⟩, rfl, rfl, good_one (.bool _) rfl⟩
  | sl e t ih =>
    intro F hlv
    refine ⟨fun T fuel cs d ps hF hok ht hw => ?_, fun o fs fuel cs ys _ hok => by simp [Tz.ok] at hok⟩
    simp only [Tz.ok, Bool.and_eq_true, decide_eq_true_eq] at hok
    obtain ⟨⟨⟨⟨h1, hsz⟩, hpos⟩, hb⟩, hok⟩ := hok
    have hd := isSlice_eq h1
    cases fuel with
    | zero => cases ht
    | succ fuel =>
      rcases trod_sliceZ hd ht with ⟨rfl, rfl⟩ | ⟨a, len, cap, elems, rest, rfl, hlc, hm, rfl⟩
      · exact ⟨[Vg.sl e []], ⟨[], rfl, rfl, by simp⟩, rfl, rfl, good_one (RV.sl (.snil .shared e trivial)) rfl⟩
      · obtain ⟨hl, hget⟩ := mapM_get hm
        simp only [List.length_range] at hl
        simp only [DataW.weights, hd, List.all_cons, List.all_append, Bool.and_eq_true, decide_eq_true_eq, List.length_map, hl] at hw
        obtain ⟨hw1, hw2, _⟩ := hw
        obtain ⟨es, hes1, hes2⟩ := list_of (Q := fun i el => t.sem ((elems.map (·.1)).getD i .nil) el ∧ el.length = P.cellsOf e ∧ ∀ (j : Nat) x, el[j]? = some x → ∃ v, w.cell? ((a.add (i * P.cellsOf e)).add j) = some v ∧ RV P G [] x v ∧ v.oneCell' = true) len (fun i hi => by
          obtain ⟨⟨di, pi⟩, hdi, he⟩ := hget i i (List.getElem?_range hi)
          simp only [Option.bind_eq_some_iff] at he
          obtain ⟨csi, hc1, hc2⟩ := he
          have hwi := weightsAll_get hw2 di (by
            obtain ⟨hlt, hx⟩ := List.getElem?_eq_some_iff.1 hdi
            exact List.mem_map.2 ⟨(di, pi), hx ▸ List.getElem_mem hlt, rfl⟩)
          obtain ⟨xs, g1, g2, g3, g4⟩ := (ih (F - 1) hlv).1 e fuel csi di pi (by omega) hok hc2 hwi
          obtain ⟨c1, c2⟩ := cells_get hc1
          refine ⟨xs, by rw [getD_map hdi]; exact g1, by omega, fun j x hx => ?_⟩
          have hj : j < P.cellsOf e := by have := (List.getElem?_eq_some_iff.1 hx).1; omega
          have hcj := c2 j hj
          have hlt : j < csi.length := by omega
          rw [List.getElem?_eq_getElem hlt] at hcj
          exact ⟨_, hcj, g4 j x _ hx (List.getElem?_eq_getElem hlt)⟩)
        refine ⟨[Vg.sl e es], ⟨es, rfl, by simp only [elemsOf, List.length_map]; omega, fun i el hel => (hes2 i el hel).1⟩, rfl, rfl, good_one ?_ rfl⟩
        cases es with
        | nil =>
          have : len = 0 := by simpa using hes1.symm
          subst this
          exact .sodd _ _ _
        | cons el0 er =>
          have h0 := hes2 0 el0 rfl
          obtain ⟨v0, hv0, _⟩ := h0.2.2 0 _ (List.getElem?_eq_getElem (by omega))
          have hsp := cell_spot hv0
          have hspot : a.spot = none := by
            have := congrArg Addr.spot hsp
            simpa [Addr.add] using this
          obtain ⟨b, o, sp⟩ := a
          simp only at hspot
          subst hspot
          rw [← hes1]
          refine RV.sl (RV.ofCells (o := .shared) trivial (fun i el hi => (hes2 i el hi).2.1) ?_ hb (by omega) fun i el j c hi hj => ?_)
          · rw [hes1]
            unfold reachBytes at hw1
            have : len * P.bytesOf e ≤ (len + rest.length) * P.bytesOf e := Nat.mul_le_mul_right _ (by omega)
            omega
          · obtain ⟨v, hv, hrv, h1c⟩ := (hes2 i el hi).2.2 j c hj
            refine ⟨v, hG _ _ _ ?_ h1c, hrv⟩
            rw [Addr.add_mk, Addr.add_mk, Nat.add_assoc] at hv
            exact hv
  | arr e n t ih =>
    intro F hlv
    refine ⟨fun T fuel cs d ps hF hok ht hw => ?_, fun o fs fuel cs ys _ hok => by simp [Tz.ok] at hok⟩
    simp only [Tz.ok, Bool.and_eq_true, decide_eq_true_eq] at hok
    obtain ⟨⟨⟨h1, hsz⟩, hsT⟩, hok⟩ := hok
    have hd := isArr_eq h1
    cases fuel with
    | zero => cases ht
    | succ fuel =>
      obtain ⟨hlen, elems, hm, rfl⟩ := trod_arrayZ hd ht
      obtain ⟨hl, hget⟩ := mapM_get hm
      simp only [List.length_range] at hl
      simp only [DataW.weights, hd] at hw
      obtain ⟨es, hes1, hes2⟩ := list_of (Q := fun i el => t.sem ((elems.map (·.1)).getD i .nil) el ∧ el.length = t.cells ∧ ∀ (j : Nat) x v, el[j]? = some x → cs[i * t.cells + j]? = some v → RV P G [] x v ∧ v.oneCell' = true) n (fun i hi => by
        obtain ⟨⟨di, pi⟩, hdi, he⟩ := hget i i (List.getElem?_range hi)
        have hwi := weightsAll_get hw di (by
          obtain ⟨hlt, hx⟩ := List.getElem?_eq_some_iff.1 hdi
          exact List.mem_map.2 ⟨(di, pi), hx ▸ List.getElem_mem hlt, rfl⟩)
        obtain ⟨xs, g1, g2, g3, g4⟩ := (ih (F - 1) hlv).1 e fuel _ di pi (by omega) hok he hwi
        refine ⟨xs, by rw [getD_map hdi]; exact g1, g2, fun j x v hx hv => ?_⟩
        have hj : j < t.cells := by have := (List.getElem?_eq_some_iff.1 hx).1; omega
        refine g4 j x v hx ?_
        show ((cs.drop (i * P.cellsOf e)).take (P.cellsOf e))[j]? = some v
        rw [List.getElem?_take, if_pos (by omega), List.getElem?_drop, hsz]
        exact hv)
      have hc : ∀ (i : Nat) el, es[i]? = some el → el.length = t.cells := fun i el hi => (hes2 i el hi).2.1
      refine ⟨es.flatten, ⟨es, rfl, hes1, by simp only [elemsOf, List.length_map]; omega, fun i el hel => (hes2 i el hel).1⟩, by rw [flatten_len hc, hes1]; rfl, by rw [hlen, hsT]; rfl, fun j x v hx hv => ?_⟩
      obtain ⟨i, el, k, k1, k2, rfl, k4⟩ := flatten_get hc hx
      exact (hes2 i el k1).2.2 k x v k2 hv
  | unit =>
    intro F _
    constructor
    · intro T fuel cs d ps hF hok ht hw
      simp only [Tz.ok] at hok
      split at hok
      · rename_i hf
        obtain ⟨a, hd, ha⟩ := fieldsOf_eq hf
        have hz := of_decide_eq_true hok
        cases fuel with
        | zero => cases ht
        | succ fuel =>
          obtain ⟨hl, _⟩ := trod_structZ hd ht
          have : cs = [] := List.eq_nil_of_length_eq_zero (by omega)
          subst this
          exact ⟨[], rfl, rfl, rfl, fun j x v hx => by simp at hx⟩
      · cases hok
    · intro o fs fuel cs ys _ hok hm hw
      exact ⟨[], rfl, rfl, fun j x v hx => by simp at hx⟩
  | leaf R n S =>
    intro F hlv
    refine ⟨fun T fuel cs d ps hF hok ht hw => ?_, fun o fs fuel cs ys _ hok => by simp [Tz.ok] at hok⟩
    have : T = R := by simpa [Tz.ok] using hok
    subst this
    exact hlv fuel hF cs d ps ht hw
  | cons t f r ihf ihr =>
    intro F hlv
    have step : ∀ (o : Nat) (fd : Field) (fs : List Field) (fuel : Nat) (cs : List Value) (ys : List (DataW H × List MemPlace)), fuel + 1 < F → decide (fd.type = t) = true → decide (fd.offset = o) = true → decide (P.cellsOf t = f.cells) = true → f.ok P (.inl t) = true → r.ok P (.inr (o + f.cells, fs)) = true →
        (fd :: fs).mapM (fun g => DataW.trod enc P w 0 (fun _ => true) held fuel g.type ((cs.drop g.offset).take (P.cellsOf g.type))) = some ys →
        (DataW.weightsEach P ((fd :: fs).map (·.type)) (ys.map (·.1))).all (· ≤ reachBytes) = true → ∃ xs, (Tz.cons t f r).sem (.agg (ys.map (·.1))) xs ∧ xs.length = (Tz.cons t f r).cells ∧ Good P G xs fun j => cs[o + j]? := by
      intro o fd fs fuel cs ys hF h1 h2 h3 h4 h5 hm hw
      have h1 := of_decide_eq_true h1
      have h2 := of_decide_eq_true h2
      have h3 := of_decide_eq_true h3
      subst h1 h2
      simp only [List.mapM_cons, Option.bind_eq_bind, Option.bind_eq_some_iff, Option.pure_def, Option.some.injEq] at hm
      obtain ⟨⟨d1, p1⟩, hy, ys', hys, rfl⟩ := hm
      simp only [List.map_cons, DataW.weightsEach, List.all_append, Bool.and_eq_true] at hw
      obtain ⟨xf, f1, f2, f3, f4⟩ := (ihf (F - 1) hlv.1).1 _ _ _ _ _ (by omega) h4 hy hw.1
      obtain ⟨xr, r1, r2, r3⟩ := (ihr F hlv.2).2 _ _ _ _ _ hF h5 hys hw.2
      refine ⟨xf ++ xr, ⟨xf, xr, rfl, f1, r1⟩, by simp [Tz.cells, f2, r2], fun j x v hx hv => ?_⟩
      rcases Nat.lt_or_ge j xf.length with hj | hj
      · rw [List.getElem?_append_left hj] at hx
        refine f4 j x v hx ?_
        show ((cs.drop fd.offset).take (P.cellsOf fd.type))[j]? = some v
        rw [List.getElem?_take, if_pos (by omega), List.getElem?_drop]
        exact hv
      · rw [List.getElem?_append_right hj] at hx
        refine r3 _ x v hx ?_
        simp only at hv ⊢
        rw [← hv]; congr 1; omega
    constructor
    · intro T fuel cs d ps hF hok ht hw
      simp only [Tz.ok] at hok
      split at hok
      · rename_i fd fs hf
        obtain ⟨a, hd, ha⟩ := fieldsOf_eq hf
        simp only [Bool.and_eq_true] at hok
        obtain ⟨⟨⟨⟨⟨h0, h1⟩, h2⟩, h3⟩, h4⟩, h5⟩ := hok
        have h0 := of_decide_eq_true h0
        cases fuel with
        | zero => cases ht
        | succ fuel =>
          obtain ⟨hl, ys, hm, rfl⟩ := trod_structZ hd ht
          rw [ha] at hm
          simp only [DataW.weights, hd, ha] at hw
          obtain ⟨xs, g1, g2, g3⟩ := step 0 fd fs fuel cs ys hF h1 h2 h3 h4 (by simpa using h5) hm hw
          exact ⟨xs, g1, g2, by simp only [Tz.cells]; omega, fun j x v hx hv => g3 j x v hx (by simpa using hv)⟩
      · cases hok
    · intro o fs fuel cs ys hF hok hm hw
      cases fs with
      | nil => simp [Tz.ok] at hok
      | cons fd fs =>
        simp only [Tz.ok, Bool.and_eq_true] at hok
        obtain ⟨⟨⟨⟨h1, h2⟩, h3⟩, h4⟩, h5⟩ := hok
        exact step o fd fs fuel cs ys hF h1 h2 h3 h4 h5 hm hw
end
end Go.Vg
set_option linter.unusedVariables false
namespace Go.Vg
open Go.RowKit
theorem relW_startZ {E : Env} {W : World} (hg : ∀ g cs, E.gl g = some cs → pureL cs = true ∧ RV E.P (startG W) [] (.fptr cs) (.pointer (some ⟨g, 0, none⟩))) (hi : E.ini W) : RelW E (startG W) [] [] ⟨W, allF W, []⟩ W where
  newF := fun b o v h _ => h
  glob := hg
  below := Below.refl _ _
  frz := fun b o v h => (allF_some h).1
  one := fun b o v h => (allF_some h).2
  obj := fun id ob h => by simp at h
  lenφ := rfl
  vs := Vecs.nil
  nod := fun i j b h => by simp [startG] at h
  sep := fun id b o h => by simp [startG] at h
  geφ := fun id b h => by simp [startG] at h
  lenρ := rfl
  reg := fun k b lo hi h => by simp [startG] at h
  regd := fun k k' b lo hi lo' hi' _ h => by simp [startG] at h
  fre := fun k b lo hi h => by simp [startG] at h
  bld := fun id t s b h => by simp at h
  ini := hi
theorem calls_trueZ {E : Env} {f : FuncId} {args : List V} {vals : Array Value} {W : World} (h : VPure E f args (.bool true)) (hg : ∀ g cs, E.gl g = some cs → pureL cs = true ∧ RV E.P (startG W) [] (.fptr cs) (.pointer (some ⟨g, 0, none⟩))) (hi : E.ini W) (ha : Args E.P (startG W) [] args vals) :
    Calls E.P f vals W fun e W' => e = .returned (.bool true) ∧ Below W.heap.size W W' := by
  have h3 := h.2.2 (startG W) ⟨W, allF W, []⟩ W vals (relW_startZ (E := E.alive) hg hi) ha
  refine h3.mono fun e W' hgo => ?_
  obtain ⟨val, rfl, v, heap', arr', G', rfl, hx, hr, hv⟩ := hgo.alive
  cases hv
  exact ⟨rfl, hr.below⟩
theorem startG_F {W : World} (b o : Nat) (v : Value) (hc : W.cell? ⟨b, o, none⟩ = some v) (h1 : v.oneCell' = true) : (startG W).F b o = some v := by
  simp only [startG, allF, hc, h1, if_true]
/-- A listed variable, as a pointer to its tree. -/
theorem glob_of_reads {P : Program} {W : World} {name : String} {d : DataW Unit} {g : Nat} {t : TypeId} (ty : Tz) (hcl : ty.closed = true) (hlv : ∀ (G : Gh) F, ty.lv (fun _ => ()) P W G false F) (hok : ty.ok P (.inl t) = true)
    (hg : P.globalNamed name = some g) (hty : (P.globals[g]?).map (·.type) = some t) (hw : (d.weights P t).all (· ≤ reachBytes) = true)
    (h : Lib.VarReads P W name d) : RV P (startG W) [] (.fptr (ty.val d)) (.pointer (some ⟨g, 0, none⟩)) := by
  obtain ⟨g', t', cs, fuel, p, hg', ht', hvar, hd⟩ := h
  obtain rfl := Option.some.inj (hg.symm.trans hg')
  obtain rfl := Option.some.inj (hty.symm.trans ht')
  obtain ⟨xs, h1, h2, h3, h4⟩ := (Tz.read (G := startG W) startG_F ty (fuel + 1) (hlv _ _)).1 t fuel cs.toList d p (by omega) hok hd hw
  have hx := ty.val_of d xs hcl h1
  subst hx
  have hcell : ∀ j : Nat, W.cell? ⟨g, j, none⟩ = cs.toList[j]? := by
    intro j
    unfold World.var? at hvar
    rw [hg, Option.bind_some] at hvar
    split at hvar
    · rename_i cs' _ _ hh
      cases hvar
      simp only [World.cell?, hh]
      simp
    · cases hvar
  refine .fptr _ g 0 (fun j hj => ?_) (fun j c v hc hv => ?_)
  · have hj' : j < cs.toList.length := by omega
    have hv := hcell j
    rw [List.getElem?_eq_getElem hj'] at hv
    exact ⟨_, startG_F _ _ _ (by rw [Nat.zero_add]; exact hv) (h4 j _ _ (List.getElem?_eq_getElem hj) (List.getElem?_eq_getElem hj')).2⟩
  · have := (allF_some hv).1
    rw [Nat.zero_add, hcell] at this
    exact (h4 j c v hc this).1
/-- A slice as an argument. -/
theorem arg_slice {H : Type} {enc : TypeId × Value → H} {P : Program} {W : World} {T e : TypeId} {v : Value} {d : DataW H} {p : List MemPlace} {b : Nat} (ty : Tz) (hlv : ∀ F, ty.lv enc P W (startG W) true F) (ht : P.underlying T = some (.slice e)) (hok : (Tz.sl e ty).ok P (.inl T) = true)
    (hval : Value.okWide P W .any b T v) (h : DataW.Trod enc P W 0 (fun _ => true) true T v d p) (hw : (d.weights P T).all (· ≤ reachBytes) = true) :
    ∃ es : List (List V), (∀ el ∈ es, ∃ di : DataW H, ty.sem di el) ∧ RV P (startG W) [] (sl e es) v := by
  obtain ⟨a0, len, cap, rfl⟩ := Go.WideShapes.okWide_slice ht hval
  obtain ⟨fuel, h⟩ := h
  obtain ⟨xs, ⟨es, rfl, he1, he2⟩, h3, h4, h5⟩ := (Tz.read (G := startG W) startG_F (.sl e ty) (fuel + 1) (hlv _)).1 T fuel _ d p (by omega) hok h hw
  refine ⟨es, fun el hel => ?_, (h5 0 _ _ rfl rfl).1⟩
  obtain ⟨i, hi, rfl⟩ := List.getElem_of_mem hel
  exact ⟨_, he2 i _ (List.getElem?_eq_getElem hi)⟩
end Go.Vg
