/- From a row's first world to trees, and back: the general part. -/
import Derived.Test.YtellnbgljmocgaaGreatDoorVgS
import Derived.Handed
import Derived.Lib.LaidU8
import Derived.Shelf.Vars
import Derived.Carry
import Derived.ChangeMaps5
set_option linter.unusedVariables false
namespace Go.Vg
open Go.RowKit

/-- The wrap of a row with listed variables, the world's shape handed on too. -/
theorem returnsInHanded_both {H : Type} {enc : TypeId × Value → H} {a : Assume} {C : Checked} {os : Os} {f : FuncId} {fn : Func} {s : ChangeSpec} {conds : List PathCond} {apart fresh handsOn again : Bool} {X : World → Array Value → Prop}
    (hX : ∀ (w w' : World) (args : Array Value), w.heap = w'.heap → X w args → X w' args)
    (own : ownKnob C.prog.godebug = none) (started : os.Started) (noInit : C.prog.inits.idxOf? f = none) (hfn : C.prog.funcs[f]? = some fn)
    (witness : ∃ (w : World) (tape : Tape) (i : Input), w.os = os ∧ (w.forCall tape i).Shaped C.prog ∧ i.vars = [] ∧ Input.okWide C.prog (w.forCall tape i) .any w.heap.size f i ∧
      ((s.pre enc C.prog fn conds apart (w.forCall tape i).memory i.args ∧ X (w.forCall tape i).memory i.args) ∧ sizedMet enc C.prog fn (OpenSpec.ofChange s) apart (w.forCall tape i).memory i.args) ∧ a.holds C.prog (lone (Frame.enter C.prog f i.args .normal) [] (w.forCall tape i)))
    (contract : ∀ (W : World) (args : Array Value) (ds gs : List (DataW H)) (before : List MemPlace),
      DataW.Whole enc C.prog fn.params.toList s.vars apart W args.toList ds gs before →
      (DataW.weightsEach C.prog (fn.params.toList ++ s.plain.varTypes C.prog) (ds ++ gs)).all (· ≤ reachBytes) = true → X W args → W.ShapedOpen C.prog →
      Calls C.prog f args W fun e W' => ∃ v, e = .returned v ∧ s.post enc C.prog fn apart fresh handsOn again W args v W') :
    ReturnsInHanded a C os f .any (fun w args => (s.pre enc C.prog fn conds apart w args ∧ X w args) ∧ sizedMet enc C.prog fn (OpenSpec.ofChange s) apart w args) (s.post enc C.prog fn apart fresh handsOn again) := by
  refine returnsInHanded_of_calls own started noInit witness fun w tape i _ hsh _ hok hpre hh => ?_
  obtain ⟨⟨⟨ds, gs, before, hw, hc⟩, hx⟩, hz⟩ := hpre
  refine (contract (w.forCall tape i) i.args ds gs before (DataW.Whole.of_heap (w' := w.forCall tape i) (by rfl) hw) (hz.weights hw) (hX _ _ _ (by rfl) hx) hsh).mono fun e W' ⟨v, he, hp⟩ => ?_
  subst he
  exact ChangeSpec.post_blind hp

/-- The same, and that each argument is a value of its type. -/
theorem returnsInHanded_wide {H : Type} {enc : TypeId × Value → H} {a : Assume} {C : Checked} {os : Os} {f : FuncId} {fn : Func} {s : ChangeSpec} {conds : List PathCond} {apart fresh handsOn again : Bool} {X : World → Array Value → Prop}
    (hX : ∀ (w w' : World) (args : Array Value), w.heap = w'.heap → X w args → X w' args)
    (own : ownKnob C.prog.godebug = none) (started : os.Started) (noInit : C.prog.inits.idxOf? f = none) (hfn : C.prog.funcs[f]? = some fn)
    (witness : ∃ (w : World) (tape : Tape) (i : Input), w.os = os ∧ (w.forCall tape i).Shaped C.prog ∧ i.vars = [] ∧ Input.okWide C.prog (w.forCall tape i) .any w.heap.size f i ∧
      ((s.pre enc C.prog fn conds apart (w.forCall tape i).memory i.args ∧ X (w.forCall tape i).memory i.args) ∧ sizedMet enc C.prog fn (OpenSpec.ofChange s) apart (w.forCall tape i).memory i.args) ∧ a.holds C.prog (lone (Frame.enter C.prog f i.args .normal) [] (w.forCall tape i)))
    (contract : ∀ (W : World) (args : Array Value) (ds gs : List (DataW H)) (before : List MemPlace),
      DataW.Whole enc C.prog fn.params.toList s.vars apart W args.toList ds gs before →
      (DataW.weightsEach C.prog (fn.params.toList ++ s.plain.varTypes C.prog) (ds ++ gs)).all (· ≤ reachBytes) = true → X W args → W.ShapedOpen C.prog →
      (∃ b : Nat, ∀ (j : Nat) t v, fn.params[j]? = some t → args[j]? = some v → Value.okWide C.prog W .any b t v) →
      Calls C.prog f args W fun e W' => ∃ v, e = .returned v ∧ s.post enc C.prog fn apart fresh handsOn again W args v W') :
    ReturnsInHanded a C os f .any (fun w args => (s.pre enc C.prog fn conds apart w args ∧ X w args) ∧ sizedMet enc C.prog fn (OpenSpec.ofChange s) apart w args) (s.post enc C.prog fn apart fresh handsOn again) := by
  refine returnsInHanded_of_calls own started noInit witness fun w tape i _ hsh _ hok hpre hh => ?_
  obtain ⟨⟨⟨ds, gs, before, hw, hc⟩, hx⟩, hz⟩ := hpre
  have hin : ∃ b : Nat, ∀ (j : Nat) t v, fn.params[j]? = some t → i.args[j]? = some v → Value.okWide C.prog (w.forCall tape i) .any b t v := by
    obtain ⟨_, _, _, fn', hf', _, _, _, _, hv⟩ := hok
    rw [hfn] at hf'
    cases hf'
    exact ⟨_, hv⟩
  refine (contract (w.forCall tape i) i.args ds gs before (DataW.Whole.of_heap (w' := w.forCall tape i) (by rfl) hw) (hz.weights hw) (hX _ _ _ (by rfl) hx) hsh hin).mono fun e W' ⟨v, he, hp⟩ => ?_
  subst he
  exact ChangeSpec.post_blind hp

/-- All that was there at the start, frozen. -/
def startG (W : World) : Gh := ⟨allF W, [], []⟩
theorem allF_some {W : World} {b o : Nat} {v : Value} (h : allF W b o = some v) : W.cell? ⟨b, o, none⟩ = some v ∧ v.oneCell' = true := by
  unfold allF at h
  split at h
  · rename_i u hu
    split at h
    · rename_i h1
      cases h
      exact ⟨hu, h1⟩
    · cases h
  · cases h
theorem relW_start {E : Env} {W : World} (hg : ∀ g, E.gl g = none) (hi : E.ini W) : RelW E (startG W) [] [] ⟨W, allF W, []⟩ W where
  newF := fun b o v h _ => h
  glob := fun g cs h => by rw [hg] at h; cases h
  below := Below.refl _ _
  frz := fun b o v h => (allF_some h).1
  one := fun b o v h => (allF_some h).2
  obj := fun id ob h => by simp at h
  lenφ := rfl
  nod := fun i j b h => by simp [startG] at h
  sep := fun id b o h => by simp [startG] at h
  geφ := fun id b h => by simp [startG] at h
  lenρ := rfl
  reg := fun k b lo hi h => by simp [startG] at h
  regd := fun k k' b lo hi lo' hi' _ h => by simp [startG] at h
  fre := fun k b lo hi h => by simp [startG] at h
  bld := fun id t s b h => by simp at h
  ini := hi

/-- An argument of a struct type of at least two cells. -/
theorem arg_agg {H : Type} {enc : TypeId × Value → H} {P : Program} {W : World} {T : TypeId} {v : Value} {d : DataW H} {p : List MemPlace} (ty : Ty) (h2 : 2 ≤ ty.cells) (hok : ty.ok P (.inl T) = true)
    (h : DataW.Trod enc P W 0 (fun _ => true) true T v d p) (hw : (d.weights P T).all (· ≤ reachBytes) = true) : ∃ xs, ty.sem xs ∧ RV P (startG W) [] (.agg xs) v := by
  obtain ⟨fuel, h⟩ := h
  obtain ⟨xs, h1, h3, h4, h5⟩ := (Ty.read (G := startG W) (fun b o v hc h1 => by simp only [startG, allF, hc, h1, if_true]) ty).1 T fuel v.cells.toList d p hok h hw
  refine ⟨xs, h1, ?_⟩
  have hsz : v.cells.size = ty.cells := by simpa using h4
  cases v with
  | agg vs =>
    refine .agg xs vs (by rw [h3, ← hsz]; rfl) fun j c u hc hu => (h5 j c u hc ?_).1
    show vs.toList[j]? = some u
    simpa using hu
  | _ => exact absurd hsz (by simp only [Value.cells]; simp; omega)
theorem arg_one {H : Type} {enc : TypeId × Value → H} {P : Program} {W : World} {T : TypeId} {v : Value} {d : DataW H} {p : List MemPlace} (ty : Ty) (h2 : ty.cells = 1) (hn : ∀ t f r, ty ≠ .cons t f r) (hok : ty.ok P (.inl T) = true)
    (h : DataW.Trod enc P W 0 (fun _ => true) true T v d p) (hw : (d.weights P T).all (· ≤ reachBytes) = true) (hagg : ∀ vs, v ≠ .agg vs) : ∃ x, ty.sem [x] ∧ RV P (startG W) [] x v := by
  obtain ⟨fuel, h⟩ := h
  obtain ⟨xs, h1, h3, h4, h5⟩ := (Ty.read (G := startG W) (fun b o v hc h1 => by simp only [startG, allF, hc, h1, if_true]) ty).1 T fuel v.cells.toList d p hok h hw
  rw [h2] at h3
  obtain ⟨x, rfl⟩ := List.length_eq_one_iff.1 h3
  refine ⟨x, h1, ?_⟩
  have hv : v.cells.toList = [v] := by
    cases v with
    | agg vs => exact absurd rfl (hagg vs)
    | _ => rfl
  rw [hv] at h5
  exact (h5 0 x v rfl rfl).1

/-- A text as an argument. -/
theorem arg_str {H : Type} {enc : TypeId × Value → H} {P : Program} {W : World} {T : TypeId} {v : Value} {d : DataW H} {p : List MemPlace} {b : Nat} (ht : P.underlying T = some .string) (hval : Value.okWide P W .any b T v)
    (h : DataW.Trod enc P W 0 (fun _ => true) true T v d p) (hw : (d.weights P T).all (· ≤ reachBytes) = true) : ∃ s, RV P (startG W) [] (.str s) v := by
  obtain ⟨s, rfl, _, _, hs⟩ := Go.ChangeMaps.open_string ht hval h
  obtain ⟨x, ⟨s', hx⟩, hr⟩ := arg_one .str rfl (fun _ _ _ => Ty.noConfusion) (by simp [Ty.ok, ht, isStr]) h hw (fun _ => Value.noConfusion)
  cases hx
  exact ⟨s', hr⟩
/-- A number as an argument. -/
theorem arg_int {H : Type} {enc : TypeId × Value → H} {P : Program} {W : World} {T : TypeId} {v : Value} {d : DataW H} {p : List MemPlace} {b : Nat} {k : IntKind} (ht : P.underlying T = some (.int k)) (hval : Value.okWide P W .any b T v)
    (h : DataW.Trod enc P W 0 (fun _ => true) true T v d p) : ∃ n, RV P (startG W) [] (.int k n) v := by
  obtain ⟨n, rfl, _, _, _⟩ := Go.ChangeShapes.open_int ht hval h
  exact ⟨n, .int _ _⟩

/-- A pure law that answers 'true', as the machine has it. -/
theorem calls_true {E : Env} {f : FuncId} {args : List V} {vals : Array Value} {W : World} (h : VPure E f args (.bool true)) (hg : ∀ g, E.gl g = none) (hi : E.ini W) (ha : Args E.P (startG W) [] args vals) :
    Calls E.P f vals W fun e W' => e = .returned (.bool true) ∧ Below W.heap.size W W' := by
  have h3 := h.2.2 (startG W) ⟨W, allF W, []⟩ W vals (relW_start (E := E.alive) hg hi) ha
  refine h3.mono fun e W' hgo => ?_
  obtain ⟨val, rfl, v, heap', arr', G', rfl, hx, hr, hv⟩ := hgo.alive
  cases hv
  exact ⟨rfl, hr.below⟩

/-! ### The package-level variables -/
theorem tab_of_reads {P : Program} {W : World} {name : String} {k : IntKind} {zs : List Int} {g : Nat} {t e : TypeId} {n : Nat}
    (hg : P.globalNamed name = some g) (hty : (P.globals[g]?).map (·.type) = some t) (ht : P.underlying t = some (.array n e)) (he : P.underlying e = some (.int k)) (hce : P.cellsOf e = 1) (hct : P.cellsOf t = n)
    (h : Lib.VarReads P W name (Lib.tabData k zs)) : Lib.TabIs P W name k zs := by
  obtain ⟨g', t', cs, fuel, p, hg', ht', hvar, hd⟩ := h
  obtain rfl := Option.some.inj (hg.symm.trans hg')
  obtain rfl := Option.some.inj (hty.symm.trans ht')
  unfold Lib.TabIs
  rw [hvar, ← Lib.cells_of_tab ht he hce hct hd]
theorem iface_of_reads {P : Program} {W : World} {name nm : String} {d : DataW Unit} {g : Nat} {t : TypeId}
    (hg : P.globalNamed name = some g) (hty : (P.globals[g]?).map (·.type) = some t) (ht : ∃ ms, P.underlying t = some (.interface ms))
    (h : Lib.VarReads P W name (.iface nm d)) : ∃ u p, W.var? P name = some #[.iface u p] := by
  obtain ⟨g', t', cs, fuel, p, hg', ht', hvar, hd⟩ := h
  obtain rfl := Option.some.inj (hg.symm.trans hg')
  obtain rfl := Option.some.inj (hty.symm.trans ht')
  obtain ⟨ms, ht⟩ := ht
  rw [hvar]
  obtain ⟨l⟩ := cs
  cases fuel with
  | zero => simp [DataW.trod] at hd
  | succ fuel =>
    unfold DataW.trod at hd
    rw [ht] at hd
    rcases l with _ | ⟨c, _ | ⟨c', r⟩⟩ <;> (try cases c) <;> simp only [reduceCtorEq, Option.some.injEq, Prod.mk.injEq, false_and] at hd
    exact ⟨_, _, rfl⟩
theorem int_of_shaped {P : Program} {w : World} {name : String} {g : Nat} {t : TypeId} {zero : Array Value} {k : IntKind} (hn : P.globalNamed name = some g)
    (h : w.ShapedOpen P) (hg : g < P.globals.size)
    (h0 : ((begin P (fun _ _ => 0) default).world.heap[g]?).bind Obj.row? = some (zero, t)) (hz : zero.size = 1)
    (hb : P.buildable t = true) (hc : P.cellTypes P.depth t = some [t]) (hu : P.underlying t = some (.int k)) : ∃ m, w.var? P name = some #[.int k m] := by
  obtain ⟨m, hm⟩ := Go.Proofs.cell_of_shapedOpen_int h hg h0 hz hb hc hu
  obtain ⟨cs, hh, hs, _⟩ := h.1 g zero t hg h0
  refine ⟨m, ?_⟩
  obtain ⟨l⟩ := cs
  rw [hz] at hs
  obtain ⟨x, rfl⟩ : ∃ x, l = [x] := List.length_eq_one_iff.1 (by simpa using hs)
  have hx : x = .int k m := by
    unfold World.cell? at hm
    simp only [hh] at hm
    simpa using hm
  subst hx
  simp only [World.var?, hn, Option.bind_some, hh]
end Go.Vg
