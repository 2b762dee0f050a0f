/- Library functions by their contracts off the shelf: a call behind which nothing of what was there has turned. -/
import Derived.Test.YtamednbojpnalaaGreatDoorVgQ
import Derived.Below
set_option linter.unusedVariables false
namespace Go.Vg
open Go.RowKit

/-- Behind a call that turned nothing of what was there. -/
theorem RelW.belowW {E : Env} {G : Gh} {heap : List VObj} {arr : List Nat} {w0 : Base} {w w' : World} (h : RelW E G heap arr w0 w) (hb : Below w.heap.size w w') : RelW E G heap arr w0 w' := by
  have hs := hb.size
  refine ⟨h.newF, h.glob, h.below.trans (hb.mono h.below.size), fun b o v hv => ?_, h.one, fun id ob hi => ?_, h.lenφ, h.nod, h.sep, fun id b hb' => ?_, h.lenρ, fun k b lo hi hk hlt => ?_, h.regd, h.fre, h.bldA hb.block (fun _ _ hs => hs), h.ini, h.vsK (Ext.refl _ _) (fun _ _ _ _ _ h => h) (fun _ _ h _ => h) hb.block⟩
  · have hc := h.frz b o v hv
    have hlt : b < w.heap.size := by
      rcases Nat.lt_or_ge b w.heap.size with h' | h'
      · exact h'
      · simp [World.cell?, Array.getElem?_eq_none h'] at hc
    rw [hb.cell (p := ⟨b, o, none⟩) hlt]; exact hc
  · obtain ⟨b, hb', hr⟩ := h.obj id ob hi
    exact ⟨b, hb', hr.keep (Ext.refl _ _) (hb.block b (h.geφ id b hb').2)⟩
  · obtain ⟨g1, g2⟩ := h.geφ id b hb'
    exact ⟨g1, by omega⟩
  · obtain ⟨⟨c, e, r0, r1⟩, r2, r3, r4⟩ := h.reg k b lo hi hk hlt
    have hb' : b < w.heap.size := by
      rcases Nat.lt_or_ge b w.heap.size with h' | h'
      · exact h'
      · simp [Array.getElem?_eq_none h'] at r0
    exact ⟨⟨c, e, by rw [hb.block b hb']; exact r0, r1⟩, r2, r3, r4⟩

/-- What was true of the first world and of every later one. -/
theorem RelW.iniW {E : Env} {G : Gh} {heap : List VObj} {arr : List Nat} {w0 : Base} {w : World} (h : RelW E G heap arr w0 w) : E.ini w := E.iniM _ _ h.ini h.below

def vSliceB (E : Env) (lo hi : Option Int) (n : Nat) (C : Prop) (R : Nat → Nat → V) (K : V → Prop) : Prop := match lo, hi with
  | some l, some h => (0 ≤ l ∧ l ≤ h ∧ h ≤ n) ∧ C ∧ K (R l.toNat h.toNat)
  | _, _ => False
@[go_sem] theorem vSliceB_some {E : Env} {l h : Int} {n : Nat} {C : Prop} {R : Nat → Nat → V} {K : V → Prop} : vSliceB E (some l) (some h) n C R K = ((0 ≤ l ∧ l ≤ h ∧ h ≤ n) ∧ C ∧ K (R l.toNat h.toNat)) := rfl
def vSliceD (E : Env) (d : Option TypeDesc) (x : V) (lo hi mx : Option V) (K : V → Prop) : Prop := match d, x, mx with
  | some .string, .str s, none => vSliceB E (vBound 0 lo) (vBound s.size hi) s.size True (fun l h => .str (s.extract l h)) K
  | some (.slice e), .slice _ e' es, none => vSliceB E (vBound 0 lo) (vBound es.length hi) es.length ((es = [] ∨ e' = e) ∧ infoOK E.P e = true) (fun l h => sl e ((es.take h).drop l)) K
  | _, _, _ => False
@[go_sem] theorem vSlice_d {E : Env} {t : TypeId} {x : V} {lo hi mx : Option V} {K : V → Prop} : vSlice E t x lo hi mx K = vSliceD E (E.P.underlying t) x lo hi mx K := by
  unfold vSlice
  generalize E.P.underlying t = d
  split
  · simp only [vSliceD]
    cases vBound 0 lo <;> cases vBound _ hi <;> simp [vSliceB]
  · rename_i e e' es
    simp only [vSliceD]
    cases vBound 0 lo <;> cases vBound (es.length : Int) hi <;> simp only [vSliceB]
    apply propext; constructor
    · rintro ⟨⟨a, b, c⟩, d⟩; exact ⟨c, ⟨a, b⟩, d⟩
    · rintro ⟨c, ⟨a, b⟩, d⟩; exact ⟨⟨a, b, c⟩, d⟩
  · rename_i h1 h2
    unfold vSliceD
    split
    · exact (h1 _ rfl rfl rfl).elim
    · exact (h2 _ _ _ _ rfl rfl rfl).elim
    · rfl
@[go_sem] theorem vSliceD_str {E : Env} {s : ByteArray} {lo hi : Option V} {K : V → Prop} : vSliceD E (some .string) (.str s) lo hi none K = vSliceB E (vBound 0 lo) (vBound s.size hi) s.size True (fun l h => .str (s.extract l h)) K := rfl
@[go_sem] theorem vSliceD_slice {E : Env} {o : Own} {e e' : TypeId} {es : List (List V)} {lo hi : Option V} {K : V → Prop} : vSliceD E (some (.slice e)) (.slice o e' es) lo hi none K = vSliceB E (vBound 0 lo) (vBound es.length hi) es.length ((es = [] ∨ e' = e) ∧ infoOK E.P e = true) (fun l h => sl e ((es.take h).drop l)) K := rfl
@[go_sem] theorem vSliceD_sl {E : Env} {e : TypeId} {es : List (List V)} {lo hi : Option V} {K : V → Prop} : vSliceD E (some (.slice e)) (sl e es) lo hi none K = vSliceB E (vBound 0 lo) (vBound es.length hi) es.length (infoOK E.P e = true) (fun l h => sl e ((es.take h).drop l)) K := by
  have : (es = [] ∨ (if es.isEmpty = true then 0 else e) = e) := by cases es <;> simp
  show vSliceD E (some (.slice e)) (.slice .shared (if es.isEmpty then 0 else e) es) lo hi none K = _
  rw [vSliceD_slice]
  congr 1
  exact propext ⟨fun h => h.2, fun h => ⟨this, h⟩⟩
@[go_sem] theorem vBound_none {d : Int} : vBound d none = some d := rfl
@[go_sem] theorem vBound_int {d : Int} {k : IntKind} {i : Int} : vBound d (some (.int k i)) = some i := rfl

/-- Long lists, as a text writes them. -/
@[go_sem] theorem lapp_cons {α : Type} {a : α} {l m : List α} : List.append (a :: l) m = a :: List.append l m := rfl
@[go_sem] theorem lapp_nil {α : Type} {m : List α} : List.append [] m = m := rfl

@[go_sem] theorem iteF {α : Type} {a b : α} : (if False then a else b) = b := if_neg id
@[go_sem] theorem iteT {α : Type} {a b : α} : (if True then a else b) = a := if_pos trivial
@[go_sem] theorem impF {p : Prop} : (False → p) = True := eq_true False.elim
@[go_sem] theorem impT {p : Prop} : (True → p) = p := propext ⟨fun h => h trivial, fun h _ => h⟩
@[go_sem] theorem func_pure {f : FuncId} {cs : List V} : (V.func f cs).pure = pureL cs := by simp [V.pure]

theorem var_keep {P : Program} {w w' : World} {n : String} {cs : Array Value} (h : w.var? P n = some cs) (hb : Below w.heap.size w w') : w'.var? P n = some cs := by
  unfold World.var? at h ⊢
  cases hg : P.globalNamed n with
  | none => rw [hg] at h; cases h
  | some g =>
    rw [hg] at h
    simp only [Option.bind_some] at h ⊢
    have hlt : g < w.heap.size := by
      rcases Nat.lt_or_ge g w.heap.size with h' | h'
      · exact h'
      · simp [Array.getElem?_eq_none h'] at h
    rw [hb.block g hlt]; exact h

theorem Args.cons {P : Program} {G : Gh} {arr : List Nat} {x : V} {l : List V} {vals : Array Value} (h : Args P G arr (x :: l) vals) :
    ∃ v vs, vals = #[v] ++ vs ∧ RV P G arr x v ∧ Args P G arr l vs := by
  obtain ⟨h1, h2⟩ := h
  simp only [List.length_cons] at h1
  have h0 : 0 < vals.size := by omega
  refine ⟨vals[0], vals.extract 1 vals.size, ?_, h2 0 x _ rfl (Array.getElem?_eq_getElem h0), by simp; omega, fun j y v hy hv => h2 (j + 1) y v (by simpa using hy) ?_⟩
  · apply Array.ext_getElem?
    intro i
    rw [Array.getElem?_append]
    split
    · rename_i hi
      have : i = 0 := by simpa using hi
      subst this
      simp [h0]
    · rename_i hi
      simp only [Array.size_singleton] at hi ⊢
      rw [Array.getElem?_extract]
      split
      · congr 1; omega
      · rw [Array.getElem?_eq_none (by omega)]
  · rw [Array.getElem?_extract] at hv
    split at hv
    · rw [← hv]; congr 1; omega
    · cases hv
theorem Args.nil {P : Program} {G : Gh} {arr : List Nat} {vals : Array Value} (h : Args P G arr [] vals) : vals = #[] := Array.eq_empty_of_size_eq_zero h.1.symm

/-- A pure function by a contract over the machine: what it gives back needs no memory. -/
theorem vpure_shelf {E : Env} {f : FuncId} {args : List V} {r : V} {val : Value} (hp : pureL args = true) (hr : r.pure = true) (hrv : ∀ G arr, RV E.P G arr r val)
    (h : ∀ G w0 w vals, RelW E.alive G [] [] w0 w → Args E.P G [] args vals → Calls E.P f vals w fun e w' => e = .returned val ∧ Below w.heap.size w w') : VPure E f args r := by
  refine ⟨hp, hr, fun G w0 w vals hrel ha => (h G w0 w vals hrel ha).mono fun e w' ⟨he, hb⟩ => ?_⟩
  exact .inl ⟨val, he, r, [], [], G, rfl, Ext.refl _ _, hrel.belowW hb, hrv _ _⟩

/-- A list of texts, as the machine has it. -/
theorem texts_of {E : Env} {G : Gh} {heap : List VObj} {arr : List Nat} {w0 : Base} {w : World} {e : TypeId} {xs : List ByteArray} {v : Value} (h : RelW E G heap arr w0 w) (hc : E.P.cellsOf e = 1)
    (hv : RV E.P G arr (sl e (xs.map fun s => [.str s])) v) : (xs = [] ∧ ∃ a c, v = .slice a 0 c) ∨
      ∃ b o c, v = .slice (some ⟨b, o, none⟩) xs.length c ∧ b < w.heap.size ∧ xs.length ≤ c ∧ ∀ (j : Nat) x, xs[j]? = some x → w.cell? ⟨b, o + j, none⟩ = some (.string x) := by
  have key : ∀ e', (xs = [] ∨ e' = e) → RV E.P G arr (.slice .shared e' (xs.map fun s => [V.str s])) v → (xs = [] ∧ ∃ a c, v = .slice a 0 c) ∨
      ∃ b o c, v = .slice (some ⟨b, o, none⟩) xs.length c ∧ xs.length ≤ c ∧ ∀ (j : Nat) x, xs[j]? = some x → w.cell? ⟨b, o + j, none⟩ = some (.string x) := by
    intro e' he hv
    generalize hes : (xs.map fun s => [V.str s]) = es at hv
    cases hv with
    | snil =>
      left
      exact ⟨by simpa using hes, _, _, rfl⟩
    | sodd =>
      left
      exact ⟨by simpa using hes, _, _, rfl⟩
    | slice _ _ _ b off cap ho h1 h2 h3 h4 h5 h6 =>
      right
      have hl : es.length = xs.length := by rw [← hes]; simp
      refine ⟨b, off, cap, by rw [hl], by omega, fun j x hj => ?_⟩
      have hne : xs ≠ [] := by rintro rfl; simp at hj
      have hee : e' = e := he.resolve_left hne
      subst hee
      have hi : es[j]? = some [V.str x] := by rw [← hes]; simp [hj]
      obtain ⟨u, hu⟩ := h5 j _ 0 hi (by simp)
      have hru := h6 j _ 0 _ u hi rfl hu
      rw [hc] at hu
      simp only [Nat.mul_one, Nat.add_zero] at hu
      cases hru
      exact h.frz _ _ _ hu
  have hlt : ∀ b o c, v = .slice (some ⟨b, o, none⟩) xs.length c → (∀ (j : Nat) x, xs[j]? = some x → w.cell? ⟨b, o + j, none⟩ = some (.string x)) → xs ≠ [] → b < w.heap.size := by
    intro b o c _ hcell hne
    obtain ⟨x, r, rfl⟩ := List.exists_cons_of_ne_nil hne
    have := hcell 0 x rfl
    rcases Nat.lt_or_ge b w.heap.size with h' | h'
    · exact h'
    · simp [World.cell?, Array.getElem?_eq_none h'] at this
  unfold sl at hv
  have he : xs = [] ∨ (if (xs.map fun s => [V.str s]).isEmpty then 0 else e) = e := by
    cases xs with
    | nil => exact .inl rfl
    | cons x r => exact .inr rfl
  rcases key _ he hv with ⟨h1, h2⟩ | ⟨b, o, c, h1, h2, h3⟩
  · exact .inl ⟨h1, h2⟩
  · by_cases hne : xs = []
    · subst hne; exact .inl ⟨rfl, _, _, h1⟩
    · exact .inr ⟨b, o, c, h1, hlt b o c h1 h3 hne, h2, h3⟩
end Go.Vg
