/- How the memory of a state goes on: new frozen rows, new objects, stores, draws. -/
import Derived.Test.YtnlgaipnpebajaaGreatDoorVgA
set_option linter.unusedVariables false
namespace Go.Vg
open Go.RowKit

/-- A new frozen row at block b. -/
def Gh.freezeNew (G : Gh) (b : Nat) (c : Array Value) : Gh := { G with F := fun b' o => if b' = b then c[o]? else G.F b' o }

theorem cell_lt {w : World} {b o : Nat} {v : Value} (h : w.cell? ⟨b, o, none⟩ = some v) : b < w.heap.size := World.block_lt_of_cell? w ⟨b, o, none⟩ h

section
variable {E : Env} {G : Gh} {heap : List VObj} {arr : List Nat} {w0 : Base} {w : World}

theorem RelW.F_new (h : RelW E G heap arr w0 w) (o : Nat) : G.F w.heap.size o = none := by
  cases hF : G.F w.heap.size o with
  | none => rfl
  | some v => have := cell_lt (h.frz _ _ _ hF); omega

theorem RelW.extF (h : RelW E G heap arr w0 w) (c : Array Value) : Ext G arr (G.freezeNew w.heap.size c) arr := by
  refine ⟨fun b o v hv => ?_, fun _ _ h => h, fun _ n h => ⟨n, h, Nat.le_refl _, fun _ => rfl⟩⟩
  simp only [Gh.freezeNew]
  by_cases e : b = w.heap.size
  · subst e; rw [h.F_new] at hv; cases hv
  · rw [if_neg e]; exact hv

theorem heap_alloc (w : World) (o : Obj) (k : Nat) : (w.alloc o).heap[k]? = if k = w.heap.size then some o else w.heap[k]? := by
  show (w.heap.push o)[k]? = _
  rw [Array.getElem?_push]

theorem RObj.keep {P : Program} {G G' : Gh} {arr arr' : List Nat} {w w' : World} {b : Nat} {ob : VObj} (hx : Ext G arr G' arr') (hb : w'.heap[b]? = w.heap[b]?) (h : RObj P G arr w b ob) :
    RObj P G' arr' w' b ob := by
  cases ob with
  | cells cs =>
    obtain ⟨c, e, h1, h2, h3⟩ := h
    exact ⟨c, e, by rw [hb]; exact h1, h2, fun j x hj => (h3 j x hj).imp fun v hv => ⟨hv.1, hv.2.mono hx⟩⟩
  | map es =>
    obtain ⟨m, clk, h1, h2, h3⟩ := h
    exact ⟨m, clk, by rw [hb]; exact h1, h2, fun j kx vx hj => (h3 j kx vx hj).imp fun e he => ⟨he.1, he.2.1.mono hx, he.2.2.mono hx⟩⟩
  | siter s pos => exact ⟨by rw [hb]; exact h.1, h.2⟩
  | dead => trivial
  | builder t s =>
    obtain ⟨p, v, h1, h2⟩ := h
    exact ⟨p, v, by rw [hb]; exact h1, h2⟩
  | tcells t cs =>
    obtain ⟨c, h1, h2, h3⟩ := h
    exact ⟨c, by rw [hb]; exact h1, h2, fun j x hj => (h3 j x hj).imp fun v hv => ⟨hv.1, hv.2.mono hx⟩⟩

theorem RelW.bldA (h : RelW E G heap arr w0 w) {G' : Gh} {w' : World} (hw : ∀ k, k < w.heap.size → w'.heap[k]? = w.heap[k]?) (hs : ∀ g, g < w.heap.size → SepB G g → SepB G' g) :
    ∀ (id : Nat) t s b, heap[id]? = some (.builder t s) → G.φ[id]? = some b → Bld E G' w' t s b := fun id t s b hi hb =>
  (h.bld id t s b hi hb).keep (hw b (h.geφ id b hb).2) fun g hg hsb => ⟨hw g hg, hs g hg hsb⟩

/-- A new frozen row. -/
theorem RelW.allocF (h : RelW E G heap arr w0 w) (c : Array Value) (e : TypeId) (h1 : ∀ (j : Nat) v, c[j]? = some v → v.oneCell' = true) : RelW E (G.freezeNew w.heap.size c) heap arr w0 (w.alloc (.cells c e)) := by
  have hx := h.extF c
  refine ⟨fun b o v hv hlt => h.newF b o v (by
      simp only [Gh.freezeNew] at hv
      rwa [if_neg (by have := h.below.size; omega)] at hv) hlt, fun g cs hg => ⟨(h.glob g cs hg).1, (h.glob g cs hg).2.mono hx⟩, h.below.alloc h.below.size _, ?_, fun b o v hv => by
      simp only [Gh.freezeNew] at hv
      split at hv
      · exact h1 _ _ hv
      · exact h.one _ _ _ hv, ?_, h.lenφ, h.nod, ?_, ?_, h.lenρ, ?_, h.regd, h.fre, h.bldA (fun k hk => by rw [heap_alloc, if_neg (by omega)]) fun g hg ⟨s1, s2, s3⟩ => ⟨fun o => by
        simp only [Gh.freezeNew]; rw [if_neg (by omega)]; exact s1 o, s2, s3⟩, h.ini⟩
  · intro b o v hv
    simp only [Gh.freezeNew] at hv
    by_cases eb : b = w.heap.size
    · rw [if_pos eb] at hv; subst eb; rw [World.cell?_alloc_new]; exact hv
    · rw [if_neg eb] at hv
      rw [World.cell?_alloc_old _ _ _ eb]; exact h.frz _ _ _ hv
  · intro id ob hid
    obtain ⟨b, hb, hr⟩ := h.obj id ob hid
    refine ⟨b, hb, hr.keep hx ?_⟩
    rw [heap_alloc, if_neg (by have := (h.geφ id b hb).2; omega)]
  · intro id b o hb hd
    simp only [Gh.freezeNew]
    rw [if_neg (by have := (h.geφ id b hb).2; omega)]
    exact h.sep id b o hb hd
  · intro id b hb
    have := h.geφ id b hb
    simp; omega
  · intro k b lo hi hk hlt
    obtain ⟨⟨c', e', h1, h2⟩, h3, h4, h5⟩ := h.reg k b lo hi hk hlt
    have hlt : b < w.heap.size := (Array.getElem?_eq_some_iff.1 h1).1
    refine ⟨⟨c', e', by rw [heap_alloc, if_neg (by omega)]; exact h1, h2⟩, h3, fun o ho1 ho2 => ?_, h5⟩
    simp only [Gh.freezeNew]
    rw [if_neg (by omega)]
    exact h4 o ho1 ho2

/-- A new object. -/
def Gh.newObj (G : Gh) (b : Nat) : Gh := { G with φ := G.φ ++ [b] }

theorem Gh.ext_newObj (G : Gh) (arr : List Nat) (b : Nat) : Ext G arr (G.newObj b) arr := by
  refine ⟨fun _ _ _ h => h, fun id b' hb => ?_, fun _ n h => ⟨n, h, Nat.le_refl _, fun _ => rfl⟩⟩
  simp only [Gh.newObj]
  rw [List.getElem?_append_left (List.getElem?_eq_some_iff.1 hb).1]; exact hb

theorem RelW.allocM (h : RelW E G heap arr w0 w) (o : Obj) (ob : VObj) (ho : RObj E.P G arr (w.alloc o) w.heap.size ob)
    (hbl : ∀ t s, ob = .builder t s → Bld E (G.newObj w.heap.size) (w.alloc o) t s w.heap.size := by intro _ _ h; cases h) :
    RelW E (G.newObj w.heap.size) (heap ++ [ob]) arr w0 (w.alloc o) := by
  have hx := G.ext_newObj arr w.heap.size
  have hget : ∀ (id : Nat) b, (G.newObj w.heap.size).φ[id]? = some b → (id < heap.length ∧ G.φ[id]? = some b) ∨ (id = heap.length ∧ b = w.heap.size) := by
    intro id b hb
    simp only [Gh.newObj] at hb
    have hl := h.lenφ
    rcases Nat.lt_trichotomy id heap.length with hid | hid | hid
    · rw [List.getElem?_append_left (by omega)] at hb; exact .inl ⟨hid, hb⟩
    · subst hid; rw [List.getElem?_append_right (by omega)] at hb; simp [hl] at hb; exact .inr ⟨rfl, hb.symm⟩
    · rw [List.getElem?_append_right (by omega)] at hb
      rw [List.getElem?_eq_none (by simp; omega)] at hb; cases hb
  refine ⟨h.newF, fun g cs hg => ⟨(h.glob g cs hg).1, (h.glob g cs hg).2.mono hx⟩, h.below.alloc h.below.size _, ?_, h.one, ?_, ?_, ?_, ?_, ?_, h.lenρ, ?_, h.regd, h.fre, ?_, h.ini⟩
  rotate_right 1
  · intro id t s b hi hb
    rcases hget id b hb with ⟨h1, h2⟩ | ⟨h1, h2⟩
    · rw [List.getElem?_append_left h1] at hi
      refine h.bldA (w' := w.alloc o) (G' := G.newObj w.heap.size) (fun k hk => by rw [heap_alloc, if_neg (by omega)]) (fun g hg ⟨s1, s2, s3⟩ => ⟨s1, fun i hi' => ?_, s3⟩) id t s b hi h2
      rcases hget i g hi' with ⟨h3, h4⟩ | ⟨h3, h4⟩
      · exact s2 i h4
      · omega
    · subst h1 h2
      rw [List.getElem?_append_right (Nat.le_refl _)] at hi
      simp at hi
      exact hbl t s hi
  · intro b o' v hv
    rw [World.cell?_alloc_old _ _ _ (by have := cell_lt (h.frz _ _ _ hv); simp; omega)]
    exact h.frz _ _ _ hv
  · intro id ob' hid
    rcases Nat.lt_trichotomy id heap.length with hi | hi | hi
    · rw [List.getElem?_append_left hi] at hid
      obtain ⟨b, hb, hr⟩ := h.obj id ob' hid
      refine ⟨b, hx.φ _ _ hb, hr.keep hx ?_⟩
      rw [heap_alloc, if_neg (by have := (h.geφ id b hb).2; omega)]
    · subst hi
      rw [List.getElem?_append_right (by omega)] at hid
      simp at hid
      subst hid
      refine ⟨w.heap.size, ?_, ho.keep hx rfl⟩
      simp [Gh.newObj, h.lenφ]
    · rw [List.getElem?_eq_none (by simp; omega)] at hid; cases hid
  · simp [Gh.newObj, h.lenφ]
  · intro i j b hi hj
    rcases hget i b hi with ⟨h1, h2⟩ | ⟨h1, h2⟩ <;> rcases hget j b hj with ⟨h3, h4⟩ | ⟨h3, h4⟩
    · exact h.nod i j b h2 h4
    · have := (h.geφ i b h2).2; omega
    · have := (h.geφ j b h4).2; omega
    · omega
  · intro id b o' hb hd
    rcases hget id b hb with ⟨h1, h2⟩ | ⟨h1, h2⟩
    · exact h.sep id b o' h2 (by rwa [List.getElem?_append_left h1] at hd)
    · subst h2; exact h.F_new o'
  · intro id b hb
    have hs := h.below.size
    rcases hget id b hb with ⟨h1, h2⟩ | ⟨h1, h2⟩
    · have := h.geφ id b h2; simp; omega
    · subst h2; simp; omega
  · intro k b lo hi hk hlt
    obtain ⟨⟨c', e', h1, h2⟩, h3, h4, h5⟩ := h.reg k b lo hi hk hlt
    have hlt : b < w.heap.size := (Array.getElem?_eq_some_iff.1 h1).1
    refine ⟨⟨c', e', by rw [heap_alloc, if_neg (by omega)]; exact h1, h2⟩, fun id hid => ?_, h4, h5⟩
    rcases hget id b hid with ⟨h6, h7⟩ | ⟨h6, h7⟩
    · exact h3 id h7
    · omega

theorem RelW.drew (h : RelW E G heap arr w0 w) (n : Nat) : RelW E G heap arr w0 { w with drawn := n } :=
  ⟨h.newF, h.glob, ⟨h.below.os, h.below.tape, h.below.output, h.below.size, h.below.block⟩, h.frz, h.one, fun id ob hid => (h.obj id ob hid).imp fun b hb => ⟨hb.1, hb.2.keep (Ext.refl _ _) rfl⟩,
    h.lenφ, h.nod, h.sep, h.geφ, h.lenρ, h.reg, h.regd, h.fre, h.bldA (fun _ _ => rfl) (fun _ _ hs => hs), h.ini⟩

/-- An object is changed: block b alone turns, from an object of cells to one of cells (its own), or a map to a map. -/
theorem RelW.change (h : RelW E G heap arr w0 w) {id b : Nat} (hb : G.φ[id]? = some b) {w' : World} {ob : VObj} (hid : id < heap.length) (hlive : heap[id]? ≠ some .dead)
    (hos : w'.os = w.os) (ht : w'.tape = w.tape) (ho : w'.output = w.output) (hsz : w'.heap.size = w.heap.size) (hk : ∀ k, k ≠ b → w'.heap[k]? = w.heap[k]?)
    (hr : RObj E.P G arr w' b ob) (hbl : ∀ t s, ob = .builder t s → Bld E G w' t s b := by intro _ _ h; cases h) : RelW E G (heap.set id ob) arr w0 w' := by
  refine ⟨h.newF, h.glob, ?_, ?_, h.one, ?_, by simp [h.lenφ], h.nod, fun i c o hc hd => ?_, fun i c hc => by rw [hsz]; exact h.geφ i c hc, h.lenρ, ?_, h.regd, h.fre, ?_, h.ini⟩
  rotate_right 1
  · intro i t s c hi hc
    by_cases e : i = id
    · subst e
      rw [List.getElem?_set_self hid] at hi
      cases hi
      rw [hb] at hc; cases hc
      exact hbl t s rfl
    · rw [List.getElem?_set_ne (Ne.symm e)] at hi
      refine (h.bld i t s c hi hc).keep (hk c fun ec => e (h.nod i id c hc (by rw [ec]; exact hb))) fun g hg hs => ⟨hk g fun eg => hs.2.1 id (by rw [eg]; exact hb), hs⟩
  · refine h.below.trans ⟨hos, ht, ho, by omega, fun k hkk => hk k ?_⟩
    have := (h.geφ id b hb).1; omega
  · intro b' o v hv
    have hne : b' ≠ b := fun e => by subst e; rw [h.sep id b' o hb hlive] at hv; cases hv
    have := h.frz _ _ _ hv
    unfold World.cell? at this ⊢
    rw [hk b' hne]; exact this
  · intro i ob' hi
    by_cases e : i = id
    · subst e
      rw [List.getElem?_set_self hid] at hi
      cases hi
      exact ⟨b, hb, hr⟩
    · rw [List.getElem?_set_ne (Ne.symm e)] at hi
      obtain ⟨c, hc, hrc⟩ := h.obj i ob' hi
      refine ⟨c, hc, hrc.keep (Ext.refl _ _) (hk c fun ec => e ?_)⟩
      subst ec
      exact h.nod i id c hc hb
  · by_cases e : i = id
    · subst e; exact h.sep i c o hc hlive
    · rw [List.getElem?_set_ne (Ne.symm e)] at hd
      exact h.sep i c o hc hd
  · intro k b' lo hi hk' hlt
    obtain ⟨⟨c', e', h1, h2⟩, h3, h4, h5⟩ := h.reg k b' lo hi hk' hlt
    exact ⟨⟨c', e', by rw [hk b' (fun e => h3 id (e ▸ hb))]; exact h1, h2⟩, h3, h4, h5⟩

/-- For a callee that gets pure arguments and nothing else: all objects and slots are hidden from it. -/
theorem RelW.hide (h : RelW E G heap arr w0 w) : RelW E ⟨G.F, [], []⟩ [] [] { w := w, F := G.F } w := by
  refine ⟨fun b o v hv _ => hv, fun g cs hg => ?_, Below.refl _ _, h.frz, h.one, by simp, rfl, by simp, by simp, by simp, rfl, by simp, by simp, by simp, by simp, E.iniM _ _ h.ini h.below⟩
  obtain ⟨h1, h2⟩ := h.glob g cs hg
  exact ⟨h1, h2.pure h1 _ _ fun _ _ _ h => h⟩

/-- Behind such a call. -/
theorem RelW.back (h : RelW E G heap arr w0 w) {F' : Nat → Nat → Option Value} {w' : World} (hF : ∀ b o v, G.F b o = some v → F' b o = some v)
    (hnew : ∀ b o v, F' b o = some v → b < w.heap.size → G.F b o = some v) (hfrz : ∀ b o v, F' b o = some v → w'.cell? ⟨b, o, none⟩ = some v) (hone : ∀ b o v, F' b o = some v → v.oneCell' = true) (hb : Below w.heap.size w w') :
    RelW E { G with F := F' } heap arr w0 w' ∧ Ext G arr { G with F := F' } arr := by
  have hx : Ext G arr { G with F := F' } arr := ⟨hF, fun _ _ h => h, fun _ n h => ⟨n, h, Nat.le_refl _, fun _ => rfl⟩⟩
  have hs := h.below.size
  have hs' := hb.size
  have hnone : ∀ g o, g < w.heap.size → G.F g o = none → F' g o = none := fun g o hg hn => by
    cases hF' : F' g o with
    | none => rfl
    | some v => have := hnew g o v hF' hg; rw [hn] at this; cases this
  refine ⟨⟨fun b o v hv hlt => h.newF b o v (hnew b o v hv (by omega)) hlt, fun g cs hg => ⟨(h.glob g cs hg).1, (h.glob g cs hg).2.mono hx⟩, h.below.trans (hb.mono hs), hfrz, hone, ?_, h.lenφ, h.nod, ?_, ?_, h.lenρ, ?_, h.regd, h.fre, h.bldA hb.block fun g hg ⟨s1, s2, s3⟩ => ⟨fun o => hnone g o hg (s1 o), s2, s3⟩, h.ini⟩, hx⟩
  · intro id ob hid
    obtain ⟨b, hb', hr⟩ := h.obj id ob hid
    exact ⟨b, hb', hr.keep hx (hb.block b (h.geφ id b hb').2)⟩
  · intro id b o hb' hd
    cases hF' : F' b o with
    | none => exact hF'
    | some v => have := hnew b o v hF' (h.geφ id b hb').2; rw [h.sep id b o hb' hd] at this; cases this
  · intro id b hb'
    have := h.geφ id b hb'
    omega
  · intro k b lo hi hk hlt
    obtain ⟨⟨c', e', h1, h2⟩, h3, h4, h5⟩ := h.reg k b lo hi hk hlt
    have hlt : b < w.heap.size := (Array.getElem?_eq_some_iff.1 h1).1
    refine ⟨⟨c', e', by rw [hb.block b hlt]; exact h1, h2⟩, h3, fun o ho1 ho2 => ?_, h5⟩
    cases hF' : F' b o with
    | none => exact hF'
    | some v => have := hnew b o v hF' hlt; rw [h4 o ho1 ho2] at this; cases this

end
end Go.Vg
