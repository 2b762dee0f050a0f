/- What the callables of a project are. -/
import Derived.Test.YtamednbojpnalaaGreatDoorToW
set_option linter.unusedVariables false
set_option linter.unusedSimpArgs false
set_option maxRecDepth 20000
namespace Go.Proofs.YtamednbojpnalaaGreatDoor
open Go Go.Vg Go.Proofs
def isC (d : Dl) : Bool := decide (d.kind = 1) || decide (d.kind = 4)
/-- What is known of a declaration of a callable. -/
def okD (v : List Un) (d : Dl) : Prop := isC d = true → (ownD d = d.owner ∧ (sigU v d.owner d.name).isSome = true ∧ d.name ≠ ⟨#[]⟩)
def mkC (v : List Un) (d : Dl) : Cb := ⟨nameD d, signS (sigD v d), pathU v d.unit⟩
def findC (n : ByteArray) (dl : List Dl) : Option Dl := dl.find? fun d => isC d && decide (nameD d = n)
theorem findC_snoc (n : ByteArray) (pre : List Dl) (d : Dl) : findC n (pre ++ [d]) = match findC n pre with | some e => some e | none => if (isC d && decide (nameD d = n)) = true then some d else none := by
  unfold findC
  rw [List.find?_append]
  cases pre.find? fun d => isC d && decide (nameD d = n) with
  | some e => rfl
  | none =>
    simp only [Option.none_or, List.find?_cons, List.find?_nil]
    cases isC d && decide (nameD d = n) <;> rfl
theorem addC_mk {v : List Un} {acc : List Cb} {d : Dl} (h : okD v d) : addC v acc d = if isC d = true ∧ (acc.any fun c => decide (c.name = nameD d)) = false then acc ++ [mkC v d] else acc := by
  unfold addC
  by_cases hc : isC d = true
  · have hk : d.kind = 1 ∨ d.kind = 4 := by simpa [isC] using hc
    obtain ⟨h1, h2, _⟩ := h hc
    by_cases ha : (acc.any fun c => decide (c.name = nameD d)) = false
    · rw [if_pos ⟨hk, ha⟩, if_pos ⟨hc, ha⟩]
      obtain ⟨s, hs⟩ := Option.isSome_iff_exists.1 h2
      rw [hs]
      simp only [mkC, sigD, h1, hs, Option.getD_some]
    · rw [if_neg (fun h => ha h.2), if_neg (fun h => ha h.2)]
  · rw [if_neg (fun h => hc (by simpa [isC] using h.1)), if_neg (fun h => hc h.1)]
theorem snocI {α : Type} {P : List α → Prop} (h0 : P []) (hs : ∀ l x, P l → P (l ++ [x])) (l : List α) : P l := by
  have key : ∀ r : List α, P r.reverse := by
    intro r
    induction r with
    | nil => exact h0
    | cons x r ih => rw [List.reverse_cons]; exact hs _ _ ih
  have := key l.reverse
  rwa [List.reverse_reverse] at this
theorem findC_name {n : ByteArray} {l : List Dl} {d : Dl} (h : findC n l = some d) : isC d = true ∧ nameD d = n := by
  have := List.find?_some h
  simpa using this
theorem calL_mem {v : List Un} (pre : List Dl) : (∀ d ∈ pre, okD v d) → ∀ c, c ∈ calL v pre ↔ ∃ d, findC c.name pre = some d ∧ c = mkC v d := by
  refine snocI (P := fun pre => (∀ d ∈ pre, okD v d) → ∀ c, c ∈ calL v pre ↔ ∃ d, findC c.name pre = some d ∧ c = mkC v d) ?_ ?_ pre
  · intro _ c
    constructor
    · intro h; cases h
    · rintro ⟨d, h, _⟩; cases h
  · intro pre d ih hok c
    have ih := ih fun e he => hok e (by simp [he])
    rw [calL_snoc, addC_mk (hok d (by simp))]
    have hfn := findC_snoc c.name pre d
    by_cases hc : isC d = true ∧ ((calL v pre).any fun c => decide (c.name = nameD d)) = false
    · rw [if_pos hc, List.mem_append, List.mem_singleton]
      have hno : findC (nameD d) pre = none := by
        cases hf : findC (nameD d) pre with
        | none => rfl
        | some e =>
          have hm : mkC v e ∈ calL v pre := (ih _).2 ⟨e, by rw [show (mkC v e).name = nameD d from (findC_name hf).2]; exact hf, rfl⟩
          have := List.any_eq_false.1 hc.2 _ hm
          exact absurd (findC_name hf).2 (by have := of_decide_eq_false (Bool.eq_false_iff.2 this); exact this)
      constructor
      · rintro (h | h)
        · obtain ⟨e, h1, h2⟩ := (ih c).1 h
          exact ⟨e, by rw [hfn, h1], h2⟩
        · refine ⟨d, ?_, h⟩
          have hn : c.name = nameD d := by rw [h]; rfl
          rw [hfn, hn, hno]
          simp [hc.1]
      · rintro ⟨e, h1, h2⟩
        rw [hfn] at h1
        cases hf : findC c.name pre with
        | some e' =>
          rw [hf] at h1
          cases h1
          exact .inl ((ih c).2 ⟨e, hf, h2⟩)
        | none =>
          rw [hf] at h1
          simp only at h1
          split at h1
          · cases h1; exact .inr h2
          · cases h1
    · rw [if_neg hc]
      constructor
      · intro h
        obtain ⟨e, h1, h2⟩ := (ih c).1 h
        exact ⟨e, by rw [hfn, h1], h2⟩
      · rintro ⟨e, h1, h2⟩
        rw [hfn] at h1
        cases hf : findC c.name pre with
        | some e' =>
          rw [hf] at h1
          cases h1
          exact (ih c).2 ⟨e, hf, h2⟩
        | none =>
          rw [hf] at h1
          simp only at h1
          split at h1
          · rename_i hd
            simp only [Bool.and_eq_true, decide_eq_true_eq] at hd
            exfalso
            refine hc ⟨hd.1, ?_⟩
            rw [List.any_eq_false]
            intro c' hc'
            obtain ⟨e', g1, g2⟩ := (ih c').1 hc'
            intro hn
            have hn : c'.name = nameD d := by simpa using hn
            rw [hn, hd.2, hf] at g1
            cases g1
          · cases h1
/-- Where a callable's name is looked up. -/
theorem getB_of {l : List Cb} (hn : l.Pairwise fun a b => a.name ≠ b.name) {c : Cb} (hc : c ∈ l) : getB (oldB l) c.name = some c.sign := by
  induction l with
  | nil => cases hc
  | cons a r ih =>
    have hp := List.pairwise_cons.1 hn
    unfold getB oldB at ih ⊢
    rw [List.map_cons, List.find?_cons]
    rcases List.mem_cons.1 hc with rfl | hc
    · simp
    · have : ¬ a.name = c.name := hp.1 c hc
      simp only [this, decide_false]
      exact ih hp.2 hc
theorem getB_mem' {l : List Cb} {n w : ByteArray} (h : getB (oldB l) n = some w) : ∃ c ∈ l, c.name = n ∧ c.sign = w := by
  unfold getB oldB at h
  cases hf : (l.map fun x => (x.name, x.sign)).find? fun p => decide (p.1 = n) with
  | none => rw [hf] at h; cases h
  | some p =>
    rw [hf] at h
    cases h
    have h1 := List.mem_of_find?_eq_some hf
    have h2 := List.find?_some hf
    obtain ⟨c, hc, rfl⟩ := List.mem_map.1 h1
    exact ⟨c, hc, by simpa using h2, rfl⟩
theorem chL_mem {ca cb : List Cb} (hn : ca.Pairwise fun a b => a.name ≠ b.name) (x : Ch) : x ∈ chL ca cb ↔ ∃ c ∈ ca, ∃ e ∈ cb, c.name = e.name ∧ ¬ c.sign = e.sign ∧ x = ⟨e.name, e.path, c.sign, e.sign⟩ := by
  unfold chL
  rw [List.mem_flatMap]
  constructor
  · rintro ⟨e, he, hx⟩
    unfold chOf at hx
    split at hx
    · rename_i w hw
      obtain ⟨c, hc, h1, h2⟩ := getB_mem' hw
      split at hx
      · cases hx
      · rename_i hne
        exact ⟨c, hc, e, he, h1, by rw [h2]; exact hne, by rw [List.mem_singleton.1 hx, h2]⟩
    · cases hx
  · rintro ⟨c, hc, e, he, h1, h2, rfl⟩
    refine ⟨e, he, ?_⟩
    have hg := getB_of hn hc
    rw [h1] at hg
    unfold chOf
    rw [hg]
    simp only [h2, if_false]
    exact List.mem_singleton.2 rfl
theorem chL_asc {ca cb : List Cb} (hb : cb.Pairwise fun a b => ltB a.name b.name = true) : Asc ((chL ca cb).map Ch.name) := by
  unfold chL
  induction cb with
  | nil => exact List.Pairwise.nil
  | cons e r ih =>
    have hp := List.pairwise_cons.1 hb
    rw [List.flatMap_cons, List.map_append]
    unfold Asc
    rw [List.pairwise_append]
    have hone : ∀ x ∈ chOf (oldB ca) e, x.name = e.name := by
      intro x hx
      unfold chOf at hx
      split at hx
      · split at hx
        · cases hx
        · rw [List.mem_singleton.1 hx]
      · cases hx
    refine ⟨?_, ih hp.2, fun n hn m hm => ?_⟩
    · unfold chOf
      split
      · split
        · exact List.Pairwise.nil
        · exact List.pairwise_singleton _ _
      · exact List.Pairwise.nil
    · obtain ⟨x, hx, rfl⟩ := List.mem_map.1 hn
      obtain ⟨z, hz, rfl⟩ := List.mem_map.1 hm
      obtain ⟨e', he', hz'⟩ := List.mem_flatMap.1 hz
      rw [hone x hx]
      have : z.name = e'.name := by
        unfold chOf at hz'
        split at hz'
        · split at hz'
          · cases hz'
          · rw [List.mem_singleton.1 hz']
        · cases hz'
      rw [this]
      exact hp.1 e' he'
theorem sortC_asc {l : List Cb} (hn : l.Pairwise fun a b => a.name ≠ b.name) : (sortC l).Pairwise fun a b => ltB a.name b.name = true := by
  have h1 := sortC_pair l
  have h2 : (sortC l).Pairwise fun a b => a.name ≠ b.name := (sortC_perm l).symm.pairwise hn fun h e => h e.symm
  refine (h1.and h2).imp fun {a b} h => ?_
  cases hl : ltB a.name b.name with
  | true => rfl
  | false => exact absurd (ltB_tri hl h.1) h.2
end Go.Proofs.YtamednbojpnalaaGreatDoor
