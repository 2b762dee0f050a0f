/- The cells of a slice that grows turn, its generation stays. -/
import Derived.Test.YtamednbojpnalaaGreatDoorTnB
set_option linter.unusedVariables false
set_option linter.unusedSimpArgs false
namespace Go.Vg
open Go.RowKit
/-- The region of a slice that grows turns: its cells, and its generation. -/
theorem RelW.vecStep2 {E : Env} {G : Gh} {heap : List VObj} {arr : List Nat} {w0 : Base} {w w' : World} (h : RelW E G heap arr w0 w) {id k gen gen' b hi : Nat} {e : TypeId} {cs cs' : List V} {c c' : Array Value} {t : TypeId}
    (hid : heap[id]? = some (.vec k gen e cs)) (hρ : G.ρ[k]? = some (b, 0, hi)) (hhi : 0 < hi) (hg : gen ≤ gen') (hc : w.heap[b]? = some (.cells c t (0, 0))) (hch : cs'.length ≤ hi)
    (hr : ∀ (j : Nat) x, cs'[j]? = some x → ∃ v, c'[j]? = some v ∧ RV E.P G arr x v ∧ v.oneCell' = true)
    (hos : w'.os = w.os) (ht : w'.tape = w.tape) (ho : w'.output = w.output) (hsz : w'.heap.size = w.heap.size) (hk : ∀ k, k ≠ b → w'.heap[k]? = w.heap[k]?) (hc' : w'.heap[b]? = some (.cells c' t (0, 0))) (hcs : c'.size = c.size)
    (hget : ∀ j, hi ≤ j → c'[j]? = c[j]?) : Ext G arr G (arr.set k gen') ∧ RelW E G (heap.set id (.vec k gen' e cs')) (arr.set k gen') w0 w' := by
  have hidl : id < heap.length := (List.getElem?_eq_some_iff.1 hid).1
  obtain ⟨hak, hgg, b0, hi0, hρ0, _, _⟩ := h.vs.at_ id k gen e cs hid
  rw [hρ] at hρ0
  cases hρ0
  have hkl := (List.getElem?_eq_some_iff.1 hak).1
  have hx : Ext G arr G (arr.set k gen') := by
    refine ⟨fun _ _ _ h => h, fun _ _ h => h, fun j n hj => ?_⟩
    by_cases ej : j = k
    · subst ej
      rw [hak] at hj
      cases hj
      exact ⟨gen', List.getElem?_set_self hkl, by omega, fun e => rfl⟩
    · exact ⟨n, by rw [List.getElem?_set_ne (Ne.symm ej)]; exact hj, Nat.le_refl _, fun _ => rfl⟩
  obtain ⟨⟨c0, e0, r1, r2⟩, r3, r4, r5⟩ := h.reg k b 0 hi hρ hhi
  rw [hc] at r1
  cases r1
  have hcell : ∀ b' o, (b' ≠ b ∨ hi ≤ o) → w'.cell? ⟨b', o, none⟩ = w.cell? ⟨b', o, none⟩ := fun b' o hor => by
    by_cases e : b' = b
    · subst e
      have hn : hi ≤ o := by rcases hor with h | h; exact absurd rfl h; exact h
      unfold World.cell?
      rw [hc', hc]
      simp only [Option.isSome_none, Bool.false_eq_true, if_false]
      exact hget o hn
    · exact cell_same (hk b' e)
  have hne : ∀ (i c : Nat), G.φ[i]? = some c → ∀ o, heap[i]? = some o → o.loose = false → c ≠ b := fun i c hi' o ho hlo e => by
    subst e
    rw [VObj.loose_of (r3 i hi' o ho)] at hlo; cases hlo
  have hset : ∀ (i : Nat) o, (heap.set id (.vec k gen' e cs'))[i]? = some o → i ≠ id → heap[i]? = some o := fun i o hi' hn => by rwa [List.getElem?_set_ne (Ne.symm hn)] at hi'
  refine ⟨hx, ⟨h.newF, fun g cs hg => ⟨(h.glob g cs hg).1, (h.glob g cs hg).2.mono hx⟩, h.below.trans ⟨hos, ht, ho, by omega, fun k' hk' => hk k' (by omega)⟩, fun b' o v hv => ?_, h.one, fun i ob hi' => ?_, by simp [h.lenφ], h.nod, fun i c1 o hc1 hd => ?_, fun i c1 hc1 => by rw [hsz]; exact h.geφ i c1 hc1, by simp [h.lenρ],
    fun k' b' lo hi' hk' hlt => ?_, h.regd, h.fre, fun i t' s c1 hi' hc1 => ?_, h.ini, ?_⟩⟩
  · rw [hcell b' o]
    · exact h.frz _ _ _ hv
    · by_cases e : b' = b
      · subst e
        refine .inr (Nat.le_of_not_lt fun hh => ?_)
        rw [r4 o (Nat.zero_le _) hh] at hv
        cases hv
      · exact .inl e
  · by_cases e1 : i = id
    · subst e1
      rw [List.getElem?_set_self hidl] at hi'
      cases hi'
      obtain ⟨c1, hc1, _⟩ := h.obj i _ hid
      exact ⟨c1, hc1, trivial⟩
    · have hi2 := hset i ob hi' e1
      obtain ⟨c1, hc1, hr1⟩ := h.obj i ob hi2
      refine ⟨c1, hc1, ?_⟩
      cases hlo : ob.loose with
      | false => exact hr1.keep hx (hk c1 (hne i c1 hc1 ob hi2 hlo))
      | true =>
        cases ob <;> simp only [VObj.loose, Bool.false_eq_true] at hlo
        · trivial
        · trivial
  · by_cases e1 : i = id
    · subst e1
      exact h.sep i c1 o hc1 (by rw [hid]; intro hh; cases hh)
    · rw [List.getElem?_set_ne (Ne.symm e1)] at hd
      exact h.sep i c1 o hc1 hd
  · obtain ⟨⟨c1, e1, q1, q2⟩, q3, q4, q5⟩ := h.reg k' b' lo hi' hk' hlt
    refine ⟨?_, fun i hi2 o ho2 => ?_, q4, q5⟩
    · by_cases eb : b' = b
      · subst eb
        rw [hc] at q1
        cases q1
        exact ⟨c', t, hc', by omega⟩
      · exact ⟨c1, e1, by rw [hk b' eb]; exact q1, q2⟩
    · by_cases e1 : i = id
      · subst e1
        rw [List.getElem?_set_self hidl] at ho2
        cases ho2
        have := q3 i hi2 _ hid
        exact this
      · exact q3 i hi2 o (hset i o ho2 e1)
  · have e1 : i ≠ id := fun e1 => by subst e1; rw [List.getElem?_set_self hidl] at hi'; cases hi'
    have hi2 := hset i _ hi' e1
    refine (h.bld i t' s c1 hi2 hc1).keep (hk c1 (hne i c1 hc1 _ hi2 rfl)) fun g hg hs => ⟨hk g fun eg => ?_, hs⟩
    subst eg
    have := hs.2.2 k 0 hi hρ
    omega
  · refine ⟨fun i k1 g1 e1 cs1 hi1 => ?_, fun i i' k1 g1 g1' e1 e1' cs1 cs1' hi1 hi1' => ?_⟩
    · by_cases ei : i = id
      · subst ei
        rw [List.getElem?_set_self hidl] at hi1
        cases hi1
        refine ⟨List.getElem?_set_self hkl, by omega, b, hi, hρ, hch, fun j x hj => ?_⟩
        obtain ⟨v, hv, hrv, hov⟩ := hr j x hj
        refine ⟨v, ?_, hrv.mono hx, hov⟩
        unfold World.cell?
        rw [hc']
        simpa only [Option.isSome_none, Bool.false_eq_true, if_false] using hv
      · have hi2 := hset i _ hi1 ei
        obtain ⟨q1, q2, b1, hi3, q3, q4, q5⟩ := h.vs.at_ i k1 g1 e1 cs1 hi2
        have hkk : k1 ≠ k := fun ek => by subst ek; exact ei (h.vs.uni _ _ _ _ _ _ _ _ _ hi2 hid)
        refine ⟨by rw [List.getElem?_set_ne (Ne.symm hkk)]; exact q1, q2, b1, hi3, q3, q4, fun j x hj => ?_⟩
        obtain ⟨v, hv, hrv, hov⟩ := q5 j x hj
        refine ⟨v, ?_, hrv.mono hx, hov⟩
        rw [hcell b1 j (.inl fun eb => ?_)]
        · exact hv
        · subst eb
          have := h.regd k1 k b1 0 hi3 0 hi hkk q3 hρ (by have := (List.getElem?_eq_some_iff.1 hj).1; omega) hhi
          have := (List.getElem?_eq_some_iff.1 hj).1
          omega
    · have key : ∀ (i k1 g1 : Nat) e1 cs1, (heap.set id (.vec k gen' e cs'))[i]? = some (.vec k1 g1 e1 cs1) → ∃ g e2 cs2, heap[i]? = some (.vec k1 g e2 cs2) := fun i k1 g1 e1 cs1 hq => by
        by_cases ei : i = id
        · subst ei
          rw [List.getElem?_set_self hidl] at hq
          cases hq
          exact ⟨_, _, _, hid⟩
        · exact ⟨_, _, _, hset i _ hq ei⟩
      obtain ⟨_, _, _, a1⟩ := key _ _ _ _ _ hi1
      obtain ⟨_, _, _, a2⟩ := key _ _ _ _ _ hi1'
      exact h.vs.uni _ _ _ _ _ _ _ _ _ a1 a2
end Go.Vg
