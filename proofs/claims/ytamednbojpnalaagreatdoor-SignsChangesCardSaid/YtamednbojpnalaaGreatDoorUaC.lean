/- Signatures of sound projects are told apart by their texts. -/
import Derived.Test.YtamednbojpnalaaGreatDoorUaB
set_option linter.unusedVariables false
set_option linter.unusedSimpArgs false
set_option maxRecDepth 20000
namespace Go.Vg
/-- The types of a signature's parameters are names. -/
theorem sign_valid {n : Nd} (hg : goodN n) {i : Nat} {y : Nd} (hy : (nodes n)[i]? = some y) (h2 : y.kind = 2) : ∀ p ∈ (signR (rowsN n (-1) 0) i).params, validName p = true := by
  have hsh : ∀ y ∈ nodes n, y.shape = true := fun y hy => node_shape (hg y hy)
  obtain ⟨k, t, g, ks⟩ := y
  replace h2 : k = 2 := h2
  subst h2
  obtain ⟨s1, s2, _⟩ := shape_least (hsh _ (List.mem_of_getElem? hy))
  have s1' : 3 ≤ ks.length := by simp [leastK] at s1; omega
  obtain ⟨a1, a2, a3⟩ := rwAt_at hy
  have hk0 : ks[0]? = some ks[0] := List.getElem?_eq_getElem (by omega)
  obtain ⟨c0, b1, b2⟩ := kid_at hy hk0
  have e0 : kdAt (rowsN n (-1) 0) i 0 = c0 := by
    show (rwAt (rowsN n (-1) 0) i).kids.getD 0 0 = c0
    rw [a3, List.getD_eq_getElem?_getD, b1]; rfl
  have f0 := fitsFrom_get s2 0 _ hk0
  generalize hp : ks[0] = p at b2 f0
  obtain ⟨pk, pt, pg, pks⟩ := p
  have hpk : pk = 3 := by
    have : fitsK 2 (0 + ((0 : Nat) : Int)) pk = true := f0
    simpa [fitsK] using this
  subst hpk
  obtain ⟨p1, p2, p3⟩ := rwAt_at b2
  obtain ⟨_, q2, _⟩ := shape_least (hsh _ (List.mem_of_getElem? b2))
  intro s hs
  simp only [signR, parsR] at hs
  rw [e0, p3] at hs
  obtain ⟨c, hcm, rfl⟩ := List.mem_map.1 hs
  obtain ⟨j, z, j1, j2⟩ := kidsAt_mem hcm
  obtain ⟨c', j3, j4⟩ := kid_at b2 j2
  have : c' = c := by rw [j1] at j3; simpa using j3.symm
  subst this
  have fz := fitsFrom_get q2 j z j2
  obtain ⟨zk, zt, zg, zks⟩ := z
  have hzk : zk = 4 := by
    have : fitsK 3 (0 + (j : Int)) zk = true := fz
    unfold fitsK at this
    rw [if_neg (by omega)] at this
    simpa using this
  subst hzk
  obtain ⟨r1, r2, _⟩ := shape_least (hsh _ (List.mem_of_getElem? j4))
  have r1' : 1 ≤ zks.length := by simp [leastK] at r1; omega
  obtain ⟨z1, z2, z3⟩ := rwAt_at j4
  have hz0 : zks[0]? = some zks[0] := List.getElem?_eq_getElem (by omega)
  obtain ⟨d, w1, w2⟩ := kid_at j4 hz0
  have fw := fitsFrom_get r2 0 _ hz0
  have : kdAt (rowsN n (-1) 0) c' 0 = d := by
    show (rwAt (rowsN n (-1) 0) c').kids.getD 0 0 = d
    rw [z3, List.getD_eq_getElem?_getD, w1]; rfl
  rw [this]
  generalize zks[0] = v at w2 fw
  obtain ⟨vk, vt, vg, vks⟩ := v
  have hvk : vk = 5 := by
    have : fitsK 4 (0 + ((0 : Nat) : Int)) vk = true := fw
    simpa [fitsK] using this
  subst hvk
  obtain ⟨_, v2, _⟩ := rwAt_at w2
  rw [v2]
  exact node_name (y := .mk 5 vt vg vks) (hg _ (List.mem_of_getElem? w2)) (.inr (.inl rfl))
/-- A text without a comma, a bracket. -/
def plainS (s : ByteArray) : Prop := s.data.toList ≠ [] ∧ ∀ c ∈ s.data.toList, c ≠ 44 ∧ c ≠ 41
theorem plain_of {s : ByteArray} (h : validName s = true) : plainS s := by
  have hne := valid_ne h
  unfold validName at h
  simp only [Bool.and_eq_true, List.all_eq_true] at h
  obtain ⟨_, h2⟩ := h
  refine ⟨fun e => hne ?_, fun c hc => ?_⟩
  · obtain ⟨⟨l⟩⟩ := s
    simp at e
    subst e; rfl
  · have := h2 c hc
    constructor
    · rintro rfl; simp [nameB, letterB, digitB] at this
    · rintro rfl; simp [nameB, letterB, digitB] at this
theorem split_at_stop {s : UInt8} : ∀ {a b x y : List UInt8}, (∀ c ∈ a, c ≠ s) → (∀ c ∈ b, c ≠ s) → a ++ s :: x = b ++ s :: y → a = b ∧ x = y
  | [], [], x, y, _, _, h => by simpa using h
  | [], b :: r, x, y, _, hb, h => by simp at h; exact absurd h.1.symm (hb b (by simp))
  | a :: r, [], x, y, ha, _, h => by simp at h; exact absurd h.1 (ha a (by simp))
  | a :: r, b :: q, x, y, ha, hb, h => by
    simp only [List.cons_append, List.cons.injEq] at h
    obtain ⟨h1, h2⟩ := split_at_stop (fun c hc => ha c (by simp [hc])) (fun c hc => hb c (by simp [hc])) h.2
    rw [h.1, h1]; exact ⟨rfl, h2⟩
theorem join_noparen : ∀ (l : List (List UInt8)), (∀ x ∈ l, ∀ c ∈ x, c ≠ 41) → ∀ c ∈ Lib.join l [44, 32], c ≠ 41 := by
  intro l h c hc
  cases l with
  | nil => simp [Lib.join] at hc
  | cons x r =>
    rw [Lib.join_cons, List.mem_append] at hc
    rcases hc with hc | hc
    · exact h x (by simp) c hc
    · unfold Lib.joinTail at hc
      obtain ⟨y, hy, hcy⟩ := List.mem_flatten.1 hc
      obtain ⟨z, hz, rfl⟩ := List.mem_map.1 hy
      rcases List.mem_append.1 hcy with hcy | hcy
      · simp at hcy; rcases hcy with rfl | rfl <;> decide
      · exact h z (by simp [hz]) c hcy
theorem tail_inj : ∀ (l m : List (List UInt8)), (∀ x ∈ l, ∀ c ∈ x, c ≠ 44) → (∀ x ∈ m, ∀ c ∈ x, c ≠ 44) → Lib.joinTail [44, 32] l = Lib.joinTail [44, 32] m → l = m
  | [], [], _, _, _ => rfl
  | [], y :: r, _, _, h => by simp [Lib.joinTail] at h
  | x :: r, [], _, _, h => by simp [Lib.joinTail] at h
  | x :: r, y :: q, hl, hm, h => by
    have hx : ∀ (x : List UInt8) (r : List (List UInt8)), Lib.joinTail [44, 32] (x :: r) = 44 :: 32 :: (x ++ Lib.joinTail [44, 32] r) := by intro x r; simp [Lib.joinTail]
    rw [hx, hx] at h
    have h : x ++ Lib.joinTail [44, 32] r = y ++ Lib.joinTail [44, 32] q := by simpa using h
    have hxc := hl x (by simp)
    have hyc := hm y (by simp)
    cases r with
    | nil =>
      cases q with
      | nil => simp [Lib.joinTail] at h; rw [h]
      | cons z q' =>
        rw [hx] at h
        exfalso
        have h0 : Lib.joinTail [44, 32] ([] : List (List UInt8)) = [] := rfl
        rw [h0, List.append_nil] at h
        exact hxc 44 (by rw [h]; simp) rfl
    | cons z r' =>
      cases q with
      | nil =>
        rw [hx] at h
        exfalso
        have h0 : Lib.joinTail [44, 32] ([] : List (List UInt8)) = [] := rfl
        rw [h0, List.append_nil] at h
        exact hyc 44 (by rw [← h]; simp) rfl
      | cons w q' =>
        have h' := h
        rw [hx, hx] at h'
        obtain ⟨h1, h2⟩ := split_at_stop hxc hyc h'
        have := tail_inj (z :: r') (w :: q') (fun x hx => hl x (by simp [hx])) (fun x hx => hm x (by simp [hx])) (by rw [hx, hx, h2])
        rw [h1, this]
theorem join_inj {l m : List (List UInt8)} (hl : ∀ x ∈ l, x ≠ [] ∧ ∀ c ∈ x, c ≠ 44) (hm : ∀ x ∈ m, x ≠ [] ∧ ∀ c ∈ x, c ≠ 44) (h : Lib.join l [44, 32] = Lib.join m [44, 32]) : l = m := by
  cases l with
  | nil =>
    cases m with
    | nil => rfl
    | cons y q =>
      rw [Lib.join_cons] at h
      have h0 : Lib.join [] [44, 32] = ([] : List UInt8) := rfl
      rw [h0] at h
      have := (List.append_eq_nil_iff.1 h.symm).1
      exact absurd this (hm y (by simp)).1
  | cons x r =>
    cases m with
    | nil =>
      rw [Lib.join_cons] at h
      have h0 : Lib.join [] [44, 32] = ([] : List UInt8) := rfl
      rw [h0] at h
      have := (List.append_eq_nil_iff.1 h).1
      exact absurd this (hl x (by simp)).1
    | cons y q =>
      refine tail_inj (x :: r) (y :: q) (fun z hz => (hl z hz).2) (fun z hz => (hm z hz).2) ?_
      have hx : ∀ (x : List UInt8) (r : List (List UInt8)), Lib.joinTail [44, 32] (x :: r) = [44, 32] ++ (x ++ Lib.joinTail [44, 32] r) := by intro x r; simp [Lib.joinTail]
      rw [hx, hx, ← Lib.join_cons, ← Lib.join_cons, h]
end Go.Vg
namespace Go.Proofs.YtamednbojpnalaaGreatDoor
open Go Go.Vg Go.Proofs
theorem signS_inj {s t : Sg} (hs : ∀ p ∈ s.params, plainS p) (ht : ∀ p ∈ t.params, plainS p) : signS s = signS t ↔ s.params = t.params ∧ s.result = t.result := by
  constructor
  · intro h
    have hd := congrArg (fun z : ByteArray => z.data.toList) h
    have hform : ∀ s : Sg, (signS s).data.toList = 40 :: (Lib.join (s.params.map fun x => x.data.toList) [44, 32] ++ 41 :: 32 :: s.result.data.toList) := by
      intro s
      unfold signS
      rw [ByteArray.data_append, ByteArray.data_append, ByteArray.data_append, Array.toList_append, Array.toList_append, Array.toList_append, joinC_data]
      simp
    simp only [hform, List.cons.injEq, true_and] at hd
    have hp : ∀ (l : List ByteArray), (∀ p ∈ l, plainS p) → ∀ c ∈ Lib.join (l.map fun x => x.data.toList) [44, 32], c ≠ 41 := by
      intro l hl
      refine join_noparen _ fun x hx c hc => ?_
      obtain ⟨p, hp, rfl⟩ := List.mem_map.1 hx
      exact ((hl p hp).2 c hc).2
    obtain ⟨h1, h2⟩ := split_at_stop (hp _ hs) (hp _ ht) hd
    have hm : ∀ (l : List ByteArray), (∀ p ∈ l, plainS p) → ∀ x ∈ (l.map fun x => x.data.toList), x ≠ [] ∧ ∀ c ∈ x, c ≠ 44 := by
      intro l hl x hx
      obtain ⟨p, hp, rfl⟩ := List.mem_map.1 hx
      exact ⟨(hl p hp).1, fun c hc => ((hl p hp).2 c hc).1⟩
    have h3 := join_inj (hm _ hs) (hm _ ht) h1
    refine ⟨?_, ba_of _ _ (by simpa using h2)⟩
    have hinj : ∀ (l m : List ByteArray), (l.map fun x => x.data.toList) = (m.map fun x => x.data.toList) → l = m := by
      intro l
      induction l with
      | nil => intro m hm; cases m with | nil => rfl | cons _ _ => simp at hm
      | cons x r ih =>
        intro m hm
        cases m with
        | nil => simp at hm
        | cons y q =>
          rw [List.map_cons, List.map_cons, List.cons.injEq] at hm
          rw [ba_of _ _ hm.1, ih q hm.2]
    exact hinj _ _ h3
  · rintro ⟨h1, h2⟩
    unfold signS
    rw [h1, h2]
end Go.Proofs.YtamednbojpnalaaGreatDoor
