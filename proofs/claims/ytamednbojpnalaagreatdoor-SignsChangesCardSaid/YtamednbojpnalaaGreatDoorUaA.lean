/- Facts about the declarations of sound projects. -/
import Derived.Test.YtamednbojpnalaaGreatDoorToX
set_option linter.unusedVariables false
set_option linter.unusedSimpArgs false
set_option maxRecDepth 20000
namespace Go.Vg
def goodN (n : Nd) : Prop := ∀ y ∈ nodes n, y.node = 0
theorem node_name {y : Nd} (h : y.node = 0) (hk : y.kind = 2 ∨ y.kind = 5 ∨ y.kind = 7) : validName y.text = true := by
  unfold Nd.node at h
  have h17 : y.kind ≠ 17 := by omega
  have hn : namedK y.kind y.text = true := by
    unfold namedK
    rw [if_neg (by omega)]
    simp only [decide_eq_true_eq]
    omega
  split at h
  · cases h
  · split at h
    · cases h
    · rename_i hv
      simp only [h17, decide_false, Bool.false_and, Bool.not_false, Bool.true_and, Bool.false_or, hn, Bool.not_eq_true, Bool.not_eq_false'] at hv
      exact hv
theorem valid_ne {s : ByteArray} (h : validName s = true) : s ≠ ⟨#[]⟩ := by
  rintro rfl
  have : validName ⟨#[]⟩ = false := by decide +kernel
  rw [this] at h; cases h
def factD (d : Dl) : Prop := (d.kind = 1 → d.owner = ⟨#[]⟩ ∧ validName d.name = true) ∧ (d.kind = 4 → validName d.owner = true ∧ validName d.name = true)
theorem factD_no {d : Dl} (h1 : d.kind ≠ 1) (h4 : d.kind ≠ 4) : factD d := ⟨fun h => absurd h h1, fun h => absurd h h4⟩
theorem walk_facts : ∀ (n : Nd) (u : Int) (m : Nat) (x : Ar), goodN n → (x.method = true → validName x.cls = true) → ∀ d ∈ walkD n u m x, factD d := by
  refine Nd.all fun k t g ks ih u m x hg hx d hd => ?_
  have hs : ∀ l : List Nd, (∀ y ∈ l, ∀ (u : Int) (m : Nat) (x : Ar), goodN y → (x.method = true → validName x.cls = true) → ∀ d ∈ walkD y u m x, factD d) →
      ∀ (m : Nat) (x : Ar), (∀ y ∈ nodesL l, y.node = 0) → (x.method = true → validName x.cls = true) → ∀ d ∈ walkDs l u m x, factD d := by
    intro l
    induction l with
    | nil => intro _ m x _ _ d hd; simp [walkDs] at hd
    | cons y r ihr =>
      intro h m x hn hx d hd
      rw [walkDs, List.mem_append] at hd
      rcases hd with hd | hd
      · have hgy : goodN y := fun z hz => hn z (by rw [nodesL]; exact List.mem_append_left _ hz)
        exact h y (by simp) u m x hgy hx d hd
      · have hgr : ∀ z ∈ nodesL r, z.node = 0 := fun z hz => hn z (by rw [nodesL]; exact List.mem_append_right _ hz)
        exact ihr (fun z hz => h z (by simp [hz])) _ x hgr hx d hd
  have h0 : (Nd.mk k t g ks).node = 0 := hg _ (self_mem _)
  rw [walkD, List.mem_append] at hd
  rcases hd with hd | hd
  · unfold declT at hd
    have hv2 : k = 2 → validName t = true := fun e => node_name (y := .mk k t g ks) h0 (.inl e)
    split at hd
    · rename_i h2
      split at hd
      · rename_i hm
        simp only [Option.toList_some, List.mem_singleton] at hd
        subst hd
        exact ⟨fun h => absurd (show (4 : Int) = 1 from h) (by decide), fun _ => ⟨hx hm, hv2 h2⟩⟩
      · simp only [Option.toList_some, List.mem_singleton] at hd
        subst hd
        exact ⟨fun _ => ⟨rfl, hv2 h2⟩, fun h => absurd (show (1 : Int) = 4 from h) (by decide)⟩
    · repeat' split at hd
      all_goals first
        | (simp only [Option.toList_some, List.mem_singleton] at hd; rw [hd]; exact factD_no (by simp) (by simp))
        | (simp at hd)
  · have hgk : ∀ y ∈ nodesL ks, y.node = 0 := fun y hy => hg y (by rw [nodes]; exact List.mem_cons_of_mem _ hy)
    refine hs ks ih _ _ hgk (fun hm => ?_) d hd
    unfold belowT at hm ⊢
    simp only [decide_eq_true_eq] at hm
    exact node_name (y := .mk k t g ks) h0 (.inr (.inr hm))
theorem walk_short : ∀ (n : Nd) (u : Int) (m : Nat) (x : Ar), short n → x.cls.size ≤ 1000000 → x.fn.size ≤ 2000001 → ∀ d ∈ walkD n u m x, d.owner.size ≤ 3000000 ∧ d.name.size ≤ 1000000 := by
  refine Nd.all fun k t g ks ih u m x hg hx hf d hd => ?_
  have hs : ∀ l : List Nd, (∀ y ∈ l, ∀ (u : Int) (m : Nat) (x : Ar), short y → x.cls.size ≤ 1000000 → x.fn.size ≤ 2000001 → ∀ d ∈ walkD y u m x, d.owner.size ≤ 3000000 ∧ d.name.size ≤ 1000000) →
      ∀ (m : Nat) (x : Ar), (∀ y ∈ nodesL l, y.text.size ≤ 1000000) → x.cls.size ≤ 1000000 → x.fn.size ≤ 2000001 → ∀ d ∈ walkDs l u m x, d.owner.size ≤ 3000000 ∧ d.name.size ≤ 1000000 := by
    intro l
    induction l with
    | nil => intro _ m x _ _ _ d hd; simp [walkDs] at hd
    | cons y r ihr =>
      intro h m x hn hx hf d hd
      rw [walkDs, List.mem_append] at hd
      rcases hd with hd | hd
      · exact h y (by simp) u m x (fun z hz => hn z (by rw [nodesL]; simp [hz])) hx hf d hd
      · exact ihr (fun z hz => h z (by simp [hz])) _ x (fun z hz => hn z (by rw [nodesL]; simp [hz])) hx hf d hd
  have ht : t.size ≤ 1000000 := hg _ (self_mem _)
  have h0 : (⟨#[]⟩ : ByteArray).size = 0 := rfl
  rw [walkD, List.mem_append] at hd
  rcases hd with hd | hd
  · unfold declT at hd
    repeat' split at hd
    all_goals first
      | (simp only [Option.toList_some, List.mem_singleton] at hd; subst hd; exact ⟨by first | omega | (simp only; omega) | exact Nat.zero_le _, ht⟩)
      | (simp at hd)
  · refine hs ks ih _ _ (fun y hy => hg y (by rw [nodes]; simp [hy])) ?_ ?_ d hd
    · exact ht
    · unfold belowT
      simp only
      split
      · split
        · rw [ByteArray.size_append, ByteArray.size_append]
          have : (⟨#[46]⟩ : ByteArray).size = 1 := rfl
          omega
        · omega
      · exact hf
end Go.Vg
namespace Go.Proofs.YtamednbojpnalaaGreatDoor
open Go Go.Vg Go.Proofs
theorem declsU_walk : ∀ (u : List Un) (i : Nat) (d : Dl), d ∈ declsU u i → ∃ x ∈ u, x.broken = false ∧ ∃ j : Nat, d ∈ walkD x.tree j 0 Ar.none
  | [], i, d, h => by simp [declsU] at h
  | x :: r, i, d, h => by
    rw [declsU, List.mem_append] at h
    rcases h with h | h
    · split at h
      · cases h
      · rename_i hb
        exact ⟨x, by simp, by simpa using hb, i, h⟩
    · obtain ⟨y, hy, hb, j, hj⟩ := declsU_walk r (i + 1) d h
      exact ⟨y, by simp [hy], hb, j, hj⟩
theorem shortD_of {u : List Un} (hu : fitU u) : shortD u := by
  intro d hd
  obtain ⟨x, hx, hb, j, hj⟩ := declsU_walk u 0 d hd
  exact walk_short x.tree j 0 Ar.none (hu.2 x hx).2 (Nat.zero_le _) (Nat.zero_le _) d hj
theorem soundU_good {a : List Un} {x : Un} (hx : x ∈ a.map Un.sound) (hb : x.broken = false) : goodN x.tree := by
  obtain ⟨x0, hx0, rfl⟩ := List.mem_map.1 hx
  have hs : soundB x0 = true := by
    cases hc : soundB x0 with
    | true => rfl
    | false => rw [Un.sound, hc] at hb; cases hb
  rw [sound_fix hs]
  have hck : checkN x0.tree = 0 := by simp [soundB] at hs; exact hs.2
  intro y hy
  unfold checkN at hck
  split at hck
  · cases hck
  · exact firstN_zero _ hck y hy
theorem decl_facts {a : List Un} {d : Dl} (hd : d ∈ declsU (a.map Un.sound) 0) : factD d := by
  obtain ⟨x, hx, hb, j, hj⟩ := declsU_walk _ 0 d hd
  exact walk_facts x.tree j 0 Ar.none (soundU_good hx hb) (fun h => by cases h) d hj
end Go.Proofs.YtamednbojpnalaaGreatDoor
