/- The program's changes are the reference's. -/
import Derived.Test.YtamednbojpnalaaGreatDoorUaC
set_option linter.unusedVariables false
set_option linter.unusedSimpArgs false
set_option maxRecDepth 20000
namespace Go.Proofs.YtamednbojpnalaaGreatDoor
open Go Go.Vg Go.Proofs
theorem sigU_plain {a : List Un} {o n : ByteArray} {s : Sg} (h : sigU (a.map Un.sound) o n = some s) : ∀ p ∈ s.params, plainS p := by
  unfold sigU at h
  rw [sounds_fix] at h
  unfold ofU at h
  cases hf : findD (declsU (a.map Un.sound) 0) (kindOf o) o n with
  | none => rw [hf] at h; cases h
  | some d =>
    rw [hf, Option.bind_some] at h
    have hm : d ∈ declsU (a.map Un.sound) 0 := List.mem_of_find?_eq_some hf
    have hk : d.kind = kindOf o := by
      have := List.find?_some hf
      simp at this; exact this.1.1
    obtain ⟨un, x, e1, e2, e3, nd, y, e4, e5, e6, e7, e8⟩ := declsU_at _ 0 d hm
    rw [Nat.zero_add] at e1 e4
    rw [e1, Int.toNat_natCast, e2, e4, Int.toNat_natCast] at h
    simp only [Option.map_some, Option.some.injEq] at h
    subst h
    have hg := soundU_good (List.mem_of_getElem? e2) e3
    have h2 : y.kind = 2 := e8 (by rw [hk]; unfold kindOf; split <;> simp)
    exact fun p hp => plain_of (sign_valid hg e5 h2 p hp)
theorem sigD_plain (a : List Un) (d : Dl) : ∀ p ∈ (sigD (a.map Un.sound) d).params, plainS p := by
  unfold sigD
  cases h : sigU (a.map Un.sound) (ownD d) d.name with
  | none => intro p hp; simp at hp
  | some s => exact sigU_plain h
/-- The callables of a project. -/
def calA (a : List Un) : List Cb := sortC (calL (a.map Un.sound) (declsU (a.map Un.sound) 0))
theorem calA_nodup (a : List Un) : (calA a).Pairwise fun p q => p.name ≠ q.name := (sortC_perm _).symm.pairwise (calL_nodup _ _) fun h e => h e.symm
theorem calA_mem (a : List Un) (c : Cb) : c ∈ calA a ↔ ∃ d, findC c.name (declsU (a.map Un.sound) 0) = some d ∧ c = mkC (a.map Un.sound) d := by
  unfold calA
  rw [(sortC_perm _).mem_iff]
  exact calL_mem _ (okD_of a) c
theorem findC_ne {a : List Un} {n : ByteArray} {d : Dl} (h : findC n (declsU (a.map Un.sound) 0) = some d) : n ≠ ⟨#[]⟩ := by
  obtain ⟨h1, h2⟩ := findC_name h
  rw [← h2]
  exact nameD_ne (List.mem_of_find?_eq_some h) h1
/-- From the program's declaration to the reference's. -/
theorem cross1 {a : List Un} {n : ByteArray} {d : Dl} (h : findC n (declsU (a.map Un.sound) 0) = some d) : ∃ e, firstD (a.filter soundB) n = some e ∧ sigD (a.map Un.sound) d = sigD (a.filter soundB) e ∧ pathU (a.map Un.sound) d.unit = pathU (a.filter soundB) e.unit := by
  have hc := cross (a := a) n (findC_ne h)
  rw [h] at hc
  cases hf : firstD (a.filter soundB) n with
  | none => rw [hf] at hc; cases hc
  | some e =>
    rw [hf] at hc
    simp only [Option.map_some, Option.some.injEq, Prod.mk.injEq] at hc
    exact ⟨e, rfl, sigD_off hc.1, hc.2⟩
theorem cross2 {a : List Un} {n : ByteArray} {e : Dl} (h : firstD (a.filter soundB) n = some e) : ∃ d, findC n (declsU (a.map Un.sound) 0) = some d ∧ sigD (a.map Un.sound) d = sigD (a.filter soundB) e ∧ pathU (a.map Un.sound) d.unit = pathU (a.filter soundB) e.unit := by
  have hn : n ≠ ⟨#[]⟩ := by
    rintro rfl
    have := List.find?_some h
    simp at this
  have hc := cross (a := a) n hn
  rw [h] at hc
  cases hf : findC n (declsU (a.map Un.sound) 0) with
  | none => rw [hf] at hc; cases hc
  | some d =>
    rw [hf] at hc
    simp only [Option.map_some, Option.some.injEq, Prod.mk.injEq] at hc
    exact ⟨d, rfl, sigD_off hc.1, hc.2⟩
theorem firstD_mem {x : List Un} {n : ByteArray} {e : Dl} (h : firstD x n = some e) : e ∈ declsU x 0 ∧ qualD e = n := by
  refine ⟨List.mem_of_find?_eq_some h, ?_⟩
  have := List.find?_some h
  simp at this
  exact this.2
theorem ch_fi {a b : List Un} {c : Ch} (h : c ∈ chL (calA a) (calA b)) : chT c = fiG (a.filter soundB) (b.filter soundB) c.name ∧ (chgS (a.filter soundB) (b.filter soundB) c.name).2.2 = true ∧ c.was = (chgS (a.filter soundB) (b.filter soundB) c.name).1 ∧ c.now = (chgS (a.filter soundB) (b.filter soundB) c.name).2.1 ∧ ∃ e, firstD (a.filter soundB) c.name = some e := by
  obtain ⟨p, hp, q, hq, h1, h2, rfl⟩ := (chL_mem (calA_nodup a) c).1 h
  obtain ⟨d, d1, d2⟩ := (calA_mem a p).1 hp
  obtain ⟨e, e1, e2⟩ := (calA_mem b q).1 hq
  obtain ⟨d', f1, f2, f3⟩ := cross1 d1
  obtain ⟨e', g1, g2, g3⟩ := cross1 e1
  rw [h1] at f1
  have hs1 : p.sign = signS (sigD (a.filter soundB) d') := by rw [← f2, d2]; rfl
  have hs2 : q.sign = signS (sigD (b.filter soundB) e') := by rw [← g2, e2]; rfl
  have hpa : q.path = pathU (b.filter soundB) e'.unit := by rw [← g3, e2]; rfl
  have hch : chgS (a.filter soundB) (b.filter soundB) q.name = (p.sign, q.sign, true) := by
    unfold chgS
    rw [f1, g1]
    simp only
    rw [← hs1, ← hs2]
    have : (!(decide ((sigD (a.filter soundB) d').params = (sigD (b.filter soundB) e').params) && decide ((sigD (a.filter soundB) d').result = (sigD (b.filter soundB) e').result))) = true := by
      rw [hs1, hs2, signS_inj (by rw [← f2]; exact sigD_plain a d) (by rw [← g2]; exact sigD_plain b e)] at h2
      simp only [Bool.not_eq_true', Bool.and_eq_false_iff, decide_eq_false_iff_not]
      by_cases hq : (sigD (a.filter soundB) d').params = (sigD (b.filter soundB) e').params
      · exact .inr fun h => h2 ⟨hq, h⟩
      · exact .inl hq
    rw [this]
  refine ⟨?_, ?_, ?_, ?_, ?_⟩
  · unfold chT fiG pathF
    rw [hch, g1]
    simp only
    rw [hpa]
  · simp only [hch]
  · simp only [hch]
  · simp only [hch]
  · exact ⟨d', f1⟩
theorem changed_eq (a b : List Un) : (chL (calA a) (calA b)).map Ch.name = chgL (a.filter soundB) (b.filter soundB) (declsU (a.filter soundB) 0) := by
  refine asc_eq (chL_asc (sortC_asc (calL_nodup _ _))) (chgL_asc _ _ _) fun n => ?_
  rw [List.mem_map, chgL_mem]
  constructor
  · rintro ⟨c, hc, rfl⟩
    obtain ⟨_, h1, _, _, e, h2⟩ := ch_fi hc
    exact ⟨e, (firstD_mem h2).1, (firstD_mem h2).2, h1⟩
  · rintro ⟨_, _, _, h⟩
    obtain ⟨d', e', f1, g1⟩ := chgS_first h
    obtain ⟨d, d1, d2, d3⟩ := cross2 f1
    obtain ⟨e, e1, e2, e3⟩ := cross2 g1
    have hnd := (findC_name d1).2
    have hne := (findC_name e1).2
    have hp : mkC (a.map Un.sound) d ∈ calA a := (calA_mem a _).2 ⟨d, by rw [show (mkC (a.map Un.sound) d).name = n from hnd]; exact d1, rfl⟩
    have hq : mkC (b.map Un.sound) e ∈ calA b := (calA_mem b _).2 ⟨e, by rw [show (mkC (b.map Un.sound) e).name = n from hne]; exact e1, rfl⟩
    refine ⟨_, (chL_mem (calA_nodup a) _).2 ⟨_, hp, _, hq, hnd.trans hne.symm, ?_, rfl⟩, hne⟩
    show ¬ signS (sigD (a.map Un.sound) d) = signS (sigD (b.map Un.sound) e)
    rw [signS_inj (sigD_plain a d) (sigD_plain b e), d2, e2]
    unfold chgS at h
    rw [f1, g1] at h
    simp only [Bool.not_eq_true', Bool.and_eq_false_iff, decide_eq_false_iff_not] at h
    rintro ⟨h1, h2⟩
    rcases h with h | h
    · exact h h1
    · exact h h2
theorem diff_eq (a b : List Un) : (chL (calA a) (calA b)).map chT = (chgL (a.filter soundB) (b.filter soundB) (declsU (a.filter soundB) 0)).map (fiG (a.filter soundB) (b.filter soundB)) := by
  rw [← changed_eq, List.map_map]
  exact List.map_congr_left fun c hc => (ch_fi hc).1
end Go.Proofs.YtamednbojpnalaaGreatDoor
