/- The law about changed signatures. -/
import Derived.Test.YtamednbojpnalaaGreatDoorUaD
import Derived.Test.YtamednbojpnalaaGreatDoorToN
set_option linter.unusedVariables false
set_option linter.unusedSimpArgs false
set_option maxRecDepth 20000
namespace Go.Proofs.YtamednbojpnalaaGreatDoor
open Go Go.Vg Go.Proofs
theorem calls_of {a : List Un} (hu : fitU a) (hg : gapsU a) : VPure env 69 [sl 34 (a.map Un.enc)] (sl 119 ((calA a).map Cb.enc)) :=
  ScalAll a (sg_of hu hg) (sg_of (fit_sound hu) (gaps_sound hg)) (shortD_of (fit_sound hu))
theorem calA_len {a : List Un} (hu : fitU a) : (calA a).length ≤ 1000000 := by
  have h1 := calL_len (a.map Un.sound) (declsU (a.map Un.sound) 0)
  have h2 := declsU_len (a.map Un.sound) 0 fun y hy => ((fit_sound hu).2 y hy).1
  have h3 := (fit_sound hu).1
  have h4 : (calA a).length = _ := (sortC_perm _).length_eq
  omega
theorem oldB_no {l : List Cb} (hn : l.Pairwise fun p q => p.name ≠ q.name) : ∀ pre x post, l = pre ++ x :: post → (getB (oldB pre) x.name).isSome = false := by
  rintro pre x post rfl
  cases h : getB (oldB pre) x.name with
  | none => rfl
  | some w =>
    obtain ⟨c, hc, h1, _⟩ := getB_mem' h
    have := (List.pairwise_append.1 hn).2.2 c hc x (by simp)
    exact absurd h1 this
theorem changes_of {a b : List Un} (ha : fitU a) (hga : gapsU a) (hb : fitU b) (hgb : gapsU b) : VPure env 45 [sl 34 (a.map Un.enc), sl 34 (b.map Un.enc)] (sl 86 ((chL (calA a) (calA b)).map Ch.enc)) :=
  Schanges a b _ _ (calls_of ha hga) (calls_of hb hgb) (oldB_no (calA_nodup a)) (calA_len ha) (calA_len hb)
theorem chA_len {a b : List Un} (hb : fitU b) : (chL (calA a) (calA b)).length ≤ 1000000 := Nat.le_trans (chs_len _) (calA_len hb)
theorem changed_of {a b : List Un} (ha : fitU a) (hga : gapsU a) (hb : fitU b) (hgb : gapsU b) : VPure env 17 [sl 34 (a.map Un.enc), sl 34 (b.map Un.enc)] (sl 9 (((chL (calA a) (calA b)).map Ch.name).map encS)) :=
  Schanged a b _ (changes_of ha hga hb hgb) (chA_len hb)
theorem sgF {a : List Un} (ha : fitU a) (hga : gapsU a) : sgOK (a.filter soundB) := sg_of (fit_filter ha) (gaps_filter hga)
theorem diff_of {a b : List Un} (ha : fitU a) (hga : gapsU a) (hb : fitU b) (hgb : gapsU b) : VPure env 19 [sl 34 (a.map Un.enc), sl 34 (b.map Un.enc)] (sl 42 (((chL (calA a) (calA b)).map chT).map Fi.enc)) :=
  Sdiff a b _ (changes_of ha hga hb hgb) (chA_len hb) fun c hc => by
    obtain ⟨_, _, h1, h2, _⟩ := ch_fi hc
    have := chgS_size (sgF ha hga) (sgF hb hgb) c.name
    rw [h1, h2]
    omega
theorem SignsDiffs_law (a b : List Un) : VPure env 5 [sl 34 (a.map Un.enc), sl 34 (b.map Un.enc)] (.bool true) := by
  refine vpure_vc (fn := Tryz.f5) Tryz.func5 rfl (by rw [Tryz.ntmps5]; simp) (by simp -implicitDefEqProofs only [go_sem]; simp only [uns_pure]; rfl) rfl ?_
  simp -implicitDefEqProofs only [go_sem, Tryz.f5]
  refine (Lfit a).calls (by simp -implicitDefEqProofs only [go_sem]) ?_
  cases hfa : fitB a with
  | false =>
    simp -implicitDefEqProofs only [go_sem]
    refine Lawake.calls (by simp -implicitDefEqProofs only [go_sem]) ?_
    simp -implicitDefEqProofs only [go_sem]
  | true =>
    simp -implicitDefEqProofs only [go_sem]
    refine (Lfit b).calls (by simp -implicitDefEqProofs only [go_sem]) ?_
    cases hfb : fitB b with
    | false =>
      simp -implicitDefEqProofs only [go_sem]
      refine Lawake.calls (by simp -implicitDefEqProofs only [go_sem]) ?_
      simp -implicitDefEqProofs only [go_sem]
    | true =>
      have hfu : fitsU a 3 160 6000 = true := by
        unfold fitB at hfa
        exact (Bool.and_eq_true_iff.1 hfa).1
      have hfv : fitsU b 3 160 6000 = true := by
        unfold fitB at hfb
        exact (Bool.and_eq_true_iff.1 hfb).1
      obtain ⟨hu, hg⟩ := fits_of hfu
      obtain ⟨hv, hk⟩ := fits_of hfv
      have c1 := changed_of hu hg hv hk
      have c2 := R40Changed a b hg hk hu.1 hv.1 (sgF hu hg) (sgF hv hk) (shortD_of (fit_filter hu)) (shortD_of (fit_filter hv))
      have d1 := diff_of hu hg hv hk
      have d2 := R40Diff a b hg hk hu.1 hv.1 (sgF hu hg) (sgF hv hk) (shortD_of (fit_filter hu)) (shortD_of (fit_filter hv))
      rw [← changed_eq] at c2
      rw [← diff_eq] at d2
      generalize chL (calA a) (calA b) = l at c1 c2 d1 d2 ⊢
      simp -implicitDefEqProofs only [go_sem]
      refine Lawake.calls (by simp -implicitDefEqProofs only [go_sem]) ?_
      simp -implicitDefEqProofs only [go_sem]
      have e1 : decide (l.map Ch.name = l.map Ch.name) = true := by simp
      have e2 : decide (l.map chT = l.map chT) = true := by simp
      refine c1.calls (by simp -implicitDefEqProofs only [go_sem]) ?_
      simp -implicitDefEqProofs only [go_sem]
      refine c2.calls (by simp -implicitDefEqProofs only [go_sem]) ?_
      simp -implicitDefEqProofs only [go_sem]
      refine (R03Strings (l.map Ch.name) (l.map Ch.name)).calls (by simp -implicitDefEqProofs only [go_sem]) ?_
      rw [e1]
      simp -implicitDefEqProofs only [go_sem]
      refine d1.calls (by simp -implicitDefEqProofs only [go_sem]) ?_
      simp -implicitDefEqProofs only [go_sem]
      refine d2.calls (by simp -implicitDefEqProofs only [go_sem]) ?_
      simp -implicitDefEqProofs only [go_sem]
      refine (R40Same (l.map chT) (l.map chT)).calls (by simp -implicitDefEqProofs only [go_sem]) ?_
      rw [e2]
      simp -implicitDefEqProofs only [go_sem]
end Go.Proofs.YtamednbojpnalaaGreatDoor
