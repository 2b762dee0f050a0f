/- Equality of lists and refactorings. -/
import Derived.Test.YtellnbgljmocgaaGreatDoorTcC
set_option linter.unusedVariables false
set_option linter.unusedSimpArgs false
set_option maxRecDepth 20000
namespace Go.Proofs.YtellnbgljmocgaaGreatDoor
open Go Go.Vg Go.Proofs
@[go_sem] theorem flatFile : flatK Tryz.prog 34 = some [0, 0] := by kernel_rfl
theorem EqualS (a b : List ByteArray) : VPure env 56 [sl 9 (a.map encS), sl 9 (b.map encS)] (.bool (decide (a = b))) := by
  refine vpure_vc (fn := Tryz.f56) Tryz.func56 rfl (by rw [Tryz.ntmps56]; simp) (by simp -implicitDefEqProofs only [go_sem]) rfl ?_
  simp -implicitDefEqProofs only [go_sem, Tryz.f56]
  intro _ h1 _ h2
  refine ⟨fun c => ?_, fun c => ?_⟩
  · have : a ≠ b := by rintro rfl; simp at c
    simp [this]
  have hl : a.length = b.length := by simp at c; omega
  intro _ _
  refine snd_list (β := Unit) a (fun pre _ => ⟨[(13, .int .i64 pre.length), (12, .int .i64 a.length), (4, .bool false), (0, sl 9 (a.map encS)), (1, sl 9 (b.map encS))], [], []⟩) (fun pre _ _ => ∃ r, b = pre ++ r) () ?_ ⟨b, rfl⟩ ?_ ?_
  · simp -implicitDefEqProofs only [go_sem]
    trivial
  · rintro _ ⟨r, hr⟩
    simp -implicitDefEqProofs only [go_sem]
    have : r = [] := List.eq_nil_of_length_eq_zero (by have := congrArg List.length hr; simp at this; omega)
    subst this
    simp [hr]
  · rintro pre x post _ rfl ⟨r, rfl⟩
    rcases r with _ | ⟨y, r⟩
    · simp at hl
    · simp -implicitDefEqProofs only [go_sem]
      skip
      refine snd_draw (cs := []) mixed (by kernel_rfl) ?_
      have hl2 : ((pre.length : Int) < ((pre ++ y :: r).length : Int)) = True := mid_lt
      simp -implicitDefEqProofs only [go_sem, encS, hl2]
      refine ⟨fun c => ?_, fun c => ⟨(), ⟨r, ?_⟩, wrap_next (mid_len' h1 (by decide))⟩⟩
      · simp_all
      · simp_all
theorem EqualI (a b : List Int) : VPure env 29 [sl 3 (a.map encI), sl 3 (b.map encI)] (.bool (decide (a = b))) := by
  refine vpure_vc (fn := Tryz.f29) Tryz.func29 rfl (by rw [Tryz.ntmps29]; simp) (by simp -implicitDefEqProofs only [go_sem]) rfl ?_
  simp -implicitDefEqProofs only [go_sem, Tryz.f29]
  intro _ h1 _ h2
  refine ⟨fun c => ?_, fun c => ?_⟩
  · have : a ≠ b := by rintro rfl; simp at c
    simp [this]
  have hl : a.length = b.length := by simp at c; omega
  intro _ _
  refine snd_list (β := Unit) a (fun pre _ => ⟨[(13, .int .i64 pre.length), (12, .int .i64 a.length), (4, .bool false), (0, sl 3 (a.map encI)), (1, sl 3 (b.map encI))], [], []⟩) (fun pre _ _ => ∃ r, b = pre ++ r) () ?_ ⟨b, rfl⟩ ?_ ?_
  · simp -implicitDefEqProofs only [go_sem]
    trivial
  · rintro _ ⟨r, hr⟩
    simp -implicitDefEqProofs only [go_sem]
    have : r = [] := List.eq_nil_of_length_eq_zero (by have := congrArg List.length hr; simp at this; omega)
    subst this
    simp [hr]
  · rintro pre x post _ rfl ⟨r, rfl⟩
    rcases r with _ | ⟨y, r⟩
    · simp at hl
    · simp -implicitDefEqProofs only [go_sem]
      skip
      refine snd_draw (cs := []) mixed (by kernel_rfl) ?_
      have hl2 : ((pre.length : Int) < ((pre ++ y :: r).length : Int)) = True := mid_lt
      simp -implicitDefEqProofs only [go_sem, encI, hl2]
      refine ⟨fun c => ?_, fun c => ⟨(), ⟨r, ?_⟩, wrap_next (mid_len' h1 (by decide))⟩⟩
      · simp_all
      · simp_all
theorem EqualF (a b : List Fl) : VPure env 30 [sl 34 (a.map Fl.enc), sl 34 (b.map Fl.enc)] (.bool (decide (a = b))) := by
  refine vpure_vc (fn := Tryz.f30) Tryz.func30 rfl (by rw [Tryz.ntmps30]; simp) (by simp -implicitDefEqProofs only [go_sem]) rfl ?_
  simp -implicitDefEqProofs only [go_sem, Tryz.f30]
  intro _ h1 _ h2
  refine ⟨fun c => ?_, fun c => ?_⟩
  · have : a ≠ b := by rintro rfl; simp at c
    simp [this]
  have hl : a.length = b.length := by simp at c; omega
  intro _ _
  refine snd_list (β := Unit) a (fun pre _ => ⟨[(13, .int .i64 pre.length), (12, .int .i64 a.length), (4, .bool false), (0, sl 34 (a.map Fl.enc)), (1, sl 34 (b.map Fl.enc))], [], []⟩) (fun pre _ _ => ∃ r, b = pre ++ r) () ?_ ⟨b, rfl⟩ ?_ ?_
  · simp -implicitDefEqProofs only [go_sem]
    trivial
  · rintro _ ⟨r, hr⟩
    simp -implicitDefEqProofs only [go_sem]
    have : r = [] := List.eq_nil_of_length_eq_zero (by have := congrArg List.length hr; simp at this; omega)
    subst this
    simp [hr]
  · rintro pre x post _ rfl ⟨r, rfl⟩
    rcases r with _ | ⟨y, r⟩
    · simp at hl
    · simp -implicitDefEqProofs only [go_sem]
      skip
      refine snd_draw (cs := []) mixed (by kernel_rfl) ?_
      have hl2 : ((pre.length : Int) < ((pre ++ y :: r).length : Int)) = True := mid_lt
      simp -implicitDefEqProofs only [go_sem, Fl.enc, hl2]
      refine ⟨fun c => ?_, fun c => ⟨(), ⟨r, ?_⟩, wrap_next (mid_len' h1 (by decide))⟩⟩
      · cases x; cases y; simp_all; try (intro e1 e2; simp_all)
      · cases x; cases y; simp_all
theorem shSS {a b : List ByteArray} : List.map share [sl 9 (a.map encS), sl 9 (b.map encS)] = [sl 9 (a.map encS), sl 9 (b.map encS)] := by simp -implicitDefEqProofs only [go_sem]
theorem shII {a b : List Int} : List.map share [sl 3 (a.map encI), sl 3 (b.map encI)] = [sl 3 (a.map encI), sl 3 (b.map encI)] := by simp -implicitDefEqProofs only [go_sem]
theorem Rsame (a b : Rf) : VPure env 32 [.agg a.enc, .agg b.enc] (.bool (decide (a = b))) := by
  refine vpure_vc (fn := Tryz.f32) Tryz.func32 rfl (by rw [Tryz.ntmps32]; simp) (by simp -implicitDefEqProofs only [go_sem]) rfl ?_
  obtain ⟨a1, a2, a3, a4, a5, a6, a7, a8, a9, a10, a11⟩ := a
  obtain ⟨b1, b2, b3, b4, b5, b6, b7, b8, b9, b10, b11⟩ := b
  simp -implicitDefEqProofs only [go_sem, Tryz.f32]
  repeat' (first | apply And.intro | (refine (EqualI a9 b9).calls shII ?_; simp -implicitDefEqProofs only [go_sem]) | (refine (EqualS a10 b10).calls shSS ?_; simp -implicitDefEqProofs only [go_sem]) | (refine (EqualS a11 b11).calls shSS ?_; simp -implicitDefEqProofs only [go_sem]) | intro)
  all_goals simp_all
theorem EqualR (a b : List Rf) : VPure env 31 [sl 60 (a.map Rf.enc), sl 60 (b.map Rf.enc), .func 32 []] (.bool (decide (a = b))) := by
  refine vpure_vc (fn := Tryz.f31) Tryz.func31 rfl (by rw [Tryz.ntmps31]; simp) (by simp -implicitDefEqProofs only [go_sem]) rfl ?_
  simp -implicitDefEqProofs only [go_sem, Tryz.f31]
  intro _ h1 _ h2
  refine ⟨fun c => ?_, fun c => ?_⟩
  · have : a ≠ b := by rintro rfl; simp at c
    simp [this]
  have hl : a.length = b.length := by simp at c; omega
  intro _ _
  refine snd_list (β := Unit) a (fun pre _ => ⟨[(17, .int .i64 pre.length), (16, .int .i64 a.length), (15, sl 60 (a.map Rf.enc)), (6, .bool false), (0, sl 60 (a.map Rf.enc)), (1, sl 60 (b.map Rf.enc)), (2, .func 32 [])], [], []⟩) (fun pre _ _ => ∃ r, b = pre ++ r) () ?_ ⟨b, rfl⟩ ?_ ?_
  · simp -implicitDefEqProofs only [go_sem]
    trivial
  · rintro _ ⟨r, hr⟩
    simp -implicitDefEqProofs only [go_sem]
    have : r = [] := List.eq_nil_of_length_eq_zero (by have := congrArg List.length hr; simp at this; omega)
    subst this
    simp [hr]
  · rintro pre x post _ rfl ⟨r, rfl⟩
    rcases r with _ | ⟨y, r⟩
    · simp at hl
    · simp -implicitDefEqProofs only [go_sem]
      refine (Rsame x y).calls (by simp -implicitDefEqProofs only [go_sem]) ?_
      simp -implicitDefEqProofs only [go_sem]
      refine ⟨fun c => ?_, fun c => ⟨(), ⟨r, ?_⟩, wrap_next (mid_len' h1 (by decide))⟩⟩
      · simp_all
      · simp_all
theorem shFF {a b : List Fl} : List.map share [sl 34 (a.map Fl.enc), sl 34 (b.map Fl.enc)] = [sl 34 (a.map Fl.enc), sl 34 (b.map Fl.enc)] := by simp -implicitDefEqProofs only [go_sem]
@[go_sem] theorem share_func {f : Nat} {cs : List V} : share (V.func f cs) = V.func f cs := rfl
theorem shRR {a b : List Rf} {f : Nat} : List.map share [sl 60 (a.map Rf.enc), sl 60 (b.map Rf.enc), .func f []] = [sl 60 (a.map Rf.enc), sl 60 (b.map Rf.enc), .func f []] := by simp -implicitDefEqProofs only [go_sem]
theorem CSame (a b : Cm) : VPure env 9 [.agg a.enc, .agg b.enc] (.bool (decide (a = b))) := by
  refine vpure_vc (fn := Tryz.f9) Tryz.func9 rfl (by rw [Tryz.ntmps9]; simp) (by simp -implicitDefEqProofs only [go_sem]) rfl ?_
  obtain ⟨a1, a2, a3, a4, a5⟩ := a
  obtain ⟨b1, b2, b3, b4, b5⟩ := b
  simp -implicitDefEqProofs only [go_sem, Tryz.f9]
  repeat' (first | apply And.intro | (refine (EqualI a2 b2).calls shII ?_; simp -implicitDefEqProofs only [go_sem]) | (refine (EqualF a3 b3).calls shFF ?_; simp -implicitDefEqProofs only [go_sem]) | (refine (EqualR a5 b5).calls shRR ?_; simp -implicitDefEqProofs only [go_sem]) | intro)
  all_goals simp_all
end Go.Proofs.YtellnbgljmocgaaGreatDoor
