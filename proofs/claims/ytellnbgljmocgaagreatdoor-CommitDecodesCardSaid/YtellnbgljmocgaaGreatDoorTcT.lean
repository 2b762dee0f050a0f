/- Equality, as the reference has it. -/
import Derived.Test.YtellnbgljmocgaaGreatDoorTcD
set_option linter.unusedVariables false
set_option linter.unusedSimpArgs false
set_option maxRecDepth 20000
namespace Go.Proofs.YtellnbgljmocgaaGreatDoor
open Go Go.Vg Go.Proofs
theorem R49strings2 (a b : List ByteArray) : VPure env 47 [sl 9 (a.map encS), sl 9 (b.map encS)] (.bool (decide (a = b))) := by
  refine vpure_vc (fn := Tryz.f47) Tryz.func47 rfl (by rw [Tryz.ntmps47]; simp) (by simp -implicitDefEqProofs only [go_sem]) rfl ?_
  simp -implicitDefEqProofs only [go_sem, Tryz.f47]
  intro _ h1 _ h2
  refine ⟨fun c => ?_, fun c => ?_⟩
  · have : a ≠ b := by rintro rfl; simp at c
    simp [this]
  have hl : a.length = b.length := by simp at c; omega
  skip
  refine snd_list (β := Unit) a (fun pre _ => ⟨[(5, .int .i64 pre.length), (4, .bool false), (0, sl 9 (a.map encS)), (1, sl 9 (b.map encS))], [], []⟩) (fun pre _ _ => ∃ r, b = pre ++ r) () ?_ ⟨b, rfl⟩ ?_ ?_
  · simp -implicitDefEqProofs only [go_sem]
    trivial
  · rintro _ ⟨r, hr⟩
    simp -implicitDefEqProofs only [go_sem]
    have : r = [] := List.eq_nil_of_length_eq_zero (by have := congrArg List.length hr; simp at this; omega)
    subst this
    simp [hr]
  · rintro pre x post _ rfl ⟨r, rfl⟩
    rcases r with _ | ⟨y, r⟩
    · simp at hl
    · simp -implicitDefEqProofs only [go_sem]
      intro _ _
      refine snd_draw (cs := []) mixed (by kernel_rfl) ?_
      have hl2 : ((pre.length : Int) < ((pre ++ y :: r).length : Int)) = True := mid_lt
      simp -implicitDefEqProofs only [go_sem, encS, hl2]
      refine ⟨fun c => ?_, fun c => ⟨(), ⟨r, ?_⟩, wrap_next (mid_len' h1 (by decide))⟩⟩
      · simp_all
      · simp_all
theorem R11SameFiles (a b : List Fl) : VPure env 22 [sl 34 (a.map Fl.enc), sl 34 (b.map Fl.enc)] (.bool (decide (a = b))) := by
  refine vpure_vc (fn := Tryz.f22) Tryz.func22 rfl (by rw [Tryz.ntmps22]; simp) (by simp -implicitDefEqProofs only [go_sem]) rfl ?_
  simp -implicitDefEqProofs only [go_sem, Tryz.f22]
  intro _ h1 _ h2
  refine ⟨fun c => ?_, fun c => ?_⟩
  · have : a ≠ b := by rintro rfl; simp at c
    simp [this]
  have hl : a.length = b.length := by simp at c; omega
  skip
  refine snd_list (β := Unit) a (fun pre _ => ⟨[(5, .int .i64 pre.length), (4, .bool false), (0, sl 34 (a.map Fl.enc)), (1, sl 34 (b.map Fl.enc))], [], []⟩) (fun pre _ _ => ∃ r, b = pre ++ r) () ?_ ⟨b, rfl⟩ ?_ ?_
  · simp -implicitDefEqProofs only [go_sem]
    trivial
  · rintro _ ⟨r, hr⟩
    simp -implicitDefEqProofs only [go_sem]
    have : r = [] := List.eq_nil_of_length_eq_zero (by have := congrArg List.length hr; simp at this; omega)
    subst this
    simp [hr]
  · rintro pre x post _ rfl ⟨r, rfl⟩
    rcases r with _ | ⟨y, r⟩
    · simp at hl
    · simp -implicitDefEqProofs only [go_sem]
      intro _ _
      refine snd_draw (cs := []) mixed (by kernel_rfl) ?_
      have hl2 : ((pre.length : Int) < ((pre ++ y :: r).length : Int)) = True := mid_lt
      simp -implicitDefEqProofs only [go_sem, Fl.enc, hl2]
      refine ⟨fun c => ?_, fun c => ⟨(), ⟨r, ?_⟩, wrap_next (mid_len' h1 (by decide))⟩⟩
      · cases x; cases y; simp_all; try (intro e1 e2; simp_all)
      · cases x; cases y; simp_all
theorem R49Same (a b : Rf) : VPure env 23 [.agg a.enc, .agg b.enc] (.bool (decide (a = b))) := by
  refine vpure_vc (fn := Tryz.f23) Tryz.func23 rfl (by rw [Tryz.ntmps23]; simp) (by simp -implicitDefEqProofs only [go_sem]) rfl ?_
  obtain ⟨a1, a2, a3, a4, a5, a6, a7, a8, a9, a10, a11⟩ := a
  obtain ⟨b1, b2, b3, b4, b5, b6, b7, b8, b9, b10, b11⟩ := b
  simp -implicitDefEqProofs only [go_sem, Tryz.f23]
  repeat' (first | apply And.intro | (refine fun (_ : @Eq Bool _ _) => ?_) | (refine fun (_ : @LE.le Nat _ _ _) => ?_))
  all_goals (try (simp_all; done))
  · have : a9 ≠ b9 := by rintro rfl; simp_all
    simp [this]
  have hl : a9.length = b9.length := by
    have : (!decide ((a9.length : Int) = (b9.length : Int))) = false := by assumption
    simp at this; omega
  have hb : b9.length ≤ 140737488355328 := by assumption
  have ha : a9.length ≤ 140737488355328 := by omega
  have q1 : a1 = b1 := by simp_all
  have q2 : a2 = b2 := by simp_all
  have q3 : a3 = b3 := by simp_all
  have q4 : a4 = b4 := by simp_all
  have q5 : a5 = b5 := by simp_all
  have q6 : a6 = b6 := by simp_all
  have q7 : a7 = b7 := by simp_all
  have q8 : a8 = b8 := by simp_all
  refine snd_list (β := Unit) a9 (fun pre _ => ⟨[(5, .int .i64 pre.length), (4, .bool false), (3, .ptr 1 0), (2, .ptr 0 0)], [.cells (Rf.enc ⟨a1, a2, a3, a4, a5, a6, a7, a8, a9, a10, a11⟩), .cells (Rf.enc ⟨b1, b2, b3, b4, b5, b6, b7, b8, b9, b10, b11⟩)], []⟩) (fun pre _ _ => ∃ r, b9 = pre ++ r) () ?_ ⟨b9, rfl⟩ ?_ ?_
  · simp -implicitDefEqProofs only [go_sem]
    trivial
  · rintro _ ⟨r, hr⟩
    have : r = [] := List.eq_nil_of_length_eq_zero (by have := congrArg List.length hr; simp at this; omega)
    subst this
    simp -implicitDefEqProofs only [go_sem]
    intro _ _
    refine (R49strings2 a10 b10).calls shSS ?_
    simp -implicitDefEqProofs only [go_sem]
    refine ⟨fun c => (R49strings2 a11 b11).calls shSS ?_, fun c => ?_⟩
    · simp -implicitDefEqProofs only [go_sem]
      simp_all
    · simp_all
  · rintro pre x post _ rfl ⟨r, rfl⟩
    rcases r with _ | ⟨y, r⟩
    · simp at hl
    · simp -implicitDefEqProofs only [go_sem]
      intro _ _
      refine snd_draw (cs := []) mixed (by kernel_rfl) ?_
      have hl2 : ((pre.length : Int) < ((pre ++ y :: r).length : Int)) = True := mid_lt
      simp -implicitDefEqProofs only [go_sem, encI, hl2]
      refine ⟨fun c => ?_, fun c => ⟨(), ⟨r, ?_⟩, wrap_next (mid_len' ha (by decide))⟩⟩
      · simp_all
      · simp_all
theorem R51Same (a b : Cm) : VPure env 7 [.agg a.enc, .agg b.enc] (.bool (decide (a = b))) := by
  refine vpure_vc (fn := Tryz.f7) Tryz.func7 rfl (by rw [Tryz.ntmps7]; simp) (by simp -implicitDefEqProofs only [go_sem]) rfl ?_
  obtain ⟨a1, a2, a3, a4, a5⟩ := a
  obtain ⟨b1, b2, b3, b4, b5⟩ := b
  simp -implicitDefEqProofs only [go_sem, Tryz.f7]
  repeat' (first | apply And.intro | (refine fun (_ : @Eq Bool _ _) => ?_) | (refine fun (_ : @LE.le Nat _ _ _) => ?_) | (refine (R11SameFiles a3 b3).calls shFF ?_; simp -implicitDefEqProofs only [go_sem]))
  all_goals (try (simp_all; done))
  rotate_left
  · have : a5 ≠ b5 := by rintro rfl; simp_all
    simp [this]
  · have : a2 ≠ b2 := by rintro rfl; simp_all
    simp [this]
  have hl : a2.length = b2.length := by
    have : (!decide ((a2.length : Int) = (b2.length : Int))) = false := by assumption
    simp at this; omega
  have hl5 : a5.length = b5.length := by
    have : (!decide ((a5.length : Int) = (b5.length : Int))) = false := by assumption
    simp at this; omega
  have hb : b2.length ≤ 140737488355328 := by assumption
  have ha : a2.length ≤ 140737488355328 := by omega
  have hb5 : b5.length ≤ 140737488355328 := by assumption
  have ha5 : a5.length ≤ 140737488355328 := by omega
  have q1 : a1 = b1 := by simp_all
  have q3 : a3 = b3 := by simp_all
  have q4 : a4 = b4 := by simp_all
  refine snd_list (β := Unit) a2 (fun pre _ => ⟨[(5, .int .i64 pre.length), (4, .bool false), (3, .ptr 1 0), (2, .ptr 0 0)], [.cells (Cm.enc ⟨a1, a2, a3, a4, a5⟩), .cells (Cm.enc ⟨b1, b2, b3, b4, b5⟩)], []⟩) (fun pre _ _ => ∃ r, b2 = pre ++ r) () ?_ ⟨b2, rfl⟩ ?_ ?_
  · simp -implicitDefEqProofs only [go_sem]
    trivial
  · rintro _ ⟨r, hr⟩
    have : r = [] := List.eq_nil_of_length_eq_zero (by have := congrArg List.length hr; simp at this; omega)
    subst this
    simp -implicitDefEqProofs only [go_sem]
    refine fun _ => fun _ => ?_
    refine snd_list (β := Unit) a5 (fun pre _ => ⟨[(6, .int .i64 pre.length), (4, .bool false), (3, .ptr 1 0), (2, .ptr 0 0)], [.cells (Cm.enc ⟨a1, a2, a3, a4, a5⟩), .cells (Cm.enc ⟨b1, b2, b3, b4, b5⟩)], []⟩) (fun pre _ _ => ∃ r, b5 = pre ++ r) () ?_ ⟨b5, rfl⟩ ?_ ?_
    · simp -implicitDefEqProofs only [go_sem]
      trivial
    · rintro _ ⟨r, hr⟩
      have : r = [] := List.eq_nil_of_length_eq_zero (by have := congrArg List.length hr; simp at this; omega)
      subst this
      simp -implicitDefEqProofs only [go_sem]
      simp_all
    · rintro pre x post _ rfl ⟨r, rfl⟩
      rcases r with _ | ⟨y, r⟩
      · simp at hl5
      · simp -implicitDefEqProofs only [go_sem]
        refine fun _ => fun _ => ?_
        refine snd_draw (cs := []) mixed (by kernel_rfl) ?_
        have hl2 : ((pre.length : Int) < ((pre ++ y :: r).length : Int)) = True := mid_lt
        simp -implicitDefEqProofs only [go_sem, hl2]
        refine vPC_of (R49Same x y) (by simp -implicitDefEqProofs only [go_sem]) ?_
        simp -implicitDefEqProofs only [go_sem]
        refine ⟨fun c => ?_, fun c => ⟨(), ⟨r, ?_⟩, wrap_next (mid_len' ha5 (by decide))⟩⟩
        · simp_all
        · simp_all
  · rintro pre x post _ rfl ⟨r, rfl⟩
    rcases r with _ | ⟨y, r⟩
    · simp at hl
    · simp -implicitDefEqProofs only [go_sem]
      intro _ _
      refine snd_draw (cs := []) mixed (by kernel_rfl) ?_
      have hl2 : ((pre.length : Int) < ((pre ++ y :: r).length : Int)) = True := mid_lt
      simp -implicitDefEqProofs only [go_sem, encI, hl2]
      refine ⟨fun c => ?_, fun c => ⟨(), ⟨r, ?_⟩, wrap_next (mid_len' ha (by decide))⟩⟩
      · simp_all
      · simp_all
end Go.Proofs.YtellnbgljmocgaaGreatDoor
