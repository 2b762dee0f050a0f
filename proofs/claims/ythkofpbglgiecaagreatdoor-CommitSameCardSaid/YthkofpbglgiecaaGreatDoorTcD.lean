/- Equality of lists and refactorings. -/
import Derived.Test.YthkofpbglgiecaaGreatDoorTcC
set_option linter.unusedVariables false
set_option linter.unusedSimpArgs false
set_option maxRecDepth 20000
namespace Go.Proofs.YthkofpbglgiecaaGreatDoor
open Go Go.Vg Go.Proofs
@[go_sem] theorem flatFile : flatK Tryz.prog 35 = some [0, 0] := by kernel_rfl
theorem EqualS (a b : List ByteArray) : VPure env 31 [sl 9 (a.map encS), sl 9 (b.map encS)] (.bool (decide (a = b))) := by
  refine vpure_vc (fn := Tryz.f31) Tryz.func31 rfl (by rw [Tryz.ntmps31]; simp) (by simp -implicitDefEqProofs only [go_sem]) rfl ?_
  simp -implicitDefEqProofs only [go_sem, Tryz.f31]
  intro _ h1 _ h2
  refine ⟨fun c => ?_, fun c => ?_⟩
  · have : a ≠ b := by rintro rfl; simp at c
    simp [this]
  have hl : a.length = b.length := by simp at c; omega
  intro _ _
  refine snd_list (β := Unit) a (fun pre _ => ⟨[(13, .int .i64 pre.length), (12, .int .i64 a.length), (4, .bool false), (0, sl 9 (a.map encS)), (1, sl 9 (b.map encS))], [], []⟩) (fun pre _ _ => ∃ r, b = pre ++ r) () ?_ ⟨b, rfl⟩ ?_ ?_
  · simp -implicitDefEqProofs only [go_sem]
    trivial
  · rintro _ ⟨r, hr⟩
    simp -implicitDefEqProofs only [go_sem]
    have : r = [] := List.eq_nil_of_length_eq_zero (by have := congrArg List.length hr; simp at this; omega)
    subst this
    simp [hr]
  · rintro pre x post _ rfl ⟨r, rfl⟩
    rcases r with _ | ⟨y, r⟩
    · simp at hl
    · simp -implicitDefEqProofs only [go_sem]
      skip
      refine snd_draw (cs := []) mixed (by kernel_rfl) ?_
      have hl2 : ((pre.length : Int) < ((pre ++ y :: r).length : Int)) = True := mid_lt
      simp -implicitDefEqProofs only [go_sem, encS, hl2]
      refine ⟨fun c => ?_, fun c => ⟨(), ⟨r, ?_⟩, wrap_next (mid_len' h1 (by decide))⟩⟩
      · simp_all
      · simp_all
theorem EqualI (a b : List Int) : VPure env 14 [sl 3 (a.map encI), sl 3 (b.map encI)] (.bool (decide (a = b))) := by
  refine vpure_vc (fn := Tryz.f14) Tryz.func14 rfl (by rw [Tryz.ntmps14]; simp) (by simp -implicitDefEqProofs only [go_sem]) rfl ?_
  simp -implicitDefEqProofs only [go_sem, Tryz.f14]
  intro _ h1 _ h2
  refine ⟨fun c => ?_, fun c => ?_⟩
  · have : a ≠ b := by rintro rfl; simp at c
    simp [this]
  have hl : a.length = b.length := by simp at c; omega
  intro _ _
  refine snd_list (β := Unit) a (fun pre _ => ⟨[(13, .int .i64 pre.length), (12, .int .i64 a.length), (4, .bool false), (0, sl 3 (a.map encI)), (1, sl 3 (b.map encI))], [], []⟩) (fun pre _ _ => ∃ r, b = pre ++ r) () ?_ ⟨b, rfl⟩ ?_ ?_
  · simp -implicitDefEqProofs only [go_sem]
    trivial
  · rintro _ ⟨r, hr⟩
    simp -implicitDefEqProofs only [go_sem]
    have : r = [] := List.eq_nil_of_length_eq_zero (by have := congrArg List.length hr; simp at this; omega)
    subst this
    simp [hr]
  · rintro pre x post _ rfl ⟨r, rfl⟩
    rcases r with _ | ⟨y, r⟩
    · simp at hl
    · simp -implicitDefEqProofs only [go_sem]
      skip
      refine snd_draw (cs := []) mixed (by kernel_rfl) ?_
      have hl2 : ((pre.length : Int) < ((pre ++ y :: r).length : Int)) = True := mid_lt
      simp -implicitDefEqProofs only [go_sem, encI, hl2]
      refine ⟨fun c => ?_, fun c => ⟨(), ⟨r, ?_⟩, wrap_next (mid_len' h1 (by decide))⟩⟩
      · simp_all
      · simp_all
theorem EqualF (a b : List Fl) : VPure env 15 [sl 35 (a.map Fl.enc), sl 35 (b.map Fl.enc)] (.bool (decide (a = b))) := by
  refine vpure_vc (fn := Tryz.f15) Tryz.func15 rfl (by rw [Tryz.ntmps15]; simp) (by simp -implicitDefEqProofs only [go_sem]) rfl ?_
  simp -implicitDefEqProofs only [go_sem, Tryz.f15]
  intro _ h1 _ h2
  refine ⟨fun c => ?_, fun c => ?_⟩
  · have : a ≠ b := by rintro rfl; simp at c
    simp [this]
  have hl : a.length = b.length := by simp at c; omega
  intro _ _
  refine snd_list (β := Unit) a (fun pre _ => ⟨[(13, .int .i64 pre.length), (12, .int .i64 a.length), (4, .bool false), (0, sl 35 (a.map Fl.enc)), (1, sl 35 (b.map Fl.enc))], [], []⟩) (fun pre _ _ => ∃ r, b = pre ++ r) () ?_ ⟨b, rfl⟩ ?_ ?_
  · simp -implicitDefEqProofs only [go_sem]
    trivial
  · rintro _ ⟨r, hr⟩
    simp -implicitDefEqProofs only [go_sem]
    have : r = [] := List.eq_nil_of_length_eq_zero (by have := congrArg List.length hr; simp at this; omega)
    subst this
    simp [hr]
  · rintro pre x post _ rfl ⟨r, rfl⟩
    rcases r with _ | ⟨y, r⟩
    · simp at hl
    · simp -implicitDefEqProofs only [go_sem]
      skip
      refine snd_draw (cs := []) mixed (by kernel_rfl) ?_
      have hl2 : ((pre.length : Int) < ((pre ++ y :: r).length : Int)) = True := mid_lt
      simp -implicitDefEqProofs only [go_sem, Fl.enc, hl2]
      refine ⟨fun c => ?_, fun c => ⟨(), ⟨r, ?_⟩, wrap_next (mid_len' h1 (by decide))⟩⟩
      · cases x; cases y; simp_all; try (intro e1 e2; simp_all)
      · cases x; cases y; simp_all
theorem R49strings2 (a b : List ByteArray) : VPure env 32 [sl 9 (a.map encS), sl 9 (b.map encS)] (.bool (decide (a = b))) := by
  refine vpure_vc (fn := Tryz.f32) Tryz.func32 rfl (by rw [Tryz.ntmps32]; simp) (by simp -implicitDefEqProofs only [go_sem]) rfl ?_
  simp -implicitDefEqProofs only [go_sem, Tryz.f32]
  intro _ h1 _ h2
  refine ⟨fun c => ?_, fun c => ?_⟩
  · have : a ≠ b := by rintro rfl; simp at c
    simp [this]
  have hl : a.length = b.length := by simp at c; omega
  skip
  refine snd_list (β := Unit) a (fun pre _ => ⟨[(5, .int .i64 pre.length), (4, .bool false), (0, sl 9 (a.map encS)), (1, sl 9 (b.map encS))], [], []⟩) (fun pre _ _ => ∃ r, b = pre ++ r) () ?_ ⟨b, rfl⟩ ?_ ?_
  · simp -implicitDefEqProofs only [go_sem]
    trivial
  · rintro _ ⟨r, hr⟩
    simp -implicitDefEqProofs only [go_sem]
    have : r = [] := List.eq_nil_of_length_eq_zero (by have := congrArg List.length hr; simp at this; omega)
    subst this
    simp [hr]
  · rintro pre x post _ rfl ⟨r, rfl⟩
    rcases r with _ | ⟨y, r⟩
    · simp at hl
    · simp -implicitDefEqProofs only [go_sem]
      intro _ _
      refine snd_draw (cs := []) mixed (by kernel_rfl) ?_
      have hl2 : ((pre.length : Int) < ((pre ++ y :: r).length : Int)) = True := mid_lt
      simp -implicitDefEqProofs only [go_sem, encS, hl2]
      refine ⟨fun c => ?_, fun c => ⟨(), ⟨r, ?_⟩, wrap_next (mid_len' h1 (by decide))⟩⟩
      · simp_all
      · simp_all
theorem R11SameFiles (a b : List Fl) : VPure env 18 [sl 35 (a.map Fl.enc), sl 35 (b.map Fl.enc)] (.bool (decide (a = b))) := by
  refine vpure_vc (fn := Tryz.f18) Tryz.func18 rfl (by rw [Tryz.ntmps18]; simp) (by simp -implicitDefEqProofs only [go_sem]) rfl ?_
  simp -implicitDefEqProofs only [go_sem, Tryz.f18]
  intro _ h1 _ h2
  refine ⟨fun c => ?_, fun c => ?_⟩
  · have : a ≠ b := by rintro rfl; simp at c
    simp [this]
  have hl : a.length = b.length := by simp at c; omega
  skip
  refine snd_list (β := Unit) a (fun pre _ => ⟨[(5, .int .i64 pre.length), (4, .bool false), (0, sl 35 (a.map Fl.enc)), (1, sl 35 (b.map Fl.enc))], [], []⟩) (fun pre _ _ => ∃ r, b = pre ++ r) () ?_ ⟨b, rfl⟩ ?_ ?_
  · simp -implicitDefEqProofs only [go_sem]
    trivial
  · rintro _ ⟨r, hr⟩
    simp -implicitDefEqProofs only [go_sem]
    have : r = [] := List.eq_nil_of_length_eq_zero (by have := congrArg List.length hr; simp at this; omega)
    subst this
    simp [hr]
  · rintro pre x post _ rfl ⟨r, rfl⟩
    rcases r with _ | ⟨y, r⟩
    · simp at hl
    · simp -implicitDefEqProofs only [go_sem]
      intro _ _
      refine snd_draw (cs := []) mixed (by kernel_rfl) ?_
      have hl2 : ((pre.length : Int) < ((pre ++ y :: r).length : Int)) = True := mid_lt
      simp -implicitDefEqProofs only [go_sem, Fl.enc, hl2]
      refine ⟨fun c => ?_, fun c => ⟨(), ⟨r, ?_⟩, wrap_next (mid_len' h1 (by decide))⟩⟩
      · cases x; cases y; simp_all; try (intro e1 e2; simp_all)
      · cases x; cases y; simp_all
theorem shSS {a b : List ByteArray} : List.map share [sl 9 (a.map encS), sl 9 (b.map encS)] = [sl 9 (a.map encS), sl 9 (b.map encS)] := by simp -implicitDefEqProofs only [go_sem]
theorem shII {a b : List Int} : List.map share [sl 3 (a.map encI), sl 3 (b.map encI)] = [sl 3 (a.map encI), sl 3 (b.map encI)] := by simp -implicitDefEqProofs only [go_sem]
theorem Rsame (a b : Rf) : VPure env 17 [.agg a.enc, .agg b.enc] (.bool (decide (a = b))) := by
  refine vpure_vc (fn := Tryz.f17) Tryz.func17 rfl (by rw [Tryz.ntmps17]; simp) (by simp -implicitDefEqProofs only [go_sem]) rfl ?_
  obtain ⟨a1, a2, a3, a4, a5, a6, a7, a8, a9, a10, a11⟩ := a
  obtain ⟨b1, b2, b3, b4, b5, b6, b7, b8, b9, b10, b11⟩ := b
  simp -implicitDefEqProofs only [go_sem, Tryz.f17]
  repeat' (first | apply And.intro | (refine (EqualI a9 b9).calls shII ?_; simp -implicitDefEqProofs only [go_sem]) | (refine (EqualS a10 b10).calls shSS ?_; simp -implicitDefEqProofs only [go_sem]) | (refine (EqualS a11 b11).calls shSS ?_; simp -implicitDefEqProofs only [go_sem]) | intro)
  all_goals simp_all
/-! ### Whole commits -/
theorem R49Same (a b : Rf) : VPure env 19 [.agg a.enc, .agg b.enc] (.bool (decide (a = b))) := by
  refine vpure_vc (fn := Tryz.f19) Tryz.func19 rfl (by rw [Tryz.ntmps19]; simp) (by simp -implicitDefEqProofs only [go_sem]) rfl ?_
  obtain ⟨a1, a2, a3, a4, a5, a6, a7, a8, a9, a10, a11⟩ := a
  obtain ⟨b1, b2, b3, b4, b5, b6, b7, b8, b9, b10, b11⟩ := b
  simp -implicitDefEqProofs only [go_sem, Tryz.f19]
  repeat' (first | apply And.intro | (refine fun (_ : @Eq Bool _ _) => ?_) | (refine fun (_ : @LE.le Nat _ _ _) => ?_))
  all_goals (try (simp_all; done))
  · have : a9 ≠ b9 := by rintro rfl; simp_all
    simp [this]
  have hl : a9.length = b9.length := by
    have : (!decide ((a9.length : Int) = (b9.length : Int))) = false := by assumption
    simp at this; omega
  have hb : b9.length ≤ 140737488355328 := by assumption
  have ha : a9.length ≤ 140737488355328 := by omega
  have q1 : a1 = b1 := by simp_all
  have q2 : a2 = b2 := by simp_all
  have q3 : a3 = b3 := by simp_all
  have q4 : a4 = b4 := by simp_all
  have q5 : a5 = b5 := by simp_all
  have q6 : a6 = b6 := by simp_all
  have q7 : a7 = b7 := by simp_all
  have q8 : a8 = b8 := by simp_all
  refine snd_list (β := Unit) a9 (fun pre _ => ⟨[(5, .int .i64 pre.length), (4, .bool false), (3, .ptr 1 0), (2, .ptr 0 0)], [.cells (Rf.enc ⟨a1, a2, a3, a4, a5, a6, a7, a8, a9, a10, a11⟩), .cells (Rf.enc ⟨b1, b2, b3, b4, b5, b6, b7, b8, b9, b10, b11⟩)], []⟩) (fun pre _ _ => ∃ r, b9 = pre ++ r) () ?_ ⟨b9, rfl⟩ ?_ ?_
  · simp -implicitDefEqProofs only [go_sem]
    trivial
  · rintro _ ⟨r, hr⟩
    have : r = [] := List.eq_nil_of_length_eq_zero (by have := congrArg List.length hr; simp at this; omega)
    subst this
    simp -implicitDefEqProofs only [go_sem]
    intro _ _
    refine (R49strings2 a10 b10).calls shSS ?_
    simp -implicitDefEqProofs only [go_sem]
    refine ⟨fun c => (R49strings2 a11 b11).calls shSS ?_, fun c => ?_⟩
    · simp -implicitDefEqProofs only [go_sem]
      simp_all
    · simp_all
  · rintro pre x post _ rfl ⟨r, rfl⟩
    rcases r with _ | ⟨y, r⟩
    · simp at hl
    · simp -implicitDefEqProofs only [go_sem]
      intro _ _
      refine snd_draw (cs := []) mixed (by kernel_rfl) ?_
      have hl2 : ((pre.length : Int) < ((pre ++ y :: r).length : Int)) = True := mid_lt
      simp -implicitDefEqProofs only [go_sem, encI, hl2]
      refine ⟨fun c => ?_, fun c => ⟨(), ⟨r, ?_⟩, wrap_next (mid_len' ha (by decide))⟩⟩
      · simp_all
      · simp_all
theorem EqualR (a b : List Rf) : VPure env 16 [sl 39 (a.map Rf.enc), sl 39 (b.map Rf.enc), .func 17 []] (.bool (decide (a = b))) := by
  refine vpure_vc (fn := Tryz.f16) Tryz.func16 rfl (by rw [Tryz.ntmps16]; simp) (by simp -implicitDefEqProofs only [go_sem]) rfl ?_
  simp -implicitDefEqProofs only [go_sem, Tryz.f16]
  intro _ h1 _ h2
  refine ⟨fun c => ?_, fun c => ?_⟩
  · have : a ≠ b := by rintro rfl; simp at c
    simp [this]
  have hl : a.length = b.length := by simp at c; omega
  intro _ _
  refine snd_list (β := Unit) a (fun pre _ => ⟨[(17, .int .i64 pre.length), (16, .int .i64 a.length), (15, sl 39 (a.map Rf.enc)), (6, .bool false), (0, sl 39 (a.map Rf.enc)), (1, sl 39 (b.map Rf.enc)), (2, .func 17 [])], [], []⟩) (fun pre _ _ => ∃ r, b = pre ++ r) () ?_ ⟨b, rfl⟩ ?_ ?_
  · simp -implicitDefEqProofs only [go_sem]
    trivial
  · rintro _ ⟨r, hr⟩
    simp -implicitDefEqProofs only [go_sem]
    have : r = [] := List.eq_nil_of_length_eq_zero (by have := congrArg List.length hr; simp at this; omega)
    subst this
    simp [hr]
  · rintro pre x post _ rfl ⟨r, rfl⟩
    rcases r with _ | ⟨y, r⟩
    · simp at hl
    · simp -implicitDefEqProofs only [go_sem]
      refine (Rsame x y).calls (by simp -implicitDefEqProofs only [go_sem]) ?_
      simp -implicitDefEqProofs only [go_sem]
      refine ⟨fun c => ?_, fun c => ⟨(), ⟨r, ?_⟩, wrap_next (mid_len' h1 (by decide))⟩⟩
      · simp_all
      · simp_all
theorem shFF {a b : List Fl} : List.map share [sl 35 (a.map Fl.enc), sl 35 (b.map Fl.enc)] = [sl 35 (a.map Fl.enc), sl 35 (b.map Fl.enc)] := by simp -implicitDefEqProofs only [go_sem]
@[go_sem] theorem share_func {f : Nat} {cs : List V} : share (V.func f cs) = V.func f cs := rfl
theorem shRR {a b : List Rf} {f : Nat} : List.map share [sl 39 (a.map Rf.enc), sl 39 (b.map Rf.enc), .func f []] = [sl 39 (a.map Rf.enc), sl 39 (b.map Rf.enc), .func f []] := by simp -implicitDefEqProofs only [go_sem]
theorem CSame (a b : Cm) : VPure env 6 [.agg a.enc, .agg b.enc] (.bool (decide (a = b))) := by
  refine vpure_vc (fn := Tryz.f6) Tryz.func6 rfl (by rw [Tryz.ntmps6]; simp) (by simp -implicitDefEqProofs only [go_sem]) rfl ?_
  obtain ⟨a1, a2, a3, a4, a5⟩ := a
  obtain ⟨b1, b2, b3, b4, b5⟩ := b
  simp -implicitDefEqProofs only [go_sem, Tryz.f6]
  repeat' (first | apply And.intro | (refine (EqualI a2 b2).calls shII ?_; simp -implicitDefEqProofs only [go_sem]) | (refine (EqualF a3 b3).calls shFF ?_; simp -implicitDefEqProofs only [go_sem]) | (refine (EqualR a5 b5).calls shRR ?_; simp -implicitDefEqProofs only [go_sem]) | intro)
  all_goals simp_all
theorem R51Same (a b : Cm) : VPure env 7 [.agg a.enc, .agg b.enc] (.bool (decide (a = b))) := by
  refine vpure_vc (fn := Tryz.f7) Tryz.func7 rfl (by rw [Tryz.ntmps7]; simp) (by simp -implicitDefEqProofs only [go_sem]) rfl ?_
  obtain ⟨a1, a2, a3, a4, a5⟩ := a
  obtain ⟨b1, b2, b3, b4, b5⟩ := b
  simp -implicitDefEqProofs only [go_sem, Tryz.f7]
  repeat' (first | apply And.intro | (refine fun (_ : @Eq Bool _ _) => ?_) | (refine fun (_ : @LE.le Nat _ _ _) => ?_) | (refine (R11SameFiles a3 b3).calls shFF ?_; simp -implicitDefEqProofs only [go_sem]))
  all_goals (try (simp_all; done))
  rotate_left
  · have : a5 ≠ b5 := by rintro rfl; simp_all
    simp [this]
  · have : a2 ≠ b2 := by rintro rfl; simp_all
    simp [this]
  have hl : a2.length = b2.length := by
    have : (!decide ((a2.length : Int) = (b2.length : Int))) = false := by assumption
    simp at this; omega
  have hl5 : a5.length = b5.length := by
    have : (!decide ((a5.length : Int) = (b5.length : Int))) = false := by assumption
    simp at this; omega
  have hb : b2.length ≤ 140737488355328 := by assumption
  have ha : a2.length ≤ 140737488355328 := by omega
  have hb5 : b5.length ≤ 140737488355328 := by assumption
  have ha5 : a5.length ≤ 140737488355328 := by omega
  have q1 : a1 = b1 := by simp_all
  have q3 : a3 = b3 := by simp_all
  have q4 : a4 = b4 := by simp_all
  refine snd_list (β := Unit) a2 (fun pre _ => ⟨[(5, .int .i64 pre.length), (4, .bool false), (3, .ptr 1 0), (2, .ptr 0 0)], [.cells (Cm.enc ⟨a1, a2, a3, a4, a5⟩), .cells (Cm.enc ⟨b1, b2, b3, b4, b5⟩)], []⟩) (fun pre _ _ => ∃ r, b2 = pre ++ r) () ?_ ⟨b2, rfl⟩ ?_ ?_
  · simp -implicitDefEqProofs only [go_sem]
    trivial
  · rintro _ ⟨r, hr⟩
    have : r = [] := List.eq_nil_of_length_eq_zero (by have := congrArg List.length hr; simp at this; omega)
    subst this
    simp -implicitDefEqProofs only [go_sem]
    refine fun _ => fun _ => ?_
    refine snd_list (β := Unit) a5 (fun pre _ => ⟨[(6, .int .i64 pre.length), (4, .bool false), (3, .ptr 1 0), (2, .ptr 0 0)], [.cells (Cm.enc ⟨a1, a2, a3, a4, a5⟩), .cells (Cm.enc ⟨b1, b2, b3, b4, b5⟩)], []⟩) (fun pre _ _ => ∃ r, b5 = pre ++ r) () ?_ ⟨b5, rfl⟩ ?_ ?_
    · simp -implicitDefEqProofs only [go_sem]
      trivial
    · rintro _ ⟨r, hr⟩
      have : r = [] := List.eq_nil_of_length_eq_zero (by have := congrArg List.length hr; simp at this; omega)
      subst this
      simp -implicitDefEqProofs only [go_sem]
      simp_all
    · rintro pre x post _ rfl ⟨r, rfl⟩
      rcases r with _ | ⟨y, r⟩
      · simp at hl5
      · simp -implicitDefEqProofs only [go_sem]
        refine fun _ => fun _ => ?_
        refine snd_draw (cs := []) mixed (by kernel_rfl) ?_
        have hl2 : ((pre.length : Int) < ((pre ++ y :: r).length : Int)) = True := mid_lt
        simp -implicitDefEqProofs only [go_sem, hl2]
        refine vPC_of (R49Same x y) (by simp -implicitDefEqProofs only [go_sem]) ?_
        simp -implicitDefEqProofs only [go_sem]
        refine ⟨fun c => ?_, fun c => ⟨(), ⟨r, ?_⟩, wrap_next (mid_len' ha5 (by decide))⟩⟩
        · simp_all
        · simp_all
  · rintro pre x post _ rfl ⟨r, rfl⟩
    rcases r with _ | ⟨y, r⟩
    · simp at hl
    · simp -implicitDefEqProofs only [go_sem]
      intro _ _
      refine snd_draw (cs := []) mixed (by kernel_rfl) ?_
      have hl2 : ((pre.length : Int) < ((pre ++ y :: r).length : Int)) = True := mid_lt
      simp -implicitDefEqProofs only [go_sem, encI, hl2]
      refine ⟨fun c => ?_, fun c => ⟨(), ⟨r, ?_⟩, wrap_next (mid_len' ha (by decide))⟩⟩
      · simp_all
      · simp_all
end Go.Proofs.YthkofpbglgiecaaGreatDoor
