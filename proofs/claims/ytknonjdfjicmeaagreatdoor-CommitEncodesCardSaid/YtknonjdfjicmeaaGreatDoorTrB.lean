/- The reference's checks of files and its digest. -/
import Derived.Test.YtknonjdfjicmeaaGreatDoorTrA
import Derived.Test.YtknonjdfjicmeaaGreatDoorTcD
set_option linter.unusedVariables false
set_option linter.unusedSimpArgs false
set_option maxRecDepth 20000
namespace Go.Vg
theorem allNo {α : Type} {pre post : List α} {x : α} {p : α → Bool} (h : p x = false) : (pre ++ x :: post).all p = false := by simp [h]
end Go.Vg
namespace Go.Proofs.YtknonjdfjicmeaaGreatDoor
open Go Go.Vg Go.Proofs
theorem R02Step (d c : Int) : VPure env 60 [.int .u64 d, .int .u8 c] (.int .u64 (addD d c)) := by
  refine vpure_vc (fn := Tryz.f60) Tryz.func60 rfl (by rw [Tryz.ntmps60]; simp) rfl rfl ?_
  simp -implicitDefEqProofs only [go_sem, Tryz.f60, addD]
theorem R02Sum (s : ByteArray) : VPure env 31 [.str s] (.int .u64 (sumN s.data.toList 14695981039346656037)) := by
  refine vpure_vc (fn := Tryz.f31) Tryz.func31 rfl (by rw [Tryz.ntmps31]; simp) rfl rfl ?_
  simp -implicitDefEqProofs only [go_sem, Tryz.f31]
  refine snd_list (β := Int) s.data.toList (fun pre d => ⟨[(4, .int .i64 pre.length), (3, .int .u64 d), (0, .str s)], [], []⟩) (fun _ post d => sumN s.data.toList 14695981039346656037 = sumN post d) 14695981039346656037 ?_ rfl ?_ ?_
  · simp -implicitDefEqProofs only [go_sem]
    rfl
  · intro d i1
    simp -implicitDefEqProofs only [go_sem, ← size_list]
    intro _
    rw [i1]
    rfl
  · rintro pre x post d hx i1
    have hz := size_mid hx
    simp -implicitDefEqProofs only [go_sem, hz, byteAt_mid hx]
    intro hl
    refine (R02Step _ _).calls rfl ?_
    simp -implicitDefEqProofs only [go_sem]
    exact ⟨_, i1, wrap_next (mid_len hl), rfl⟩
theorem R11Check (l : List Fl) : VPure env 22 [sl 36 (l.map Fl.enc)] (.int .i64 (filesErr l)) := by
  refine vpure_vc (fn := Tryz.f22) Tryz.func22 rfl (by rw [Tryz.ntmps22]; simp) (by simp -implicitDefEqProofs only [go_sem]) rfl ?_
  simp -implicitDefEqProofs only [go_sem, Tryz.f22]
  intro _ hl
  refine ⟨fun a1 => ?_, fun a1 => ?_⟩
  · have : 32 < l.length := by omega
    simp [filesErr, this]
  have a1 : ¬ 32 < l.length := by omega
  refine snd_list (β := Unit) l (fun pre _ => ⟨[(3, .int .i64 pre.length), (0, sl 36 (l.map Fl.enc))], [], []⟩) (fun pre _ _ => pre.all (fun f => pathB f.path)) () ?_ rfl ?_ ?_
  · simp -implicitDefEqProofs only [go_sem]
    rfl
  · intro _ i1
    simp -implicitDefEqProofs only [go_sem]
    intro _ _
    refine snd_list (β := Unit) l.tail (fun pre _ => ⟨[(4, .int .i64 ((pre.length + 1 : Nat) : Int)), (0, sl 36 (l.map Fl.enc))], [], []⟩) (fun pre _ _ => risingB (l.take (pre.length + 1))) () ?_ (by rcases l with _ | ⟨a, r⟩ <;> rfl) ?_ ?_
    · simp -implicitDefEqProofs only [go_sem]
      rfl
    · intro _ i2
      have hb : ((((l.tail.length + 1 : Nat) : Int)) < (l.length : Int)) = False := eq_false (by rw [List.length_tail]; omega)
      have i2 : risingB l = true := by
        rw [List.take_of_length_le (by rw [List.length_tail]; omega)] at i2
        exact i2
      simp -implicitDefEqProofs only [go_sem, hb]
      intro _ _
      refine snd_list (β := Unit) l (fun pre _ => ⟨[(5, .int .i64 pre.length), (0, sl 36 (l.map Fl.enc))], [], []⟩) (fun pre _ _ => pre.any (fun f => decide (65536 < f.text.size)) = false) () ?_ rfl ?_ ?_
      · simp -implicitDefEqProofs only [go_sem]
        rfl
      · intro _ i3
        simp -implicitDefEqProofs only [go_sem]
        simp only [filesErr, a1, i1, i2, i3, if_false, Bool.not_true, Bool.false_eq_true]
        exact fun _ _ => trivial
      · rintro pre x post _ rfl i3
        simp -implicitDefEqProofs only [go_sem, Fl.enc]
        refine fun _ h2 _ => ⟨fun c => ?_, fun c => ⟨(), ?_, wrap_next (mid_len' h2 (by decide))⟩⟩
        · have : ((pre ++ x :: post).any fun f => decide (65536 < f.text.size)) = true := by simp; omega
          simp only [filesErr, a1, i1, i2, this, if_false, Bool.not_true, Bool.false_eq_true, if_true]
        · simp only [List.any_append, i3]; simp; omega
    · rintro pre x post _ htl i2
      obtain ⟨a, hla⟩ : ∃ a, l = a :: (pre ++ x :: post) := by
        rcases l with _ | ⟨a, r⟩
        · simp at htl
        · exact ⟨a, by rw [← htl]; rfl⟩
      obtain ⟨p, y, hpy⟩ : ∃ p y, a :: pre = p ++ [y] := by
        rcases List.eq_nil_or_concat (a :: pre) with h | ⟨p, y, h⟩
        · cases h
        · exact ⟨p, y, by simpa using h⟩
      have hl' : l = p ++ y :: (x :: post) := by rw [hla, ← List.cons_append, hpy]; simp
      have hpl : p.length = pre.length := by have := congrArg List.length hpy; simp at this; omega
      have hw : IntKind.i64.wrap ((((pre.length + 1 : Nat)) : Int) - 1) = ((pre.length : Nat) : Int) := by
        have : (pre.length : Int) ≤ 140737488355328 := by rw [hla] at hl; simp at hl; omega
        rw [Go.Vg.wrap_small (by omega) (by omega)]; omega
      have hx' : (List.map Fl.enc l).getD (pre.length + 1) [] = x.enc := by rw [hla]; simp
      have hy' : (List.map Fl.enc l).getD pre.length [] = y.enc := by rw [hl', ← hpl]; simp
      have hb1 : ((((pre.length + 1 : Nat)) : Int) < (l.length : Int)) = True := eq_true (by rw [hla]; simp; omega)
      have hb0 : (((pre.length : Nat) : Int) < (l.length : Int)) = True := eq_true (by rw [hla]; simp; omega)
      have h0 : (0 ≤ ((pre.length + 1 : Nat) : Int)) = True := eq_true (by omega)
      have h00 : (0 ≤ ((pre.length : Nat) : Int)) = True := eq_true (by omega)
      simp -implicitDefEqProofs only [go_sem, hb1]
      intro _ _
      refine snd_draw (cs := []) mixed (by kernel_rfl) ?_
      simp -implicitDefEqProofs only [go_sem, hw, hx', hy', hb1, hb0, h0, h00, Int.toNat_natCast, Fl.enc]
      have tk1 : l.take (pre.length + 1) = p ++ [y] := by rw [hla, List.take_succ_cons, List.take_left', ← hpy]; rfl
      have tk2 : l.take (pre.length + 1 + 1) = (p ++ [y]) ++ [x] := by
        rw [hla, List.take_succ_cons, ← hpy]
        simp [List.take_append, List.take_of_length_le]
      have hsn := risingB_snoc y x p
      rw [tk1] at i2
      rw [i2, Bool.true_and] at hsn
      refine ⟨fun c => ?_, fun c => ⟨(), ?_, wrap_next (by rw [hla] at hl; simp at hl; omega)⟩⟩
      · have : risingB l = false := by
          have := risingB_app (p ++ [y] ++ [x]) post (by rw [hsn]; simpa using c)
          rw [hl']
          simpa using this
        simp only [filesErr, a1, i1, this, if_false, Bool.not_true, Bool.false_eq_true, if_true, Bool.not_false]
      · rw [tk2, hsn]; simpa using c
  · rintro pre x post _ rfl i1
    simp -implicitDefEqProofs only [go_sem, Fl.enc]
    refine fun _ h2 => (R03Path x.path).calls rfl ?_
    simp -implicitDefEqProofs only [go_sem]
    refine ⟨fun c => ?_, fun c => ⟨(), ?_, wrap_next (mid_len' h2 (by decide))⟩⟩
    · have : ((pre ++ x :: post).all fun f => pathB f.path) = false := by simp_all
      simp only [filesErr, a1, this, if_false, Bool.not_false, if_true]
    · simp_all
theorem R51Message (s : ByteArray) : VPure env 23 [.str s] (.bool (msgB s)) := by
  refine vpure_vc (fn := Tryz.f23) Tryz.func23 rfl (by rw [Tryz.ntmps23]; simp) rfl rfl ?_
  simp -implicitDefEqProofs only [go_sem, Tryz.f23]
  refine fun hs => ⟨fun a1 => ?_, fun a1 => ?_⟩
  · have : 200 < s.size := by omega
    simp [msgB, this]
  have a1 : ¬ 200 < s.size := by omega
  refine snd_list (β := Unit) s.data.toList (fun pre _ => ⟨[(3, .int .i64 pre.length), (0, .str s)], [], []⟩) (fun pre _ _ => (pre.all fun c => decide (32 ≤ c.toNat) && decide (c.toNat ≤ 126))) () ?_ rfl ?_ ?_
  · simp -implicitDefEqProofs only [go_sem]
    rfl
  · intro _ i1
    simp -implicitDefEqProofs only [go_sem, ← size_list]
    intro _
    simp only [msgB, a1, i1, decide_false, Bool.not_false, Bool.and_self]
  · rintro pre x post _ hx i1
    have hz := size_mid hx
    have bad : (decide (32 ≤ x.toNat) && decide (x.toNat ≤ 126)) = false → msgB s = false := fun h => by
      have : (s.data.toList.all fun c => decide (32 ≤ c.toNat) && decide (c.toNat ≤ 126)) = false := by rw [hx, List.all_append, List.all_cons, h]; simp
      unfold msgB
      rw [this]; simp
    simp -implicitDefEqProofs only [go_sem, hz, byteAt_mid hx]
    refine fun hb => ⟨fun c => ⟨fun d => ?_, fun d => ⟨(), ?_, wrap_next (mid_len hb)⟩⟩, fun c => ?_⟩
    · rw [bad (by simp; omega)]
    · rw [List.all_append, i1]; simp; omega
    · rw [bad (by simp; omega)]
theorem R51Parents (c : Cm) : VPure env 21 [.agg c.enc] (.bool (parentsB c)) := by
  obtain ⟨a1, a2, a3, a4, a5⟩ := c
  refine vpure_snd (fn := Tryz.f21) Tryz.func21 rfl (by rw [Tryz.ntmps21]; simp) (by simp -implicitDefEqProofs only [go_sem]) rfl ?_
  simp only [Tryz.f21]
  refine snd_cut ⟨[(1, .ptr 0 0)], [.cells (Cm.enc ⟨a1, a2, a3, a4, a5⟩)], []⟩ (by simp -implicitDefEqProofs only [go_sem]) ?_
  have hpe : parentsB ⟨a1, a2, a3, a4, a5⟩ = (!firstB a1 a2 && a2.all fun p => decide (0 ≤ p) && decide (p < a1)) := parentsB_eq _
  by_cases hf : firstB a1 a2 = true
  · refine vc_snd _ _ _ ?_
    rw [hpe, hf]
    simp -implicitDefEqProofs only [go_sem]
    refine snd_draw (cs := []) mixed (by kernel_rfl) ?_
    have e0 : ((0 : Nat) : Int) = 0 := rfl
    have e1 : ((1 : Nat) : Int) = 1 := rfl
    have e2 : ((2 : Nat) : Int) = 2 := rfl
    rcases a2 with _ | ⟨x, _ | ⟨y, _ | ⟨z, r⟩⟩⟩
    · have hf : ¬ a1 = 0 := by simpa [firstB] using hf
      simp -implicitDefEqProofs only [go_sem, hf, e0, List.length_nil]
    · simp [firstB] at hf
    · have hf : x = y := by simpa [firstB] using hf
      subst hf
      simp -implicitDefEqProofs only [go_sem, e2, List.length_cons, List.length_nil, encI]
    · have h3 : (2 : Int) < (((r.length + 1 + 1 + 1 : Nat)) : Int) := by omega
      simp -implicitDefEqProofs only [go_sem, h3]
  · have hf : firstB a1 a2 = false := by simpa using hf
    refine snd_cut ⟨[(1, .ptr 0 0)], [.cells (Cm.enc ⟨a1, a2, a3, a4, a5⟩)], []⟩ ?_ ?_
    · simp -implicitDefEqProofs only [go_sem]
      refine snd_draw (cs := []) mixed (by kernel_rfl) ?_
      have e0 : ((0 : Nat) : Int) = 0 := rfl
      have e1 : ((1 : Nat) : Int) = 1 := rfl
      have e2 : ((2 : Nat) : Int) = 2 := rfl
      rcases a2 with _ | ⟨x, _ | ⟨y, _ | ⟨z, r⟩⟩⟩
      · have hf : a1 = 0 := by simpa [firstB] using hf
        simp -implicitDefEqProofs only [go_sem, hf, e0, List.length_nil]
      · simp -implicitDefEqProofs only [go_sem, e1, List.length_cons, List.length_nil]
      · have hf : ¬ x = y := by simpa [firstB] using hf
        simp -implicitDefEqProofs only [go_sem, e2, hf, List.length_cons, List.length_nil, encI]
      · simp [firstB] at hf
    · rw [hpe, hf, Bool.not_false, Bool.true_and]
      refine vc_snd _ _ _ ?_
      simp -implicitDefEqProofs only [go_sem]
      refine snd_list (β := Unit) a2 (fun pre _ => ⟨[(3, .int .i64 pre.length), (1, .ptr 0 0)], [.cells (Cm.enc ⟨a1, a2, a3, a4, a5⟩)], []⟩) (fun pre _ _ => (pre.all fun p => decide (0 ≤ p) && decide (p < a1)) = true) () ?_ rfl ?_ ?_
      · simp -implicitDefEqProofs only [go_sem]
        rfl
      · intro _ i1
        simp -implicitDefEqProofs only [go_sem, i1]
      · rintro pre x post _ rfl i1
        have hl2 : ((pre.length : Int) < ((pre ++ x :: post).length : Int)) = True := mid_lt
        simp -implicitDefEqProofs only [go_sem, hl2]
        refine fun _ h2 => ?_
        refine snd_draw (cs := []) mixed (by kernel_rfl) ?_
        simp -implicitDefEqProofs only [go_sem, hl2, encI]
        refine ⟨fun c => ⟨fun d => ?_, fun d => ⟨(), ?_, wrap_next (mid_len' h2 (by decide))⟩⟩, fun c => ?_⟩
        · rw [allNo (by simp; omega)]
        · rw [List.all_append, i1]; simp; omega
        · rw [allNo (by simp; omega)]
end Go.Proofs.YtknonjdfjicmeaaGreatDoor
