/- Projects, digests and the fields of refactorings, as the program checks them. -/
import Derived.Test.YtellnbgljmocgaaGreatDoorTcE
set_option linter.unusedVariables false
set_option linter.unusedSimpArgs false
set_option maxRecDepth 20000
namespace Go.Vg
open Go
theorem risingB_snoc (y x : Fl) : ∀ p : List Fl, risingB (p ++ [y] ++ [x]) = (risingB (p ++ [y]) && Op.bytesLess y.path.toList x.path.toList)
  | [] => by simp [risingB]
  | [a] => by simp [risingB]
  | a :: b :: r => by
    have := risingB_snoc y x (b :: r)
    simp only [List.cons_append, risingB] at this ⊢
    rw [this, Bool.and_assoc]
theorem risingB_app : ∀ p q : List Fl, risingB p = false → risingB (p ++ q) = false
  | [], q, h => by simp [risingB] at h
  | [a], q, h => by simp [risingB] at h
  | a :: b :: r, q, h => by
    simp only [List.cons_append, risingB, Bool.and_eq_false_iff] at h ⊢
    exact h.imp id fun h => risingB_app (b :: r) q h
end Go.Vg
namespace Go.Proofs.YtellnbgljmocgaaGreatDoor
open Go Go.Vg Go.Proofs
theorem Dadd (d c : Int) : VPure env 36 [.int .u64 d, .int .u8 c] (.int .u64 (addD d c)) := by
  refine vpure_vc (fn := Tryz.f36) Tryz.func36 rfl (by rw [Tryz.ntmps36]; simp) rfl rfl ?_
  simp -implicitDefEqProofs only [go_sem, Tryz.f36]
  rfl
theorem DSum (s : ByteArray) : VPure env 12 [.str s] (.int .u64 (sumN s.data.toList 14695981039346656037)) := by
  refine vpure_vc (fn := Tryz.f12) Tryz.func12 rfl (by rw [Tryz.ntmps12]; simp) rfl rfl ?_
  simp -implicitDefEqProofs only [go_sem, Tryz.f12]
  intro hs
  refine snd_list (β := Unit) s.data.toList (fun pre _ => ⟨[(7, .int .i64 pre.length), (6, .int .i64 s.size), (3, .int .u64 (sumN pre 14695981039346656037)), (0, .str s)], [], []⟩) (fun pre _ _ => True) () ?_ trivial ?_ ?_
  · simp -implicitDefEqProofs only [go_sem]
    exact ⟨rfl, rfl⟩
  · intro _ _
    simp -implicitDefEqProofs only [go_sem, size_list]
  · rintro pre x post _ hx _
    have hz := size_mid hx
    simp -implicitDefEqProofs only [go_sem, hz, byteAt_mid hx]
    refine (Dadd (sumN pre 14695981039346656037) x.toNat).calls rfl ?_
    simp -implicitDefEqProofs only [go_sem]
    refine ⟨(), wrap_next (mid_len (by rw [← hz]; exact hs)), ?_⟩
    simp [sumN]
theorem Pcheck (l : List Fl) : VPure env 35 [sl 34 (l.map Fl.enc)] (.int .i64 (filesErr l)) := by
  refine vpure_vc (fn := Tryz.f35) Tryz.func35 rfl (by rw [Tryz.ntmps35]; simp) (by simp -implicitDefEqProofs only [go_sem]) rfl ?_
  simp -implicitDefEqProofs only [go_sem, Tryz.f35]
  intro _ hl
  refine ⟨fun a1 => ?_, fun a1 => ?_⟩
  · have : 32 < l.length := by omega
    simp [filesErr, this]
  have a1 : ¬ 32 < l.length := by omega
  intro _ _
  refine snd_list (β := Unit) l (fun pre _ => ⟨[(13, .int .i64 pre.length), (12, .int .i64 l.length), (11, sl 34 (l.map Fl.enc)), (0, sl 34 (l.map Fl.enc))], [], []⟩) (fun pre _ _ => pre.all (fun f => pathB f.path)) () ?_ rfl ?_ ?_
  · simp -implicitDefEqProofs only [go_sem]
    rfl
  · intro _ i1
    simp -implicitDefEqProofs only [go_sem]
    intro _ _
    refine snd_list (β := Unit) l (fun pre _ => ⟨[(24, .int .i64 pre.length), (23, .int .i64 l.length), (0, sl 34 (l.map Fl.enc))], [], []⟩) (fun pre _ _ => risingB pre) () ?_ rfl ?_ ?_
    · simp -implicitDefEqProofs only [go_sem]
      rfl
    · intro _ i2
      simp -implicitDefEqProofs only [go_sem]
      intro _ _
      refine snd_list (β := Unit) l (fun pre _ => ⟨[(46, .int .i64 pre.length), (45, .int .i64 l.length), (44, sl 34 (l.map Fl.enc)), (0, sl 34 (l.map Fl.enc))], [], []⟩) (fun pre _ _ => pre.any (fun f => decide (65536 < f.text.size)) = false) () ?_ rfl ?_ ?_
      · simp -implicitDefEqProofs only [go_sem]
        rfl
      · intro _ i3
        simp -implicitDefEqProofs only [go_sem]
        simp only [filesErr, a1, i1, i2, i3, if_false, Bool.not_true, Bool.false_eq_true]
      · rintro pre x post _ rfl i3
        simp -implicitDefEqProofs only [go_sem, Fl.enc]
        intro _
        refine ⟨fun c => ?_, fun c => ⟨(), ?_, wrap_next (mid_len' hl (by decide))⟩⟩
        · have : ((pre ++ x :: post).any fun f => decide (65536 < f.text.size)) = true := by simp; omega
          simp only [filesErr, a1, i1, i2, this, if_false, Bool.not_true, Bool.false_eq_true, if_true]
        · simp only [List.any_append, i3]; simp; omega
    · rintro pre x post _ rfl i2
      simp -implicitDefEqProofs only [go_sem, Fl.enc]
      refine snd_draw (cs := []) mixed (by kernel_rfl) ?_
      by_cases hp : pre = []
      · subst hp
        have h0 : ¬ (0 : Int) < ((0 : Nat) : Int) := by simp
        simp -implicitDefEqProofs only [go_sem, h0]
        exact ⟨(), rfl⟩
      · obtain ⟨p, y, hpy⟩ : ∃ p y, pre = p ++ [y] := by
          rcases List.eq_nil_or_concat pre with h | ⟨p, y, h⟩
          · exact absurd h hp
          · exact ⟨p, y, by simpa using h⟩
        have h0 : (0 : Int) < (pre.length : Int) := by subst hpy; simp
        have hw : IntKind.i64.wrap ((pre.length : Int) - 1) = ((pre.length - 1 : Nat) : Int) := by
          have : (pre.length : Int) ≤ 140737488355328 := by simp at hl; omega
          rw [Go.Vg.wrap_small (x := (pre.length : Int) - 1) (by omega) (by omega)]; omega
        have hx' : (List.map Fl.enc (pre ++ x :: post)).getD pre.length [] = x.enc := by simp
        have hy : (List.map Fl.enc (pre ++ x :: post)).getD (pre.length - 1) [] = y.enc := by subst hpy; simp
        have hb : (((pre.length - 1 : Nat) : Int) < ((pre ++ x :: post).length : Int)) = True := by simp; omega
        simp -implicitDefEqProofs only [go_sem, h0, hw, hx', hy, hb, Int.toNat_natCast, Fl.enc]
        have htri : Op.bytesLess y.path.toList x.path.toList = !(Op.bytesLess x.path.toList y.path.toList || decide (x.path = y.path)) := by
          have := bytesLess_tri y.path.toList x.path.toList
          have e : decide (x.path.toList = y.path.toList) = decide (x.path = y.path) := by
            congr 1
            refine propext ⟨fun h => ?_, fun h => by rw [h]⟩
            apply ba_ext
            rw [toList_data, toList_data] at h
            exact h
          rw [e] at this
          rw [this]; simp
        have hsn := risingB_snoc y x p
        rw [← hpy, i2, htri] at hsn
        refine ⟨fun c => ?_, fun c => ⟨(), ?_, wrap_next (mid_len' hl (by decide))⟩⟩
        · have : risingB (pre ++ x :: post) = false := by
            have := risingB_app (pre ++ [x]) post (by rw [hsn, c]; rfl)
            simpa using this
          simp only [filesErr, a1, i1, this, if_false, Bool.not_true, Bool.false_eq_true, if_true, Bool.not_false]
        · rw [hsn, c]; rfl
  · rintro pre x post _ rfl i1
    simp -implicitDefEqProofs only [go_sem, Fl.enc]
    refine (NPath _).calls rfl ?_
    simp -implicitDefEqProofs only [go_sem]
    refine ⟨fun c => ?_, fun c => ⟨(), ?_, wrap_next (mid_len' hl (by decide))⟩⟩
    · have : ((pre ++ x :: post).all fun f => pathB f.path) = false := by simp_all
      simp only [filesErr, a1, this, if_false, Bool.not_false, if_true]
    · simp_all
theorem Rplain (s : ByteArray) : VPure env 94 [.str s] (.bool (fineB s)) := by
  refine vpure_vc (fn := Tryz.f94) Tryz.func94 rfl (by rw [Tryz.ntmps94]; simp) rfl rfl ?_
  simp -implicitDefEqProofs only [go_sem, Tryz.f94]
  intro hs
  refine snd_list (β := Unit) s.data.toList (fun pre _ => ⟨[(6, .int .i64 pre.length), (5, .int .i64 s.size), (0, .str s)], [], []⟩) (fun pre _ _ => pre.all fun c => decide (32 ≤ (c.toNat : Int)) && decide ((c.toNat : Int) ≤ 125) && !decide (c = 44)) () ?_ rfl ?_ ?_
  · simp -implicitDefEqProofs only [go_sem]
    rfl
  · intro _ i1
    simp -implicitDefEqProofs only [go_sem, size_list]
    unfold fineB
    rw [show (s.data.toList.all fun c => decide (32 ≤ (c.toNat : Int)) && decide ((c.toNat : Int) ≤ 125) && !decide (c = 44)) = true from i1]
    simp
  · rintro pre x post _ hx i1
    have hz := size_mid hx
    have bad : (decide (32 ≤ (x.toNat : Int)) && decide ((x.toNat : Int) ≤ 125) && !decide (x = 44)) = false → fineB s = false := fun h => by
      have : (s.data.toList.all fun c => decide (32 ≤ (c.toNat : Int)) && decide ((c.toNat : Int) ≤ 125) && !decide (c = 44)) = false := by rw [hx, List.all_append, List.all_cons, h]; simp
      unfold fineB
      rw [this]; simp
    have e44 : x = 44 ↔ (x.toNat : Int) = 44 := by rw [← UInt8.toNat_inj]; simp; omega
    simp -implicitDefEqProofs only [go_sem, hz, byteAt_mid hx]
    refine ⟨fun c1 => ⟨fun c2 => ⟨fun c3 => ?_, fun c3 => ⟨(), ?_, wrap_next (mid_len (by rw [← hz]; exact hs))⟩⟩, fun c2 => ?_⟩, fun c1 => ?_⟩
    · rw [bad (by simp [e44, c3])]
    · rw [List.all_append, i1]
      simp [e44, c3]
      omega
    · rw [bad (by simp; omega)]
    · rw [bad (by simp; omega)]
/-- The checks of a refactoring's fields but its path. -/
def restErr (r : Rf) : Int := if !maybeB r.cls || !maybeB r.fn || !maybeB r.name || !maybeB r.new || !r.types.all validName then 4
  else if !r.texts.all fineB then 1
  else if 16 < max (max r.order.length r.types.length) r.texts.length then 3 else 0
theorem Rvalid (r : Rf) : VPure env 51 [.agg r.enc] (.int .i64 (if !decide (r.path = ⟨#[]⟩) && !pathB r.path then 4 else restErr r)) := by
  obtain ⟨a1, a2, a3, a4, a5, a6, a7, a8, a9, a10, a11⟩ := r
  refine vpure_snd (fn := Tryz.f51) Tryz.func51 rfl (by rw [Tryz.ntmps51]; simp) (by simp -implicitDefEqProofs only [go_sem]) rfl ?_
  simp only [Tryz.f51]
  refine snd_cut ⟨[(1, .ptr 0 0)], [VObj.cells (Rf.enc ⟨a1, a2, a3, a4, a5, a6, a7, a8, a9, a10, a11⟩)], []⟩ (by simp -implicitDefEqProofs only [go_sem]) ?_
  by_cases hb : (!decide (a2 = ⟨#[]⟩) && !pathB a2) = true
  · refine vc_snd _ _ _ ?_
    simp only [hb, if_true]
    simp at hb
    simp -implicitDefEqProofs only [go_sem, decide_eq_false hb.1]
    refine (NPath _).calls rfl ?_
    simp -implicitDefEqProofs only [go_sem, hb.2]
  simp only [hb, if_false]
  refine snd_cut ⟨[(1, .ptr 0 0)], [VObj.cells (Rf.enc ⟨a1, a2, a3, a4, a5, a6, a7, a8, a9, a10, a11⟩)], []⟩ ?_ ?_
  · simp at hb
    simp -implicitDefEqProofs only [go_sem]
    intro c
    refine (NPath _).calls rfl ?_
    simp -implicitDefEqProofs only [go_sem, hb (by simpa using c)]
  refine vc_snd _ _ _ ?_
  simp -implicitDefEqProofs only [go_sem]
  refine snd_list (β := Unit) [a3, a4, a5, a6] (fun pre _ => ⟨[(28, .int .i64 pre.length), (27, .int .i64 (4 : Nat)), (26, .slice .full 9 ([a3, a4, a5, a6].map encS)), (1, .ptr 0 0)], [VObj.cells (Rf.enc ⟨a1, a2, a3, a4, a5, a6, a7, a8, a9, a10, a11⟩)], []⟩)
    (fun pre _ _ => pre.all maybeB) () ?_ rfl ?_ ?_
  · simp -implicitDefEqProofs only [go_sem, encS]
    rfl
  · intro _ i1
    have i1' : maybeB a3 = true ∧ maybeB a4 = true ∧ maybeB a5 = true ∧ maybeB a6 = true := by simpa using i1
    simp -implicitDefEqProofs only [go_sem]
    refine fun _ => fun _ => ?_
    refine snd_list (β := Unit) a10 (fun pre _ => ⟨[(43, .int .i64 pre.length), (42, .int .i64 a10.length), (41, sl 9 (a10.map encS)), (1, .ptr 0 0)], [VObj.cells (Rf.enc ⟨a1, a2, a3, a4, a5, a6, a7, a8, a9, a10, a11⟩)], []⟩)
      (fun pre _ _ => pre.all validName) () ?_ rfl ?_ ?_
    · simp -implicitDefEqProofs only [go_sem]
      rfl
    · intro _ i2
      simp -implicitDefEqProofs only [go_sem]
      refine fun _ => fun _ => ?_
      refine snd_list (β := Unit) a11 (fun pre _ => ⟨[(54, .int .i64 pre.length), (53, .int .i64 a11.length), (52, sl 9 (a11.map encS)), (1, .ptr 0 0)], [VObj.cells (Rf.enc ⟨a1, a2, a3, a4, a5, a6, a7, a8, a9, a10, a11⟩)], []⟩)
        (fun pre _ _ => pre.all fineB) () ?_ rfl ?_ ?_
      · simp -implicitDefEqProofs only [go_sem]
        rfl
      · intro _ i3
        simp -implicitDefEqProofs only [go_sem]
        intro _ _ _ _ _ _
        refine ⟨fun c => ?_, fun c => ?_⟩
        · simp only [restErr, i1', i2, i3, Bool.not_true, Bool.or_self, Bool.false_eq_true, if_false]
          rw [if_pos]
          split at c <;> split at c <;> omega
        · simp only [restErr, i1', i2, i3, Bool.not_true, Bool.or_self, Bool.false_eq_true, if_false]
          rw [if_neg]
          split at c <;> split at c <;> omega
      · rintro pre x post _ rfl i3
        simp -implicitDefEqProofs only [go_sem, encS]
        refine (Rplain _).calls rfl ?_
        simp -implicitDefEqProofs only [go_sem]
        refine ⟨fun d => ?_, fun d => ⟨(), ?_, wrap_next (mid_len' (by assumption) (by decide))⟩⟩
        · have : (pre ++ x :: post).all fineB = false := by simp_all
          simp [restErr, i1', i2, this]
        · simp_all
    · rintro pre x post _ rfl i2
      simp -implicitDefEqProofs only [go_sem, encS]
      refine (NValid _).calls rfl ?_
      simp -implicitDefEqProofs only [go_sem]
      refine ⟨fun d => ?_, fun d => ⟨(), ?_, wrap_next (mid_len' (by assumption) (by decide))⟩⟩
      · have : (pre ++ x :: post).all validName = false := by simp_all
        simp [restErr, i1', this]
      · simp_all
  · intro pre x post _ hx i1
    have hlt : ((pre.length : Int) < ((4 : Nat) : Int)) = True := by have := congrArg List.length hx; simp at this; simp; omega
    have bad : maybeB x = false → restErr ⟨a1, a2, a3, a4, a5, a6, a7, a8, a9, a10, a11⟩ = 4 := fun h => by
      have : [a3, a4, a5, a6].all maybeB = false := by rw [hx]; simp [h]
      unfold restErr
      rw [if_pos]
      clear hx i1
      cases h3 : maybeB a3 <;> cases h4 : maybeB a4 <;> cases h5 : maybeB a5 <;> cases h6 : maybeB a6 <;> simp_all
    have hpl : pre.length ≤ 1152921504606846976 := by have := congrArg List.length hx; simp at this; omega
    simp only [hx]
    simp -implicitDefEqProofs only [go_sem, encS, hlt]
    refine ⟨fun c => ?_, fun c => ⟨(), ?_, wrap_next hpl⟩⟩
    · refine (NValid _).calls rfl ?_
      simp -implicitDefEqProofs only [go_sem]
      refine ⟨fun d => ?_, fun d => ⟨(), ?_, wrap_next hpl⟩⟩
      · rw [bad (by simp_all [maybeB])]
      · simp_all [maybeB]
    · simp_all [maybeB]
theorem CheckP {h : List VObj} {a : List Nat} {id : Nat} {c : Cm} {n : Int} {K : Cont} (hh : h[id]? = some (.cells c.enc)) (hK : K (.bool (decide (n < 0) || decide (c.id ≤ n))) h a) : VCalls env 34 [.int .i64 n, .ptr id 0] h a K := by
  refine vcalls_vc (fn := Tryz.f34) Tryz.func34 rfl (by rw [Tryz.ntmps34]; simp) ?_
  simp -implicitDefEqProofs only [go_sem, Tryz.f34, hh, Cm.enc]
  refine ⟨fun c => ?_, fun c => ?_⟩
  · simpa [c] using hK
  · simpa [c] using hK
theorem IndexP {h : List VObj} {a : List Nat} {id : Nat} {c : Cm} {l : List Int} {K : Cont} (hh : h[id]? = some (.cells c.enc)) (hK : ∀ i : Int, (i < 0 ↔ l.all (fun n => decide (0 ≤ n) && decide (n < c.id))) → K (.int .i64 i) h a) : VCalls env 57 [sl 3 (l.map encI), .func 34 [.ptr id 0]] h a K := by
  refine vcalls_vc (fn := Tryz.f57) Tryz.func57 rfl (by rw [Tryz.ntmps57]; simp) ?_
  simp -implicitDefEqProofs only [go_sem, Tryz.f57]
  intro _ hl
  refine snd_list (β := Unit) l (fun pre _ => ⟨[(8, .int .i64 pre.length), (7, .int .i64 l.length), (1, .func 34 [.ptr id 0]), (0, sl 3 (l.map encI))], h, a⟩) (fun pre _ _ => pre.all (fun n => decide (0 ≤ n) && decide (n < c.id))) () ?_ rfl ?_ ?_
  · simp -implicitDefEqProofs only [go_sem]
    rfl
  · intro _ i1
    simp -implicitDefEqProofs only [go_sem]
    exact hK _ (by simp_all)
  · rintro pre x post _ rfl i1
    simp -implicitDefEqProofs only [go_sem, encI]
    refine CheckP hh ?_
    simp -implicitDefEqProofs only [go_sem]
    refine ⟨fun d => hK _ ?_, fun d => ⟨(), ?_, wrap_next (mid_len' hl (by decide))⟩⟩
    · simp_all
      omega
    · simp_all
theorem ContainsP {h : List VObj} {a : List Nat} {id : Nat} {c : Cm} {l : List Int} {K : Cont} (hh : h[id]? = some (.cells c.enc)) (hK : K (.bool (!l.all (fun n => decide (0 ≤ n) && decide (n < c.id)))) h a) : VCalls env 33 [sl 3 (l.map encI), .func 34 [.ptr id 0]] h a K := by
  refine vcalls_vc (fn := Tryz.f33) Tryz.func33 rfl (by rw [Tryz.ntmps33]; simp) ?_
  simp -implicitDefEqProofs only [go_sem, Tryz.f33]
  refine IndexP hh fun i hi => ?_
  simp -implicitDefEqProofs only [go_sem]
  have : decide (0 ≤ i) = !l.all (fun n => decide (0 ≤ n) && decide (n < c.id)) := by
    cases h : l.all (fun n => decide (0 ≤ n) && decide (n < c.id))
    · rw [h] at hi; simp at hi ⊢; omega
    · rw [h] at hi; simp at hi ⊢; omega
  rw [this]
  exact hK
end Go.Proofs.YtellnbgljmocgaaGreatDoor
