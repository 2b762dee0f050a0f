/- Names and paths, as the program checks them. -/
import Derived.Test.YtellnbgljmocgaaGreatDoorTcC
import Derived.Test.YtellnbgljmocgaaGreatDoorTcB
set_option linter.unusedVariables false
set_option linter.unusedSimpArgs false
set_option maxRecDepth 20000
namespace Go.Vg
open Go
theorem get_mid {s : ByteArray} {pre post : List UInt8} {x : UInt8} (h : s.data.toList = pre ++ x :: post) : s.get! (pre.length + 0) = x := by
  have h1 : s.data.toList[pre.length]? = some x := by rw [h]; simp
  have h2 : s.data[pre.length]? = some x := by simpa using h1
  obtain ⟨d⟩ := s
  show d[pre.length + 0]! = x
  rw [Nat.add_zero, getElem!_def, h2]
theorem dec_low {s : ByteArray} {pre post : List UInt8} {x : UInt8} (h : s.data.toList = pre ++ x :: post) (hx : x.toNat < 128) : Utf8.decode s pre.length = (x.toNat, 1) := by
  unfold Utf8.decode
  simp only [get_mid h]
  rw [if_pos hx]
theorem dec_high {s : ByteArray} {pre post : List UInt8} {x : UInt8} (h : s.data.toList = pre ++ x :: post) (hx : ¬ x.toNat < 128) : 128 ≤ (Utf8.decode s pre.length).1 := by
  unfold Utf8.decode
  simp only [get_mid h]
  rw [if_neg hx]
  simp only [Utf8.runeError]
  repeat' split
  all_goals simp_all
  all_goals omega
theorem nameB_high {c : Int} (h : 128 ≤ c) : letterB c = false ∧ digitB c = false := by
  unfold letterB digitB
  constructor
  · simp; omega
  · simp; omega
theorem ext_mid {s : ByteArray} {l0 cur r : List UInt8} (h : s.data.toList = l0 ++ cur ++ r) : (s.extract l0.length (l0 ++ cur).length).data.toList = cur := by
  obtain ⟨⟨d⟩⟩ := s
  simp only at h
  subst h
  simp [ByteArray.extract, ByteArray.copySlice]
theorem letter_digit {c : Int} (h : letterB c = true) : digitB c = false := by
  unfold letterB at h; unfold digitB
  simp at h ⊢; omega
theorem vn_bad {s : ByteArray} {pre post : List UInt8} {x : UInt8} (h : s.data.toList = pre ++ x :: post) (hx : nameB x.toNat = false) : validName s = false := by
  have : (s.data.toList.all fun c => nameB c.toNat) = false := by rw [h]; simp_all
  unfold validName
  rw [this]; simp
theorem vn_first {s : ByteArray} {post : List UInt8} {x : UInt8} (h : s.data.toList = x :: post) (hx : letterB x.toNat = false) : validName s = false := by
  cases hd : digitB (x.toNat : Int)
  · exact vn_bad (pre := []) h (by simp [nameB, hx, hd])
  · simp [validName, byteAt_zero h, hd]
theorem nameB_big {x : UInt8} (h : ¬ x.toNat < 128) : nameB x.toNat = false := by
  have := nameB_high (c := x.toNat) (by omega)
  simp [nameB, this]
end Go.Vg
namespace Go.Proofs.YtellnbgljmocgaaGreatDoor
open Go Go.Vg Go.Proofs
theorem Ndigit (c : Int) : VPure env 141 [.int .i32 c] (.bool (digitB c)) := by
  refine vpure_vc (fn := Tryz.f141) Tryz.func141 rfl (by rw [Tryz.ntmps141]; simp) rfl rfl ?_
  simp -implicitDefEqProofs only [go_sem, Tryz.f141, digitB]
  grind
theorem Nletter (c : Int) : VPure env 140 [.int .i32 c] (.bool (letterB c)) := by
  refine vpure_vc (fn := Tryz.f140) Tryz.func140 rfl (by rw [Tryz.ntmps140]; simp) rfl rfl ?_
  simp -implicitDefEqProofs only [go_sem, Tryz.f140, letterB]
  grind
theorem NKeyword (s : ByteArray) : VPure env 139 [.str s] (.bool (keyword s)) := by
  refine vpure_vc (fn := Tryz.f139) Tryz.func139 rfl (by rw [Tryz.ntmps139]; simp) rfl rfl ?_
  simp -implicitDefEqProofs only [go_sem, Tryz.f139, keyword]
  simp +contextual
theorem NValid (s : ByteArray) : VPure env 93 [.str s] (.bool (validName s)) := by
  refine vpure_vc (fn := Tryz.f93) Tryz.func93 rfl (by rw [Tryz.ntmps93]; simp) rfl rfl ?_
  simp -implicitDefEqProofs only [go_sem, Tryz.f93]
  refine ⟨fun a1 hs => ⟨fun a2 => (NKeyword s).calls rfl ?_, fun a2 => ?_⟩, fun a1 => ?_⟩
  rotate_left
  · simp [validName, a2]
  · subst a1; rfl
  have hne : s.data.toList ≠ [] := fun h => a1 (ba_ext h)
  have hpos : ¬ (s.size : Int) < 1 := by
    rw [size_list]
    have := List.length_pos_iff.2 hne
    omega
  simp -implicitDefEqProofs only [go_sem]
  refine ⟨fun a3 => ?_, fun a3 => ?_⟩
  · simp [validName, a3]
  refine snd_list (β := Unit) s.data.toList (fun pre _ => ⟨[(17, .ptr 0 0), (0, .str s)], [.siter s pre.length], []⟩) (fun pre _ _ => (pre.all fun c => nameB c.toNat) ∧ (pre ≠ [] → digitB (byteAt s 0) = false)) () ?_ ?_ ?_ ?_
  · simp -implicitDefEqProofs only [go_sem]
  · exact ⟨rfl, fun h => absurd rfl h⟩
  · intro _ ⟨i1, i2⟩
    simp -implicitDefEqProofs only [go_sem, ← size_list]
    have := i2 hne
    have i1' : s.data.toList.all (fun c => nameB c.toNat) = true := i1
    simp only [validName, hpos, a2, a3, this, i1', decide_false, Bool.not_false, Bool.and_self, Nat.lt_irrefl, if_false]
  · rintro pre x post _ hx ⟨i1, i2⟩
    have hz := size_mid hx
    have hl : pre.length < (pre ++ x :: post).length := by simp
    by_cases hx8 : x.toNat < 128
    · simp -implicitDefEqProofs only [go_sem, hz, hl, dec_low hx hx8]
      refine (Nletter _).calls rfl ?_
      simp -implicitDefEqProofs only [go_sem]
      repeat' (first | apply And.intro | (refine (Ndigit _).calls rfl ?_; simp -implicitDefEqProofs only [go_sem]) | (refine fun (_ : @Eq Bool _ _) => ?_)  | (refine fun (_ : @Eq Int _ _) => ?_) | (refine fun (_ : ¬ (@Eq Int _ _)) => ?_))
      · rename_i b1 b2 b3
        rw [vn_bad hx (by simp_all [nameB])]
      · rename_i b1 b2 b3
        have hp : pre ≠ [] := by rintro rfl; simp at b2
        exact ⟨(), by simp_all [nameB], fun _ => i2 hp⟩
      · rename_i b1 b2
        have hp : pre = [] := List.eq_nil_of_length_eq_zero (by omega)
        subst hp
        rw [vn_first hx (by simpa using b1)]
      · rename_i b1
        have b1 : letterB x.toNat = true := by simpa using b1
        refine ⟨(), by simp_all [nameB], fun _ => ?_⟩
        by_cases hp : pre = []
        · subst hp
          rw [byteAt_zero hx]
          exact letter_digit b1
        · exact i2 hp
    · have hd := nameB_high (c := (Utf8.decode s pre.length).1) (by have := dec_high hx hx8; omega)
      simp -implicitDefEqProofs only [go_sem, hz, hl]
      refine (Nletter _).calls rfl ?_
      simp only [hd.1]
      simp -implicitDefEqProofs only [go_sem]
      refine ⟨fun _ => (Ndigit _).calls rfl ?_, fun _ => ?_⟩
      · simp only [hd.2]
        simp -implicitDefEqProofs only [go_sem]
        rw [vn_bad hx (nameB_big hx8)]
      · rw [vn_bad hx (nameB_big hx8)]
theorem Npart (s : ByteArray) : VPure env 97 [.str s] (.bool (partB s.data.toList)) := by
  refine vpure_vc (fn := Tryz.f97) Tryz.func97 rfl (by rw [Tryz.ntmps97]; simp) rfl rfl ?_
  simp -implicitDefEqProofs only [go_sem, Tryz.f97]
  refine ⟨fun a1 => ⟨fun a2 => ⟨fun a3 => ?_, fun a3 => ?_⟩, fun a2 => ?_⟩, fun a1 => ?_⟩
  · subst a3; rfl
  rotate_left
  · subst a2; rfl
  · subst a1; rfl
  have n1 : s.data.toList ≠ [] := fun h => a1 (ba_ext h)
  have n2 : s.data.toList ≠ [46] := fun h => a2 (ba_ext h)
  have n3 : s.data.toList ≠ [46, 46] := fun h => a3 (ba_ext h)
  refine snd_list (β := Unit) s.data.toList (fun pre _ => ⟨[(16, .ptr 0 0), (0, .str s)], [.siter s pre.length], []⟩) (fun pre _ _ => (pre.all fun c => nameB c.toNat || decide (c = 45) || decide (c = 46))) () ?_ rfl ?_ ?_
  · simp -implicitDefEqProofs only [go_sem]
  · intro _ i1
    have i1' : (s.data.toList.all fun c => nameB c.toNat || decide (c = 45) || decide (c = 46)) = true := i1
    simp -implicitDefEqProofs only [go_sem, ← size_list]
    simp only [partB, n1, n2, n3, i1', decide_false, Bool.not_false, Bool.and_self, Nat.lt_irrefl, if_false]
  · rintro pre x post _ hx i1
    have hz := size_mid hx
    have hl : pre.length < (pre ++ x :: post).length := by simp
    have bad : (nameB x.toNat || decide (x = 45) || decide (x = 46)) = false → partB s.data.toList = false := fun h => by
      have : (s.data.toList.all fun c => nameB c.toNat || decide (c = 45) || decide (c = 46)) = false := by rw [hx, List.all_append, List.all_cons, h]; simp
      unfold partB
      rw [this]; simp
    have e45 : x = 45 ↔ (x.toNat : Int) = 45 := by rw [← UInt8.toNat_inj]; simp; omega
    have e46 : x = 46 ↔ (x.toNat : Int) = 46 := by rw [← UInt8.toNat_inj]; simp; omega
    by_cases hx8 : x.toNat < 128
    · simp -implicitDefEqProofs only [go_sem, hz, hl, dec_low hx hx8]
      refine (Nletter _).calls rfl ?_
      simp -implicitDefEqProofs only [go_sem]
      repeat' (first | apply And.intro | (refine (Ndigit _).calls rfl ?_; simp -implicitDefEqProofs only [go_sem]) | (refine fun (_ : @Eq Bool _ _) => ?_)  | (refine fun (_ : @Eq Int _ _) => ?_) | (refine fun (_ : ¬ (@Eq Int _ _)) => ?_))
      · rw [bad (by simp_all [nameB])]
      all_goals exact ⟨(), by simp_all [nameB]⟩
    · have hd := nameB_high (c := (Utf8.decode s pre.length).1) (by have := dec_high hx hx8; omega)
      simp -implicitDefEqProofs only [go_sem, hz, hl]
      refine (Nletter _).calls rfl ?_
      simp only [hd.1]
      simp -implicitDefEqProofs only [go_sem]
      refine (Ndigit _).calls rfl ?_
      simp only [hd.2]
      have h45 : ¬ ((Utf8.decode s pre.length).1 : Int) = 45 := by have := dec_high hx hx8; omega
      have h46 : ¬ ((Utf8.decode s pre.length).1 : Int) = 46 := by have := dec_high hx hx8; omega
      simp -implicitDefEqProofs only [go_sem, h45, h46]
      rw [bad (by rw [nameB_big hx8]; simp [e45, e46]; omega)]
theorem NPath (s : ByteArray) : VPure env 58 [.str s] (.bool (pathB s)) := by
  refine vpure_vc (fn := Tryz.f58) Tryz.func58 rfl (by rw [Tryz.ntmps58]; simp) rfl rfl ?_
  simp -implicitDefEqProofs only [go_sem, Tryz.f58]
  refine ⟨fun a1 hs => ⟨fun a2 => ?_, fun a2 => ?_⟩, fun a1 => ?_⟩
  · simp [pathB, a2]
  rotate_left
  · subst a1; rfl
  have hne : s.data.toList ≠ [] := fun h => a1 (ba_ext h)
  have hpos : ¬ (s.size : Int) < 1 := by
    rw [size_list]
    have := List.length_pos_iff.2 hne
    omega
  refine snd_list (β := Nat × List UInt8) (s.data.toList.map some ++ [none]) (fun pre b => ⟨[(4, .int .i64 pre.length), (3, .int .i64 b.1), (0, .str s)], [], []⟩)
    (fun pre post b => (∃ l r l0, pre = l.map some ∧ post = r.map some ++ [none] ∧ s.data.toList = l ++ r ∧ l = l0 ++ b.2 ∧ b.1 = l0.length ∧ pathParts [] s.data.toList = pathParts b.2 r) ∨ (post = [] ∧ pathParts [] s.data.toList = true)) (0, []) ?_
    (.inl ⟨[], s.data.toList, [], rfl, rfl, rfl, rfl, rfl, rfl⟩) ?_ ?_
  · simp -implicitDefEqProofs only [go_sem]
    rfl
  · rintro ⟨k, cur⟩ (⟨l, r, l0, _, h, _⟩ | ⟨_, h⟩)
    · simp at h
    · have e : ¬ (((s.data.toList.length + 1 : Nat) : Int) ≤ s.size) := by rw [size_list]; omega
      simp -implicitDefEqProofs only [go_sem, e]
      intro _
      simp only [pathB, hpos, a2, h, decide_false, Bool.not_false, Bool.and_self]
  · rintro pre x post ⟨k, cur⟩ hx (⟨l, r, l0, rfl, hr, hl, rfl, hk, hp⟩ | ⟨h, _⟩)
    rotate_left
    · cases h
    simp only at hk hl hp
    subst hk
    have hsz := size_mid hl
    rcases r with _ | ⟨y, r⟩
    · simp at hr
      obtain ⟨rfl, rfl⟩ := hr
      have hex := ext_mid hl
      simp -implicitDefEqProofs only [go_sem, hsz, Int.le_refl]
      intro _ hb
      refine ⟨by simp; omega, (Npart _).calls rfl ?_⟩
      simp only [Int.toNat_natCast, hex]
      simp -implicitDefEqProofs only [go_sem]
      refine ⟨fun c => ?_, fun c => ?_⟩
      · have c : partB cur = false := by simpa using c
        simp [pathB, hp, pathParts, c]
      · refine ⟨(l0.length + cur.length + 1, []), .inr ?_, wrap_next hb, ?_⟩
        · simpa [hp, pathParts] using c
        · rw [wrap_next hb]; simp
    · simp at hr
      obtain ⟨rfl, rfl⟩ := hr
      have hex := ext_mid hl
      have hle : (((l0 ++ cur).length : Int) ≤ ((l0 ++ cur ++ y :: r).length : Int)) = True := by simp; omega
      simp -implicitDefEqProofs only [go_sem, hsz, hle, byteAt_mid hl]
      intro hb _
      have hb' : (l0 ++ cur).length ≤ 1152921504606846976 := by simp at hb ⊢; omega
      have h47 : y = 47 ↔ (y.toNat : Int) = 47 := by rw [← UInt8.toNat_inj]; simp; omega
      refine ⟨fun c => ?_, fun c => ⟨by simp; omega, (Npart _).calls rfl ?_⟩⟩
      · have c : ¬ y = 47 := by simpa [h47] using c
        refine ⟨(l0.length, cur ++ [y]), .inl ⟨l0 ++ (cur ++ [y]), r, l0, by simp, rfl, by simp [hl], rfl, rfl, ?_⟩, wrap_next hb', rfl⟩
        simp [hp, pathParts, c]
      · have c : y = 47 := by simpa [h47] using c
        simp only [Int.toNat_natCast, hex]
        simp -implicitDefEqProofs only [go_sem]
        refine ⟨fun d => ?_, fun d => ?_⟩
        · have d : partB cur = false := by simpa using d
          simp [pathB, hp, pathParts, d, c]
        · refine ⟨(l0.length + cur.length + 1, []), .inl ⟨l0 ++ (cur ++ [y]), r, l0 ++ (cur ++ [y]), by simp, rfl, by simp [hl], by simp, by simp; omega, ?_⟩, wrap_next hb', ?_⟩
          · simp at d
            simp [hp, pathParts, c, d]
          · rw [wrap_next hb']; simp
end Go.Proofs.YtellnbgljmocgaaGreatDoor
