/- The reference's names, paths and numbers. -/
import Derived.Test.YtknonjdfjicmeaaGreatDoorTcH
import Derived.Test.YtknonjdfjicmeaaGreatDoorTcI
set_option linter.unusedVariables false
set_option linter.unusedSimpArgs false
namespace Go.Vg
open Go Go.Lib
/-- The digits of a number. -/
def decN (n : Nat) : ByteArray := if h : n < 10 then strOf [48 + (n % 10 : Nat)] else decN (n / 10) ++ strOf [48 + (n % 10 : Nat)]
  termination_by n
  decreasing_by omega
theorem decN_itoa (n : Nat) : decN n = itoaB n := by
  have : ∀ n : Nat, (decN n).data.toList = decDigits n := by
    intro n
    induction n using Nat.strongRecOn with
    | _ n ih =>
    have hs : ∀ k : Nat, k < 10 → (strOf [48 + (k : Int)]).data.toList = [UInt8.ofNat (48 + k)] := by
      intro k hk
      simp only [strOf, List.map_cons, List.map_nil]
      congr 1
    rw [decN, decDigits]
    split
    · rename_i h
      rw [Nat.mod_eq_of_lt h]
      exact hs n h
    · rw [ba_append, ih (n / 10) (by omega), hs (n % 10) (by omega)]
  apply ba_ext
  rw [this]
  simp [itoaB, itoa]
end Go.Vg
namespace Go.Proofs.YtknonjdfjicmeaaGreatDoor
open Go Go.Vg Go.Proofs
theorem R03digit (c : Int) : VPure env 127 [.int .u8 c] (.bool (digitB c)) := by
  refine vpure_vc (fn := Tryz.f127) Tryz.func127 rfl (by rw [Tryz.ntmps127]; simp) rfl rfl ?_
  simp -implicitDefEqProofs only [go_sem, Tryz.f127, digitB]
  grind
theorem R03letter (c : Int) : VPure env 126 [.int .u8 c] (.bool (letterB c)) := by
  refine vpure_vc (fn := Tryz.f126) Tryz.func126 rfl (by rw [Tryz.ntmps126]; simp) rfl rfl ?_
  simp -implicitDefEqProofs only [go_sem, Tryz.f126, letterB]
  grind
theorem R03Keyword (s : ByteArray) : VPure env 128 [.str s] (.bool (keyword s)) := by
  refine vpure_vc (fn := Tryz.f128) Tryz.func128 rfl (by rw [Tryz.ntmps128]; simp) rfl rfl ?_
  simp -implicitDefEqProofs only [go_sem, Tryz.f128, keyword]
  simp +contextual
theorem R03Valid (s : ByteArray) : VPure env 82 [.str s] (.bool (validName s)) := by
  refine vpure_vc (fn := Tryz.f82) Tryz.func82 rfl (by rw [Tryz.ntmps82]; simp) rfl rfl ?_
  simp -implicitDefEqProofs only [go_sem, Tryz.f82]
  intro hs
  refine ⟨fun a1 _ => ⟨fun a2 => ⟨by omega, ?_⟩, fun a2 => ?_⟩, fun a1 => ?_⟩
  · refine (R03digit _).calls rfl ?_
    simp -implicitDefEqProofs only [go_sem]
    refine ⟨fun a3 => ?_, fun a3 => ?_⟩
    · refine (R03Keyword _).calls rfl ?_
      simp -implicitDefEqProofs only [go_sem]
      refine ⟨fun a4 => ?_, fun a4 => ?_⟩
      · simp [validName, a4]
      · refine snd_list (β := Unit) s.data.toList (fun pre _ => ⟨[(3, .int .i64 pre.length), (0, .str s)], [], []⟩) (fun pre _ _ => pre.all fun c => nameB c.toNat) () ?_ ?_ ?_ ?_
        · simp -implicitDefEqProofs only [go_sem]
          trivial
        · rfl
        · intro _ i1
          simp -implicitDefEqProofs only [go_sem, ← size_list]
          intro _
          simp [validName, a1, a2, a3, a4]
          simpa using i1
        · rintro pre x post _ hx i1
          have hz := size_mid hx
          simp -implicitDefEqProofs only [go_sem, hz, byteAt_mid hx]
          intro hl
          refine (R03letter _).calls rfl ?_
          simp -implicitDefEqProofs only [go_sem, hz, byteAt_mid hx]
          have hnext := wrap_next (mid_len hl)
          refine ⟨fun c => (R03digit _).calls rfl ?_, fun c => ⟨(), ?_, hnext⟩⟩
          · simp -implicitDefEqProofs only [go_sem]
            refine ⟨fun d => ?_, fun d => ⟨(), ?_, hnext⟩⟩
            · have : (s.data.toList.all fun c => nameB c.toNat) = false := by rw [hx]; simp_all [nameB]
              unfold validName
              rw [this]; simp
            · simp_all [nameB]
          · simp_all [nameB]
    · simp [validName, a3]
  · simp [validName, a2]
  · simp [validName, a1]
theorem wrap8 {x : Int} (h : 0 ≤ x) (h' : x ≤ 255) : IntKind.u8.wrap x = x := by
  simp only [IntKind.wrap, IntKind.signed, IntKind.bits]; simp; omega
theorem tmod10 (n : Nat) : (n : Int).tmod 10 = ((n % 10 : Nat) : Int) := by rw [Int.tmod_eq_emod_of_nonneg (by omega)]; omega
theorem tdiv10 (n : Nat) : (n : Int).tdiv 10 = ((n / 10 : Nat) : Int) := by rw [Int.tdiv_eq_ediv_of_nonneg (by omega)]; omega
theorem digit8 (n : Nat) : IntKind.u8.wrap (IntKind.i64.wrap (48 + (n : Int).tmod 10)) = 48 + (n % 10 : Nat) := by
  rw [tmod10, Go.Vg.wrap_small (by omega) (by omega), wrap8 (by omega) (by omega)]
theorem strOf_size {l : List Int} : (strOf l).size = l.length := by simp [strOf, ByteArray.size]
theorem decN_size (n : Nat) (k : Nat) (hn : n < 10 ^ k) : (decN n).size ≤ k + 1 := by
  induction k generalizing n with
  | zero => rw [decN, dif_pos (by simp at hn; omega), strOf_size]; simp
  | succ k ih =>
    rw [decN]
    split
    · rw [strOf_size]; simp
    · have := ih (n / 10) (by rw [Nat.pow_succ] at hn; omega)
      rw [ByteArray.size_append, strOf_size]; simp; omega
theorem R03Number (n : Nat) : n < 1000000000000000000 → VPure env 59 [.int .i64 n] (.str (decN n)) := by
  induction n using Nat.strongRecOn with
  | _ n ih =>
  intro hn
  refine vpure_vc (fn := Tryz.f59) Tryz.func59 rfl (by rw [Tryz.ntmps59]; simp) rfl rfl ?_
  simp -implicitDefEqProofs only [go_sem, Tryz.f59]
  refine ⟨fun h => ?_, fun h => ?_⟩
  · rw [digit8, decN, dif_pos (by omega)]
  · refine snd_draw (cs := []) mixed (by kernel_rfl) ?_
    simp -implicitDefEqProofs only [go_sem]
    rw [tdiv10, Go.Vg.wrap_small (by omega) (by omega)]
    refine vPC_of (ih (n / 10) (by omega) (by omega)) rfl ?_
    simp -implicitDefEqProofs only [go_sem]
    rw [digit8]
    refine ⟨?_, ?_⟩
    · have := decN_size (n / 10) 18 (by omega)
      rw [strOf_size]; simp; omega
    · conv => rhs; rw [decN, dif_neg (by omega)]
theorem R03Decimal (n : Int) (h0 : 0 ≤ n) (h1 : n < 1000000000000000000) : VPure env 29 [.int .i64 n] (.str (itoaB n)) := by
  obtain ⟨k, rfl⟩ : ∃ k : Nat, n = k := ⟨n.toNat, by omega⟩
  refine vpure_vc (fn := Tryz.f29) Tryz.func29 rfl (by rw [Tryz.ntmps29]; simp) rfl rfl ?_
  have hd : ((k : Int) ≥ 0) = True := eq_true h0
  simp -implicitDefEqProofs only [go_sem, Tryz.f29]
  refine (R03Number k (by omega)).calls rfl ?_
  simp -implicitDefEqProofs only [go_sem]
  rw [decN_itoa]
theorem R03part (s : ByteArray) : VPure env 81 [.str s] (.bool (partB s.data.toList)) := by
  refine vpure_vc (fn := Tryz.f81) Tryz.func81 rfl (by rw [Tryz.ntmps81]; simp) rfl rfl ?_
  simp -implicitDefEqProofs only [go_sem, Tryz.f81]
  refine ⟨fun a1 => ⟨fun a2 => ⟨fun a3 => ?_, fun a3 => ?_⟩, fun a2 => ?_⟩, fun a1 => ?_⟩
  · subst a3; rfl
  rotate_left
  · subst a2; rfl
  · subst a1; rfl
  have n1 : s.data.toList ≠ [] := fun h => a1 (ba_ext h)
  have n2 : s.data.toList ≠ [46] := fun h => a2 (ba_ext h)
  have n3 : s.data.toList ≠ [46, 46] := fun h => a3 (ba_ext h)
  refine snd_list (β := Unit) s.data.toList (fun pre _ => ⟨[(3, .int .i64 pre.length), (0, .str s)], [], []⟩) (fun pre _ _ => (pre.all fun c => nameB c.toNat || decide (c = 45) || decide (c = 46))) () ?_ rfl ?_ ?_
  · simp -implicitDefEqProofs only [go_sem]
    rfl
  · intro _ i1
    have i1' : (s.data.toList.all fun c => nameB c.toNat || decide (c = 45) || decide (c = 46)) = true := i1
    simp -implicitDefEqProofs only [go_sem, ← size_list]
    intro _
    simp only [partB, n1, n2, n3, i1', decide_false, Bool.not_false, Bool.and_self, Nat.lt_irrefl, if_false]
  · rintro pre x post _ hx i1
    have hz := size_mid hx
    have hl : pre.length < (pre ++ x :: post).length := by simp
    have bad : (nameB x.toNat || decide (x = 45) || decide (x = 46)) = false → partB s.data.toList = false := fun h => by
      have : (s.data.toList.all fun c => nameB c.toNat || decide (c = 45) || decide (c = 46)) = false := by rw [hx, List.all_append, List.all_cons, h]; simp
      unfold partB
      rw [this]; simp
    have e45 : x = 45 ↔ (x.toNat : Int) = 45 := by rw [← UInt8.toNat_inj]; simp; omega
    have e46 : x = 46 ↔ (x.toNat : Int) = 46 := by rw [← UInt8.toNat_inj]; simp; omega
    simp -implicitDefEqProofs only [go_sem, hz, byteAt_mid hx]
    intro hl2
    have hnext := wrap_next (mid_len hl2)
    refine (R03letter _).calls rfl ?_
    simp -implicitDefEqProofs only [go_sem, hz, byteAt_mid hx]
    repeat' (first | apply And.intro | (refine (R03digit _).calls rfl ?_; simp -implicitDefEqProofs only [go_sem, hz, byteAt_mid hx]) | (refine fun (_ : @Eq Bool _ _) => ?_)  | (refine fun (_ : @Eq Int _ _) => ?_) | (refine fun (_ : ¬ (@Eq Int _ _)) => ?_))
    · rw [bad (by simp_all [nameB])]
    all_goals exact ⟨(), by simp_all [nameB], hnext⟩
theorem R03Path (s : ByteArray) : VPure env 47 [.str s] (.bool (pathB s)) := by
  refine vpure_vc (fn := Tryz.f47) Tryz.func47 rfl (by rw [Tryz.ntmps47]; simp) rfl rfl ?_
  simp -implicitDefEqProofs only [go_sem, Tryz.f47]
  refine fun hs => ⟨fun a1 => fun _ => ⟨fun a2 => ?_, fun a2 => ?_⟩, fun a1 => ?_⟩
  · simp [pathB, a2]
  rotate_left
  · simp [pathB, a1]
  refine snd_list (β := Nat × List UInt8) s.data.toList (fun pre b => ⟨[(4, .int .i64 pre.length), (3, .int .i64 b.1), (0, .str s)], [], []⟩)
    (fun pre post b => ∃ l0, pre = l0 ++ b.2 ∧ b.1 = l0.length ∧ pathParts [] s.data.toList = pathParts b.2 post) (0, []) ?_ ⟨[], rfl, rfl, rfl⟩ ?_ ?_
  · simp -implicitDefEqProofs only [go_sem]
    rfl
  · rintro ⟨k, cur⟩ ⟨l0, hl, hk, hp⟩
    simp only at hl hk hp
    subst hk
    have hex := ext_end (s := s) (pre := l0) (l := cur) hl
    have hle : (l0.length : Int) ≤ s.size := by rw [size_list, hl]; simp; omega
    simp -implicitDefEqProofs only [go_sem, ← size_list]
    intro _
    refine ⟨⟨hle, Int.le_refl _⟩, (R03part _).calls rfl ?_⟩
    simp only [Int.toNat_natCast, hex]
    simp -implicitDefEqProofs only [go_sem]
    simp only [pathB, hp, pathParts, a1, a2, decide_false, Bool.not_false, Bool.true_and]
  · rintro pre x post ⟨k, cur⟩ hx ⟨l0, hl, hk, hp⟩
    simp only at hl hk hp
    subst hk
    subst hl
    have hz := size_mid hx
    have hex := ext_mid hx
    have hle : ((l0.length : Int) ≤ ((l0 ++ cur).length : Int)) := by simp; omega
    have hle2 : (((l0 ++ cur).length : Int) ≤ ((l0 ++ cur ++ x :: post).length : Int)) := by simp; omega
    have e47 : x = 47 ↔ (x.toNat : Int) = 47 := by rw [← UInt8.toNat_inj]; simp; omega
    simp -implicitDefEqProofs only [go_sem, hz, byteAt_mid hx]
    refine fun hb => ⟨fun c => ⟨⟨hle, hle2⟩, (R03part _).calls rfl ?_⟩, fun c => ⟨(l0.length, cur ++ [x]), ⟨l0, by simp, rfl, ?_⟩, wrap_next (mid_len hb), rfl⟩⟩
    · have hx47 : x = 47 := e47.2 c
      simp only [Int.toNat_natCast, hex]
      simp -implicitDefEqProofs only [go_sem]
      refine ⟨fun d => ?_, fun d => ⟨((l0 ++ cur).length + 1, []), ⟨l0 ++ cur ++ [x], by simp, by simp; omega, ?_⟩, wrap_next (mid_len hb), ?_⟩⟩
      · have d : partB cur = false := by simpa using d
        simp [pathB, hp, pathParts, hx47, d]
      · have d : partB cur = true := by simpa using d
        simp [hp, pathParts, hx47, d]
      · rw [wrap_next (mid_len hb)]
    · have hx47 : ¬ x = 47 := fun e => c (e47.1 e)
      simp [hp, pathParts, hx47]
end Go.Proofs.YtknonjdfjicmeaaGreatDoor
