/- The reference's printing. -/
import Derived.Test.YtellnbgljmocgaaGreatDoorTcH
import Derived.Test.YtellnbgljmocgaaGreatDoorTcI
import Derived.Test.YtellnbgljmocgaaGreatDoorTcD
set_option linter.unusedVariables false
set_option linter.unusedSimpArgs false
namespace Go.Vg
open Go Go.Lib
/-- The digits of a number. -/
def decN (n : Nat) : ByteArray := if h : n < 10 then strOf [48 + (n % 10 : Nat)] else decN (n / 10) ++ strOf [48 + (n % 10 : Nat)]
  termination_by n
  decreasing_by omega
theorem decN_itoa (n : Nat) : decN n = itoaB n := by
  have : ∀ n : Nat, (decN n).data.toList = decDigits n := by
    intro n
    induction n using Nat.strongRecOn with
    | _ n ih =>
    have hs : ∀ k : Nat, k < 10 → (strOf [48 + (k : Int)]).data.toList = [UInt8.ofNat (48 + k)] := by
      intro k hk
      simp only [strOf, List.map_cons, List.map_nil]
      congr 1
    rw [decN, decDigits]
    split
    · rename_i h
      rw [Nat.mod_eq_of_lt h]
      exact hs n h
    · rw [ba_append, ih (n / 10) (by omega), hs (n % 10) (by omega)]
  apply ba_ext
  rw [this]
  simp [itoaB, itoa]
end Go.Vg
namespace Go.Proofs.YtellnbgljmocgaaGreatDoor
open Go Go.Vg Go.Proofs
theorem R03digit (c : Int) : VPure env 154 [.int .u8 c] (.bool (digitB c)) := by
  refine vpure_vc (fn := Tryz.f154) Tryz.func154 rfl (by rw [Tryz.ntmps154]; simp) rfl rfl ?_
  simp -implicitDefEqProofs only [go_sem, Tryz.f154, digitB]
  grind
theorem R03letter (c : Int) : VPure env 153 [.int .u8 c] (.bool (letterB c)) := by
  refine vpure_vc (fn := Tryz.f153) Tryz.func153 rfl (by rw [Tryz.ntmps153]; simp) rfl rfl ?_
  simp -implicitDefEqProofs only [go_sem, Tryz.f153, letterB]
  grind
theorem R03Keyword (s : ByteArray) : VPure env 155 [.str s] (.bool (keyword s)) := by
  refine vpure_vc (fn := Tryz.f155) Tryz.func155 rfl (by rw [Tryz.ntmps155]; simp) rfl rfl ?_
  simp -implicitDefEqProofs only [go_sem, Tryz.f155, keyword]
  simp +contextual
theorem R03Valid (s : ByteArray) : VPure env 106 [.str s] (.bool (validName s)) := by
  refine vpure_vc (fn := Tryz.f106) Tryz.func106 rfl (by rw [Tryz.ntmps106]; simp) rfl rfl ?_
  simp -implicitDefEqProofs only [go_sem, Tryz.f106]
  intro hs
  refine ⟨fun a1 _ => ⟨fun a2 => ⟨by omega, ?_⟩, fun a2 => ?_⟩, fun a1 => ?_⟩
  · refine (R03digit _).calls rfl ?_
    simp -implicitDefEqProofs only [go_sem]
    refine ⟨fun a3 => ?_, fun a3 => ?_⟩
    · refine (R03Keyword _).calls rfl ?_
      simp -implicitDefEqProofs only [go_sem]
      refine ⟨fun a4 => ?_, fun a4 => ?_⟩
      · simp [validName, a4]
      · refine snd_list (β := Unit) s.data.toList (fun pre _ => ⟨[(3, .int .i64 pre.length), (0, .str s)], [], []⟩) (fun pre _ _ => pre.all fun c => nameB c.toNat) () ?_ ?_ ?_ ?_
        · simp -implicitDefEqProofs only [go_sem]
          trivial
        · rfl
        · intro _ i1
          simp -implicitDefEqProofs only [go_sem, ← size_list]
          intro _
          simp [validName, a1, a2, a3, a4]
          simpa using i1
        · rintro pre x post _ hx i1
          have hz := size_mid hx
          simp -implicitDefEqProofs only [go_sem, hz, byteAt_mid hx]
          intro hl
          refine (R03letter _).calls rfl ?_
          simp -implicitDefEqProofs only [go_sem, hz, byteAt_mid hx]
          have hnext := wrap_next (mid_len hl)
          refine ⟨fun c => (R03digit _).calls rfl ?_, fun c => ⟨(), ?_, hnext⟩⟩
          · simp -implicitDefEqProofs only [go_sem]
            refine ⟨fun d => ?_, fun d => ⟨(), ?_, hnext⟩⟩
            · have : (s.data.toList.all fun c => nameB c.toNat) = false := by rw [hx]; simp_all [nameB]
              unfold validName
              rw [this]; simp
            · simp_all [nameB]
          · simp_all [nameB]
    · simp [validName, a3]
  · simp [validName, a2]
  · simp [validName, a1]
theorem wrap8 {x : Int} (h : 0 ≤ x) (h' : x ≤ 255) : IntKind.u8.wrap x = x := by
  simp only [IntKind.wrap, IntKind.signed, IntKind.bits]; simp; omega
theorem tmod10 (n : Nat) : (n : Int).tmod 10 = ((n % 10 : Nat) : Int) := by rw [Int.tmod_eq_emod_of_nonneg (by omega)]; omega
theorem tdiv10 (n : Nat) : (n : Int).tdiv 10 = ((n / 10 : Nat) : Int) := by rw [Int.tdiv_eq_ediv_of_nonneg (by omega)]; omega
theorem digit8 (n : Nat) : IntKind.u8.wrap (IntKind.i64.wrap (48 + (n : Int).tmod 10)) = 48 + (n % 10 : Nat) := by
  rw [tmod10, Go.Vg.wrap_small (by omega) (by omega), wrap8 (by omega) (by omega)]
theorem strOf_size {l : List Int} : (strOf l).size = l.length := by simp [strOf, ByteArray.size]
theorem decN_size (n : Nat) (k : Nat) (hn : n < 10 ^ k) : (decN n).size ≤ k + 1 := by
  induction k generalizing n with
  | zero => rw [decN, dif_pos (by simp at hn; omega), strOf_size]; simp
  | succ k ih =>
    rw [decN]
    split
    · rw [strOf_size]; simp
    · have := ih (n / 10) (by rw [Nat.pow_succ] at hn; omega)
      rw [ByteArray.size_append, strOf_size]; simp; omega
theorem R03Number (n : Nat) : n < 1000000000000000000 → VPure env 71 [.int .i64 n] (.str (decN n)) := by
  induction n using Nat.strongRecOn with
  | _ n ih =>
  intro hn
  refine vpure_vc (fn := Tryz.f71) Tryz.func71 rfl (by rw [Tryz.ntmps71]; simp) rfl rfl ?_
  simp -implicitDefEqProofs only [go_sem, Tryz.f71]
  refine ⟨fun h => ?_, fun h => ?_⟩
  · rw [digit8, decN, dif_pos (by omega)]
  · refine snd_draw (cs := []) mixed (by kernel_rfl) ?_
    simp -implicitDefEqProofs only [go_sem]
    rw [tdiv10, Go.Vg.wrap_small (by omega) (by omega)]
    refine vPC_of (ih (n / 10) (by omega) (by omega)) rfl ?_
    simp -implicitDefEqProofs only [go_sem]
    rw [digit8]
    refine ⟨?_, ?_⟩
    · have := decN_size (n / 10) 18 (by omega)
      rw [strOf_size]; simp; omega
    · conv => rhs; rw [decN, dif_neg (by omega)]
theorem R03Decimal (n : Int) (h0 : 0 ≤ n) (h1 : n < 1000000000000000000) : VPure env 44 [.int .i64 n] (.str (itoaB n)) := by
  obtain ⟨k, rfl⟩ : ∃ k : Nat, n = k := ⟨n.toNat, by omega⟩
  refine vpure_vc (fn := Tryz.f44) Tryz.func44 rfl (by rw [Tryz.ntmps44]; simp) rfl rfl ?_
  have hd : ((k : Int) ≥ 0) = True := eq_true h0
  simp -implicitDefEqProofs only [go_sem, Tryz.f44]
  refine (R03Number k (by omega)).calls rfl ?_
  simp -implicitDefEqProofs only [go_sem]
  rw [decN_itoa]
theorem R03part (s : ByteArray) : VPure env 105 [.str s] (.bool (partB s.data.toList)) := by
  refine vpure_vc (fn := Tryz.f105) Tryz.func105 rfl (by rw [Tryz.ntmps105]; simp) rfl rfl ?_
  simp -implicitDefEqProofs only [go_sem, Tryz.f105]
  refine ⟨fun a1 => ⟨fun a2 => ⟨fun a3 => ?_, fun a3 => ?_⟩, fun a2 => ?_⟩, fun a1 => ?_⟩
  · subst a3; rfl
  rotate_left
  · subst a2; rfl
  · subst a1; rfl
  have n1 : s.data.toList ≠ [] := fun h => a1 (ba_ext h)
  have n2 : s.data.toList ≠ [46] := fun h => a2 (ba_ext h)
  have n3 : s.data.toList ≠ [46, 46] := fun h => a3 (ba_ext h)
  refine snd_list (β := Unit) s.data.toList (fun pre _ => ⟨[(3, .int .i64 pre.length), (0, .str s)], [], []⟩) (fun pre _ _ => (pre.all fun c => nameB c.toNat || decide (c = 45) || decide (c = 46))) () ?_ rfl ?_ ?_
  · simp -implicitDefEqProofs only [go_sem]
    rfl
  · intro _ i1
    have i1' : (s.data.toList.all fun c => nameB c.toNat || decide (c = 45) || decide (c = 46)) = true := i1
    simp -implicitDefEqProofs only [go_sem, ← size_list]
    intro _
    simp only [partB, n1, n2, n3, i1', decide_false, Bool.not_false, Bool.and_self, Nat.lt_irrefl, if_false]
  · rintro pre x post _ hx i1
    have hz := size_mid hx
    have hl : pre.length < (pre ++ x :: post).length := by simp
    have bad : (nameB x.toNat || decide (x = 45) || decide (x = 46)) = false → partB s.data.toList = false := fun h => by
      have : (s.data.toList.all fun c => nameB c.toNat || decide (c = 45) || decide (c = 46)) = false := by rw [hx, List.all_append, List.all_cons, h]; simp
      unfold partB
      rw [this]; simp
    have e45 : x = 45 ↔ (x.toNat : Int) = 45 := by rw [← UInt8.toNat_inj]; simp; omega
    have e46 : x = 46 ↔ (x.toNat : Int) = 46 := by rw [← UInt8.toNat_inj]; simp; omega
    simp -implicitDefEqProofs only [go_sem, hz, byteAt_mid hx]
    intro hl2
    have hnext := wrap_next (mid_len hl2)
    refine (R03letter _).calls rfl ?_
    simp -implicitDefEqProofs only [go_sem, hz, byteAt_mid hx]
    repeat' (first | apply And.intro | (refine (R03digit _).calls rfl ?_; simp -implicitDefEqProofs only [go_sem, hz, byteAt_mid hx]) | (refine fun (_ : @Eq Bool _ _) => ?_)  | (refine fun (_ : @Eq Int _ _) => ?_) | (refine fun (_ : ¬ (@Eq Int _ _)) => ?_))
    · rw [bad (by simp_all [nameB])]
    all_goals exact ⟨(), by simp_all [nameB], hnext⟩
theorem R03Path (s : ByteArray) : VPure env 72 [.str s] (.bool (pathB s)) := by
  refine vpure_vc (fn := Tryz.f72) Tryz.func72 rfl (by rw [Tryz.ntmps72]; simp) rfl rfl ?_
  simp -implicitDefEqProofs only [go_sem, Tryz.f72]
  refine fun hs => ⟨fun a1 => fun _ => ⟨fun a2 => ?_, fun a2 => ?_⟩, fun a1 => ?_⟩
  · simp [pathB, a2]
  rotate_left
  · simp [pathB, a1]
  refine snd_list (β := Nat × List UInt8) s.data.toList (fun pre b => ⟨[(4, .int .i64 pre.length), (3, .int .i64 b.1), (0, .str s)], [], []⟩)
    (fun pre post b => ∃ l0, pre = l0 ++ b.2 ∧ b.1 = l0.length ∧ pathParts [] s.data.toList = pathParts b.2 post) (0, []) ?_ ⟨[], rfl, rfl, rfl⟩ ?_ ?_
  · simp -implicitDefEqProofs only [go_sem]
    rfl
  · rintro ⟨k, cur⟩ ⟨l0, hl, hk, hp⟩
    simp only at hl hk hp
    subst hk
    have hex := ext_end (s := s) (pre := l0) (l := cur) hl
    have hle : (l0.length : Int) ≤ s.size := by rw [size_list, hl]; simp; omega
    simp -implicitDefEqProofs only [go_sem, ← size_list]
    intro _
    refine ⟨⟨hle, Int.le_refl _⟩, (R03part _).calls rfl ?_⟩
    simp only [Int.toNat_natCast, hex]
    simp -implicitDefEqProofs only [go_sem]
    simp only [pathB, hp, pathParts, a1, a2, decide_false, Bool.not_false, Bool.true_and]
  · rintro pre x post ⟨k, cur⟩ hx ⟨l0, hl, hk, hp⟩
    simp only at hl hk hp
    subst hk
    subst hl
    have hz := size_mid hx
    have hex := ext_mid hx
    have hle : ((l0.length : Int) ≤ ((l0 ++ cur).length : Int)) := by simp; omega
    have hle2 : (((l0 ++ cur).length : Int) ≤ ((l0 ++ cur ++ x :: post).length : Int)) := by simp; omega
    have e47 : x = 47 ↔ (x.toNat : Int) = 47 := by rw [← UInt8.toNat_inj]; simp; omega
    simp -implicitDefEqProofs only [go_sem, hz, byteAt_mid hx]
    refine fun hb => ⟨fun c => ⟨⟨hle, hle2⟩, (R03part _).calls rfl ?_⟩, fun c => ⟨(l0.length, cur ++ [x]), ⟨l0, by simp, rfl, ?_⟩, wrap_next (mid_len hb), rfl⟩⟩
    · have hx47 : x = 47 := e47.2 c
      simp only [Int.toNat_natCast, hex]
      simp -implicitDefEqProofs only [go_sem]
      refine ⟨fun d => ?_, fun d => ⟨((l0 ++ cur).length + 1, []), ⟨l0 ++ cur ++ [x], by simp, by simp; omega, ?_⟩, wrap_next (mid_len hb), ?_⟩⟩
      · have d : partB cur = false := by simpa using d
        simp [pathB, hp, pathParts, hx47, d]
      · have d : partB cur = true := by simpa using d
        simp [hp, pathParts, hx47, d]
      · rw [wrap_next (mid_len hb)]
    · have hx47 : ¬ x = 47 := fun e => c (e47.1 e)
      simp [hp, pathParts, hx47]
end Go.Proofs.YtellnbgljmocgaaGreatDoor
set_option linter.unusedVariables false
set_option linter.unusedSimpArgs false
set_option maxRecDepth 20000
namespace Go.Vg
theorem allNo {α : Type} {pre post : List α} {x : α} {p : α → Bool} (h : p x = false) : (pre ++ x :: post).all p = false := by simp [h]
end Go.Vg
namespace Go.Proofs.YtellnbgljmocgaaGreatDoor
open Go Go.Vg Go.Proofs
theorem R11Check (l : List Fl) : VPure env 69 [sl 34 (l.map Fl.enc)] (.int .i64 (filesErr l)) := by
  refine vpure_vc (fn := Tryz.f69) Tryz.func69 rfl (by rw [Tryz.ntmps69]; simp) (by simp -implicitDefEqProofs only [go_sem]) rfl ?_
  simp -implicitDefEqProofs only [go_sem, Tryz.f69]
  intro _ hl
  refine ⟨fun a1 => ?_, fun a1 => ?_⟩
  · have : 32 < l.length := by omega
    simp [filesErr, this]
  have a1 : ¬ 32 < l.length := by omega
  refine snd_list (β := Unit) l (fun pre _ => ⟨[(3, .int .i64 pre.length), (0, sl 34 (l.map Fl.enc))], [], []⟩) (fun pre _ _ => pre.all (fun f => pathB f.path)) () ?_ rfl ?_ ?_
  · simp -implicitDefEqProofs only [go_sem]
    rfl
  · intro _ i1
    simp -implicitDefEqProofs only [go_sem]
    intro _ _
    refine snd_list (β := Unit) l.tail (fun pre _ => ⟨[(4, .int .i64 ((pre.length + 1 : Nat) : Int)), (0, sl 34 (l.map Fl.enc))], [], []⟩) (fun pre _ _ => risingB (l.take (pre.length + 1))) () ?_ (by rcases l with _ | ⟨a, r⟩ <;> rfl) ?_ ?_
    · simp -implicitDefEqProofs only [go_sem]
      rfl
    · intro _ i2
      have hb : ((((l.tail.length + 1 : Nat) : Int)) < (l.length : Int)) = False := eq_false (by rw [List.length_tail]; omega)
      have i2 : risingB l = true := by
        rw [List.take_of_length_le (by rw [List.length_tail]; omega)] at i2
        exact i2
      simp -implicitDefEqProofs only [go_sem, hb]
      intro _ _
      refine snd_list (β := Unit) l (fun pre _ => ⟨[(5, .int .i64 pre.length), (0, sl 34 (l.map Fl.enc))], [], []⟩) (fun pre _ _ => pre.any (fun f => decide (65536 < f.text.size)) = false) () ?_ rfl ?_ ?_
      · simp -implicitDefEqProofs only [go_sem]
        rfl
      · intro _ i3
        simp -implicitDefEqProofs only [go_sem]
        simp only [filesErr, a1, i1, i2, i3, if_false, Bool.not_true, Bool.false_eq_true]
        exact fun _ _ => trivial
      · rintro pre x post _ rfl i3
        simp -implicitDefEqProofs only [go_sem, Fl.enc]
        refine fun _ h2 _ => ⟨fun c => ?_, fun c => ⟨(), ?_, wrap_next (mid_len' h2 (by decide))⟩⟩
        · have : ((pre ++ x :: post).any fun f => decide (65536 < f.text.size)) = true := by simp; omega
          simp only [filesErr, a1, i1, i2, this, if_false, Bool.not_true, Bool.false_eq_true, if_true]
        · simp only [List.any_append, i3]; simp; omega
    · rintro pre x post _ htl i2
      obtain ⟨a, hla⟩ : ∃ a, l = a :: (pre ++ x :: post) := by
        rcases l with _ | ⟨a, r⟩
        · simp at htl
        · exact ⟨a, by rw [← htl]; rfl⟩
      obtain ⟨p, y, hpy⟩ : ∃ p y, a :: pre = p ++ [y] := by
        rcases List.eq_nil_or_concat (a :: pre) with h | ⟨p, y, h⟩
        · cases h
        · exact ⟨p, y, by simpa using h⟩
      have hl' : l = p ++ y :: (x :: post) := by rw [hla, ← List.cons_append, hpy]; simp
      have hpl : p.length = pre.length := by have := congrArg List.length hpy; simp at this; omega
      have hw : IntKind.i64.wrap ((((pre.length + 1 : Nat)) : Int) - 1) = ((pre.length : Nat) : Int) := by
        have : (pre.length : Int) ≤ 140737488355328 := by rw [hla] at hl; simp at hl; omega
        rw [Go.Vg.wrap_small (by omega) (by omega)]; omega
      have hx' : (List.map Fl.enc l).getD (pre.length + 1) [] = x.enc := by rw [hla]; simp
      have hy' : (List.map Fl.enc l).getD pre.length [] = y.enc := by rw [hl', ← hpl]; simp
      have hb1 : ((((pre.length + 1 : Nat)) : Int) < (l.length : Int)) = True := eq_true (by rw [hla]; simp; omega)
      have hb0 : (((pre.length : Nat) : Int) < (l.length : Int)) = True := eq_true (by rw [hla]; simp; omega)
      have h0 : (0 ≤ ((pre.length + 1 : Nat) : Int)) = True := eq_true (by omega)
      have h00 : (0 ≤ ((pre.length : Nat) : Int)) = True := eq_true (by omega)
      simp -implicitDefEqProofs only [go_sem, hb1]
      intro _ _
      refine snd_draw (cs := []) mixed (by kernel_rfl) ?_
      simp -implicitDefEqProofs only [go_sem, hw, hx', hy', hb1, hb0, h0, h00, Int.toNat_natCast, Fl.enc]
      have tk1 : l.take (pre.length + 1) = p ++ [y] := by rw [hla, List.take_succ_cons, List.take_left', ← hpy]; rfl
      have tk2 : l.take (pre.length + 1 + 1) = (p ++ [y]) ++ [x] := by
        rw [hla, List.take_succ_cons, ← hpy]
        simp [List.take_append, List.take_of_length_le]
      have hsn := risingB_snoc y x p
      rw [tk1] at i2
      rw [i2, Bool.true_and] at hsn
      refine ⟨fun c => ?_, fun c => ⟨(), ?_, wrap_next (by rw [hla] at hl; simp at hl; omega)⟩⟩
      · have : risingB l = false := by
          have := risingB_app (p ++ [y] ++ [x]) post (by rw [hsn]; simpa using c)
          rw [hl']
          simpa using this
        simp only [filesErr, a1, i1, this, if_false, Bool.not_true, Bool.false_eq_true, if_true, Bool.not_false]
      · rw [tk2, hsn]; simpa using c
  · rintro pre x post _ rfl i1
    simp -implicitDefEqProofs only [go_sem, Fl.enc]
    refine fun _ h2 => (R03Path x.path).calls rfl ?_
    simp -implicitDefEqProofs only [go_sem]
    refine ⟨fun c => ?_, fun c => ⟨(), ?_, wrap_next (mid_len' h2 (by decide))⟩⟩
    · have : ((pre ++ x :: post).all fun f => pathB f.path) = false := by simp_all
      simp only [filesErr, a1, this, if_false, Bool.not_false, if_true]
    · simp_all
theorem R51Message (s : ByteArray) : VPure env 70 [.str s] (.bool (msgB s)) := by
  refine vpure_vc (fn := Tryz.f70) Tryz.func70 rfl (by rw [Tryz.ntmps70]; simp) rfl rfl ?_
  simp -implicitDefEqProofs only [go_sem, Tryz.f70]
  refine fun hs => ⟨fun a1 => ?_, fun a1 => ?_⟩
  · have : 200 < s.size := by omega
    simp [msgB, this]
  have a1 : ¬ 200 < s.size := by omega
  refine snd_list (β := Unit) s.data.toList (fun pre _ => ⟨[(3, .int .i64 pre.length), (0, .str s)], [], []⟩) (fun pre _ _ => (pre.all fun c => decide (32 ≤ c.toNat) && decide (c.toNat ≤ 126))) () ?_ rfl ?_ ?_
  · simp -implicitDefEqProofs only [go_sem]
    rfl
  · intro _ i1
    simp -implicitDefEqProofs only [go_sem, ← size_list]
    intro _
    simp only [msgB, a1, i1, decide_false, Bool.not_false, Bool.and_self]
  · rintro pre x post _ hx i1
    have hz := size_mid hx
    have bad : (decide (32 ≤ x.toNat) && decide (x.toNat ≤ 126)) = false → msgB s = false := fun h => by
      have : (s.data.toList.all fun c => decide (32 ≤ c.toNat) && decide (c.toNat ≤ 126)) = false := by rw [hx, List.all_append, List.all_cons, h]; simp
      unfold msgB
      rw [this]; simp
    simp -implicitDefEqProofs only [go_sem, hz, byteAt_mid hx]
    refine fun hb => ⟨fun c => ⟨fun d => ?_, fun d => ⟨(), ?_, wrap_next (mid_len hb)⟩⟩, fun c => ?_⟩
    · rw [bad (by simp; omega)]
    · rw [List.all_append, i1]; simp; omega
    · rw [bad (by simp; omega)]
theorem R51Parents (c : Cm) : VPure env 68 [.agg c.enc] (.bool (parentsB c)) := by
  obtain ⟨a1, a2, a3, a4, a5⟩ := c
  refine vpure_snd (fn := Tryz.f68) Tryz.func68 rfl (by rw [Tryz.ntmps68]; simp) (by simp -implicitDefEqProofs only [go_sem]) rfl ?_
  simp only [Tryz.f68]
  refine snd_cut ⟨[(1, .ptr 0 0)], [.cells (Cm.enc ⟨a1, a2, a3, a4, a5⟩)], []⟩ (by simp -implicitDefEqProofs only [go_sem]) ?_
  have hpe : parentsB ⟨a1, a2, a3, a4, a5⟩ = (!firstB a1 a2 && a2.all fun p => decide (0 ≤ p) && decide (p < a1)) := parentsB_eq _
  by_cases hf : firstB a1 a2 = true
  · refine vc_snd _ _ _ ?_
    rw [hpe, hf]
    simp -implicitDefEqProofs only [go_sem]
    refine snd_draw (cs := []) mixed (by kernel_rfl) ?_
    have e0 : ((0 : Nat) : Int) = 0 := rfl
    have e1 : ((1 : Nat) : Int) = 1 := rfl
    have e2 : ((2 : Nat) : Int) = 2 := rfl
    rcases a2 with _ | ⟨x, _ | ⟨y, _ | ⟨z, r⟩⟩⟩
    · have hf : ¬ a1 = 0 := by simpa [firstB] using hf
      simp -implicitDefEqProofs only [go_sem, hf, e0, List.length_nil]
    · simp [firstB] at hf
    · have hf : x = y := by simpa [firstB] using hf
      subst hf
      simp -implicitDefEqProofs only [go_sem, e2, List.length_cons, List.length_nil, encI]
    · have h3 : (2 : Int) < (((r.length + 1 + 1 + 1 : Nat)) : Int) := by omega
      simp -implicitDefEqProofs only [go_sem, h3]
  · have hf : firstB a1 a2 = false := by simpa using hf
    refine snd_cut ⟨[(1, .ptr 0 0)], [.cells (Cm.enc ⟨a1, a2, a3, a4, a5⟩)], []⟩ ?_ ?_
    · simp -implicitDefEqProofs only [go_sem]
      refine snd_draw (cs := []) mixed (by kernel_rfl) ?_
      have e0 : ((0 : Nat) : Int) = 0 := rfl
      have e1 : ((1 : Nat) : Int) = 1 := rfl
      have e2 : ((2 : Nat) : Int) = 2 := rfl
      rcases a2 with _ | ⟨x, _ | ⟨y, _ | ⟨z, r⟩⟩⟩
      · have hf : a1 = 0 := by simpa [firstB] using hf
        simp -implicitDefEqProofs only [go_sem, hf, e0, List.length_nil]
      · simp -implicitDefEqProofs only [go_sem, e1, List.length_cons, List.length_nil]
      · have hf : ¬ x = y := by simpa [firstB] using hf
        simp -implicitDefEqProofs only [go_sem, e2, hf, List.length_cons, List.length_nil, encI]
      · simp [firstB] at hf
    · rw [hpe, hf, Bool.not_false, Bool.true_and]
      refine vc_snd _ _ _ ?_
      simp -implicitDefEqProofs only [go_sem]
      refine snd_list (β := Unit) a2 (fun pre _ => ⟨[(3, .int .i64 pre.length), (1, .ptr 0 0)], [.cells (Cm.enc ⟨a1, a2, a3, a4, a5⟩)], []⟩) (fun pre _ _ => (pre.all fun p => decide (0 ≤ p) && decide (p < a1)) = true) () ?_ rfl ?_ ?_
      · simp -implicitDefEqProofs only [go_sem]
        rfl
      · intro _ i1
        simp -implicitDefEqProofs only [go_sem, i1]
      · rintro pre x post _ rfl i1
        have hl2 : ((pre.length : Int) < ((pre ++ x :: post).length : Int)) = True := mid_lt
        simp -implicitDefEqProofs only [go_sem, hl2]
        refine fun _ h2 => ?_
        refine snd_draw (cs := []) mixed (by kernel_rfl) ?_
        simp -implicitDefEqProofs only [go_sem, hl2, encI]
        refine ⟨fun c => ⟨fun d => ?_, fun d => ⟨(), ?_, wrap_next (mid_len' h2 (by decide))⟩⟩, fun c => ?_⟩
        · rw [allNo (by simp; omega)]
        · rw [List.all_append, i1]; simp; omega
        · rw [allNo (by simp; omega)]
end Go.Proofs.YtellnbgljmocgaaGreatDoor
set_option linter.unusedVariables false
set_option linter.unusedSimpArgs false
set_option maxRecDepth 20000
namespace Go.Vg
/-- A slice that was made without elements, and appended to. -/
def appS (e : TypeId) : List (List V) → V
  | [] => .slice .full e []
  | x :: r => .slice (.arr 0) e (x :: r)
theorem share_appS {e : TypeId} {es : List (List V)} : share (appS e es) = sl e es := by cases es <;> rfl
theorem strOf_one (c : UInt8) : strOf [(c.toNat : Int)] = toB [c] := by
  apply ba_ext
  simp [strOf, toB]
theorem swapB_snoc {a b y : UInt8} {q : List UInt8} : swapB a b (toB (q ++ [y])) = swapB a b (toB q) ++ toB [if y = a then b else y] := by
  apply ba_ext
  simp [swapB, toB]
theorem if_max {a b : Int} : (if a < b then b else a) = max a b := by rw [Int.max_def]; split <;> split <;> omega
def appA : List (List V) → List Nat
  | [] => []
  | x :: r => [(x :: r).length]
end Go.Vg
namespace Go.Proofs.YtellnbgljmocgaaGreatDoor
open Go Go.Vg Go.Proofs
theorem R49word (k : Int) : VPure env 66 [.int .i64 k] (.str (wordB k)) := by
  refine vpure_vc (fn := Tryz.f66) Tryz.func66 rfl (by rw [Tryz.ntmps66]; simp) rfl rfl ?_
  simp -implicitDefEqProofs only [go_sem, Tryz.f66]
  refine ⟨fun c => by subst c; rfl, fun c1 => ⟨fun c => by subst c; rfl, fun c2 => ⟨fun c => by subst c; rfl, fun c3 => ⟨fun c => by subst c; rfl, fun c4 => ⟨fun c => by subst c; rfl, fun c5 => ?_⟩⟩⟩⟩⟩
  simp only [wordB, c1, c2, c3, c4, c5, if_false]
theorem R49field (k v : ByteArray) (hk : k.size ≤ 100) (hv : v.size ≤ 1000000000) : VPure env 76 [.str k, .str v] (.str (fieldB k v)) := by
  refine vpure_vc (fn := Tryz.f76) Tryz.func76 rfl (by rw [Tryz.ntmps76]; simp) rfl rfl ?_
  simp -implicitDefEqProofs only [go_sem, Tryz.f76]
  have e1 : (#[32] : Array UInt8).size = 1 := rfl
  have e2 : (#[61] : Array UInt8).size = 1 := rfl
  refine ⟨fun c => ?_, fun c => ⟨by omega, by omega, by omega, ?_⟩⟩
  · rw [fieldB, if_pos c]
  · rw [fieldB, if_neg c]
theorem R49number (n : Int) (h0 : -9223372036854775808 ≤ n) (h1 : n ≤ 9223372036854775807) : VPure env 77 [.int .i64 n] (.str (numB n)) := by
  refine vpure_vc (fn := Tryz.f77) Tryz.func77 rfl (by rw [Tryz.ntmps77]; simp) rfl rfl ?_
  simp -implicitDefEqProofs only [go_sem, Tryz.f77]
  refine ⟨fun c => ?_, fun c => ?_⟩
  · rw [numB, if_pos c]
  · refine (Itoa n h0 h1 (by have := itoaB_size n h0 h1; omega)).calls rfl ?_
    simp -implicitDefEqProofs only [go_sem]
    rw [numB, if_neg c]
theorem R49numbers (l : List Int) (hl : ∀ n ∈ l, -9223372036854775808 ≤ n ∧ n ≤ 9223372036854775807) (hn : l.length ≤ 1000) : VPure env 79 [sl 3 (l.map encI)] (sl 9 ((l.map itoaB).map encS)) := by
  refine vpure_vc (fn := Tryz.f79) Tryz.func79 rfl (by rw [Tryz.ntmps79]; simp) (by simp -implicitDefEqProofs only [go_sem]) (by simp -implicitDefEqProofs only [go_sem]) ?_
  simp -implicitDefEqProofs only [go_sem, Tryz.f79]
  refine snd_list (β := Unit) l (fun pre _ => ⟨[(4, .int .i64 pre.length), (3, appS 9 ((pre.map itoaB).map encS)), (0, sl 3 (l.map encI))], [], appA ((pre.map itoaB).map encS)⟩) (fun _ _ _ => True) () ?_ trivial ?_ ?_
  · simp -implicitDefEqProofs only [go_sem, appS, appA, List.map_nil]
    rfl
  · intro _ _
    simp -implicitDefEqProofs only [go_sem]
    refine fun _ _ => ?_
    rw [share_appS]
  · rintro pre x post _ rfl _
    have hl2 : ((pre.length : Int) < ((pre ++ x :: post).length : Int)) = True := mid_lt
    have hx := hl x (by simp)
    simp -implicitDefEqProofs only [go_sem, hl2, encI]
    refine fun _ h2 => (Itoa x hx.1 hx.2 (by have := itoaB_size x hx.1 hx.2; omega)).calls rfl ?_
    have hb : (pre.length + 1) * 16 ≤ 140737488355328 := by rw [List.length_append] at hn; omega
    rcases pre with _ | ⟨p, ps⟩
    · simp -implicitDefEqProofs only [go_sem, appS, appA, List.map_nil]
      exact ⟨by simp, (), rfl⟩
    · simp -implicitDefEqProofs only [go_sem, appS, appA, List.map_cons]
      exact ⟨by simpa using hb, (), wrap_next (by simp at h2; omega), rfl⟩
theorem R49join (l : List ByteArray) (hl : ∀ s ∈ l, s.size ≤ 1000000) (hn : l.length ≤ 1000) : VPure env 78 [sl 9 (l.map encS)] (.str (joinB l)) := by
  refine vpure_vc (fn := Tryz.f78) Tryz.func78 rfl (by rw [Tryz.ntmps78]; simp) (by simp -implicitDefEqProofs only [go_sem]) rfl ?_
  simp -implicitDefEqProofs only [go_sem, Tryz.f78]
  refine snd_list (β := Unit) l (fun pre _ => ⟨[(4, .int .i64 pre.length), (3, .str (joinB pre)), (0, sl 9 (l.map encS))], [], []⟩) (fun _ _ _ => True) () ?_ trivial ?_ ?_
  · simp -implicitDefEqProofs only [go_sem]
    exact ⟨rfl, rfl⟩
  · intro _ _
    simp -implicitDefEqProofs only [go_sem]
  · rintro pre x post _ rfl _
    have hl2 : ((pre.length : Int) < ((pre ++ x :: post).length : Int)) = True := mid_lt
    simp -implicitDefEqProofs only [go_sem, hl2, encS]
    have h1 := hl x (by simp)
    have h3 := joinB_size 1000000 pre (fun s hs => hl s (by simp [hs]))
    have h4 : pre.length ≤ 1000 := by rw [List.length_append] at hn; omega
    have h5 : (joinB pre).size ≤ 1000001000 := Nat.le_trans h3 (by omega)
    have e44 : (#[44] : Array UInt8).size = 1 := rfl
    refine fun _ h2 => ⟨fun c => ⟨by omega, by omega, (), wrap_next (mid_len' h2 (by decide)), ?_⟩, fun c => ⟨by omega, (), wrap_next (mid_len' h2 (by decide)), ?_⟩⟩
    · have : pre ≠ [] := by rintro rfl; simp at c
      rw [joinB_snoc, if_neg this]
    · have : pre = [] := List.eq_nil_of_length_eq_zero (by omega)
      subst this
      exact ba_ext (by rw [ba_append, joinB_snoc, if_pos rfl]; rfl)
theorem R49swap (l : List ByteArray) (a b : UInt8) (hl : ∀ s ∈ l, s.size ≤ 1000000) (hn : l.length ≤ 2000000) : VPure env 80 [sl 9 (l.map encS), .int .u8 a.toNat, .int .u8 b.toNat] (sl 9 ((l.map (swapB a b)).map encS)) := by
  refine vpure_vc (fn := Tryz.f80) Tryz.func80 rfl (by rw [Tryz.ntmps80]; simp) (by simp -implicitDefEqProofs only [go_sem]) (by simp -implicitDefEqProofs only [go_sem]) ?_
  simp -implicitDefEqProofs only [go_sem, Tryz.f80]
  refine snd_list (β := Unit) l (fun pre _ => ⟨[(8, .int .i64 pre.length), (7, appS 9 ((pre.map (swapB a b)).map encS)), (0, sl 9 (l.map encS)), (1, .int .u8 a.toNat), (2, .int .u8 b.toNat)], [], appA ((pre.map (swapB a b)).map encS)⟩) (fun _ _ _ => True) () ?_ trivial ?_ ?_
  · simp -implicitDefEqProofs only [go_sem, appS, appA, List.map_nil]
    rfl
  · intro _ _
    simp -implicitDefEqProofs only [go_sem]
    refine fun _ _ => ?_
    rw [share_appS]
  · rintro pre x post _ rfl _
    have hl2 : ((pre.length : Int) < ((pre ++ x :: post).length : Int)) = True := mid_lt
    simp -implicitDefEqProofs only [go_sem, hl2, encS]
    refine fun _ h2 => ?_
    refine snd_list (β := Unit) x.data.toList (fun q _ => ⟨[(10, .int .i64 q.length), (9, .str (swapB a b (toB q))), (8, .int .i64 pre.length), (7, appS 9 ((pre.map (swapB a b)).map encS)), (0, sl 9 ((pre ++ x :: post).map encS)), (1, .int .u8 a.toNat), (2, .int .u8 b.toNat)], [], appA ((pre.map (swapB a b)).map encS)⟩) (fun _ _ _ => True) () ?_ trivial ?_ ?_
    · simp -implicitDefEqProofs only [go_sem, hl2]
      exact ⟨rfl, rfl⟩
    · intro _ _
      have hb : (pre.length + 1) * 16 ≤ 140737488355328 := by rw [List.length_append] at hn; omega
      have hcx : (((x.data.toList.length : Nat) : Int) < (x.size : Int)) = False := eq_false (by rw [size_list]; omega)
      simp -implicitDefEqProofs only [go_sem, hl2, encS, hcx]
      refine fun _ => ?_
      rw [toB_of]
      rcases pre with _ | ⟨p, ps⟩
      · simp -implicitDefEqProofs only [go_sem, appS, appA, List.map_nil]
        exact ⟨by simp, (), rfl⟩
      · simp -implicitDefEqProofs only [go_sem, appS, appA, List.map_cons]
        exact ⟨by simpa using hb, (), wrap_next (by simp at h2; omega), rfl⟩
    · rintro q y r _ hx _
      have hz := size_mid hx
      simp -implicitDefEqProofs only [go_sem, hz, byteAt_mid hx, hl2, encS]
      have hxs := hl x (by simp)
      have hqs : (swapB a b (toB q)).size ≤ 1000000 := by rw [swapB_size, toB_size]; rw [hz] at hxs; simp at hxs; omega
      refine fun hb => ⟨fun c => ⟨by rw [strOf_size]; simp; omega, (), wrap_next (mid_len hb), ?_⟩, fun c => ⟨by rw [strOf_size]; simp; omega, (), wrap_next (mid_len hb), ?_⟩⟩
      · have e : y = a := UInt8.toNat_inj.1 (by omega)
        rw [swapB_snoc, if_pos e, strOf_one]
      · have e : ¬ y = a := fun e => c (by rw [e])
        rw [swapB_snoc, if_neg e, strOf_one]
theorem R49fine (s : ByteArray) : VPure env 75 [.str s] (.bool (fineB s)) := by
  refine vpure_vc (fn := Tryz.f75) Tryz.func75 rfl (by rw [Tryz.ntmps75]; simp) rfl rfl ?_
  simp -implicitDefEqProofs only [go_sem, Tryz.f75]
  refine snd_list (β := Unit) s.data.toList (fun pre _ => ⟨[(3, .int .i64 pre.length), (2, .bool false), (0, .str s)], [], []⟩) (fun pre _ _ => (pre.all fun c => decide (32 ≤ (c.toNat : Int)) && decide ((c.toNat : Int) ≤ 125) && !decide (c = 44))) () ?_ rfl ?_ ?_
  · simp -implicitDefEqProofs only [go_sem]
    rfl
  · intro _ i1
    have i1 : (s.data.toList.all fun c => decide (32 ≤ (c.toNat : Int)) && decide ((c.toNat : Int) ≤ 125) && !decide (c = 44)) = true := i1
    simp -implicitDefEqProofs only [go_sem, ← size_list]
    exact fun _ => by rw [fineB, i1, Bool.true_and]
  · rintro pre x post _ hx i1
    have hz := size_mid hx
    simp -implicitDefEqProofs only [go_sem, hz, byteAt_mid hx]
    have e44 : x = 44 ↔ (x.toNat : Int) = 44 := by rw [← UInt8.toNat_inj]; simp; omega
    have bad : (decide (32 ≤ (x.toNat : Int)) && decide ((x.toNat : Int) ≤ 125) && !decide (x = 44)) = false → fineB s = false := fun h => by
      have : (s.data.toList.all fun c => decide (32 ≤ (c.toNat : Int)) && decide ((c.toNat : Int) ≤ 125) && !decide (c = 44)) = false := by rw [hx]; exact allNo h
      unfold fineB
      rw [this]; rfl
    refine fun hb => ⟨fun c1 => ⟨fun c2 => ⟨fun c3 => ?_, fun c3 => ⟨(), ?_, wrap_next (mid_len hb)⟩⟩, fun c2 => ?_⟩, fun c1 => ?_⟩
    · rw [bad (by simp [e44, c3])]
    · rw [List.all_append, i1, List.all_cons, List.all_nil, decide_eq_true (by omega : 32 ≤ (x.toNat : Int)), decide_eq_true (by omega : (x.toNat : Int) ≤ 125), decide_eq_false (fun e => c3 (e44.1 e))]
      rfl
    · rw [bad (by rw [decide_eq_false (by omega : ¬ (x.toNat : Int) ≤ 125)]; simp)]
    · rw [bad (by rw [decide_eq_false (by omega : ¬ 32 ≤ (x.toNat : Int))]; simp)]
theorem R49named (l : List ByteArray) : VPure env 74 [sl 9 (l.map encS)] (.bool (l.all validName)) := by
  refine vpure_vc (fn := Tryz.f74) Tryz.func74 rfl (by rw [Tryz.ntmps74]; simp) (by simp -implicitDefEqProofs only [go_sem]) rfl ?_
  simp -implicitDefEqProofs only [go_sem, Tryz.f74]
  refine snd_list (β := Unit) l (fun pre _ => ⟨[(3, .int .i64 pre.length), (0, sl 9 (l.map encS))], [], []⟩) (fun pre _ _ => pre.all validName) () ?_ rfl ?_ ?_
  · simp -implicitDefEqProofs only [go_sem]
    rfl
  · intro _ i1
    have i1 : l.all validName = true := i1
    simp -implicitDefEqProofs only [go_sem, i1]
  · rintro pre x post _ rfl i1
    have hl2 : ((pre.length : Int) < ((pre ++ x :: post).length : Int)) = True := mid_lt
    simp -implicitDefEqProofs only [go_sem, hl2, encS]
    refine fun _ h2 => (R03Valid x).calls rfl ?_
    simp -implicitDefEqProofs only [go_sem]
    refine ⟨fun c => ?_, fun c => ⟨(), ?_, wrap_next (mid_len' h2 (by decide))⟩⟩
    · rw [allNo (by simpa using c)]
    · rw [List.all_append, i1]; simpa using c
theorem R49maybe (s : ByteArray) : VPure env 73 [.str s] (.bool (maybeB s)) := by
  refine vpure_vc (fn := Tryz.f73) Tryz.func73 rfl (by rw [Tryz.ntmps73]; simp) rfl rfl ?_
  simp -implicitDefEqProofs only [go_sem, Tryz.f73]
  refine ⟨fun c => (R03Valid s).calls rfl ?_, fun c => ?_⟩
  · simp -implicitDefEqProofs only [go_sem]
    rw [maybeB, decide_eq_false c, Bool.false_or]
  · rw [maybeB, decide_eq_true c, Bool.true_or]
theorem R49Print (r : Rf) (hok : r.ok) : VPure env 46 [.agg r.enc] (printV r) := by
  obtain ⟨a1, a2, a3, a4, a5, a6, a7, a8, a9, a10, a11⟩ := r
  refine vpure_snd (fn := Tryz.f46) Tryz.func46 rfl (by rw [Tryz.ntmps46]; simp) (by simp -implicitDefEqProofs only [go_sem]) rfl ?_
  simp only [Tryz.f46]
  refine snd_cut ⟨[(1, .ptr 0 0)], [VObj.cells (Rf.enc ⟨a1, a2, a3, a4, a5, a6, a7, a8, a9, a10, a11⟩)], []⟩ (by simp -implicitDefEqProofs only [go_sem]) ?_
  by_cases c : wordB a1 = ⟨#[]⟩
  · refine vc_snd _ _ _ ?_
    simp -implicitDefEqProofs only [go_sem]
    refine (R49word a1).calls rfl ?_
    simp -implicitDefEqProofs only [go_sem, c]
    simp [printV, rfErr, c]
  refine snd_cut ⟨[(1, .ptr 0 0)], [VObj.cells (Rf.enc ⟨a1, a2, a3, a4, a5, a6, a7, a8, a9, a10, a11⟩)], []⟩ ?_ ?_
  · simp -implicitDefEqProofs only [go_sem]
    refine (R49word a1).calls rfl ?_
    simp -implicitDefEqProofs only [go_sem, c]
  by_cases hb : ((!decide (a2 = ⟨#[]⟩) && !pathB a2) || !maybeB a3 || !maybeB a4 || !maybeB a5 || !maybeB a6 || !a10.all validName) = true
  · have he : rfErr ⟨a1, a2, a3, a4, a5, a6, a7, a8, a9, a10, a11⟩ = 4 := by simp only [rfErr, c, if_false, hb, if_true]
    have hp : printV ⟨a1, a2, a3, a4, a5, a6, a7, a8, a9, a10, a11⟩ = .tuple [.str ⟨#[]⟩, .int .i64 4] := by rw [printV, he]; rfl
    rw [hp]
    refine vc_snd _ _ _ ?_
    simp -implicitDefEqProofs only [go_sem]
    repeat' (first | apply And.intro | (refine (R03Path a2).calls rfl ?_; simp -implicitDefEqProofs only [go_sem]) | (refine (R49maybe a3).calls rfl ?_; simp -implicitDefEqProofs only [go_sem]) | (refine (R49maybe a4).calls rfl ?_; simp -implicitDefEqProofs only [go_sem]) | (refine (R49maybe a5).calls rfl ?_; simp -implicitDefEqProofs only [go_sem]) | (refine (R49maybe a6).calls rfl ?_; simp -implicitDefEqProofs only [go_sem]) | (refine (R49named a10).calls (by simp -implicitDefEqProofs only [go_sem]) ?_; simp -implicitDefEqProofs only [go_sem]) | (refine fun (_ : @Eq Bool _ _) => ?_) | (refine fun (_ : @LE.le Nat _ _ _) => ?_))
    all_goals (exfalso; simp_all)
  refine snd_cut ⟨[(1, .ptr 0 0)], [VObj.cells (Rf.enc ⟨a1, a2, a3, a4, a5, a6, a7, a8, a9, a10, a11⟩)], []⟩ ?_ ?_
  · simp -implicitDefEqProofs only [go_sem]
    repeat' (first | apply And.intro | (refine (R03Path a2).calls rfl ?_; simp -implicitDefEqProofs only [go_sem]) | (refine (R49maybe a3).calls rfl ?_; simp -implicitDefEqProofs only [go_sem]) | (refine (R49maybe a4).calls rfl ?_; simp -implicitDefEqProofs only [go_sem]) | (refine (R49maybe a5).calls rfl ?_; simp -implicitDefEqProofs only [go_sem]) | (refine (R49maybe a6).calls rfl ?_; simp -implicitDefEqProofs only [go_sem]) | (refine (R49named a10).calls (by simp -implicitDefEqProofs only [go_sem]) ?_; simp -implicitDefEqProofs only [go_sem]) | (refine fun (_ : @Eq Bool _ _) => ?_) | (refine fun (_ : @LE.le Nat _ _ _) => ?_))
    all_goals (exfalso; simp_all)
  by_cases hf : a11.all fineB = true
  rotate_left
  · have he : rfErr ⟨a1, a2, a3, a4, a5, a6, a7, a8, a9, a10, a11⟩ = 1 := by simp only [rfErr, c, if_false, hb, hf]; simp
    have hp : printV ⟨a1, a2, a3, a4, a5, a6, a7, a8, a9, a10, a11⟩ = .tuple [.str ⟨#[]⟩, .int .i64 1] := by rw [printV, he]; rfl
    rw [hp]
    refine vc_snd _ _ _ ?_
    simp -implicitDefEqProofs only [go_sem]
    refine snd_list (β := Unit) a11 (fun pre _ => ⟨[(4, .int .i64 pre.length), (1, .ptr 0 0)], [VObj.cells (Rf.enc ⟨a1, a2, a3, a4, a5, a6, a7, a8, a9, a10, a11⟩)], []⟩) (fun pre _ _ => pre.all fineB = true) () ?_ rfl ?_ ?_
    · simp -implicitDefEqProofs only [go_sem]
      rfl
    · intro _ i1
      exact absurd i1 hf
    · rintro pre x post _ rfl i1
      have hl2 : ((pre.length : Int) < ((pre ++ x :: post).length : Int)) = True := mid_lt
      simp -implicitDefEqProofs only [go_sem, hl2, encS]
      refine fun _ h2 => (R49fine x).calls rfl ?_
      simp -implicitDefEqProofs only [go_sem]
      refine fun d => ⟨(), ?_, wrap_next (mid_len' h2 (by decide))⟩
      rw [List.all_append, i1]; simpa using d
  refine snd_cut ⟨[(1, .ptr 0 0)], [VObj.cells (Rf.enc ⟨a1, a2, a3, a4, a5, a6, a7, a8, a9, a10, a11⟩)], []⟩ ?_ ?_
  · simp -implicitDefEqProofs only [go_sem]
    refine snd_list (β := Unit) a11 (fun pre _ => ⟨[(4, .int .i64 pre.length), (1, .ptr 0 0)], [VObj.cells (Rf.enc ⟨a1, a2, a3, a4, a5, a6, a7, a8, a9, a10, a11⟩)], []⟩) (fun pre _ _ => pre.all fineB = true) () ?_ rfl ?_ ?_
    · simp -implicitDefEqProofs only [go_sem]
      rfl
    · intro _ i1
      simp -implicitDefEqProofs only [go_sem]
    · rintro pre x post _ rfl i1
      have hl2 : ((pre.length : Int) < ((pre ++ x :: post).length : Int)) = True := mid_lt
      have hx : fineB x = true := List.all_eq_true.1 hf x (by simp)
      simp -implicitDefEqProofs only [go_sem, hl2, encS]
      refine fun _ h2 => (R49fine x).calls rfl ?_
      simp -implicitDefEqProofs only [go_sem, hx]
      exact ⟨(), by rw [List.all_append, i1]; simpa using hx, wrap_next (mid_len' h2 (by decide))⟩
  by_cases hm : 16 < max (max a9.length a10.length) a11.length
  · have he : rfErr ⟨a1, a2, a3, a4, a5, a6, a7, a8, a9, a10, a11⟩ = 3 := by simp only [rfErr, c, if_false, hb, hf, hm]; simp
    have hp : printV ⟨a1, a2, a3, a4, a5, a6, a7, a8, a9, a10, a11⟩ = .tuple [.str ⟨#[]⟩, .int .i64 3] := by rw [printV, he]; rfl
    rw [hp]
    refine vc_snd _ _ _ ?_
    have hm2 : (16 < if (if (a9.length : Int) < a10.length then (a10.length : Int) else a9.length) < a11.length then (a11.length : Int) else if (a9.length : Int) < a10.length then (a10.length : Int) else a9.length) = True := eq_true (by
      rw [if_max, if_max]; omega)
    simp -implicitDefEqProofs only [go_sem, hm2]
  refine snd_cut ⟨[(1, .ptr 0 0)], [VObj.cells (Rf.enc ⟨a1, a2, a3, a4, a5, a6, a7, a8, a9, a10, a11⟩)], []⟩ ?_ ?_
  · have hm2 : (16 < if (if (a9.length : Int) < a10.length then (a10.length : Int) else a9.length) < a11.length then (a11.length : Int) else if (a9.length : Int) < a10.length then (a10.length : Int) else a9.length) = False := eq_false (by
      rw [if_max, if_max]; omega)
    simp -implicitDefEqProofs only [go_sem, hm2]
  have he : rfErr ⟨a1, a2, a3, a4, a5, a6, a7, a8, a9, a10, a11⟩ = 0 := by simp only [rfErr, c, if_false, hb, hf, hm]; simp
  have hp : printV ⟨a1, a2, a3, a4, a5, a6, a7, a8, a9, a10, a11⟩ = .tuple [.str (rfText ⟨a1, a2, a3, a4, a5, a6, a7, a8, a9, a10, a11⟩), .int .i64 0] := by rw [printV, he]; rfl
  rw [hp]
  obtain ⟨s1, s2, s3, s4, s5, n1, n2, n3, n4, n5, l1, l2, l3, t1, t2⟩ := hok
  simp only at s1 s2 s3 s4 s5 n1 n2 n3 n4 n5 l1 l2 l3 t1 t2
  refine vc_snd _ _ _ ?_
  simp -implicitDefEqProofs only [go_sem]
  have f1 := fieldB_size ⟨#[112, 97, 116, 104]⟩ a2
  have f2 := fieldB_size ⟨#[99, 108, 97, 115, 115]⟩ a3
  have f3 := fieldB_size ⟨#[102, 117, 110, 99]⟩ a4
  have f4 := fieldB_size ⟨#[110, 97, 109, 101]⟩ a5
  have f5 := fieldB_size ⟨#[116, 111]⟩ a6
  have f6 := fieldB_size ⟨#[110, 111, 100, 101]⟩ (numB a7)
  have f7 := fieldB_size ⟨#[112, 111, 115]⟩ (numB a8)
  have f8 := fieldB_size ⟨#[111, 114, 100, 101, 114]⟩ (joinB (a9.map itoaB))
  have f9 := fieldB_size ⟨#[116, 121, 112, 101, 115]⟩ (joinB a10)
  have f10 := fieldB_size ⟨#[116, 101, 120, 116, 115]⟩ (joinB (a11.map (swapB 32 126)))
  have k1 : (⟨#[112, 97, 116, 104]⟩ : ByteArray).size = 4 := rfl
  have k2 : (⟨#[99, 108, 97, 115, 115]⟩ : ByteArray).size = 5 := rfl
  have k3 : (⟨#[102, 117, 110, 99]⟩ : ByteArray).size = 4 := rfl
  have k4 : (⟨#[110, 97, 109, 101]⟩ : ByteArray).size = 4 := rfl
  have k5 : (⟨#[116, 111]⟩ : ByteArray).size = 2 := rfl
  have k6 : (⟨#[110, 111, 100, 101]⟩ : ByteArray).size = 4 := rfl
  have k7 : (⟨#[112, 111, 115]⟩ : ByteArray).size = 3 := rfl
  have k8 : (⟨#[111, 114, 100, 101, 114]⟩ : ByteArray).size = 5 := rfl
  have k9 : (⟨#[116, 121, 112, 101, 115]⟩ : ByteArray).size = 5 := rfl
  have k10 : (⟨#[116, 101, 120, 116, 115]⟩ : ByteArray).size = 5 := rfl
  have z7 : (numB a7).size ≤ 21 := by unfold numB; split; exact Nat.zero_le _; exact itoaB_size _ n1 n2
  have z8 : (numB a8).size ≤ 21 := by unfold numB; split; exact Nat.zero_le _; exact itoaB_size _ n3 n4
  have hws : (wordB a1).size ≤ 9 := by
    unfold wordB
    repeat' split
    all_goals decide
  have hm' : a9.length ≤ 16 ∧ a10.length ≤ 16 ∧ a11.length ≤ 16 := by omega
  have t9 : ∀ x ∈ a9.map itoaB, x.size ≤ 21 := by
    intro x hx
    obtain ⟨n, hn, rfl⟩ := List.mem_map.1 hx
    exact itoaB_size n (n5 n hn).1 (n5 n hn).2
  have t11 : ∀ x ∈ a11.map (swapB 32 126), x.size ≤ 1000000 := by
    intro x hx
    obtain ⟨n, hn, rfl⟩ := List.mem_map.1 hx
    rw [swapB_size]
    exact t2 n hn
  have j9 := joinB_size 21 (a9.map itoaB) t9
  have j10 := joinB_size 1000000 a10 t1
  have j11 := joinB_size 1000000 (a11.map (swapB 32 126)) t11
  rw [List.length_map] at j9 j11
  have y9 : (joinB (a9.map itoaB)).size ≤ 1000 := Nat.le_trans j9 (by omega)
  have y10 : (joinB a10).size ≤ 20000000 := Nat.le_trans j10 (by omega)
  have y11 : (joinB (a11.map (swapB 32 126))).size ≤ 20000000 := Nat.le_trans j11 (by omega)
  replace l1 : a9.length ≤ 1000 := by omega
  replace l2 : a10.length ≤ 1000 := by omega
  replace l3 : a11.length ≤ 1000 := by omega
  clear j9 j10 j11 hm hm' he hp hf hb
  refine snd_draw (cs := []) mixed (by kernel_rfl) ?_
  simp -implicitDefEqProofs only [go_sem]
  refine vPC_of (R49word a1) rfl ?_
  simp -implicitDefEqProofs only [go_sem]
  refine vPC_of (R49field ⟨#[112, 97, 116, 104]⟩ a2 (by omega) (by omega)) rfl ?_
  simp -implicitDefEqProofs only [go_sem]
  refine ⟨by omega, vPC_of (R49field ⟨#[99, 108, 97, 115, 115]⟩ a3 (by omega) (by omega)) rfl ?_⟩
  simp -implicitDefEqProofs only [go_sem]
  refine ⟨by omega, vPC_of (R49field ⟨#[102, 117, 110, 99]⟩ a4 (by omega) (by omega)) rfl ?_⟩
  simp -implicitDefEqProofs only [go_sem]
  refine ⟨by omega, vPC_of (R49field ⟨#[110, 97, 109, 101]⟩ a5 (by omega) (by omega)) rfl ?_⟩
  simp -implicitDefEqProofs only [go_sem]
  refine ⟨by omega, vPC_of (R49field ⟨#[116, 111]⟩ a6 (by omega) (by omega)) rfl ?_⟩
  simp -implicitDefEqProofs only [go_sem]
  refine ⟨by omega, ?_⟩
  refine snd_draw (cs := []) mixed (by kernel_rfl) ?_
  simp -implicitDefEqProofs only [go_sem]
  refine vPC_of (R49number a7 n1 n2) rfl ?_
  simp -implicitDefEqProofs only [go_sem]
  refine vPC_of (R49field ⟨#[110, 111, 100, 101]⟩ (numB a7) (by omega) (by omega)) rfl ?_
  simp -implicitDefEqProofs only [go_sem]
  refine ⟨by omega, vPC_of (R49number a8 n3 n4) rfl ?_⟩
  simp -implicitDefEqProofs only [go_sem]
  refine vPC_of (R49field ⟨#[112, 111, 115]⟩ (numB a8) (by omega) (by omega)) rfl ?_
  simp -implicitDefEqProofs only [go_sem]
  refine ⟨by omega, vPC_of (R49numbers a9 n5 l1) (by simp -implicitDefEqProofs only [go_sem]) ?_⟩
  simp -implicitDefEqProofs only [go_sem]
  refine vPC_of (R49join (a9.map itoaB) (fun x hx => Nat.le_trans (t9 x hx) (by decide)) (by rw [List.length_map]; exact l1)) (by simp -implicitDefEqProofs only [go_sem]) ?_
  simp -implicitDefEqProofs only [go_sem]
  refine vPC_of (R49field ⟨#[111, 114, 100, 101, 114]⟩ (joinB (a9.map itoaB)) (by omega) (by omega)) rfl ?_
  simp -implicitDefEqProofs only [go_sem]
  refine ⟨by omega, vPC_of (R49join a10 t1 l2) (by simp -implicitDefEqProofs only [go_sem]) ?_⟩
  simp -implicitDefEqProofs only [go_sem]
  refine vPC_of (R49field ⟨#[116, 121, 112, 101, 115]⟩ (joinB a10) (by omega) (by omega)) rfl ?_
  simp -implicitDefEqProofs only [go_sem]
  have e32 : (((32 : UInt8).toNat : Nat) : Int) = 32 := rfl
  have e126 : (((126 : UInt8).toNat : Nat) : Int) = 126 := rfl
  refine ⟨by omega, (R49swap a11 32 126 t2 (by omega)).calls (by simp -implicitDefEqProofs only [go_sem, e32, e126]) ?_⟩
  simp -implicitDefEqProofs only [go_sem]
  refine (R49join (a11.map (swapB 32 126)) t11 (by rw [List.length_map]; exact l3)).calls (by simp -implicitDefEqProofs only [go_sem]) ?_
  simp -implicitDefEqProofs only [go_sem]
  refine (R49field ⟨#[116, 101, 120, 116, 115]⟩ (joinB (a11.map (swapB 32 126))) (by omega) (by omega)).calls rfl ?_
  simp -implicitDefEqProofs only [go_sem]
  exact ⟨by omega, rfl⟩
end Go.Proofs.YtellnbgljmocgaaGreatDoor
