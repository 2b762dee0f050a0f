/- The law 'CommitDecodes'. -/
import Derived.Test.YtellnbgljmocgaaGreatDoorTqT
import Derived.Test.YtellnbgljmocgaaGreatDoorTrD
import Derived.Test.YtellnbgljmocgaaGreatDoorTcT
import Derived.Test.YtellnbgljmocgaaGreatDoorTcL
set_option linter.unusedVariables false
set_option linter.unusedSimpArgs false
set_option maxRecDepth 20000
namespace Go.Proofs.YtellnbgljmocgaaGreatDoor
open Go Go.Vg Go.Proofs
theorem R49cut (s : ByteArray) (c : UInt8) (hs : s.size ≤ 1000000) : VPure env 65 [.str s, .int .u8 c.toNat] (sl 9 (((splitL c (str s)).map toB).map encS)) := by
  refine vpure_vc (fn := Tryz.f65) Tryz.func65 rfl (by rw [Tryz.ntmps65]; simp) rfl (by simp -implicitDefEqProofs only [go_sem]) ?_
  simp -implicitDefEqProofs only [go_sem, Tryz.f65]
  refine snd_list (β := List (List UInt8) × List UInt8) s.data.toList (fun pre b => ⟨[(7, .int .i64 pre.length), (6, .str (toB b.2)), (5, appS 9 ((b.1.map toB).map encS)), (0, .str s), (1, .int .u8 c.toNat)], [], appA ((b.1.map toB).map encS)⟩)
    (fun pre _ b => splitL c pre = b.1 ++ [b.2]) ([], []) ?_ rfl ?_ ?_
  · simp -implicitDefEqProofs only [go_sem, appS, appA, List.map_nil]
    exact ⟨rfl, rfl⟩
  · rintro ⟨out, p⟩ hI
    have hcx : (((s.data.toList.length : Nat) : Int) < (s.size : Int)) = False := eq_false (by rw [size_list]; omega)
    have hI : splitL c (str s) = out ++ [p] := hI
    have hlen := splitL_len c (str s)
    rw [hI, str_len] at hlen
    simp only [List.length_append, List.length_cons, List.length_nil] at hlen
    simp -implicitDefEqProofs only [go_sem, hcx]
    refine fun _ => ?_
    rw [hI]
    rcases out with _ | ⟨o, os⟩
    · simp -implicitDefEqProofs only [go_sem, appS, appA, List.map_nil, encS]
      simp
    · simp -implicitDefEqProofs only [go_sem, appS, appA, List.map_cons, encS]
      simp only [List.length_cons] at hlen
      omega
  · rintro pre x post ⟨out, p⟩ hx hI
    have hz := size_mid hx
    have hI : splitL c pre = out ++ [p] := hI
    have hlen := splitL_len c pre
    rw [hI] at hlen
    simp only [List.length_append, List.length_cons, List.length_nil] at hlen
    simp -implicitDefEqProofs only [go_sem, hz, byteAt_mid hx]
    have hpl : (pre ++ x :: post).length = pre.length + 1 + post.length := by simp; omega
    have hw : IntKind.i64.wrap ((pre.length : Int) + 1) = ((pre.length + 1 : Nat) : Int) := wrap_next (by omega)
    refine fun hb => ⟨fun e => ?_, fun e => ?_⟩
    · have e : x = c := UInt8.toNat_inj.1 (by omega)
      subst e
      have hsp : splitL x (pre ++ [x]) = (out ++ [p]) ++ [[]] := by rw [splitL_sep, hI]
      rcases out with _ | ⟨o, os⟩
      · simp -implicitDefEqProofs only [go_sem, appS, appA, List.map_nil, encS]
        refine ⟨by simp, ([p], []), hsp, ?_⟩
        simp -implicitDefEqProofs only [go_sem, List.map_cons, List.map_nil, List.length_nil, hw, encS]
        rfl
      · simp -implicitDefEqProofs only [go_sem, appS, appA, List.map_cons, encS]
        simp only [List.length_cons] at hlen
        refine ⟨by omega, ((o :: os) ++ [p], []), hsp, ?_⟩
        simp -implicitDefEqProofs only [go_sem, List.cons_append, List.map_cons, List.map_append, List.map_nil, List.length_nil, hw, encS]
        rfl
    · have e : x ≠ c := fun h => e (by rw [h])
      have hsp : splitL c (pre ++ [x]) = out ++ [p ++ [x]] := splitL_more e _ _ _ hI
      have hcut : s.extract pre.length (pre.length + 1) = toB [x] := At.cut (s := s) (k := pre.length) (a := [x]) (r := post) ⟨by omega, by rw [show str s = pre ++ x :: post from hx]; simp⟩
      rw [hw, Int.toNat_natCast, Int.toNat_natCast, hcut]
      have hz1 : (toB p).size ≤ 1000000 := by
        rw [size_list]
        have := splitL_mem c pre p (by rw [hI]; simp)
        show p.length ≤ _
        omega
      have hz2 : (toB [x]).size = 1 := rfl
      refine ⟨⟨by omega, by omega⟩, by omega, (out, p ++ [x]), hsp, ⟨rfl, ?_, ?_⟩, ?_, ?_⟩
      · exact ba_ext (by rw [ba_append]; rfl)
      · rw [tell_same]; trivial
      · rw [tellA_same]; trivial
      · exact .inl (Nat.le_refl _)
theorem R49integer (s : ByteArray) (hs : s.size ≤ 1000000) : VPure env 104 [.str s] (.int .i64 (intR s)) := by
  refine vpure_vc (fn := Tryz.f104) Tryz.func104 rfl (by rw [Tryz.ntmps104]; simp) rfl rfl ?_
  simp -implicitDefEqProofs only [go_sem, Tryz.f104]
  refine snd_list (β := Unit) s.data.toList (fun pre _ => ⟨[(4, .int .i64 pre.length), (3, .int .i64 (foldI pre 0)), (2, .int .i64 0), (0, .str s)], [], []⟩) (fun _ _ _ => True) () ?_ trivial ?_ ?_
  · simp -implicitDefEqProofs only [go_sem]
    exact ⟨rfl, rfl⟩
  · intro _ _
    have hcx : (((s.data.toList.length : Nat) : Int) < (s.size : Int)) = False := eq_false (by rw [size_list]; omega)
    simp -implicitDefEqProofs only [go_sem, hcx]
    refine fun _ => ⟨fun h => ?_, fun h => ?_⟩
    · have h : s ≠ ⟨#[]⟩ := by simpa using h
      have hs0 : s.size ≠ 0 := fun h0 => h (ba_ext (List.eq_nil_of_length_eq_zero (by rw [← size_list]; exact h0)))
      refine ⟨by omega, fun h1 => ?_, fun h1 => ?_⟩
      · rw [intR, if_pos ⟨h, h1⟩]; rfl
      · rw [intR, if_neg (fun hh => h1 hh.2)]; rfl
    · have h : s = ⟨#[]⟩ := by simpa using h
      rw [intR, if_neg (fun hh => hh.1 h)]; rfl
  · rintro pre x post _ hx _
    have hz := size_mid hx
    have hpl : (pre ++ x :: post).length = pre.length + 1 + post.length := by simp; omega
    have hw : IntKind.i64.wrap ((pre.length : Int) + 1) = ((pre.length + 1 : Nat) : Int) := wrap_next (by omega)
    have hf : foldI (pre ++ [x]) 0 = if digitB x.toNat then stepI (foldI pre 0) x.toNat else foldI pre 0 := by
      unfold foldI
      rw [List.foldl_append]
      rfl
    simp -implicitDefEqProofs only [go_sem, hz, byteAt_mid hx, hw]
    have hd : digitB (x.toNat : Int) = (decide (48 ≤ (x.toNat : Int)) && decide ((x.toNat : Int) ≤ 57)) := rfl
    refine fun _ => ⟨fun h1 => ⟨fun h2 => ⟨(), ?_⟩, fun h2 => ⟨(), ?_⟩⟩, fun h1 => ⟨(), ?_⟩⟩
    · rw [hf, if_pos (by rw [hd]; simp; omega)]; rfl
    · rw [hf, if_neg (by rw [hd]; simp; omega)]
    · rw [hf, if_neg (by rw [hd]; simp; omega)]
end Go.Proofs.YtellnbgljmocgaaGreatDoor
set_option linter.unusedVariables false
set_option linter.unusedSimpArgs false
set_option maxRecDepth 20000
namespace Go.Vg
open Go Go.Lib
theorem byteAt_get {s : ByteArray} {k : Nat} {x : UInt8} {r : List UInt8} (h : (str s).drop k = x :: r) : byteAt s ((k : Nat) : Int) = x.toNat := by
  have hl : k < (str s).length := by
    have := congrArg List.length h
    rw [List.length_drop, List.length_cons] at this
    omega
  have := byteAt_mid (s := s) (pre := (str s).take k) (x := x) (post := r) (by rw [← h]; exact (List.take_append_drop k _).symm)
  rwa [List.length_take, Nat.min_eq_left (by omega)] at this
theorem digits_stop {l : List UInt8} : digitsAt l = l ∨ (digitsAt l).length = 6 ∨ ∃ y r, l.drop (digitsAt l).length = y :: r ∧ isDig y = false := by
  unfold digitsAt
  by_cases h6 : ((l.take 6).takeWhile isDig).length = 6
  · exact .inr (.inl h6)
  have hs : (l.take 6).takeWhile isDig ++ (l.take 6).dropWhile isDig = l.take 6 := List.takeWhile_append_dropWhile
  generalize hd : (l.take 6).takeWhile isDig = d at *
  cases hw : (l.take 6).dropWhile isDig with
  | nil =>
    rw [hw, List.append_nil] at hs
    refine .inl ?_
    have : (l.take 6).length = d.length := by rw [hs]
    rw [List.length_take] at this
    have : d.length ≤ 6 := by omega
    rw [hs, List.take_of_length_le (by omega)]
  | cons y r =>
    rw [hw] at hs
    refine .inr (.inr ⟨y, r ++ l.drop 6, ?_, ?_⟩)
    · have e : l = (d ++ y :: r) ++ l.drop 6 := by rw [hs, List.take_append_drop]
      rw [e]
      have hl : ((d ++ y :: r) ++ l.drop 6).drop d.length = (y :: r) ++ l.drop 6 := by
        rw [List.append_assoc, List.drop_left]
      rw [← e] at hl
      rw [← e, hl]; rfl
    · have hn := List.head?_dropWhile_not isDig (l.take 6)
      rw [hw] at hn
      simpa using hn
theorem digits_pre {l : List UInt8} : ∃ r, l = digitsAt l ++ r := by
  unfold digitsAt
  refine ⟨(l.take 6).dropWhile isDig ++ l.drop 6, ?_⟩
  rw [← List.append_assoc, List.takeWhile_append_dropWhile, List.take_append_drop]
theorem valI_snoc (l : List UInt8) (x : UInt8) (n : Int) : valI (l ++ [x]) n = valI l n * 10 + (x.toNat - 48) := by
  unfold valI
  rw [List.foldl_append]; rfl
end Go.Vg
namespace Go.Proofs.YtellnbgljmocgaaGreatDoor
open Go Go.Vg Go.Proofs
theorem R51number (s : ByteArray) (k : Nat) (hk : k ≤ s.size) (hs : s.size ≤ 1000000) : VPure env 41 [.str s, .int .i64 k] (.tuple [.int .i64 (numR s k).1, .int .i64 (numR s k).2]) := by
  refine vpure_vc (fn := Tryz.f41) Tryz.func41 rfl (by rw [Tryz.ntmps41]; simp) rfl rfl ?_
  simp -implicitDefEqProofs only [go_sem, Tryz.f41]
  obtain ⟨r0, hr0⟩ := digits_pre (l := (str s).drop k)
  have hl6 := digitsAt_len ((str s).drop k)
  have hlen : ((str s).drop k).length = s.size - k := by rw [List.length_drop, str_len]
  have w6 : IntKind.i64.wrap ((k : Int) + 6) = (k : Int) + 6 := Go.Vg.wrap_small (by omega) (by omega)
  refine snd_list (β := Unit) (digitsAt ((str s).drop k)) (fun pre _ => ⟨[(7, .int .i64 ((k + pre.length : Nat) : Int)), (6, .int .i64 (valI pre 0)), (0, .str s), (1, .int .i64 k)], [], []⟩) (fun _ _ _ => True) () ?_ trivial ?_ ?_
  · simp -implicitDefEqProofs only [go_sem, List.length_nil, Nat.add_zero]
    rfl
  · intro _ _
    have fin : ((((k + (digitsAt ((str s).drop k)).length : Nat)) : Int) = (k : Int) → V.tuple [V.int IntKind.i64 (-1), V.int IntKind.i64 (k : Int)] = V.tuple [V.int IntKind.i64 (numR s k).1, V.int IntKind.i64 (numR s k).2]) ∧
        (¬ (((k + (digitsAt ((str s).drop k)).length : Nat)) : Int) = (k : Int) → V.tuple [V.int IntKind.i64 (valI (digitsAt ((str s).drop k)) 0), V.int IntKind.i64 ((k + (digitsAt ((str s).drop k)).length : Nat) : Int)] = V.tuple [V.int IntKind.i64 (numR s k).1, V.int IntKind.i64 (numR s k).2]) := by
      unfold numR
      refine ⟨fun h => ?_, fun h => ?_⟩
      · rw [if_pos (List.eq_nil_of_length_eq_zero (by omega))]
      · rw [if_neg (fun e => h (by rw [e]; rfl))]
    obtain ⟨f1, f2⟩ := fin
    rcases digits_stop (l := (str s).drop k) with h | h | ⟨y, r, h, hy⟩
    · have e : k + (digitsAt ((str s).drop k)).length = s.size := by rw [h, hlen]; omega
      have g1 : ((((k + (digitsAt ((str s).drop k)).length : Nat)) : Int) < (s.size : Int)) = False := eq_false (by omega)
      simp -implicitDefEqProofs only [go_sem, g1]
      exact fun _ => ⟨f1, f2⟩
    · have g1 : ((((k + (digitsAt ((str s).drop k)).length : Nat)) : Int) < (k : Int) + 6) = False := eq_false (by omega)
      simp -implicitDefEqProofs only [go_sem, w6, g1]
      exact fun _ => ⟨fun _ => ⟨f1, f2⟩, fun _ => ⟨f1, f2⟩⟩
    · have hb := byteAt_get (s := s) (k := k + (digitsAt ((str s).drop k)).length) (x := y) (r := r) (by rw [← List.drop_drop]; exact h)
      have hyl : ((str s).drop (k + (digitsAt ((str s).drop k)).length)).length = r.length + 1 := by rw [← List.drop_drop, h]; rfl
      rw [List.length_drop, str_len] at hyl
      have g1 : ((((k + (digitsAt ((str s).drop k)).length : Nat)) : Int) < (s.size : Int)) = True := eq_true (by omega)
      have g2 : (0 ≤ (((k + (digitsAt ((str s).drop k)).length : Nat)) : Int)) = True := eq_true (by omega)
      have hy2 : y.toNat < 48 ∨ 57 < y.toNat := by simp [isDig] at hy; omega
      simp -implicitDefEqProofs only [go_sem, w6, hb, g1, g2]
      exact fun _ => ⟨fun _ => ⟨fun _ => ⟨fun _ => by omega, fun _ => ⟨f1, f2⟩⟩, fun _ => ⟨f1, f2⟩⟩, fun _ => ⟨f1, f2⟩⟩
  · rintro pre x post _ hx _
    have hx0 : (str s).drop k = pre ++ x :: (post ++ r0) := by rw [hr0, hx]; simp
    have hb := byteAt_get (s := s) (k := k + pre.length) (x := x) (r := post ++ r0) (by rw [← List.drop_drop, hx0]; simp)
    have hxl := congrArg List.length hx0
    rw [hlen, List.length_append, List.length_cons] at hxl
    have hpl : pre.length < 6 := by have := hl6.1; rw [hx, List.length_append, List.length_cons] at this; omega
    have hxd : isDig x = true := tw_all _ x (by show x ∈ digitsAt ((str s).drop k); rw [hx]; simp)
    have hpd : ∀ c ∈ pre, isDig c = true := fun c hc => tw_all _ c (by show c ∈ digitsAt ((str s).drop k); rw [hx]; simp [hc])
    have g1 : ((((k + pre.length : Nat)) : Int) < (s.size : Int)) = True := eq_true (by omega)
    have g2 : (0 ≤ (((k + pre.length : Nat)) : Int)) = True := eq_true (by omega)
    have g3 : ((((k + pre.length : Nat)) : Int) < (k : Int) + 6) = True := eq_true (by omega)
    have hx2 : 48 ≤ x.toNat ∧ x.toNat ≤ 57 := by simpa [isDig] using hxd
    have hvb := valI_bound pre 0 (by decide) hpd
    have hpw : (10 : Int) ^ pre.length ≤ 10 ^ 5 := by
      have := Nat.pow_le_pow_right (by decide : 10 > 0) (show pre.length ≤ 5 by omega)
      exact_mod_cast this
    have h10 : (10 : Int) ^ 5 = 100000 := by decide
    have hv : 0 ≤ valI pre 0 ∧ valI pre 0 ≤ 100000 := by
      generalize (10 : Int) ^ pre.length = q at *
      omega
    simp -implicitDefEqProofs only [go_sem, w6, hb, g1, g2, g3]
    refine fun _ => ⟨fun _ => ⟨fun _ => ⟨(), Go.Vg.wrap_small (by omega) (by omega), ?_⟩, fun h => absurd (by omega) h⟩, fun h => absurd (by omega) h⟩
    have v1 : IntKind.i64.wrap (valI pre 0 * 10) = valI pre 0 * 10 := Go.Vg.wrap_small (by omega) (by omega)
    have v2 : IntKind.i64.wrap ((x.toNat : Nat) : Int) = ((x.toNat : Nat) : Int) := Go.Vg.wrap_small (by omega) (by omega)
    rw [v1, v2, Go.Vg.wrap_small (x := valI pre 0 * 10 + ((x.toNat : Nat) : Int)) (by omega) (by omega), Go.Vg.wrap_small (by omega) (by omega), valI_snoc]
    omega
theorem R51word (s w : ByteArray) (k : Int) (hk : k ≤ s.size) (hs : s.size ≤ 1000000) (hw : w.size ≤ 1000) : VPure env 16 [.str s, .int .i64 k, .str w] (.int .i64 (wordR s k w)) := by
  refine vpure_vc (fn := Tryz.f16) Tryz.func16 rfl (by rw [Tryz.ntmps16]; simp) rfl rfl ?_
  simp -implicitDefEqProofs only [go_sem, Tryz.f16]
  unfold wordR
  refine ⟨fun c => ?_, fun c => by rw [if_pos c]⟩
  have w1 : IntKind.i64.wrap ((s.size : Int) - k) = (s.size : Int) - k := Go.Vg.wrap_small (by omega) (by omega)
  have w2 : IntKind.i64.wrap (k + (w.size : Int)) = k + (w.size : Int) := Go.Vg.wrap_small (by omega) (by omega)
  rw [w1, w2]
  refine fun _ _ => ⟨fun d _ => ⟨⟨by omega, by omega, by omega⟩, fun e => ?_, fun e _ => ?_⟩, fun d => ?_⟩
  · rw [if_neg c, if_neg d, if_neg (by simpa using e)]
  · rw [if_neg c, if_neg d, if_pos (by simpa using e)]
  · rw [if_neg c, if_pos d]
theorem R51part (s : ByteArray) (k : Int) (hk : k ≤ s.size) (hs : s.size ≤ 1000000) : VPure env 18 [.str s, .int .i64 k] (.tuple [.str (partR s k).1, .int .i64 (partR s k).2]) := by
  refine vpure_vc (fn := Tryz.f18) Tryz.func18 rfl (by rw [Tryz.ntmps18]; simp) rfl rfl ?_
  simp -implicitDefEqProofs only [go_sem, Tryz.f18]
  unfold partR
  refine ⟨fun c => ?_, fun c => ?_⟩
  · rw [if_pos c]
  rw [if_neg c]
  obtain ⟨j, rfl⟩ : ∃ j : Nat, k = j := ⟨k.toNat, by omega⟩
  rw [Int.toNat_natCast]
  have hb := numR_bounds (s := s) (k := j) (by omega)
  refine (R51number s j (by omega) hs).calls rfl ?_
  generalize numR s j = x at *
  simp -implicitDefEqProofs only [go_sem]
  have hb2 := wordR_le (w := colon) hb.2.2.2
  refine (R51word s colon x.2 hb.2.2.2 hs (by decide)).calls rfl ?_
  generalize wordR s x.2 colon = y at *
  have w1 : IntKind.i64.wrap ((s.size : Int) - y) = (s.size : Int) - y := Go.Vg.wrap_small (by omega) (by omega)
  have w2 : IntKind.i64.wrap (y + x.1) = y + x.1 := Go.Vg.wrap_small (by omega) (by omega)
  simp -implicitDefEqProofs only [go_sem, w1, w2]
  refine ⟨fun c1 => ⟨fun c2 _ => ⟨fun c3 => ?_, fun c3 => ⟨⟨by omega, by omega, by omega⟩, ?_⟩⟩, fun c2 => ?_⟩, fun c1 => ?_⟩
  · rw [if_neg c1, if_neg c2, if_pos c3]
  · rw [if_neg c1, if_neg c2, if_neg c3]
  · rw [if_neg c1, if_pos c2]
  · rw [if_pos c1]
theorem R51head (s w : ByteArray) (k : Int) (hk : k ≤ s.size) (hs : s.size ≤ 1000000) (hw : w.size ≤ 1000) : VPure env 15 [.str s, .int .i64 k, .str w] (.tuple [.int .i64 (headR s k w).1, .int .i64 (headR s k w).2]) := by
  refine vpure_vc (fn := Tryz.f15) Tryz.func15 rfl (by rw [Tryz.ntmps15]; simp) rfl rfl ?_
  simp -implicitDefEqProofs only [go_sem, Tryz.f15]
  refine (R51word s w k hk hs hw).calls rfl ?_
  have hb := wordR_le (w := w) hk
  unfold headR
  generalize wordR s k w = y at *
  simp -implicitDefEqProofs only [go_sem]
  refine ⟨fun c => ?_, fun c => ?_⟩
  · rw [if_pos c]
  rw [if_neg c]
  obtain ⟨j, rfl⟩ : ∃ j : Nat, y = j := ⟨y.toNat, by omega⟩
  rw [Int.toNat_natCast]
  refine (R51number s j (by omega) hs).calls rfl ?_
  generalize numR s j = x at *
  simp -implicitDefEqProofs only [go_sem]
  refine ⟨fun c => ?_, fun c => ?_⟩
  · rw [if_pos c]
  · rw [if_neg c]
theorem R51parents (s : ByteArray) (k : Int) (hk : k ≤ s.size) (hs : s.size ≤ 1000000) : VPure env 17 [.str s, .int .i64 k] (.tuple [sl 3 ((parentsR s k).1.map encI), .int .i64 (parentsR s k).2]) := by
  refine vpure_vc (fn := Tryz.f17) Tryz.func17 rfl (by rw [Tryz.ntmps17]; simp) rfl (by simp -implicitDefEqProofs only [go_sem]) ?_
  simp -implicitDefEqProofs only [go_sem, Tryz.f17]
  have hb := headR_bounds (w := ⟨#[112, 97, 114, 101, 110, 116, 115, 32]⟩) hk
  refine (R51head s _ k hk hs (by decide)).calls rfl ?_
  unfold parentsR
  generalize headR s k ⟨#[112, 97, 114, 101, 110, 116, 115, 32]⟩ = x at *
  simp -implicitDefEqProofs only [go_sem]
  refine ⟨fun c1 => ⟨fun c2 => ?_, fun c2 => ?_⟩, fun c1 => ?_⟩
  · rw [if_pos (.inr c2)]; rfl
  rotate_left
  · rw [if_pos (.inl c1)]; rfl
  rw [if_neg (by omega)]
  refine snd_for (α := Int × Int × List Int) (fun y => ⟨[(9, .int .i64 y.1), (8, .slice (.arr 0) 3 (y.2.2.map encI)), (7, .int .i64 y.2.1), (6, .int .i64 x.1), (0, .str s), (1, .int .i64 k)], [], [y.2.2.length]⟩)
    (fun y => 0 ≤ y.1 ∧ y.1 ≤ x.1 ∧ 0 ≤ y.2.1 ∧ y.2.1 ≤ s.size ∧ (y.2.2.length : Int) = y.1 ∧ parentsL s x.1.toNat x.2 [] = parentsL s (x.1 - y.1).toNat y.2.1 y.2.2) (fun y => (x.1 - y.1).toNat) (0, x.2, []) ?_ ⟨by simp, by simp only; omega, by simp only; omega, hb.2.2.2, rfl, by simp⟩ ?_
  · simp -implicitDefEqProofs only [go_sem, List.map_nil, List.length_nil]
  · rintro ⟨q, i, out⟩ ⟨q0, q1, i0, i1, hl, hp⟩
    simp only at q0 q1 i0 i1 hl hp
    have hb2 := headR_bounds (w := ⟨#[32]⟩) i1
    simp -implicitDefEqProofs only [go_sem]
    refine ⟨fun c => ?_, fun c => ?_⟩
    · obtain ⟨m, hm⟩ : ∃ m, (x.1 - q).toNat = m + 1 := ⟨(x.1 - q).toNat - 1, by omega⟩
      rw [hm, parentsL] at hp
      refine (R51head s _ i i1 hs (by decide)).calls rfl ?_
      generalize headR s i ⟨#[32]⟩ = y at *
      simp -implicitDefEqProofs only [go_sem]
      refine ⟨fun d => ?_, fun d => ?_⟩
      · rw [if_pos d] at hp
        rw [hp]; rfl
      · rw [if_neg d] at hp
        have w1 : IntKind.i64.wrap (q + 1) = q + 1 := Go.Vg.wrap_small (by omega) (by omega)
        refine ⟨by omega, (q + 1, y.2, out ++ [y.1]), by simp only; omega, ⟨by simp only; omega, by simp only; omega, by simp only; omega, hb2.2.2.2, by simp; omega, ?_⟩, ⟨w1, by simp [encI], rfl⟩, by simp⟩
        rw [hp, show (x.1 - (q + 1)).toNat = m by omega]
    · have hz : (x.1 - q).toNat = 0 := by omega
      rw [hz, parentsL] at hp
      rw [hp]
      refine (R51word s nl i i1 hs (by decide)).calls rfl ?_
      simp -implicitDefEqProofs only [go_sem]
theorem R51files (s : ByteArray) (k : Int) (hk : k ≤ s.size) (hs : s.size ≤ 1000000) : VPure env 19 [.str s, .int .i64 k] (.tuple [sl 34 ((filesR s k).1.map Fl.enc), .int .i64 (filesR s k).2]) := by
  refine vpure_vc (fn := Tryz.f19) Tryz.func19 rfl (by rw [Tryz.ntmps19]; simp) rfl (by simp -implicitDefEqProofs only [go_sem]) ?_
  simp -implicitDefEqProofs only [go_sem, Tryz.f19]
  have hb := headR_bounds (w := ⟨#[102, 105, 108, 101, 115, 32]⟩) hk
  refine (R51head s _ k hk hs (by decide)).calls rfl ?_
  unfold filesR
  generalize headR s k ⟨#[102, 105, 108, 101, 115, 32]⟩ = x at *
  simp -implicitDefEqProofs only [go_sem]
  have hb1 := wordR_le (w := nl) hb.2.2.2
  refine (R51word s nl x.2 hb.2.2.2 hs (by decide)).calls rfl ?_
  generalize wordR s x.2 nl = z at *
  simp -implicitDefEqProofs only [go_sem]
  refine ⟨fun c1 => ⟨fun c2 => ?_, fun c2 => ?_⟩, fun c1 => ?_⟩
  · rw [if_pos (.inr c2)]; rfl
  rotate_left
  · rw [if_pos (.inl c1)]; rfl
  rw [if_neg (by omega)]
  refine snd_for (α := Int × Int × List Fl) (fun y => ⟨[(9, .int .i64 y.1), (8, .slice (.arr 0) 34 (y.2.2.map Fl.enc)), (7, .int .i64 y.2.1), (6, .int .i64 x.1), (0, .str s), (1, .int .i64 k)], [], [y.2.2.length]⟩)
    (fun y => 0 ≤ y.1 ∧ y.1 ≤ x.1 ∧ 0 ≤ y.2.1 ∧ y.2.1 ≤ s.size ∧ (y.2.2.length : Int) = y.1 ∧ filesL s x.1.toNat z [] = filesL s (x.1 - y.1).toNat y.2.1 y.2.2) (fun y => (x.1 - y.1).toNat) (0, z, []) ?_ ⟨by simp, by simp only; omega, by simp only; omega, hb1.2, rfl, by simp⟩ ?_
  · simp -implicitDefEqProofs only [go_sem, List.map_nil, List.length_nil]
  · rintro ⟨q, i, out⟩ ⟨q0, q1, i0, i1, hl, hp⟩
    simp only at q0 q1 i0 i1 hl hp
    simp -implicitDefEqProofs only [go_sem]
    refine ⟨fun c => ?_, fun c => ?_⟩
    · obtain ⟨m, hm⟩ : ∃ m, (x.1 - q).toNat = m + 1 := ⟨(x.1 - q).toNat - 1, by omega⟩
      rw [hm, filesL] at hp
      unfold fileR at hp
      have b1 := partR_bounds i1
      refine (R51part s i i1 hs).calls rfl ?_
      generalize partR s i = y1 at *
      simp -implicitDefEqProofs only [go_sem]
      have b2 := wordR_le (w := ⟨#[32]⟩) b1.2.2
      refine (R51word s _ y1.2 b1.2.2 hs (by decide)).calls rfl ?_
      generalize wordR s y1.2 ⟨#[32]⟩ = y2 at *
      simp -implicitDefEqProofs only [go_sem]
      have b3 := partR_bounds b2.2
      refine (R51part s y2 b2.2 hs).calls rfl ?_
      generalize partR s y2 = y3 at *
      simp -implicitDefEqProofs only [go_sem]
      have b4 := wordR_le (w := nl) b3.2.2
      refine (R51word s nl y3.2 b3.2.2 hs (by decide)).calls rfl ?_
      generalize wordR s y3.2 nl = y4 at *
      simp -implicitDefEqProofs only [go_sem]
      refine ⟨fun d => ?_, fun d => ?_⟩
      · rw [if_pos d] at hp
        rw [hp]; rfl
      · rw [if_neg d] at hp
        have w1 : IntKind.i64.wrap (q + 1) = q + 1 := Go.Vg.wrap_small (by omega) (by omega)
        refine ⟨by omega, (q + 1, y4, out ++ [⟨y1.1, y3.1⟩]), by simp only; omega, ⟨by simp only; omega, by simp only; omega, by simp only; omega, b4.2, by simp; omega, ?_⟩, ⟨w1, by simp [Fl.enc], rfl⟩, by simp⟩
        rw [hp, show (x.1 - (q + 1)).toNat = m by omega]
    · have hz : (x.1 - q).toNat = 0 := by omega
      rw [hz, filesL] at hp
      rw [hp]
theorem R51ops (s : ByteArray) (k : Int) (hk : k ≤ s.size) (hs : s.size ≤ 400000) (hP : ∀ t : ByteArray, t.size ≤ s.size → VPure env 42 [.str t] (parseV (parseR t))) : VPure env 20 [.str s, .int .i64 k] (.tuple [sl 60 ((opsR s k).1.map Rf.enc), .int .i64 (opsR s k).2]) := by
  refine vpure_vc (fn := Tryz.f20) Tryz.func20 rfl (by rw [Tryz.ntmps20]; simp) rfl (by simp -implicitDefEqProofs only [go_sem]) ?_
  simp -implicitDefEqProofs only [go_sem, Tryz.f20]
  have hb := headR_bounds (w := ⟨#[111, 112, 115, 32]⟩) hk
  refine (R51head s _ k hk (by omega) (by decide)).calls rfl ?_
  unfold opsR
  generalize headR s k ⟨#[111, 112, 115, 32]⟩ = x at *
  simp -implicitDefEqProofs only [go_sem]
  have hb1 := wordR_le (w := nl) hb.2.2.2
  refine (R51word s nl x.2 hb.2.2.2 (by omega) (by decide)).calls rfl ?_
  generalize wordR s x.2 nl = z at *
  simp -implicitDefEqProofs only [go_sem]
  refine ⟨fun c1 => ⟨fun c2 => ?_, fun c2 => ?_⟩, fun c1 => ?_⟩
  · rw [if_pos (.inr c2)]; rfl
  rotate_left
  · rw [if_pos (.inl c1)]; rfl
  rw [if_neg (by omega)]
  refine snd_for (α := Int × Int × List Rf) (fun y => ⟨[(9, .int .i64 y.1), (8, .slice (.arr 0) 60 (y.2.2.map Rf.enc)), (7, .int .i64 y.2.1), (6, .int .i64 x.1), (0, .str s), (1, .int .i64 k)], [], [y.2.2.length]⟩)
    (fun y => 0 ≤ y.1 ∧ y.1 ≤ x.1 ∧ 0 ≤ y.2.1 ∧ y.2.1 ≤ s.size ∧ (y.2.2.length : Int) = y.1 ∧ opsL s x.1.toNat z [] = opsL s (x.1 - y.1).toNat y.2.1 y.2.2) (fun y => (x.1 - y.1).toNat) (0, z, []) ?_ ⟨by simp, by simp only; omega, by simp only; omega, hb1.2, rfl, by simp⟩ ?_
  · simp -implicitDefEqProofs only [go_sem, List.map_nil, List.length_nil]
  · rintro ⟨q, i, out⟩ ⟨q0, q1, i0, i1, hl, hp⟩
    simp only at q0 q1 i0 i1 hl hp
    simp -implicitDefEqProofs only [go_sem]
    refine ⟨fun c => ?_, fun c => ?_⟩
    · obtain ⟨m, hm⟩ : ∃ m, (x.1 - q).toNat = m + 1 := ⟨(x.1 - q).toNat - 1, by omega⟩
      rw [hm, opsL] at hp
      have b1 := partR_bounds i1
      refine (R51part s i i1 (by omega)).calls rfl ?_
      generalize partR s i = y1 at *
      simp -implicitDefEqProofs only [go_sem]
      have b2 := wordR_le (w := nl) b1.2.2
      refine (R51word s nl y1.2 b1.2.2 (by omega) (by decide)).calls rfl ?_
      generalize wordR s y1.2 nl = y2 at *
      simp -implicitDefEqProofs only [go_sem]
      refine (hP y1.1 b1.1).calls rfl ?_
      cases hpr : parseR y1.1 with
      | none =>
        simp -implicitDefEqProofs only [go_sem, parseV, noRf]
        rw [hpr] at hp
        have hp : opsL s x.1.toNat z [] = none := by rw [hp]; split <;> rfl
        rw [hp]
        exact ⟨fun _ => rfl, fun _ => rfl⟩
      | some r =>
        rw [hpr] at hp
        simp -implicitDefEqProofs only [go_sem, parseV]
        refine ⟨fun d => ?_, fun d => ?_⟩
        rotate_left
        · rw [if_pos d] at hp
          rw [hp]; rfl
        · rw [if_neg d] at hp
          have w1 : IntKind.i64.wrap (q + 1) = q + 1 := Go.Vg.wrap_small (by omega) (by omega)
          refine ⟨by omega, (q + 1, y2, out ++ [r]), by simp only; omega, ⟨by simp only; omega, by simp only; omega, by simp only; omega, b2.2, by simp; omega, ?_⟩, ⟨w1, by simp, rfl⟩, by simp⟩
          rw [hp, show (x.1 - (q + 1)).toNat = m by omega]
    · have hz : (x.1 - q).toNat = 0 := by omega
      rw [hz, opsL] at hp
      rw [hp]
theorem R51Decode (s : ByteArray) (hs : s.size ≤ 2000) (hP : ∀ t : ByteArray, t.size ≤ s.size → VPure env 42 [.str t] (parseV (parseR t))) : VPure env 6 [.str s] (match decR s with
    | some (c, n) => .tuple [.agg c.enc, .int .i64 n, .int .i64 0]
    | none => .tuple [.agg noCm.enc, .int .i64 0, .int .i64 1]) := by
  refine vpure_vc (fn := Tryz.f6) Tryz.func6 rfl (by rw [Tryz.ntmps6]; simp) rfl (by split <;> simp -implicitDefEqProofs only [go_sem]) ?_
  simp -implicitDefEqProofs only [go_sem, Tryz.f6]
  have hd : decR s = match candD s with
    | none => none
    | some (c, n) => if cmErr c = 0 ∧ cmText c = s.extract 0 n.toNat then some (c, n) else none := rfl
  have hok := fun c n => candD_ok (s := s) (c := c) (n := n) (by omega)
  unfold candD at hd hok
  simp only [] at hd hok
  refine (R51head s _ 0 (by omega) (by omega) (by decide)).calls rfl ?_
  have h1 := headR_bounds (s := s) (i := 0) (w := ⟨#[99, 111, 109, 109, 105, 116, 32]⟩) (by omega)
  generalize headR s 0 ⟨#[99, 111, 109, 109, 105, 116, 32]⟩ = x1 at *
  simp -implicitDefEqProofs only [go_sem]
  refine (R51word s nl x1.2 h1.2.2.2 (by omega) (by decide)).calls rfl ?_
  have h2 := wordR_le (w := nl) h1.2.2.2
  generalize wordR s x1.2 nl = x2 at *
  simp -implicitDefEqProofs only [go_sem]
  refine ⟨fun c => ?_, fun c => ?_⟩
  · rw [if_pos c] at hd
    rw [hd]
    rfl
  rw [if_neg c] at hd
  simp only [if_neg c] at hok
  refine (R51parents s x2 h2.2 (by omega)).calls rfl ?_
  have h3 := parentsR_bounds h2.2
  generalize parentsR s x2 = x3 at *
  simp -implicitDefEqProofs only [go_sem]
  refine (R51word s _ x3.2 h3.2.2 (by omega) (by decide)).calls rfl ?_
  have h4 := wordR_le (w := ⟨#[109, 101, 115, 115, 97, 103, 101, 32]⟩) h3.2.2
  generalize wordR s x3.2 ⟨#[109, 101, 115, 115, 97, 103, 101, 32]⟩ = x4 at *
  simp -implicitDefEqProofs only [go_sem]
  refine (R51part s x4 h4.2 (by omega)).calls rfl ?_
  have h5 := partR_bounds h4.2
  generalize partR s x4 = x5 at *
  simp -implicitDefEqProofs only [go_sem]
  refine (R51word s nl x5.2 h5.2.2 (by omega) (by decide)).calls rfl ?_
  have h6 := wordR_le (w := nl) h5.2.2
  generalize wordR s x5.2 nl = x6 at *
  simp -implicitDefEqProofs only [go_sem]
  refine (R51files s x6 h6.2 (by omega)).calls rfl ?_
  have h7 := filesR_bounds h6.2
  generalize filesR s x6 = x7 at *
  simp -implicitDefEqProofs only [go_sem]
  refine (R51ops s x7.2 h7.2.2 (by omega) hP).calls rfl ?_
  have h8 := opsR_bounds (by omega) h7.2.2
  generalize opsR s x7.2 = x8 at *
  simp -implicitDefEqProofs only [go_sem]
  refine (R51word s endW x8.2 h8.2.2 (by omega) (by decide)).calls rfl ?_
  have h9 := wordR_le (w := endW) h8.2.2
  generalize wordR s x8.2 endW = x9 at *
  simp -implicitDefEqProofs only [go_sem]
  refine ⟨fun d => ?_, fun d => ?_⟩
  · rw [if_pos d] at hd
    rw [hd]
    rfl
  rw [if_neg d] at hd
  obtain ⟨ok, n0, n1⟩ := hok _ _ (if_neg d)
  simp only [] at hd
  refine (R51Encode _ ok).calls (by simp -implicitDefEqProofs only [go_sem]) ?_
  simp -implicitDefEqProofs only [go_sem, encodeV]
  refine ⟨fun e => ⟨⟨n0, n1⟩, fun f => ?_, fun f => ?_⟩, fun e => ?_⟩
  · rw [hd, if_neg (fun h => by simp [h.2] at f)]; rfl
  · rw [hd, if_pos ⟨by simpa using e, by simpa using f⟩]; rfl
  · rw [hd, if_neg (fun h => by simp [h.1] at e)]; rfl
end Go.Proofs.YtellnbgljmocgaaGreatDoor
set_option linter.unusedVariables false
set_option linter.unusedSimpArgs false
set_option maxRecDepth 20000
namespace Go.Vg
theorem split_cut (c : UInt8) : ∀ l : List UInt8, ∃ t, splitL c l = (cutL c l).1 :: t
  | [] => ⟨[], rfl⟩
  | x :: r => by
    by_cases h : x = c
    · exact ⟨splitL c r, by rw [splitL, cutL, if_pos h, if_pos h]⟩
    · obtain ⟨t, ht⟩ := split_cut c r
      exact ⟨t, by rw [splitL, cutL, if_neg h, if_neg h, ht]⟩
theorem cut_rest (c : UInt8) : ∀ l : List UInt8, (cutL c l).1.length < l.length → l.drop ((cutL c l).1.length + 1) = (cutL c l).2
  | [], h => by simp [cutL] at h
  | x :: r, h => by
    by_cases hx : x = c
    · rw [cutL, if_pos hx]; rfl
    · rw [cutL, if_neg hx] at h ⊢
      simp only [List.length_cons] at h ⊢
      rw [List.drop_succ_cons]
      exact cut_rest c r (by omega)
theorem cutB_rest {c : UInt8} {f : ByteArray} (h : (cutB c f).1.size < f.size) : f.extract ((cutB c f).1.size + 1) f.size = (cutB c f).2 := by
  have hl : (cutL c (str f)).1.length < (str f).length := by
    rw [str_len]
    have : (cutB c f).1.size = (cutL c (str f)).1.length := Go.Proofs.YtellnbgljmocgaaGreatDoor.toB_size
    omega
  apply ba_ext
  show str _ = _
  rw [extract_str, List.take_of_length_le (by rw [str_len]; omega)]
  have : (cutB c f).1.size = (cutL c (str f)).1.length := Go.Proofs.YtellnbgljmocgaaGreatDoor.toB_size
  rw [this, cut_rest c _ hl]
  rfl
/-- The last word up to a number that is this word. -/
def kindUp (k : Int) (w : ByteArray) (q : Int) : Prop := (∀ j : Int, 1 ≤ j → j < k → wordB j = w → q = j) ∧ ((∀ j : Int, 1 ≤ j → j < k → wordB j ≠ w) → q = 0)
theorem kindUp_end {w : ByteArray} {q : Int} (h : kindUp 6 w q) : kindOf w = q := by
  by_cases e : ∃ j : Int, 1 ≤ j ∧ j < 6 ∧ wordB j = w
  · obtain ⟨j, h0, h1, hw⟩ := e
    rw [h.1 j h0 h1 hw, ← hw]
    exact kindOf_word h0 (by omega)
  · have e' : ∀ j : Int, 1 ≤ j → j < 6 → wordB j ≠ w := fun j h0 h1 hw => e ⟨j, h0, h1, hw⟩
    rw [h.2 e', kindOf_none e']
theorem kindUp_same {k : Int} {w : ByteArray} {q : Int} (h : kindUp k w q) (hn : wordB k ≠ w) : kindUp (k + 1) w q :=
  ⟨fun j h0 h1 hw => h.1 j h0 (by
    by_cases e : j = k
    · subst e; exact absurd hw hn
    · omega) hw, fun ha => h.2 fun j h0 h1 => ha j h0 (by omega)⟩
theorem kindUp_here {k : Int} {w : ByteArray} {q : Int} (h0 : 1 ≤ k) (h1 : k ≤ 5) (hn : wordB k = w) : kindUp (k + 1) w k :=
  ⟨fun j g0 g1 hw => by
    have e1 := kindOf_word g0 (by omega : j ≤ 5)
    have e2 := kindOf_word h0 h1
    rw [hw] at e1
    rw [hn] at e2
    rw [← e1, ← e2], fun ha => absurd hn (ha k h0 (by omega))⟩
/-- A refactoring whose numbers may be appended to. -/
def rfA (r : Rf) : List V := [.int .i64 r.kind, .str r.path, .str r.cls, .str r.fn, .str r.name, .str r.new, .int .i64 r.node, .int .i64 r.pos, .slice (.arr 0) 3 (r.order.map encI), sl 9 (r.types.map encS), sl 9 (r.texts.map encS)]
end Go.Vg
namespace Go.Proofs.YtellnbgljmocgaaGreatDoor
open Go Go.Vg Go.Proofs
theorem R49set (r : Rf) (k v : ByteArray) (hv : v.size ≤ 900000) (hr : r.order.length ≤ 100000000) {h : List VObj} {a : List Nat} {K : Cont} (ha : a[0]? = some r.order.length)
    (hK : ∀ z, K (.agg [.int .i64 (setR r k v).kind, .str (setR r k v).path, .str (setR r k v).cls, .str (setR r k v).fn, .str (setR r k v).name, .str (setR r k v).new, .int .i64 (setR r k v).node, .int .i64 (setR r k v).pos, .slice (.arr 0) 3 ((setR r k v).order.map encI), sl 9 ((setR r k v).types.map encS), sl 9 ((setR r k v).texts.map encS)]) (h ++ z) (a.set 0 (setR r k v).order.length)) :
    VCalls env 67 [.agg [.int .i64 r.kind, .str r.path, .str r.cls, .str r.fn, .str r.name, .str r.new, .int .i64 r.node, .int .i64 r.pos, .slice (.arr 0) 3 (r.order.map encI), sl 9 (r.types.map encS), sl 9 (r.texts.map encS)], .str k, .str v] h a K := by
  refine vcalls_snd (fn := Tryz.f67) Tryz.func67 rfl (by rw [Tryz.ntmps67]; simp) ?_
  simp only [Tryz.f67]
  refine vc_snd _ _ _ ?_
  have hsame : a.set 0 r.order.length = a := by
    cases a with
    | nil => rfl
    | cons x y => simp at ha; subst ha; rfl
  simp -implicitDefEqProofs only [go_sem]
  refine ⟨fun k1 => ?_, fun k1 => ⟨fun k2 => ?_, fun k2 => ⟨fun k3 => ?_, fun k3 => ⟨fun k4 => ?_, fun k4 => ⟨fun k5 => ?_, fun k5 => ?_⟩⟩⟩⟩⟩
  · subst k1
    rw [setR_path] at hK
    simp only [hsame] at hK
    exact hK _
  · subst k2
    rw [setR_class] at hK
    simp only [hsame] at hK
    exact hK _
  · subst k3
    rw [setR_func] at hK
    simp only [hsame] at hK
    exact hK _
  · subst k4
    rw [setR_name] at hK
    simp only [hsame] at hK
    exact hK _
  · subst k5
    rw [setR_to] at hK
    simp only [hsame] at hK
    exact hK _
  refine ⟨fun k6 => ?_, fun k6 => ⟨fun k7 => ?_, fun k7 => ⟨fun k8 => ?_, fun k8 => ⟨fun k9 => ?_, fun k9 => ⟨fun k10 => ?_, fun k10 => ?_⟩⟩⟩⟩⟩
  · subst k6
    rw [setR_node] at hK
    simp only [hsame] at hK
    refine (R49integer v (by omega)).calls rfl ?_
    simp -implicitDefEqProofs only [go_sem]
    exact hK _
  · subst k7
    rw [setR_pos] at hK
    simp only [hsame] at hK
    refine (R49integer v (by omega)).calls rfl ?_
    simp -implicitDefEqProofs only [go_sem]
    exact hK _
  · subst k8
    rw [setR_order] at hK
    refine (R49cut v 44 (by omega)).calls rfl ?_
    have hxl : (commas v).length ≤ v.size + 1 := commas_len v
    have hxm : ∀ x ∈ commas v, x.size ≤ v.size := commas_mem v
    rw [show List.map toB (splitL 44 (str v)) = commas v from rfl]
    generalize commas v = xs at hxl hxm hK ⊢
    simp -implicitDefEqProofs only [go_sem, encS]
    obtain ⟨r1, r2, r3, r4, r5, r6, r7, r8, r9, r10, r11⟩ := r
    simp only at ha hsame hK hr ⊢
    have htl : (xs.take 17).length = min 17 xs.length := List.length_take
    refine snd_list (β := Unit) (xs.take 17) (fun pre _ => ⟨[(8, .int .i64 pre.length), (7, sl 9 (xs.map encS)), (6, .ptr (h.length + 1) 0), (3, .ptr h.length 0)],
      h ++ [.cells [.int .i64 r1, .str r2, .str r3, .str r4, .str r5, .str r6, .int .i64 r7, .int .i64 r8, .slice (.arr 0) 3 ((r9 ++ pre.map intR).map encI), sl 9 (r10.map encS), sl 9 (r11.map encS)], .cells zeroRf],
      a.set 0 (r9 ++ pre.map intR).length⟩) (fun _ _ _ => True) () ?_ trivial ?_ ?_
    · simp -implicitDefEqProofs only [go_sem, zeroRf]
      rw [hsame, tellA_same]
      exact ⟨rfl, trivial⟩
    · intro _ _
      by_cases h17 : xs.length ≤ 17
      · have e : ((((xs.take 17).length : Nat) : Int) < (xs.length : Int)) = False := eq_false (by omega)
        simp -implicitDefEqProofs only [go_sem, zeroRf, e]
        exact fun _ _ => hK _
      · have e : ((((xs.take 17).length : Nat) : Int) < (xs.length : Int)) = True := eq_true (by omega)
        have e2 : ((((xs.take 17).length : Nat) : Int) ≤ 16) = False := eq_false (by omega)
        simp -implicitDefEqProofs only [go_sem, zeroRf, e, e2]
        exact fun _ _ => hK _
    · intro pre x post _ hx _
      have hxe : xs = pre ++ x :: (post ++ xs.drop 17) := by
        conv => lhs; rw [← List.take_append_drop 17 xs, hx]
        simp
      have hpl : (pre ++ x :: post).length = pre.length + 1 + post.length := by simp; omega
      rw [← hx] at hpl
      have hxs := hxm x (by rw [hxe]; simp)
      have hgd : (List.map encS xs).getD pre.length [] = encS x := by rw [hxe]; simp
      have e : ((pre.length : Int) < (xs.length : Int)) = True := eq_true (by omega)
      have e2 : ((pre.length : Int) ≤ 16) = True := eq_true (by omega)
      have e3 : (0 ≤ (pre.length : Int)) = True := eq_true (by omega)
      have hset : (a.set 0 (r9 ++ pre.map intR).length)[0]? = some (r9 ++ pre.map intR).length := by
        cases a with
        | nil => simp at ha
        | cons x y => rfl
      simp -implicitDefEqProofs only [go_sem, zeroRf, e, e2]
      refine fun _ _ => snd_draw (cs := []) mixed (by kernel_rfl) ?_
      simp -implicitDefEqProofs only [go_sem, zeroRf, e, e2, e3, hgd, Int.toNat_natCast, encS]
      refine vPC_of (R49integer x (by omega)) rfl ?_
      simp -implicitDefEqProofs only [go_sem, hset]
      have hl9 : (r9 ++ List.map intR pre).length = r9.length + pre.length := by simp
      refine ⟨by omega, (), Go.Vg.wrap_small (by omega) (by omega), by simp [encI], ?_⟩
      rw [show (r9 ++ (List.map intR pre ++ [intR x])).length = (r9 ++ List.map intR pre).length + 1 by simp; omega, tellA_same]
      trivial
  · subst k9
    rw [setR_types] at hK
    simp only [hsame] at hK
    refine (R49cut v 44 (by omega)).calls rfl ?_
    simp -implicitDefEqProofs only [go_sem]
    exact hK _
  · subst k10
    rw [setR_texts] at hK
    simp only [hsame] at hK
    refine (R49cut v 44 (by omega)).calls rfl ?_
    have hxl : (commas v).length ≤ v.size + 1 := commas_len v
    have hxm : ∀ x ∈ commas v, x.size ≤ v.size := commas_mem v
    rw [show List.map toB (splitL 44 (str v)) = commas v from rfl]
    simp -implicitDefEqProofs only [go_sem]
    refine (R49swap (commas v) 126 32 (fun s hs => by have := hxm s hs; omega) (by omega)).calls (by simp -implicitDefEqProofs only [go_sem]; rfl) ?_
    simp -implicitDefEqProofs only [go_sem]
    exact hK _
  · have e : setR r k v = r := by unfold setR; simp only [k1, k2, k3, k4, k5, k6, k7, k8, k9, k10, if_false]
    rw [e, hsame] at hK
    exact hK _
theorem R49Parse (s : ByteArray) (hs : s.size ≤ 400000) : VPure env 42 [.str s] (parseV (parseR s)) := by
  refine vpure_snd (fn := Tryz.f42) Tryz.func42 rfl (by rw [Tryz.ntmps42]; simp) rfl (by unfold parseV; split <;> simp -implicitDefEqProofs only [go_sem, Rf.enc, noRf]) ?_
  simp only [Tryz.f42]
  refine vc_snd _ _ _ ?_
  simp -implicitDefEqProofs only [go_sem]
  refine (R49cut s 32 (by omega)).calls rfl ?_
  have hm := spaces_mem s
  have hsl := spaces_len s
  obtain ⟨w, l, hwl⟩ := spaces_cons s
  rw [show List.map toB (splitL 32 (str s)) = w :: l from hwl]
  rw [hwl] at hm hsl
  simp only [List.length_cons] at hsl
  simp -implicitDefEqProofs only [go_sem, encS]
  refine snd_for (α := Int × Int) (fun y => ⟨[(6, .int .i64 y.1), (5, .ptr 1 0), (4, sl 9 ([V.str w] :: l.map encS)), (3, .int .i64 0), (2, .ptr 0 0), (0, .str s)], [.cells zeroRf, .cells (rfA (kindRf y.2))], [0]⟩)
    (fun y => 1 ≤ y.1 ∧ y.1 ≤ 6 ∧ kindUp y.1 w y.2) (fun y => (6 - y.1).toNat) (1, 0) ?_ ⟨by decide, by decide, ⟨fun j h0 h1 => by simp only at h1; omega, fun _ => rfl⟩⟩ ?_
  · simp -implicitDefEqProofs only [go_sem, zeroRf, rfA, kindRf, List.map_nil]
  · rintro ⟨k, q⟩ ⟨k0, k1, hk⟩
    simp only at k0 k1 hk
    simp -implicitDefEqProofs only [go_sem, zeroRf, rfA, kindRf, List.map_nil]
    refine ⟨fun c => ?_, fun c => ?_⟩
    · refine snd_draw (cs := []) mixed (by kernel_rfl) ?_
      simp -implicitDefEqProofs only [go_sem, zeroRf, rfA, kindRf, List.map_nil]
      refine vPC_of (R49word k) rfl ?_
      simp -implicitDefEqProofs only [go_sem, zeroRf, rfA, kindRf, List.map_nil]
      have w1 : IntKind.i64.wrap (k + 1) = k + 1 := Go.Vg.wrap_small (by omega) (by omega)
      refine ⟨by omega, fun e => ⟨(k + 1, k), by simp only; omega, ⟨by simp only; omega, by simp only; omega, kindUp_here (q := q) k0 c e⟩, w1, rfl⟩, fun e => ⟨(k + 1, q), by simp only; omega, ⟨by simp only; omega, by simp only; omega, kindUp_same hk e⟩, w1, rfl⟩⟩
    · have : k = 6 := by omega
      subst this
      rw [← kindUp_end hk]
      clear hk
      refine snd_list (β := Rf) l (fun pre r => ⟨[(7, .int .i64 ((pre.length + 1 : Nat) : Int)), (5, .ptr 1 0), (4, sl 9 ([V.str w] :: l.map encS)), (3, .int .i64 0), (2, .ptr 0 0), (0, .str s)], [.cells zeroRf, .cells (rfA r)], [r.order.length]⟩)
        (fun pre post r => r = pre.foldl fldR (kindRf (kindOf w))) (kindRf (kindOf w)) ?_ rfl ?_ ?_
      · simp -implicitDefEqProofs only [go_sem, zeroRf, rfA, kindRf, List.map_nil, List.length_nil]
        rfl
      · intro r hr
        have hc : candR s = r := by rw [candR, hwl, hr]
        have hok := candR_ok hs
        rw [hc] at hok
        simp -implicitDefEqProofs only [go_sem, zeroRf, rfA]
        refine fun _ _ => (R49Print r hok).calls (by simp -implicitDefEqProofs only [go_sem, Rf.enc]) ?_
        unfold printV
        have hp : parseR s = if rfErr r = 0 ∧ rfText r = s then some r else none := by rw [parseR, hc]
        simp -implicitDefEqProofs only [go_sem, zeroRf]
        refine ⟨fun e => ?_, fun e => ?_⟩
        · have e : rfErr r = 0 := by simpa using e
          refine ⟨fun d => ?_, fun d => ?_⟩
          · rw [if_pos e] at d
            rw [hp, if_neg (fun h => by simp [h.2] at d)]; rfl
          · rw [if_pos e] at d
            rw [hp, if_pos ⟨e, by simpa using d⟩]; rfl
        · have e : rfErr r ≠ 0 := by simpa using e
          rw [hp, if_neg (fun h => e h.1)]; rfl
      · intro pre x post r hx hr
        have hxs := hm x (by rw [hx]; simp)
        have hll : l.length = pre.length + 1 + post.length := by rw [hx]; simp; omega
        have g1 : (((pre.length + 1 : Nat) : Int) < ((l.length + 1 : Nat) : Int)) = True := eq_true (by omega)
        have hgd : ([V.str w] :: l.map encS).getD (pre.length + 1) [] = [V.str x] := by rw [hx]; simp [encS]
        obtain ⟨t, ht⟩ := split_cut 61 (str x)
        have hcs := cutB_size 61 x
        have hfit := folds_fit pre (kindRf (kindOf w)) 0 (kindRf_fit _) (fun y hy => by have := hm y (by rw [hx]; simp [hy]); omega)
        rw [← hr, Nat.zero_add] at hfit
        have hfr : (pre ++ [x]).foldl fldR (kindRf (kindOf w)) = fldR r x := by rw [List.foldl_append, ← hr]; rfl
        simp -implicitDefEqProofs only [go_sem, zeroRf, rfA, g1, Int.toNat_natCast, hgd]
        refine fun _ _ => (R49cut x 61 (by omega)).calls rfl ?_
        rw [ht]
        simp -implicitDefEqProofs only [go_sem, zeroRf, rfA, g1, Int.toNat_natCast, hgd, List.map_cons, encS]
        have hcc : toB (cutL 61 (str x)).1 = (cutB 61 x).1 := rfl
        rw [hcc]
        have w1 : IntKind.i64.wrap (((pre.length + 1 : Nat) : Int) + 1) = ((pre.length + 1 + 1 : Nat) : Int) := Go.Vg.wrap_small (by omega) (by omega)
        refine ⟨by omega, fun _ _ => ⟨fun e => ?_, fun e => ?_⟩⟩
        · have hrest := cutB_rest (c := 61) (f := x) (by omega)
          have hfl : fldR r x = setR r (cutB 61 x).1 (cutB 61 x).2 := by rw [fldR, if_pos (by omega)]
          have w2 : IntKind.i64.wrap (((cutB 61 x).1.size : Int) + 1) = (((cutB 61 x).1.size + 1 : Nat) : Int) := Go.Vg.wrap_small (by omega) (by omega)
          refine snd_draw (cs := [10]) mixed (by kernel_rfl) ?_
          simp -implicitDefEqProofs only [go_sem, zeroRf, rfA, g1, Int.toNat_natCast, hgd, encS, w2]
          rw [hrest]
          refine ⟨⟨by omega, Int.le_refl _⟩, R49set r _ _ (by omega) (by have := hfit.l1; omega) rfl fun z => ?_⟩
          rw [← hfl, ← hfr]
          simp -implicitDefEqProofs only [go_sem]
          exact ⟨_, rfl, w1, ⟨rfl, rfl, rfl, rfl, rfl, rfl, rfl, rfl, rfl, rfl, rfl⟩, rfl⟩
        · refine ⟨r, ?_, w1, ⟨rfl, rfl, rfl, rfl, rfl, rfl, rfl, rfl, rfl, rfl, rfl⟩, rfl⟩
          rw [hfr, fldR, if_neg (by omega)]
end Go.Proofs.YtellnbgljmocgaaGreatDoor
set_option linter.unusedVariables false
set_option linter.unusedSimpArgs false
set_option maxRecDepth 20000
namespace Go.Proofs.YtellnbgljmocgaaGreatDoor
open Go Go.Vg Go.Proofs
theorem CommitDecodesV (s : ByteArray) : VPure env 3 [.str s] (.bool true) := by
  refine vpure_vc (fn := Tryz.f3) Tryz.func3 rfl (by rw [Tryz.ntmps3]; simp) (by simp -implicitDefEqProofs only [go_sem]) rfl ?_
  simp -implicitDefEqProofs only [go_sem, Tryz.f3]
  refine fun hm => ⟨fun h => ?_, fun h => ?_⟩
  · refine awake.calls rfl ?_
    simp -implicitDefEqProofs only [go_sem]
  have hs : s.size ≤ 2000 := by omega
  have hD : VPure env 5 [.str s] (decodeV parseS s) :=
    Decode (by omega) (fun _ _ _ _ _ _ _ _ t ht => Rparse t (by omega)) (fun c rest h => (read_ok hs h).1)
  have hR := R51Decode s hs fun t ht => R49Parse t (by omega)
  rw [dec_eq hs] at hD
  cases hd : decR s with
  | none =>
    rw [hd] at hD hR
    refine hD.calls rfl ?_
    simp -implicitDefEqProofs only [go_sem, noCm]
    refine hR.calls rfl ?_
    simp -implicitDefEqProofs only [go_sem, noCm]
    refine (R51Same noCm noCm).calls (by simp -implicitDefEqProofs only [go_sem, noCm]) ?_
    have hcc : decide (noCm = noCm) = true := by simp
    simp -implicitDefEqProofs only [go_sem, hcc]
    refine awake.calls rfl ?_
    simp -implicitDefEqProofs only [go_sem]
  | some x =>
    obtain ⟨c, n⟩ := x
    rw [hd] at hD hR
    refine hD.calls rfl ?_
    simp -implicitDefEqProofs only [go_sem]
    refine hR.calls rfl ?_
    simp -implicitDefEqProofs only [go_sem]
    refine (R51Same c c).calls (by simp -implicitDefEqProofs only [go_sem]) ?_
    have hcc : decide (c = c) = true := by simp
    simp -implicitDefEqProofs only [go_sem, hcc]
    refine awake.calls rfl ?_
    simp -implicitDefEqProofs only [go_sem]
end Go.Proofs.YtellnbgljmocgaaGreatDoor
