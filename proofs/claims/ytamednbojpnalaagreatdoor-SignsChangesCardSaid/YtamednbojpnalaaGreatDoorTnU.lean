/- What functions of the program compute, as pure functions of their arguments. Conditions: those that each theorem names. -/
import Derived.Test.YtamednbojpnalaaGreatDoorTnO
set_option linter.unusedVariables false
set_option linter.unusedSimpArgs false
set_option maxRecDepth 20000
namespace Go.Proofs.YtamednbojpnalaaGreatDoor
open Go Go.Vg Go.Proofs
theorem Glevels (n : Nd) (h0 : n.kind = 24 → 2 ≤ n.kids.length) (h1 : n.kind = 25 ∨ n.kind = 21 → 1 ≤ n.kids.length) : VPure env 121 [.agg n.enc] (.bool n.levels) := by
  obtain ⟨k, t, g, ks⟩ := n
  simp only [Nd.kind, Nd.kids] at h0 h1
  refine vpure_vc (fn := Tryz.f121) Tryz.func121 rfl (by rw [Tryz.ntmps121]; simp) (by simp -implicitDefEqProofs only [go_sem]) rfl ?_
  rcases ks with _ | ⟨a, _ | ⟨b, r⟩⟩
  · have hk : ¬ k = 24 ∧ ¬ k = 25 ∧ ¬ k = 21 := ⟨fun h => by simp at h0; omega, fun h => by simp at h1; omega, fun h => by simp at h1; omega⟩
    simp -implicitDefEqProofs only [go_sem, Tryz.f121, hk.1, hk.2.1, hk.2.2]
    rfl
  · have hk : ¬ k = 24 := fun h => by simp at h0; omega
    simp -implicitDefEqProofs only [go_sem, Tryz.f121, hk]
    refine ⟨fun h => ⟨by omega, ?_⟩, fun h => ⟨fun h2 => ⟨by omega, ?_⟩, fun h2 => ?_⟩⟩
    · refine (GLevel a).calls (by simp -implicitDefEqProofs only [go_sem]) ?_
      simp -implicitDefEqProofs only [go_sem]
      simp [Nd.levels, levelsN, Nd.kind, Nd.text, Nd.kids, h]
    · refine (GLevel a).calls (by simp -implicitDefEqProofs only [go_sem]) ?_
      simp -implicitDefEqProofs only [go_sem]
      simp [Nd.levels, levelsN, Nd.kind, Nd.text, Nd.kids, h2]
    · simp [Nd.levels, levelsN, Nd.kind, Nd.text, Nd.kids, h, h2]
  · simp -implicitDefEqProofs only [go_sem, Tryz.f121]
    refine ⟨fun h => ?_, fun h => ⟨fun h2 => ⟨by omega, ?_⟩, fun h2 => ⟨fun h3 => ⟨by omega, ?_⟩, fun h3 => ?_⟩⟩⟩
    · refine snd_draw (cs := []) mixed (by kernel_rfl) ?_
      simp -implicitDefEqProofs only [go_sem]
      refine vPC_of (GLevel (.mk k t g (a :: b :: r))) (by simp -implicitDefEqProofs only [go_sem]) ?_
      simp -implicitDefEqProofs only [go_sem]
      refine ⟨by omega, ?_⟩
      refine vPC_of (GLevel a) (by simp -implicitDefEqProofs only [go_sem]) ?_
      simp -implicitDefEqProofs only [go_sem]
      have hlv : (Nd.mk k t g (a :: b :: r)).level = levelK 24 t := by simp [Nd.level, Nd.kind, Nd.text, h]
      rw [hlv]
      have hm : (Nd.mk k t g (a :: b :: r)).levels = (if levelK 24 t = 3 ∧ a.level = 3 then false else decide (levelK 24 t ≤ a.level ∧ levelK 24 t < b.level)) := by simp [Nd.levels, levelsN, Nd.kind, Nd.text, Nd.kids, h]
      rw [hm]
      have e : ∀ x : Nd, List.map share [V.agg x.enc] = [V.agg x.enc] := fun x => by simp -implicitDefEqProofs only [go_sem]
      repeat' (first | apply And.intro | (refine (GLevel a).calls (e a) ?_; simp -implicitDefEqProofs only [go_sem]) | (refine (GLevel b).calls (e b) ?_; simp -implicitDefEqProofs only [go_sem]) | omega | intro)
      all_goals (try simp_all)
      all_goals omega
    · refine (GLevel a).calls (by simp -implicitDefEqProofs only [go_sem]) ?_
      simp -implicitDefEqProofs only [go_sem]
      simp [Nd.levels, levelsN, Nd.kind, Nd.text, Nd.kids, h2]
    · refine (GLevel a).calls (by simp -implicitDefEqProofs only [go_sem]) ?_
      simp -implicitDefEqProofs only [go_sem]
      simp [Nd.levels, levelsN, Nd.kind, Nd.text, Nd.kids, h3]
    · simp [Nd.levels, levelsN, Nd.kind, Nd.text, Nd.kids, h, h2, h3]
end Go.Proofs.YtamednbojpnalaaGreatDoor
set_option linter.unusedVariables false
set_option linter.unusedSimpArgs false
namespace Go.Vg
def ptAt (a b : Int) : Int × Int := if b < ((shp a).first.length : Int) then (shp a).first.getD b.toNat (0, 0) else ((shp a).rk, (shp a).rg)
def knownB (k : Int) : Bool := decide (1 ≤ k) && decide (k < 27)
def fitsG (a b c : Int) : Bool := knownB a && decide (0 ≤ b) && knownB c && (if (ptAt a b).2 = 0 then decide ((ptAt a b).1 = c) else decide ((ptAt a b).2 = groupK c))
theorem pt_getD {l : List (Int × Int)} {i : Nat} (h : i < l.length) : (l.map encPt).getD i [] = encPt (l.getD i (0, 0)) := by
  simp [List.getD_eq_getElem?_getD, h]
end Go.Vg
namespace Go.Proofs.YtamednbojpnalaaGreatDoor
open Go Go.Vg Go.Proofs
theorem GFits (a b c : Int) : VPure env 154 [.int .i64 a, .int .i64 b, .int .i64 c] (.bool (fitsG a b c)) := by
  have hGg := GGroup c
  refine vpure_vc (fn := Tryz.f154) Tryz.func154 rfl (by rw [Tryz.ntmps154]; simp) (by simp -implicitDefEqProofs only [go_sem]) rfl ?_
  simp -implicitDefEqProofs only [go_sem, Tryz.f154]
  refine (Gknown a).calls rfl ?_
  by_cases ha : 1 ≤ a ∧ a < 27
  · have h1 : (decide (1 ≤ a) && decide (a < 27)) = true := by simp [ha]
    have hd := shapes_drop (k := a) (by omega) ha.2
    rw [h1]
    simp -implicitDefEqProofs only [go_sem]
    refine ⟨fun hb0 => ?_, fun hb0 => ?_⟩
    · refine (Gknown c).calls rfl ?_
      by_cases hc : 1 ≤ c ∧ c < 27
      · have h2 : (decide (1 ≤ c) && decide (c < 27)) = true := by simp [hc]
        rw [h2]
        have hf : fitsG a b c = (if (ptAt a b).2 = 0 then decide ((ptAt a b).1 = c) else decide ((ptAt a b).2 = groupK c)) := by
          unfold fitsG knownB; rw [h1, h2]; simp; omega
        simp -implicitDefEqProofs only [go_sem, hd, Shp.enc, List.cons_append, List.nil_append]
        refine ⟨⟨by omega, by omega⟩, fun _ _ => ⟨fun hbl => ?_, fun hbl => ?_⟩⟩
        · have hp : ptAt a b = (shp a).first.getD b.toNat (0, 0) := by unfold ptAt; rw [if_pos hbl]
          have hpt := pt_getD (l := (shp a).first) (i := b.toNat) (by omega)
          rw [← hp] at hpt
          simp -implicitDefEqProofs only [go_sem, hpt, encPt]
          refine ⟨⟨by omega, by omega⟩, fun hg => ?_, fun hg => ?_⟩
          · refine snd_draw (cs := []) mixed (by kernel_rfl) ?_
            simp -implicitDefEqProofs only [go_sem]
            refine vPC_of hGg rfl ?_
            simp -implicitDefEqProofs only [go_sem]
            have hg' : ¬ (ptAt a b).2 = 0 := by simpa using hg
            rw [hf, if_neg hg']
          · have hg' : (ptAt a b).2 = 0 := by simpa using hg
            rw [hf, if_pos hg']
        · have hp : ptAt a b = ((shp a).rk, (shp a).rg) := by unfold ptAt; rw [if_neg hbl]
          rw [hp] at hf
          refine ⟨fun hg => ?_, fun hg => ?_⟩
          · refine snd_draw (cs := []) mixed (by kernel_rfl) ?_
            simp -implicitDefEqProofs only [go_sem]
            refine vPC_of hGg rfl ?_
            simp -implicitDefEqProofs only [go_sem]
            have hg' : ¬ (shp a).rg = 0 := by simpa using hg
            rw [hf, if_neg hg']
          · have hg' : (shp a).rg = 0 := by simpa using hg
            rw [hf, if_pos hg']
      · have h2 : (decide (1 ≤ c) && decide (c < 27)) = false := by simp; omega
        rw [h2]
        simp -implicitDefEqProofs only [go_sem]
        simp [fitsG, knownB, h2]
    · have : ¬ 0 ≤ b := by omega
      simp [fitsG, this]
  · have h1 : (decide (1 ≤ a) && decide (a < 27)) = false := by simp; omega
    rw [h1]
    simp -implicitDefEqProofs only [go_sem]
    simp [fitsG, knownB, h1]
end Go.Proofs.YtamednbojpnalaaGreatDoor
set_option linter.unusedVariables false
set_option linter.unusedSimpArgs false
set_option maxRecDepth 20000
namespace Go.Vg
@[go_sem] theorem enc_head (n : Nd) {K : V → Prop} : vHead n.enc K = K (.int .i64 n.kind) := by cases n; rfl
def kidsFit (k : Int) : List Nd → Nat → Bool
  | [], _ => true
  | x :: r, i => fitsG k i x.kind && kidsFit k r (i + 1)
def kidsG (k : Int) (ks : List Nd) : Bool := (decide (k = 14) && decide (ks.length = 0)) || (!(decide (ks.length < (shp k).first.length) || (decide ((shp k).first.length < ks.length) && decide ((shp k).rk = 0 ∧ (shp k).rg = 0))) && kidsFit k ks 0)
end Go.Vg
namespace Go.Proofs.YtamednbojpnalaaGreatDoor
open Go Go.Vg Go.Proofs
theorem Gkids (k : Int) (t : ByteArray) (g : List ByteArray) (ks : List Nd) (hk : 1 ≤ k ∧ k < 27) : VPure env 119 [.agg (Nd.mk k t g ks).enc] (.bool (kidsG k ks)) := by
  have hd := shapes_drop (k := k) (by omega) hk.2
  refine vpure_vc (fn := Tryz.f119) Tryz.func119 rfl (by rw [Tryz.ntmps119]; simp) (by simp -implicitDefEqProofs only [go_sem]) rfl ?_
  simp -implicitDefEqProofs only [go_sem, Tryz.f119, hd, Shp.enc, List.cons_append, List.nil_append]
  have hfl : flatK Tryz.prog 209 = some [1, 1] := by kernel_rfl
  have hfv : vFlat (flatK Tryz.prog 209) [V.int .i64 (shp k).rk, .int .i64 (shp k).rg] [V.int .i64 0, .int .i64 0] := by rw [hfl]; simp [vFlat, fits, fit1]
  refine ⟨⟨by omega, by omega⟩, ?_⟩
  have hkg : kidsG k ks = ((decide (k = 14) && decide (ks.length = 0)) || (!(decide (ks.length < (shp k).first.length) || (decide ((shp k).first.length < ks.length) && decide ((shp k).rk = 0 ∧ (shp k).rg = 0))) && kidsFit k ks 0)) := rfl
  repeat' (first | apply And.intro | (with_reducible intro))
  all_goals (try exact hfv)
  all_goals (try (congr 1; rw [hkg]; simp_all; done))
  all_goals (try (congr 1; rw [hkg]; simp_all; omega))
  all_goals
    have hkf : kidsG k ks = kidsFit k ks 0 := by
      rw [hkg]
      first | (simp_all; done) | grind
    rw [hkf]
    refine snd_list (β := Unit) ks (fun pre _ => ⟨[(44, .int .i64 pre.length), (43, .int .i64 ks.length), (42, sl 32 (ks.map Nd.enc)), (1, .ptr 0 0), (2, .bool false)], [VObj.cells (Nd.mk k t g ks).enc, .dead], []⟩) (fun pre post _ => kidsFit k ks 0 = kidsFit k post pre.length) () ?_ rfl ?_ ?_
    · simp -implicitDefEqProofs only [go_sem]
      rfl
    · intro _ hi
      simp -implicitDefEqProofs only [go_sem]
      rw [hi]; rfl
    · intro pre x post _ hks hi
      have hpl : ks.length = pre.length + 1 + post.length := by rw [hks]; simp; omega
      have hgx : (ks.map Nd.enc).getD (pre.length : Int).toNat [] = x.enc := by rw [hks]; simp [List.getD_eq_getElem?_getD]
      have hw : IntKind.i64.wrap (↑pre.length + 1) = ↑(pre.length + 1) := wrap_next (by omega)
      rw [hi, kidsFit]
      simp -implicitDefEqProofs only [go_sem, hgx]
      refine ⟨fun _ => ⟨by omega, ?_⟩, fun h => absurd (show (pre.length : Int) < ks.length by omega) h⟩
      refine (GFits k pre.length x.kind).calls rfl ?_
      simp -implicitDefEqProofs only [go_sem]
      refine ⟨fun h => ?_, fun h => ⟨(), ?_, hw⟩⟩
      · have h' : fitsG k pre.length x.kind = false := by simpa using h
        rw [h']; rfl
      · have h' : fitsG k pre.length x.kind = true := by simpa using h
        rw [h']; rfl
end Go.Proofs.YtamednbojpnalaaGreatDoor
set_option linter.unusedVariables false
set_option linter.unusedSimpArgs false
set_option maxRecDepth 20000
namespace Go.Proofs.YtamednbojpnalaaGreatDoor
open Go Go.Vg Go.Proofs
theorem GOwn (k : Int) (t : ByteArray) (g : List ByteArray) (ks : List Nd) (hk : 1 ≤ k ∧ k < 27) : VPure env 159 [.agg (Nd.mk k t g ks).enc] (.int .i64 (Nd.mk k t g ks).own) := by
  have hd := shapes_drop (k := k) (by omega) hk.2
  have h1 : (decide (1 ≤ k) && decide (k < 27)) = true := by simp [hk]
  refine vpure_vc (fn := Tryz.f159) Tryz.func159 rfl (by rw [Tryz.ntmps159]; simp) (by simp -implicitDefEqProofs only [go_sem]) rfl ?_
  simp -implicitDefEqProofs only [go_sem, Tryz.f159]
  refine (Gknown k).calls rfl ?_
  rw [h1]
  simp -implicitDefEqProofs only [go_sem, hd, Shp.enc, List.cons_append, List.nil_append]
  intro _ hl
  have e : (Nd.mk k t g ks).own = ownK k t ks.length := rfl
  rw [e]
  have w1 : IntKind.i64.wrap ((ks.length : Int) - 1) = ks.length - 1 := wrap_small (by omega) (by omega)
  have w2 : IntKind.i64.wrap ((ks.length : Int) - 1 - 1) = ks.length - 1 - 1 := wrap_small (by omega) (by omega)
  rw [w1, w2]
  have hs : (shp k).own = if k = 8 then 2 else if k = 14 then 1 else if k = 3 then 2 else if k = 20 then 3 else if k = 21 then 4 else if k = 7 ∨ k = 9 ∨ k = 10 ∨ k = 22 then 4 else if k = 11 then 3 else if k = 2 ∨ k = 6 ∨ k = 12 ∨ k = 26 then 2 else 1 := by
    have : k = 1 ∨ k = 2 ∨ k = 3 ∨ k = 4 ∨ k = 5 ∨ k = 6 ∨ k = 7 ∨ k = 8 ∨ k = 9 ∨ k = 10 ∨ k = 11 ∨ k = 12 ∨ k = 13 ∨ k = 14 ∨ k = 15 ∨ k = 16 ∨ k = 17 ∨ k = 18 ∨ k = 19 ∨ k = 20 ∨ k = 21 ∨ k = 22 ∨ k = 23 ∨ k = 24 ∨ k = 25 ∨ k = 26 := by omega
    rcases this with rfl | rfl | rfl | rfl | rfl | rfl | rfl | rfl | rfl | rfl | rfl | rfl | rfl | rfl | rfl | rfl | rfl | rfl | rfl | rfl | rfl | rfl | rfl | rfl | rfl | rfl <;> rfl
  rw [hs]
  repeat' (first | apply And.intro | (with_reducible intro))
  all_goals (try omega)
  all_goals (try contradiction)
  all_goals
    congr 1
    unfold ownK
    first
      | (simp_all; done)
      | (simp_all; omega)
      | (subst_vars; simp; split <;> rw [wrap_small (by omega) (by omega)] <;> omega)
      | grind
end Go.Proofs.YtamednbojpnalaaGreatDoor
set_option linter.unusedVariables false
set_option linter.unusedSimpArgs false
set_option maxRecDepth 20000
namespace Go.Vg
open Go
theorem ba_ext {a b : ByteArray} (h : a.data.toList = b.data.toList) : a = b := by
  obtain ⟨⟨a⟩⟩ := a; obtain ⟨⟨b⟩⟩ := b
  simp at h; simp [h]
theorem get_mid {s : ByteArray} {pre post : List UInt8} {x : UInt8} (h : s.data.toList = pre ++ x :: post) : s.get! (pre.length + 0) = x := by
  have h1 : s.data.toList[pre.length]? = some x := by rw [h]; simp
  have h2 : s.data[pre.length]? = some x := by simpa using h1
  obtain ⟨d⟩ := s
  show d[pre.length + 0]! = x
  rw [Nat.add_zero, getElem!_def, h2]
theorem dec_low {s : ByteArray} {pre post : List UInt8} {x : UInt8} (h : s.data.toList = pre ++ x :: post) (hx : x.toNat < 128) : Utf8.decode s pre.length = (x.toNat, 1) := by
  unfold Utf8.decode
  simp only [get_mid h]
  rw [if_pos hx]
theorem dec_high {s : ByteArray} {pre post : List UInt8} {x : UInt8} (h : s.data.toList = pre ++ x :: post) (hx : ¬ x.toNat < 128) : 128 ≤ (Utf8.decode s pre.length).1 := by
  unfold Utf8.decode
  simp only [get_mid h]
  rw [if_neg hx]
  simp only [Utf8.runeError]
  repeat' split
  all_goals simp_all
  all_goals omega
theorem nameB_high {c : Int} (h : 128 ≤ c) : letterB c = false ∧ digitB c = false := by
  unfold letterB digitB
  constructor
  · simp; omega
  · simp; omega
theorem ext_mid {s : ByteArray} {l0 cur r : List UInt8} (h : s.data.toList = l0 ++ cur ++ r) : (s.extract l0.length (l0 ++ cur).length).data.toList = cur := by
  obtain ⟨⟨d⟩⟩ := s
  simp only at h
  subst h
  simp [ByteArray.extract, ByteArray.copySlice]
theorem letter_digit {c : Int} (h : letterB c = true) : digitB c = false := by
  unfold letterB at h; unfold digitB
  simp at h ⊢; omega
theorem vn_bad {s : ByteArray} {pre post : List UInt8} {x : UInt8} (h : s.data.toList = pre ++ x :: post) (hx : nameB x.toNat = false) : validName s = false := by
  have : (s.data.toList.all fun c => nameB c.toNat) = false := by rw [h]; simp_all
  unfold validName
  rw [this]; simp
theorem vn_first {s : ByteArray} {post : List UInt8} {x : UInt8} (h : s.data.toList = x :: post) (hx : letterB x.toNat = false) : validName s = false := by
  cases hd : digitB (x.toNat : Int)
  · exact vn_bad (pre := []) h (by simp [nameB, hx, hd])
  · simp [validName, byteAt_zero h, hd]
theorem nameB_big {x : UInt8} (h : ¬ x.toNat < 128) : nameB x.toNat = false := by
  have := nameB_high (c := x.toNat) (by omega)
  simp [nameB, this]
end Go.Vg
namespace Go.Proofs.YtamednbojpnalaaGreatDoor
open Go Go.Vg Go.Proofs
theorem Ndigit (c : Int) : VPure env 208 [.int .i32 c] (.bool (digitB c)) := by
  refine vpure_vc (fn := Tryz.f208) Tryz.func208 rfl (by rw [Tryz.ntmps208]; simp) rfl rfl ?_
  simp -implicitDefEqProofs only [go_sem, Tryz.f208, digitB]
  grind
theorem Nletter (c : Int) : VPure env 207 [.int .i32 c] (.bool (letterB c)) := by
  refine vpure_vc (fn := Tryz.f207) Tryz.func207 rfl (by rw [Tryz.ntmps207]; simp) rfl rfl ?_
  simp -implicitDefEqProofs only [go_sem, Tryz.f207, letterB]
  grind
theorem NKeyword (s : ByteArray) : VPure env 206 [.str s] (.bool (keyword s)) := by
  refine vpure_vc (fn := Tryz.f206) Tryz.func206 rfl (by rw [Tryz.ntmps206]; simp) rfl rfl ?_
  simp -implicitDefEqProofs only [go_sem, Tryz.f206, keyword]
  simp +contextual
theorem NValid (s : ByteArray) : VPure env 156 [.str s] (.bool (validName s)) := by
  refine vpure_vc (fn := Tryz.f156) Tryz.func156 rfl (by rw [Tryz.ntmps156]; simp) rfl rfl ?_
  simp -implicitDefEqProofs only [go_sem, Tryz.f156]
  refine ⟨fun a1 hs => ⟨fun a2 => (NKeyword s).calls rfl ?_, fun a2 => ?_⟩, fun a1 => ?_⟩
  rotate_left
  · simp [validName, a2]
  · subst a1; rfl
  have hne : s.data.toList ≠ [] := fun h => a1 (ba_ext h)
  have hpos : ¬ (s.size : Int) < 1 := by
    rw [size_list]
    have := List.length_pos_iff.2 hne
    omega
  simp -implicitDefEqProofs only [go_sem]
  refine ⟨fun a3 => ?_, fun a3 => ?_⟩
  · simp [validName, a3]
  refine snd_list (β := Unit) s.data.toList (fun pre _ => ⟨[(17, .ptr 0 0), (0, .str s)], [.siter s pre.length], []⟩) (fun pre _ _ => (pre.all fun c => nameB c.toNat) ∧ (pre ≠ [] → digitB (byteAt s 0) = false)) () ?_ ?_ ?_ ?_
  · simp -implicitDefEqProofs only [go_sem]
  · exact ⟨rfl, fun h => absurd rfl h⟩
  · intro _ ⟨i1, i2⟩
    simp -implicitDefEqProofs only [go_sem, ← size_list]
    have := i2 hne
    have i1' : s.data.toList.all (fun c => nameB c.toNat) = true := i1
    simp only [validName, hpos, a2, a3, this, i1', decide_false, Bool.not_false, Bool.and_self, Nat.lt_irrefl, if_false]
  · rintro pre x post _ hx ⟨i1, i2⟩
    have hz := size_mid hx
    have hl : pre.length < (pre ++ x :: post).length := by simp
    by_cases hx8 : x.toNat < 128
    · simp -implicitDefEqProofs only [go_sem, hz, hl, dec_low hx hx8]
      refine (Nletter _).calls rfl ?_
      simp -implicitDefEqProofs only [go_sem]
      repeat' (first | apply And.intro | (refine (Ndigit _).calls rfl ?_; simp -implicitDefEqProofs only [go_sem]) | (refine fun (_ : @Eq Bool _ _) => ?_)  | (refine fun (_ : @Eq Int _ _) => ?_) | (refine fun (_ : ¬ (@Eq Int _ _)) => ?_))
      · rename_i b1 b2 b3
        rw [vn_bad hx (by simp_all [nameB])]
      · rename_i b1 b2 b3
        have hp : pre ≠ [] := by rintro rfl; simp at b2
        exact ⟨(), by simp_all [nameB], fun _ => i2 hp⟩
      · rename_i b1 b2
        have hp : pre = [] := List.eq_nil_of_length_eq_zero (by omega)
        subst hp
        rw [vn_first hx (by simpa using b1)]
      · rename_i b1
        have b1 : letterB x.toNat = true := by simpa using b1
        refine ⟨(), by simp_all [nameB], fun _ => ?_⟩
        by_cases hp : pre = []
        · subst hp
          rw [byteAt_zero hx]
          exact letter_digit b1
        · exact i2 hp
    · have hd := nameB_high (c := (Utf8.decode s pre.length).1) (by have := dec_high hx hx8; omega)
      simp -implicitDefEqProofs only [go_sem, hz, hl]
      refine (Nletter _).calls rfl ?_
      simp only [hd.1]
      simp -implicitDefEqProofs only [go_sem]
      refine ⟨fun _ => (Ndigit _).calls rfl ?_, fun _ => ?_⟩
      · simp only [hd.2]
        simp -implicitDefEqProofs only [go_sem]
        rw [vn_bad hx (nameB_big hx8)]
      · rw [vn_bad hx (nameB_big hx8)]
end Go.Proofs.YtamednbojpnalaaGreatDoor
set_option linter.unusedVariables false
set_option linter.unusedSimpArgs false
namespace Go.Vg
def classesL (l : List Dl) : Nat := (l.filter fun d => decide (d.kind = 2)).length
end Go.Vg
namespace Go.Proofs.YtamednbojpnalaaGreatDoor
open Go Go.Vg Go.Proofs
theorem R13Few (u : List Un) (hu : fitU u) (n : Int) (hn : n ≤ 1000000) (h0 : 0 ≤ n) : VPure env 27 [sl 34 (u.map Un.enc), .int .i64 n] (.bool (decide ((classesL (declsU u 0) : Int) ≤ n))) := by
  refine vpure_vc (fn := Tryz.f27) Tryz.func27 rfl (by rw [Tryz.ntmps27]; simp) (by simp -implicitDefEqProofs only [go_sem]; exact uns_pure _) rfl ?_
  simp -implicitDefEqProofs only [go_sem, Tryz.f27]
  refine (R11Decls u hu).calls (by simp -implicitDefEqProofs only [go_sem]) ?_
  have hdl := declsU_len u 0 fun y hy => (hu.2 y hy).1
  have hul := hu.1
  generalize declsU u 0 = l at hdl ⊢
  simp -implicitDefEqProofs only [go_sem]
  refine snd_list (β := Unit) l (fun pre _ => ⟨[(6, .int .i64 pre.length), (5, sl 61 (l.map Dl.enc)), (4, .bool false), (1, .int .i64 (n - classesL pre))], [], []⟩) (fun _ _ _ => True) () ?_ trivial ?_ ?_
  · simp only [classesL, List.filter_nil, List.length_nil]
    simp -implicitDefEqProofs only [go_sem]
    exact ⟨rfl, by omega⟩
  · intro _ _
    simp -implicitDefEqProofs only [go_sem]
    intro _ _
    congr 1
    rw [Bool.eq_iff_iff]; simp
  · rintro pre x post _ rfl _
    have hpl : (pre ++ x :: post).length = pre.length + 1 + post.length := by simp; omega
    have hcl : classesL pre ≤ pre.length := List.length_filter_le ..
    have hw : IntKind.i64.wrap (↑pre.length + 1) = ↑(pre.length + 1) := wrap_next (by omega)
    simp -implicitDefEqProofs only [go_sem]
    intro _ _
    refine ⟨fun h => ⟨(), hw, ?_⟩, fun h => ⟨(), hw, ?_⟩⟩
    · have : classesL (pre ++ [x]) = classesL pre + 1 := by simp [classesL, h]
      rw [this, wrap_small (by omega) (by omega)]; omega
    · have : classesL (pre ++ [x]) = classesL pre := by simp [classesL, h]
      rw [this]
end Go.Proofs.YtamednbojpnalaaGreatDoor
