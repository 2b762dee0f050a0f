/- What functions of the program compute, as pure functions of their arguments. Conditions: those that each theorem names. -/
import Derived.Test.YtamednbojpnalaaGreatDoorTmE
set_option linter.unusedVariables false
namespace Go.Vg
def groupK (k : Int) : Int := if k = 2 ∨ k = 7 ∨ k = 9 then 1 else if (10 ≤ k ∧ k ≤ 13) ∨ k = 15 ∨ k = 16 then 2 else if 17 ≤ k ∧ k ≤ 26 then 3 else 0
def leastK (k : Int) : Int := if k = 2 ∨ k = 13 then 3 else if k = 15 ∨ k = 24 then 2 else if k = 4 ∨ k = 7 ∨ k = 9 ∨ k = 10 ∨ k = 11 ∨ k = 12 ∨ k = 16 ∨ k = 21 ∨ k = 25 ∨ k = 26 then 1 else 0
def mostK (k : Int) : Int := if k = 3 ∨ k = 20 then 16 else if k = 21 then 17 else 200
end Go.Vg
namespace Go.Proofs.YtamednbojpnalaaGreatDoor
open Go Go.Vg Go.Proofs
theorem R07Group (k : Int) : VPure env 218 [.int .i64 k] (.int .i64 (groupK k)) := by
  refine vpure_vc (fn := Tryz.f218) Tryz.func218 rfl (by rw [Tryz.ntmps218]; simp) rfl rfl ?_
  simp -implicitDefEqProofs only [go_sem, Tryz.f218, groupK]
  repeat' (first | apply And.intro | intro)
  all_goals (congr 1; repeat' split)
  all_goals omega
theorem R07least (k : Int) : VPure env 168 [.int .i64 k] (.int .i64 (leastK k)) := by
  refine vpure_vc (fn := Tryz.f168) Tryz.func168 rfl (by rw [Tryz.ntmps168]; simp) rfl rfl ?_
  simp -implicitDefEqProofs only [go_sem, Tryz.f168, leastK]
  repeat' (first | apply And.intro | intro)
  all_goals (congr 1; repeat' split)
  all_goals omega
theorem R07most (k : Int) : VPure env 94 [.int .i64 k] (.int .i64 (mostK k)) := by
  refine vpure_vc (fn := Tryz.f94) Tryz.func94 rfl (by rw [Tryz.ntmps94]; simp) rfl rfl ?_
  simp -implicitDefEqProofs only [go_sem, Tryz.f94, mostK]
  repeat' (first | apply And.intro | intro)
  all_goals (congr 1; repeat' split)
  all_goals omega
end Go.Proofs.YtamednbojpnalaaGreatDoor
set_option linter.unusedVariables false
namespace Go.Vg
def opLevel (t : ByteArray) : Int := if t = ⟨#[124]⟩ then 1 else if t = ⟨#[38]⟩ then 2 else if t = ⟨#[61, 61]⟩ ∨ t = ⟨#[60]⟩ then 3 else if t = ⟨#[43]⟩ ∨ t = ⟨#[45]⟩ then 4 else if t = ⟨#[42]⟩ ∨ t = ⟨#[47]⟩ then 5 else 0
def levelK (k : Int) (t : ByteArray) : Int := if k = 24 then opLevel t else if k = 25 then 6 else if groupK k = 3 then 7 else 0
def Nd.level (n : Nd) : Int := levelK n.kind n.text
def namedK (k : Int) (t : ByteArray) : Bool := if k = 8 then !decide (t = ⟨#[]⟩) else decide (k = 2 ∨ k = 4 ∨ k = 5 ∨ k = 7 ∨ k = 9 ∨ k = 10 ∨ k = 11 ∨ k = 17 ∨ k = 19 ∨ k = 20 ∨ k = 21 ∨ k = 22)
end Go.Vg
namespace Go.Proofs.YtamednbojpnalaaGreatDoor
open Go Go.Vg Go.Proofs
theorem R07Level (n : Nd) : VPure env 219 [.agg n.enc] (.int .i64 n.level) := by
  obtain ⟨k, t, g, ks⟩ := n
  refine vpure_vc (fn := Tryz.f219) Tryz.func219 rfl (by rw [Tryz.ntmps219]; simp) (by simp -implicitDefEqProofs only [go_sem]) rfl ?_
  simp -implicitDefEqProofs only [go_sem, Tryz.f219, Nd.level, Nd.kind, Nd.text, levelK]
  refine ⟨fun h => ?_, fun h => ?_⟩
  · simp +contextual [h, opLevel]
  · simp only [h, if_false]
    refine ⟨fun h2 => by simp [h2], fun h2 => ?_⟩
    simp only [h2, if_false]
    refine (R07Group k).calls rfl ?_
    simp -implicitDefEqProofs only [go_sem]
    refine ⟨fun c => by simp [c], fun c => by simp [c]⟩
theorem R07named (n : Nd) : VPure env 133 [.agg n.enc] (.bool (namedK n.kind n.text)) := by
  obtain ⟨k, t, g, ks⟩ := n
  refine vpure_vc (fn := Tryz.f133) Tryz.func133 rfl (by rw [Tryz.ntmps133]; simp) (by simp -implicitDefEqProofs only [go_sem]) rfl ?_
  simp -implicitDefEqProofs only [go_sem, Tryz.f133, Nd.kind, Nd.text, namedK]
  refine ⟨fun h => by simp [h]; rfl, fun h => ?_⟩
  simp only [h, if_false]
  simp +contextual
end Go.Proofs.YtamednbojpnalaaGreatDoor
set_option linter.unusedVariables false
set_option maxRecDepth 20000
set_option maxHeartbeats 8000000
namespace Go.Vg
def wordK (k : Int) (t : ByteArray) : Bool := if k = 18 then decide (t = ⟨#[116, 114, 117, 101]⟩) || decide (t = ⟨#[102, 97, 108, 115, 101]⟩) else if k = 23 then decide (t = ⟨#[115, 101, 108, 102]⟩) else if k = 24 then decide (0 < levelK k t) else if k = 25 then decide (t = ⟨#[45]⟩) || decide (t = ⟨#[33]⟩) else decide (t = ⟨#[]⟩)
def ownK (k : Int) (t : ByteArray) (n : Nat) : Int := if k = 8 then (if t = ⟨#[]⟩ then 0 else 2) else if k = 14 then min n 1 else if k = 3 then 2 + max ((n : Int) - 1) 0 else if k = 20 then 3 + max ((n : Int) - 1) 0 else if k = 21 then 4 + max ((n : Int) - 2) 0
  else if k = 7 ∨ k = 9 ∨ k = 10 ∨ k = 22 then 4 else if k = 11 then 3 else if k = 2 ∨ k = 6 ∨ k = 12 ∨ k = 26 then 2 else if 1 ≤ k ∧ k ≤ 26 then 1 else 0
def Nd.own (n : Nd) : Int := ownK n.kind n.text n.kids.length
end Go.Vg
namespace Go.Proofs.YtamednbojpnalaaGreatDoor
open Go Go.Vg Go.Proofs
theorem R07word (n : Nd) : VPure env 170 [.agg n.enc] (.bool (wordK n.kind n.text)) := by
  obtain ⟨k, t, g, ks⟩ := n
  refine vpure_vc (fn := Tryz.f170) Tryz.func170 rfl (by rw [Tryz.ntmps170]; simp) (by simp -implicitDefEqProofs only [go_sem]) rfl ?_
  simp -implicitDefEqProofs only [go_sem, Tryz.f170, Nd.kind, Nd.text]
  refine ⟨fun h => ⟨fun c => ?_, fun c => ?_⟩, fun h => ⟨fun h2 => ?_, fun h2 => ⟨fun h3 => ?_, fun h3 => ⟨fun h4 => ⟨fun c => ?_, fun c => ?_⟩, fun h4 => ?_⟩⟩⟩⟩
  · simp [wordK, h, c]
  · simp [wordK, h, c]
  · simp [wordK, h2]
  · refine (R07Level (.mk k t g ks)).calls (by simp -implicitDefEqProofs only [go_sem]) ?_
    simp -implicitDefEqProofs only [go_sem]
    simp [wordK, h3, Nd.level, Nd.kind, Nd.text]
  · simp [wordK, h4, c]
  · simp [wordK, h4, c]
  · simp [wordK, h, h2, h3, h4]
theorem R07Own (n : Nd) : VPure env 135 [.agg n.enc] (.int .i64 n.own) := by
  obtain ⟨k, t, g, ks⟩ := n
  refine vpure_vc (fn := Tryz.f135) Tryz.func135 rfl (by rw [Tryz.ntmps135]; simp) (by simp -implicitDefEqProofs only [go_sem]) rfl ?_
  simp -implicitDefEqProofs only [go_sem, Tryz.f135, Nd.kind, Nd.text, Nd.kids, Nd.own]
  intro _ hl
  rw [wrap_small (x := (ks.length : Int) - 1) (by omega) (by omega), wrap_small (x := (ks.length : Int) - 2) (by omega) (by omega),
    wrap_small (x := 2 + if (ks.length : Int) - 1 < 0 then 0 else (ks.length : Int) - 1) (by split <;> omega) (by split <;> omega),
    wrap_small (x := 3 + if (ks.length : Int) - 1 < 0 then 0 else (ks.length : Int) - 1) (by split <;> omega) (by split <;> omega),
    wrap_small (x := 4 + if (ks.length : Int) - 2 < 0 then 0 else (ks.length : Int) - 2) (by split <;> omega) (by split <;> omega)]
  repeat' (first | apply And.intro | intro)
  all_goals (unfold ownK; congr 1; repeat' split)
  all_goals first | omega | contradiction
end Go.Proofs.YtamednbojpnalaaGreatDoor
set_option linter.unusedVariables false
set_option maxRecDepth 20000
set_option maxHeartbeats 8000000
namespace Go.Vg
def fitsK (p pos k : Int) : Bool :=
  if pos < 0 then false else if p = 1 then decide (groupK k = 1) else if p = 2 then decide (pos = 0 ∧ k = 3 ∨ pos = 1 ∧ k = 5 ∨ pos = 2 ∧ k = 6) else if p = 3 then decide (k = 4) else if p = 4 then decide (pos = 0 ∧ k = 5)
  else if p = 6 then decide (groupK k = 2) else if p = 7 then decide (pos = 0 ∧ k = 8 ∨ 0 < pos ∧ k = 2) else if p = 13 then decide (pos = 0 ∧ groupK k = 3 ∨ pos = 1 ∧ k = 6 ∨ pos = 2 ∧ k = 14) else if p = 14 then decide (pos = 0 ∧ k = 6)
  else if p = 15 then decide (pos = 0 ∧ groupK k = 3 ∨ pos = 1 ∧ k = 6) else if p = 20 ∨ p = 21 then decide (groupK k = 3) else if p = 24 then decide (pos < 2 ∧ groupK k = 3)
  else if p = 9 ∨ p = 10 ∨ p = 11 ∨ p = 12 ∨ p = 16 ∨ p = 25 ∨ p = 26 then decide (pos = 0 ∧ groupK k = 3) else false
def levelsN : Int → ByteArray → List Nd → Bool
  | k, t, a :: b :: _ => if k = 24 then (if levelK k t = 3 ∧ a.level = 3 then false else decide (levelK k t ≤ a.level ∧ levelK k t < b.level)) else if k = 25 then decide (6 ≤ a.level) else if k = 21 then decide (a.level = 7) else true
  | k, t, [a] => if k = 25 then decide (6 ≤ a.level) else if k = 21 then decide (a.level = 7) else true
  | k, t, [] => true
end Go.Vg
namespace Go.Proofs.YtamednbojpnalaaGreatDoor
open Go Go.Vg Go.Proofs
theorem R07Fits (p pos k : Int) : VPure env 169 [.int .i64 p, .int .i64 pos, .int .i64 k] (.bool (fitsK p pos k)) := by
  refine vpure_vc (fn := Tryz.f169) Tryz.func169 rfl (by rw [Tryz.ntmps169]; simp) rfl rfl ?_
  simp -implicitDefEqProofs only [go_sem, Tryz.f169]
  repeat' (first | apply And.intro | (refine (R07Group k).calls rfl ?_; simp -implicitDefEqProofs only [go_sem]) | intro)
  all_goals (try (simp_all [fitsK]; done))
  all_goals (congr 1; unfold fitsK; grind)
end Go.Proofs.YtamednbojpnalaaGreatDoor
set_option linter.unusedVariables false
set_option maxRecDepth 20000
set_option maxHeartbeats 8000000
namespace Go.Vg
def Nd.levels (n : Nd) : Bool := levelsN n.kind n.text n.kids
/-- The number that digits tell. -/
def digitsV : List UInt8 → Int → Int
  | [], n => n
  | c :: r, n => digitsV r (10 * n + ((c.toNat : Int) - 48))
def intB (s : ByteArray) : Bool := !decide ((s.size : Int) = 0) && !decide (13 < (s.size : Int)) && !(decide (1 < (s.size : Int)) && decide (byteAt s 0 = 48)) && (s.data.toList.all fun c => digitB c.toNat) && decide (digitsV s.data.toList 0 ≤ 1000000000000)
end Go.Vg
namespace Go.Proofs.YtamednbojpnalaaGreatDoor
open Go Go.Vg Go.Proofs
theorem R07levels (n : Nd) (h0 : n.kind = 24 → 2 ≤ n.kids.length) (h1 : n.kind = 25 ∨ n.kind = 21 → 1 ≤ n.kids.length) : VPure env 171 [.agg n.enc] (.bool n.levels) := by
  obtain ⟨k, t, g, ks⟩ := n
  simp only [Nd.kind, Nd.kids] at h0 h1
  refine vpure_vc (fn := Tryz.f171) Tryz.func171 rfl (by rw [Tryz.ntmps171]; simp) (by simp -implicitDefEqProofs only [go_sem]) rfl ?_
  rcases ks with _ | ⟨a, _ | ⟨b, r⟩⟩
  · have hk : ¬ k = 24 ∧ ¬ k = 25 ∧ ¬ k = 21 := ⟨fun h => by simp at h0; omega, fun h => by simp at h1; omega, fun h => by simp at h1; omega⟩
    simp -implicitDefEqProofs only [go_sem, Tryz.f171, hk.1, hk.2.1, hk.2.2]
    rfl
  · have hk : ¬ k = 24 := fun h => by simp at h0; omega
    simp -implicitDefEqProofs only [go_sem, Tryz.f171, hk]
    refine ⟨fun h => ⟨by omega, ?_⟩, fun h => ⟨fun h2 => ⟨by omega, ?_⟩, fun h2 => ?_⟩⟩
    · refine (R07Level a).calls (by simp -implicitDefEqProofs only [go_sem]) ?_
      simp -implicitDefEqProofs only [go_sem]
      simp [Nd.levels, levelsN, Nd.kind, Nd.text, Nd.kids, h]
    · refine (R07Level a).calls (by simp -implicitDefEqProofs only [go_sem]) ?_
      simp -implicitDefEqProofs only [go_sem]
      simp [Nd.levels, levelsN, Nd.kind, Nd.text, Nd.kids, h2]
    · simp [Nd.levels, levelsN, Nd.kind, Nd.text, Nd.kids, h, h2]
  · simp -implicitDefEqProofs only [go_sem, Tryz.f171]
    refine ⟨fun h => ?_, fun h => ⟨fun h2 => ⟨by omega, ?_⟩, fun h2 => ⟨fun h3 => ⟨by omega, ?_⟩, fun h3 => ?_⟩⟩⟩
    · refine (R07Level (.mk k t g (a :: b :: r))).calls (by simp -implicitDefEqProofs only [go_sem]) ?_
      simp -implicitDefEqProofs only [go_sem]
      have hlv : (Nd.mk k t g (a :: b :: r)).level = levelK 24 t := by simp [Nd.level, Nd.kind, Nd.text, h]
      rw [hlv]
      have hm : (Nd.mk k t g (a :: b :: r)).levels = (if levelK 24 t = 3 ∧ a.level = 3 then false else decide (levelK 24 t ≤ a.level ∧ levelK 24 t < b.level)) := by simp [Nd.levels, levelsN, Nd.kind, Nd.text, Nd.kids, h]
      rw [hm]
      have e : ∀ x : Nd, List.map share [V.agg x.enc] = [V.agg x.enc] := fun x => by simp -implicitDefEqProofs only [go_sem]
      repeat' (first | apply And.intro | (refine (R07Level a).calls (e a) ?_; simp -implicitDefEqProofs only [go_sem]) | (refine (R07Level b).calls (e b) ?_; simp -implicitDefEqProofs only [go_sem]) | omega | intro)
      all_goals (try simp_all)
      all_goals omega
    · refine (R07Level a).calls (by simp -implicitDefEqProofs only [go_sem]) ?_
      simp -implicitDefEqProofs only [go_sem]
      simp [Nd.levels, levelsN, Nd.kind, Nd.text, Nd.kids, h2]
    · refine (R07Level a).calls (by simp -implicitDefEqProofs only [go_sem]) ?_
      simp -implicitDefEqProofs only [go_sem]
      simp [Nd.levels, levelsN, Nd.kind, Nd.text, Nd.kids, h3]
    · simp [Nd.levels, levelsN, Nd.kind, Nd.text, Nd.kids, h, h2, h3]
theorem R07Integer (s : ByteArray) : VPure env 132 [.str s] (.bool (intB s)) := by
  refine vpure_vc (fn := Tryz.f132) Tryz.func132 rfl (by rw [Tryz.ntmps132]; simp) rfl rfl ?_
  simp -implicitDefEqProofs only [go_sem, Tryz.f132]
  intro hs
  refine ⟨fun a1 _ => ⟨fun a2 _ => ⟨fun a3 => ⟨by omega, fun a4 => ?_, fun a4 => ?_⟩, fun a3 => ?_⟩, fun a2 => ?_⟩, fun a1 => ?_⟩
  · simp [intB, a3, a4]
  all_goals try (simp [intB, a1]; done)
  all_goals try (simp [intB, a2]; done)
  all_goals
    refine snd_list (β := Int) s.data.toList (fun pre n => ⟨[(4, .int .i64 pre.length), (3, .int .i64 n), (0, .str s)], [], []⟩)
      (fun pre post n => (pre.all fun c => digitB c.toNat) = true ∧ digitsV post n = digitsV s.data.toList 0 ∧ 0 ≤ n ∧ n.toNat < 10 ^ pre.length) 0 ?_ ?_ ?_ ?_
    · simp -implicitDefEqProofs only [go_sem]
      trivial
    · simp
    · rintro n ⟨i1, i2, i3, i4⟩
      simp -implicitDefEqProofs only [go_sem, ← size_list]
      intro _
      have hd : digitsV s.data.toList 0 = n := by rw [← i2]; rfl
      unfold intB
      rw [i1, hd]
      simp_all
    · rintro pre x post n hx ⟨i1, i2, i3, i4⟩
      have hz := size_mid hx
      simp -implicitDefEqProofs only [go_sem, hz, byteAt_mid hx]
      intro hl
      have hno : digitB (x.toNat : Int) = false → V.bool false = V.bool (intB s) := by
        intro hf
        have : (s.data.toList.all fun c => digitB c.toNat) = false := by rw [hx]; simp [hf]
        unfold intB
        rw [this]; simp
      refine ⟨fun c => ⟨fun d => hno (by unfold digitB; simp; omega), fun d => ?_⟩, fun c => hno (by unfold digitB; simp; omega)⟩
      have hp : pre.length ≤ 12 := by rw [hz] at a2; simp at a2; omega
      have h10 : (10 : Nat) ^ pre.length ≤ 10 ^ 12 := Nat.pow_le_pow_right (by decide) hp
      have h12 : (10 : Nat) ^ 12 = 1000000000000 := by decide
      rw [h12] at h10
      have hdig : digitB (x.toNat : Int) = true := by unfold digitB; simp; omega
      refine ⟨10 * n + ((x.toNat : Int) - 48), ⟨by simp [i1, hdig], by rw [← i2]; rfl, by omega, ?_⟩, wrap_next (by omega), ?_⟩
      · rw [Nat.pow_succ]; omega
      · rw [wrap8 (by omega) (by omega), wrap_small (x := 10 * n) (by omega) (by omega), wrap_small (x := (x.toNat : Int) - 48) (by omega) (by omega), wrap_small (by omega) (by omega)]
end Go.Proofs.YtamednbojpnalaaGreatDoor
set_option linter.unusedVariables false
set_option maxRecDepth 20000
namespace Go.Vg
mutual
def sizeN : Nd → Int → Int
  | .mk k t g ks, l => if 60 < l ∨ mostK k < (ks.length : Int) then 4001 else min (sizesN ks 1 (l + 1)) 4001
def sizesN : List Nd → Int → Int → Int
  | [], k, _ => k
  | x :: r, k, l => if 4000 < k then k else sizesN r (k + sizeN x l) l
end
theorem sizeN_le (n : Nd) (l : Int) : sizeN n l ≤ 4001 := by
  obtain ⟨k, t, g, ks⟩ := n
  rw [sizeN]
  split <;> omega
theorem sizesN_ge : ∀ (ks : List Nd), (∀ x ∈ ks, ∀ l, 1 ≤ sizeN x l) → ∀ k l, k ≤ sizesN ks k l := by
  intro ks
  induction ks with
  | nil => intro _ k l; rw [sizesN]; exact Int.le_refl _
  | cons x r ih =>
    intro h k l
    rw [sizesN]
    split
    · exact Int.le_refl _
    · have := ih (fun y hy => h y (by simp [hy])) (k + sizeN x l) l
      have := h x (by simp) l
      omega
theorem sizeN_ge : ∀ (n : Nd) (l : Int), 1 ≤ sizeN n l := by
  refine Nd.all fun k t g ks ih l => ?_
  rw [sizeN]
  split
  · omega
  · have := sizesN_ge ks ih 1 (l + 1)
    omega
end Go.Vg
namespace Go.Proofs.YtamednbojpnalaaGreatDoor
open Go Go.Vg Go.Proofs
theorem R07size : (n : Nd) → ∀ (l : Int), 0 ≤ l → l ≤ 1000 → VPure env 64 [.agg n.enc, .int .i64 l] (.int .i64 (sizeN n l)) := by
  refine Nd.all fun k t g ks ih l h0 h1 => ?_
  refine vpure_vc (fn := Tryz.f64) Tryz.func64 rfl (by rw [Tryz.ntmps64]; simp) (by simp -implicitDefEqProofs only [go_sem]) rfl ?_
  simp -implicitDefEqProofs only [go_sem, Tryz.f64]
  refine snd_draw (cs := []) mixed (by kernel_rfl) ?_
  simp -implicitDefEqProofs only [go_sem]
  refine ⟨fun a1 => vPC_of (R07most k) rfl ?_, fun a1 => ?_⟩
  · simp -implicitDefEqProofs only [go_sem]
    refine ⟨fun a2 => ?_, fun a2 => ?_⟩
    · rw [sizeN, if_pos (by omega)]
    · refine snd_list (β := Int) ks (fun pre n => ⟨[(6, .int .i64 pre.length), (5, .int .i64 n), (2, .ptr 0 0), (1, .int .i64 l)], [VObj.cells (Nd.mk k t g ks).enc], []⟩)
        (fun _ post n => min (sizesN post n (l + 1)) 4001 = sizeN (.mk k t g ks) l ∧ 1 ≤ n ∧ n ≤ 100000) 1 ?_ ?_ ?_ ?_
      · simp -implicitDefEqProofs only [go_sem]
        rfl
      · refine ⟨?_, by omega, by omega⟩
        rw [sizeN, if_neg (by omega)]
      · rintro n ⟨i1, i2, i3⟩
        simp -implicitDefEqProofs only [go_sem]
        intro _ _
        rw [← i1, sizesN]
        congr 1
        split <;> omega
      · rintro pre x post n rfl ⟨i1, i2, i3⟩
        simp -implicitDefEqProofs only [go_sem]
        intro _ hl
        have hx := sizeN_le x (l + 1)
        have hx' := sizeN_ge x (l + 1)
        refine ⟨fun c => ?_, fun c => ?_⟩
        · rw [wrap_small (by omega) (by omega)]
          refine (ih x mem_mid (l + 1) (by omega) (by omega)).calls (by simp -implicitDefEqProofs only [go_sem]) ?_
          simp -implicitDefEqProofs only [go_sem]
          refine ⟨n + sizeN x (l + 1), ⟨?_, by omega, by omega⟩, wrap_next (by have := mid_len hl; omega), wrap_small (by omega) (by omega)⟩
          rw [← i1, sizesN, if_neg (by omega)]
        · have e : sizesN (x :: post) n (l + 1) = n := by rw [sizesN, if_pos (by omega)]
          rw [← i1, e]
          congr 1
          split <;> omega
  · rw [sizeN, if_pos (by omega)]
end Go.Proofs.YtamednbojpnalaaGreatDoor
