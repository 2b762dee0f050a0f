/- What functions of the program compute, as pure functions of their arguments. Conditions: those that each theorem names. -/
import Derived.Test.YtamednbojpnalaaGreatDoorTmK
set_option linter.unusedVariables false
set_option maxRecDepth 20000
namespace Go.Vg
def fitsFrom (k : Int) : List Nd → Int → Bool
  | [], _ => true
  | x :: r, i => fitsK k i x.kind && fitsFrom k r (i + 1)
def Nd.shape (n : Nd) : Bool := !decide (n.kind < 1) && !decide (26 < n.kind) && !decide ((n.kids.length : Int) < leastK n.kind) && fitsFrom n.kind n.kids 0 && (namedK n.kind n.text || wordK n.kind n.text) && n.levels
end Go.Vg
namespace Go.Proofs.YtamednbojpnalaaGreatDoor
open Go Go.Vg Go.Proofs
theorem R07shape (n : Nd) : VPure env 131 [.agg n.enc] (.bool n.shape) := by
  obtain ⟨k, t, g, ks⟩ := n
  refine vpure_vc (fn := Tryz.f131) Tryz.func131 rfl (by rw [Tryz.ntmps131]; simp) (by simp -implicitDefEqProofs only [go_sem]) rfl ?_
  simp -implicitDefEqProofs only [go_sem, Tryz.f131]
  refine snd_draw (cs := []) mixed (by kernel_rfl) ?_
  simp -implicitDefEqProofs only [go_sem]
  refine ⟨fun a1 => ⟨fun a2 => vPC_of (R07least k) rfl ?_, fun a2 => ?_⟩, fun a1 => ?_⟩
  · simp -implicitDefEqProofs only [go_sem]
    refine ⟨fun a3 => ?_, fun a3 => ?_⟩
    · simp [Nd.shape, Nd.kind, Nd.kids, a3]
    · refine snd_list (β := Unit) ks (fun pre _ => ⟨[(3, .int .i64 pre.length), (1, .ptr 0 0)], [VObj.cells (Nd.mk k t g ks).enc], []⟩)
        (fun pre post _ => fitsFrom k post pre.length = fitsFrom k ks 0) () ?_ ?_ ?_ ?_
      · simp -implicitDefEqProofs only [go_sem]
        rfl
      · rfl
      · intro _ i1
        simp -implicitDefEqProofs only [go_sem]
        intro _ _
        have hlv := R07levels (.mk k t g ks) (fun h => by simp only [Nd.kind] at h; subst h; simp [leastK] at a3; simp only [Nd.kids]; omega)
          (fun h => by simp only [Nd.kind] at h; rcases h with h | h <;> subst h <;> simp [leastK] at a3 <;> simp only [Nd.kids] <;> omega)
        refine (R07named (.mk k t g ks)).calls (by simp -implicitDefEqProofs only [go_sem]) ?_
        simp -implicitDefEqProofs only [go_sem]
        have hf : fitsFrom k ks 0 = true := by rw [← i1]; rfl
        have hs : (Nd.mk k t g ks).shape = ((namedK k t || wordK k t) && (Nd.mk k t g ks).levels) := by simp [Nd.shape, Nd.kind, Nd.text, Nd.kids, a1, a2, a3, hf]
        rw [hs]
        simp only [Nd.kind, Nd.text]
        refine ⟨fun c => ?_, fun c => ?_⟩
        · refine (R07word (.mk k t g ks)).calls (by simp -implicitDefEqProofs only [go_sem]) ?_
          simp -implicitDefEqProofs only [go_sem, Nd.kind, Nd.text]
          refine ⟨fun d => hlv.calls (by simp -implicitDefEqProofs only [go_sem]) ?_, fun d => ?_⟩
          · simp -implicitDefEqProofs only [go_sem]
            simp [c, d]
          · simp [c, d]
        · refine hlv.calls (by simp -implicitDefEqProofs only [go_sem]) ?_
          simp -implicitDefEqProofs only [go_sem]
          simp [c]
      · rintro pre x post _ rfl i1
        obtain ⟨xk, xt, xg, xks⟩ := x
        simp -implicitDefEqProofs only [go_sem]
        intro _ hl
        refine snd_draw (cs := []) mixed (by kernel_rfl) ?_
        simp -implicitDefEqProofs only [go_sem]
        refine vPC_of (R07Fits k pre.length xk) rfl ?_
        simp -implicitDefEqProofs only [go_sem]
        have hcast : ((pre.length + 1 : Nat) : Int) = (pre.length : Int) + 1 := by omega
        refine ⟨fun c => ?_, fun c => ⟨(), ?_, wrap_next (by have := mid_len hl; omega)⟩⟩
        · have hf : fitsFrom k (pre ++ Nd.mk xk xt xg xks :: post) 0 = false := by rw [← i1, fitsFrom]; simp only [Nd.kind]; simp at c; simp [c]
          simp [Nd.shape, Nd.kind, Nd.text, Nd.kids, hf]
        · rw [← i1, fitsFrom, hcast]; simp only [Nd.kind]; simp at c; simp [c]
  · simp [Nd.shape, Nd.kind, a2]
  · simp [Nd.shape, Nd.kind, a1]
end Go.Proofs.YtamednbojpnalaaGreatDoor
set_option linter.unusedVariables false
set_option maxRecDepth 20000
namespace Go.Vg
def blankB (c : UInt8) : Bool := decide (c.toNat = 32 ∨ c.toNat = 9 ∨ c.toNat = 10)
def lineLen : List UInt8 → Option Nat
  | [] => none
  | c :: r => if c.toNat = 10 then some 1 else (lineLen r).map (· + 1)
def isSlash : List UInt8 → Bool
  | c :: _ => decide (c.toNat = 47)
  | [] => false
/-- How far a step goes. -/
def adv : List UInt8 → Nat
  | [] => 0
  | c :: r => if blankB c then 1 else if decide (c.toNat = 47) && isSlash r then (lineLen (c :: r)).getD 0 else 0
theorem byteAt_at {s : ByteArray} {pre post : List UInt8} {x : UInt8} (h : s.data.toList = pre ++ x :: post) {i : Int} (hi : i = pre.length) : byteAt s i = x.toNat := by rw [hi]; exact byteAt_mid h
end Go.Vg
namespace Go.Proofs.YtamednbojpnalaaGreatDoor
open Go Go.Vg Go.Proofs
theorem R04step (s : ByteArray) (pre l : List UInt8) (hs : s.data.toList = pre ++ l) : VPure env 220 [.str s, .int .i64 pre.length] (.int .i64 (pre.length + adv l : Nat)) := by
  refine vpure_vc (fn := Tryz.f220) Tryz.func220 rfl (by rw [Tryz.ntmps220]; simp) rfl rfl ?_
  have hz : s.size = pre.length + l.length := by rw [size_mid hs]; simp
  rcases l with _ | ⟨c, r⟩
  · simp -implicitDefEqProofs only [go_sem, Tryz.f220]
    intro hb
    simp at hz
    exact ⟨fun _ => by simp [adv], fun h => absurd h (by omega)⟩
  · simp -implicitDefEqProofs only [go_sem, Tryz.f220, byteAt_mid hs]
    intro hb
    simp only [List.length_cons] at hz
    rw [wrap_next (n := pre.length) (by omega)]
    refine ⟨fun h => absurd h (by omega), fun _ => ⟨by omega, fun h1 => ⟨by omega, fun h2 => ⟨by omega, fun h3 => ?_, fun h3 => ⟨by omega, fun h4 _ => ⟨fun h5 => ⟨by omega, fun h6 => ?_, fun h6 => ?_⟩, fun h5 => ?_⟩, fun h4 => ?_⟩⟩, fun h2 => ?_⟩, fun h1 => ?_⟩⟩
    · have : blankB c = true := by unfold blankB; simp; omega
      simp [adv, this]
    · have hbl : blankB c = false := by unfold blankB; simp; omega
      rcases r with _ | ⟨d, r⟩
      · simp at hz; omega
      · have hs2 : s.data.toList = (pre ++ [c]) ++ d :: r := by rw [hs]; simp
        rw [byteAt_at hs2 (by simp)] at h6
        have : isSlash (d :: r) = false := by unfold isSlash; simp at h6 ⊢; omega
        simp [adv, hbl, this]
    · have hbl : blankB c = false := by unfold blankB; simp; omega
      rcases r with _ | ⟨d, r⟩
      · simp at hz; omega
      · have hs2 : s.data.toList = (pre ++ [c]) ++ d :: r := by rw [hs]; simp
        rw [byteAt_at hs2 (by simp)] at h6
        have h47 : isSlash (d :: r) = true := by unfold isSlash; simp at h6 ⊢; omega
        have hadv : adv (c :: d :: r) = (lineLen (c :: d :: r)).getD 0 := by simp at h4; simp [adv, hbl, h47]; omega
        rw [hadv]
        refine snd_list (β := Unit) (c :: d :: r) (fun q _ => ⟨[(5, .int .i64 (pre.length + q.length : Nat)), (1, .int .i64 pre.length), (0, .str s)], [], []⟩)
          (fun q post _ => lineLen (c :: d :: r) = (lineLen post).map (· + q.length)) () ?_ ?_ ?_ ?_
        · simp -implicitDefEqProofs only [go_sem]
          try trivial
        · simp
        · intro _ i1
          have hsz : s.size = pre.length + (c :: d :: r).length := by rw [size_mid hs]; simp
          simp -implicitDefEqProofs only [go_sem, hsz]
          intro _
          rw [i1]; simp [lineLen]
        · rintro q x post _ hx i1
          have hs3 : s.data.toList = (pre ++ q) ++ x :: post := by rw [hs, hx]; simp
          have hsz : s.size = pre.length + q.length + (post.length + 1) := by rw [size_mid hs3]; simp; omega
          have hlt : (((pre.length + q.length : Nat) : Int) < (s.size : Int)) = True := by simp; omega
          simp -implicitDefEqProofs only [go_sem, hlt, byteAt_at hs3 (i := ((pre.length + q.length : Nat) : Int)) (by simp)]
          intro _
          refine ⟨fun e => ?_, fun e => ⟨(), ?_, ?_⟩⟩
          · have e' : x.toNat = 10 := by omega
            rw [wrap_next (by omega), i1, lineLen, if_pos e']
            simp; omega
          · have e' : ¬ x.toNat = 10 := by omega
            rw [i1, lineLen, if_neg e', Option.map_map]
            congr 1
            funext y
            simp; omega
          · rw [wrap_next (by omega)]; rfl
    · have hbl : blankB c = false := by unfold blankB; simp; omega
      have : r = [] := List.eq_nil_of_length_eq_zero (by omega)
      subst this
      simp [adv, hbl, isSlash]
    · have hbl : blankB c = false := by unfold blankB; simp; omega
      simp at h4
      have : ¬ c.toNat = 47 := by omega
      simp [adv, hbl, this]
    · have : blankB c = true := by unfold blankB; simp; omega
      simp [adv, this]
    · have : blankB c = true := by unfold blankB; simp; omega
      simp [adv, this]
end Go.Proofs.YtamednbojpnalaaGreatDoor
set_option linter.unusedVariables false
set_option maxRecDepth 20000
namespace Go.Vg
theorem lineLen_le : ∀ (l : List UInt8) n, lineLen l = some n → n ≤ l.length ∧ 1 ≤ n
  | [], n, h => by simp [lineLen] at h
  | c :: r, n, h => by
    rw [lineLen] at h
    split at h
    · cases h; simp
    · obtain ⟨m, hm, rfl⟩ := Option.map_eq_some_iff.1 h
      have := lineLen_le r m hm
      simp; omega
theorem adv_le (l : List UInt8) : adv l ≤ l.length := by
  cases l with
  | nil => simp [adv]
  | cons c r =>
    rw [adv]
    split
    · simp
    · split
      · cases h : lineLen (c :: r) with
        | none => simp
        | some n => have := lineLen_le _ _ h; simpa using this.1
      · simp
/-- How far trivia go. -/
def skipT (l : List UInt8) : Nat := if h : adv l = 0 then 0 else adv l + skipT (l.drop (adv l))
  termination_by l.length
  decreasing_by have := adv_le l; simp; omega
end Go.Vg
namespace Go.Vg
def triviaB (s : ByteArray) : Bool := decide (skipT s.data.toList = s.size)
end Go.Vg
namespace Go.Proofs.YtamednbojpnalaaGreatDoor
open Go Go.Vg Go.Proofs
theorem R04End (s : ByteArray) (pre l : List UInt8) (hs : s.data.toList = pre ++ l) (hb : s.size ≤ 1000000000) : VPure env 175 [.str s, .int .i64 pre.length] (.int .i64 (pre.length + skipT l : Nat)) := by
  refine vpure_vc (fn := Tryz.f175) Tryz.func175 rfl (by rw [Tryz.ntmps175]; simp) rfl rfl ?_
  have hz : s.size = pre.length + l.length := by rw [size_mid hs]; simp
  have h1 : ((pre.length : Int) < 0) = False := by simp
  have h2 : ((s.size : Int) < (pre.length : Int)) = False := by simp; omega
  simp -implicitDefEqProofs only [go_sem, Tryz.f175, h1, h2]
  intro _
  refine snd_for (α := List UInt8 × List UInt8) (fun a => ⟨[(0, .str s), (1, .int .i64 a.1.length)], [], []⟩) (fun a => s.data.toList = a.1 ++ a.2 ∧ a.1.length + skipT a.2 = pre.length + skipT l) (fun a => a.2.length) (pre, l) ?_ ⟨hs, rfl⟩ ?_
  · simp -implicitDefEqProofs only [go_sem]
  · rintro ⟨p, q⟩ ⟨i1, i2⟩
    simp only at i1 i2
    have hzq : s.size = p.length + q.length := by rw [size_mid i1]; simp
    simp -implicitDefEqProofs only [go_sem]
    refine (R04step s p q i1).calls rfl ?_
    simp -implicitDefEqProofs only [go_sem]
    have hle := adv_le q
    have hsplit : s.data.toList = (p ++ q.take (adv q)) ++ q.drop (adv q) := by rw [i1]; simp
    refine ⟨fun c => ?_, fun c => ?_⟩
    · refine (R04step s p q i1).calls rfl ?_
      simp -implicitDefEqProofs only [go_sem]
      refine ⟨(p ++ q.take (adv q), q.drop (adv q)), ?_, ⟨hsplit, ?_⟩, ?_⟩
      · simp; omega
      · have : skipT q = adv q + skipT (q.drop (adv q)) := by rw [skipT, dif_neg (by omega)]
        simp; omega
      · simp; omega
    · have h0 : adv q = 0 := by omega
      have : skipT q = 0 := by rw [skipT, dif_pos h0]
      rw [← i2, this]; simp
theorem R04Valid (s : ByteArray) (hb : s.size ≤ 1000000000) : VPure env 136 [.str s] (.bool (triviaB s)) := by
  refine vpure_vc (fn := Tryz.f136) Tryz.func136 rfl (by rw [Tryz.ntmps136]; simp) rfl rfl ?_
  simp -implicitDefEqProofs only [go_sem, Tryz.f136]
  have h := R04End s [] s.data.toList rfl hb
  simp only [List.length_nil, Nat.zero_add] at h
  refine VPure.calls h rfl ?_
  simp -implicitDefEqProofs only [go_sem]
  intro _
  unfold triviaB
  congr 1
  by_cases e : skipT s.data.toList = s.size
  · simp [e]
  · rw [decide_eq_false e]; simp; omega
end Go.Proofs.YtamednbojpnalaaGreatDoor
