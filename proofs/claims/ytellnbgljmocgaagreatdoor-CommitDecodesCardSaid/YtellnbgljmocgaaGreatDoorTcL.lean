/- The law's functions. -/
import Derived.Test.YtellnbgljmocgaaGreatDoorTcK
import Derived.Test.YtellnbgljmocgaaGreatDoorTcD
set_option linter.unusedVariables false
set_option linter.unusedSimpArgs false
set_option maxRecDepth 20000
namespace Go.Vg
def awC : Cm := ⟨0, [], [⟨⟨#[97]⟩, ⟨#[]⟩⟩], ⟨#[115, 116, 97, 114, 116]⟩, []⟩
def awS : ByteArray := ⟨#[99, 111, 109, 109, 105, 116, 32, 48, 10, 112, 97, 114, 101, 110, 116, 115, 32, 48, 10, 109, 101, 115, 115, 97, 103, 101, 32, 53, 58, 115, 116, 97, 114, 116, 10, 102, 105, 108, 101, 115, 32, 49, 10, 49, 58, 97, 32, 48, 58, 10, 111, 112, 115, 32, 48, 10, 101, 110, 100, 10]⟩
def awT1 : ByteArray := ⟨#[99, 111, 109, 109, 105, 116, 32, 48, 10, 112, 97, 114, 101, 110, 116, 115, 32, 48, 10, 109, 101, 115, 115, 97, 103, 101, 32, 53, 58, 115, 116, 97, 114, 116, 10, 102, 105, 108, 101, 115, 32, 49, 10, 49, 58, 97, 32, 48, 58, 10, 111, 112, 115, 32, 48, 10, 101, 110, 100, 10, 120]⟩
def awT2 : ByteArray := ⟨#[99, 111, 109, 109, 105, 116, 32, 48, 48, 10, 112, 97, 114, 101, 110, 116, 115, 32, 48, 10, 109, 101, 115, 115, 97, 103, 101, 32, 48, 58, 10, 102, 105, 108, 101, 115, 32, 48, 10, 111, 112, 115, 32, 48, 10, 101, 110, 100, 10]⟩
def awT3 : ByteArray := ⟨#[99, 111, 109, 109, 105, 116, 32, 48, 10, 112, 97, 114, 101, 110, 116, 115, 32, 48, 10, 109, 101, 115, 115, 97, 103, 101, 32, 48, 58, 10, 102, 105, 108, 101, 115, 32, 48, 10, 111, 112, 115, 32, 48, 10, 101, 110, 100, 10]⟩
def noP : ByteArray → Option Rf := fun _ => none
theorem awC_err : cmErr awC = 0 := by kernel_rfl
theorem awC_text : cmText awC = awS := by kernel_rfl
theorem aw1 : decodeV noP awT1 = .tuple [.agg awC.enc, .int .i64 60, .int .i64 0] := by kernel_rfl
theorem aw2 : decodeV noP awT2 = .tuple [.agg noCm.enc, .int .i64 0, .int .i64 1] := by kernel_rfl
theorem aw3 : decodeV noP awT3 = .tuple [.agg noCm.enc, .int .i64 48, .int .i64 0] := by kernel_rfl
theorem aw1h : headP (str awT1) = some (0, [], [⟨⟨#[97]⟩, ⟨#[]⟩⟩], str ⟨#[115, 116, 97, 114, 116]⟩, 0, str ⟨#[101, 110, 100]⟩ ++ [10, 120]) := by kernel_rfl
theorem aw2h : headP (str awT2) = none := by kernel_rfl
theorem aw3h : headP (str awT3) = some (0, [], [], [], 0, str ⟨#[101, 110, 100]⟩ ++ [10]) := by kernel_rfl
theorem aw1c : commitP noP (str awT1) = some (awC, [120]) := by kernel_rfl
theorem aw2c : commitP noP (str awT2) = none := by kernel_rfl
theorem aw3c : commitP noP (str awT3) = some (noCm, []) := by kernel_rfl
theorem awC_dig : digestV awC = .int .u64 (sumN awS.data.toList 14695981039346656037) := by
  have h : commitE awC = awS.data.toList := by kernel_rfl
  rw [digestV, if_pos awC_err, h]
def awD : Cm := ⟨3, [1, 1], [], ⟨#[10]⟩, []⟩
def awE : Cm := ⟨256, [], [], ⟨#[]⟩, []⟩
def awF : Cm := ⟨-1, [], [], ⟨#[]⟩, []⟩
theorem awD_err : cmErr awD = 14 := by kernel_rfl
theorem awE_err : cmErr awE = 2 := by kernel_rfl
theorem awF_err : cmErr awF = 2 := by kernel_rfl
theorem awF_dig : digestV awF = .int .u64 0 := by rw [digestV, if_neg (by rw [awF_err]; decide)]
theorem awC_ok : awC.ok := ⟨by decide, by decide, (by intro n hn; cases hn), by decide, by decide, by decide, (by intro f hf; simp only [awC, List.mem_singleton] at hf; subst hf; exact ⟨by decide, by decide⟩), by decide, (by intro r hr; cases hr)⟩
theorem noCm_ok : noCm.ok := ⟨by decide, by decide, (by intro n hn; cases hn), by decide, by decide, by decide, (by intro f hf; cases hf), by decide, (by intro r hr; cases hr)⟩
theorem awD_ok : awD.ok := ⟨by decide, by decide, (by intro n hn; simp only [awD, List.mem_cons, List.not_mem_nil, or_false, or_self] at hn; subst hn; decide), by decide, by decide, by decide, (by intro f hf; cases hf), by decide, (by intro r hr; cases hr)⟩
theorem awE_ok : awE.ok := ⟨by decide, by decide, (by intro n hn; cases hn), by decide, by decide, by decide, (by intro f hf; cases hf), by decide, (by intro r hr; cases hr)⟩
theorem awF_ok : awF.ok := ⟨by decide, by decide, (by intro n hn; cases hn), by decide, by decide, by decide, (by intro f hf; cases hf), by decide, (by intro r hr; cases hr)⟩
end Go.Vg
namespace Go.Proofs.YtellnbgljmocgaaGreatDoor
open Go Go.Vg Go.Proofs
theorem DecodeZ {s : ByteArray} (hsz : s.size ≤ 1000000000) (hh : ∀ id ps fs m no l, headP (str s) = some (id, ps, fs, m, no, l) → no = 0)
    (hok : ∀ c rest, commitP noP (str s) = some (c, rest) → c.ok) : VPure env 5 [.str s] (decodeV noP s) :=
  Decode hsz (fun id ps fs m no l h h0 => absurd (hh _ _ _ _ _ _ h) (by omega)) hok
theorem Dec1 : VPure env 5 [.str awT1] (.tuple [.agg awC.enc, .int .i64 60, .int .i64 0]) := by
  rw [← aw1]
  refine DecodeZ (by decide) (fun id ps fs m no l h => ?_) fun c rest h => ?_
  · rw [aw1h] at h; cases h; rfl
  · rw [aw1c] at h; cases h; exact awC_ok
theorem Dec2 : VPure env 5 [.str awT2] (.tuple [.agg noCm.enc, .int .i64 0, .int .i64 1]) := by
  rw [← aw2]
  refine DecodeZ (by decide) (fun id ps fs m no l h => ?_) fun c rest h => ?_
  · rw [aw2h] at h; cases h
  · rw [aw2c] at h; cases h
theorem Dec3 : VPure env 5 [.str awT3] (.tuple [.agg noCm.enc, .int .i64 48, .int .i64 0]) := by
  rw [← aw3]
  refine DecodeZ (by decide) (fun id ps fs m no l h => ?_) fun c rest h => ?_
  · rw [aw3h] at h; cases h; rfl
  · rw [aw3c] at h; cases h; exact noCm_ok
theorem awake : VPure env 4 [] (.bool true) := by
  refine vpure_vc (fn := Tryz.f4) Tryz.func4 rfl (by rw [Tryz.ntmps4]; simp) rfl rfl ?_
  simp -implicitDefEqProofs only [go_sem, Tryz.f4]
  refine (Cencode awC awC_ok).calls (by simp -implicitDefEqProofs only [go_sem, awC]) ?_
  simp -implicitDefEqProofs only [go_sem, encodeV, awC_err, awC_text, awS]
  refine ⟨by decide, Dec1.calls (by kernel_rfl) ?_⟩
  simp -implicitDefEqProofs only [go_sem, awC]
  refine Dec2.calls (by kernel_rfl) ?_
  simp -implicitDefEqProofs only [go_sem, noCm]
  refine Dec3.calls (by kernel_rfl) ?_
  have hz : awS.data.size = 60 := rfl
  simp only [awS] at hz
  simp -implicitDefEqProofs only [go_sem, noCm, hz]
  refine ⟨fun (_ : @Eq Int _ _) => ?_, fun h => absurd rfl h⟩
  refine (CSame awC awC).calls (show _ = [V.agg awC.enc, V.agg awC.enc] by simp -implicitDefEqProofs only [go_sem, awC]) ?_
  simp -implicitDefEqProofs only [go_sem]
  refine (Ccheck awD awD_ok).calls (show _ = [V.agg awD.enc] by simp -implicitDefEqProofs only [go_sem, awD, encI]) ?_
  simp -implicitDefEqProofs only [go_sem, awD_err]
  refine (Ccheck awE awE_ok).calls (show _ = [V.agg awE.enc] by simp -implicitDefEqProofs only [go_sem, awE]) ?_
  simp -implicitDefEqProofs only [go_sem, awE_err]
  refine (Cdigest awC awC_ok).calls (show _ = [V.agg awC.enc] by simp -implicitDefEqProofs only [go_sem, awC]) ?_
  rw [awC_dig]
  simp -implicitDefEqProofs only [go_sem]
  refine (DSum awS).calls (by kernel_rfl) ?_
  simp -implicitDefEqProofs only [go_sem]

  refine (Cdigest awF awF_ok).calls (show _ = [V.agg awF.enc] by simp -implicitDefEqProofs only [go_sem, awF]) ?_
  rw [awF_dig]
  simp -implicitDefEqProofs only [go_sem]
end Go.Proofs.YtellnbgljmocgaaGreatDoor
