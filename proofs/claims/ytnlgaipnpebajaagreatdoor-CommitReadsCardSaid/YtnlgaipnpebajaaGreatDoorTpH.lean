/- The laws 'CommitRoundTrips' and 'CommitReads'. -/
import Derived.Test.YtnlgaipnpebajaaGreatDoorTpG
set_option linter.unusedVariables false
set_option linter.unusedSimpArgs false
set_option maxRecDepth 20000
namespace Go.Proofs.YtnlgaipnpebajaaGreatDoor
open Go Go.Vg Go.Proofs
theorem DecodeP {s : ByteArray} (hs : s.size ≤ 900000) (hok : ∀ c rest, commitP parseS (str s) = some (c, rest) → c.ok) : VPure env 9 [.str s] (decodeV parseS s) :=
  Decode (by omega) (fun _ _ _ _ _ _ _ _ t ht => Rparse t (by omega)) hok
theorem CommitRoundTripsV (c : Cm) (more : ByteArray) (hr : c.rng) : VPure env 3 [.agg c.enc, .str more] (.bool true) := by
  refine vpure_vc (fn := Tryz.f3) Tryz.func3 rfl (by rw [Tryz.ntmps3]; simp) (by simp -implicitDefEqProofs only [go_sem]) rfl ?_
  simp -implicitDefEqProofs only [go_sem, Tryz.f3]
  refine (Small c).calls (by simp -implicitDefEqProofs only [go_sem]) ?_
  cases hs : smallB c with
  | false =>
    simp -implicitDefEqProofs only [go_sem]
    refine awake.calls rfl ?_
    simp -implicitDefEqProofs only [go_sem]
  | true =>
    have ok := small_ok hs hr
    simp -implicitDefEqProofs only [go_sem]
    refine fun hm => ⟨fun h => ?_, fun h => ?_⟩
    · refine awake.calls rfl ?_
      simp -implicitDefEqProofs only [go_sem]
    refine (Cencode c ok).calls (by simp -implicitDefEqProofs only [go_sem]) ?_
    simp -implicitDefEqProofs only [go_sem, encodeV]
    refine (Ccheck c ok).calls (by simp -implicitDefEqProofs only [go_sem]) ?_
    simp -implicitDefEqProofs only [go_sem]
    refine ⟨fun d => ?_, fun d => ?_⟩
    · have d : cmErr c ≠ 0 := by simpa using d
      have ht : cmText c = ⟨#[]⟩ := by rw [cmText, if_neg d]
      refine ⟨fun _ => ?_, fun hn => absurd ht hn⟩
      refine awake.calls rfl ?_
      simp -implicitDefEqProofs only [go_sem]
    · have d : cmErr c = 0 := by simpa using d
      have ht : cmText c = toB (commitE c) := by rw [cmText, if_pos d]
      have hlen := small_len hs hr
      have hz : (cmText c).size ≤ 400000 := by rw [ht, ← str_len]; exact hlen
      have hstr : str (cmText c ++ more) = commitE c ++ str more := by rw [ht]; exact ba_append
      have hread : commitP parseS (str (cmText c ++ more)) = some (c, str more) := by rw [hstr]; exact read_back d ok (str more)
      have hdec : decodeV parseS (cmText c ++ more) = .tuple [.agg c.enc, .int .i64 ((cmText c).size : Nat), .int .i64 0] := by
        have e : (cmText c ++ more).size - (str more).length = (cmText c).size := by rw [str_len, ByteArray.size_append]; omega
        simp only [decodeV, decodeC, hread, d, if_true, e]
      have hD := DecodeP (s := cmText c ++ more) (by rw [ByteArray.size_append]; omega) (fun c' rest h => by rw [hread] at h; cases h; exact ok)
      rw [hdec] at hD
      refine ⟨by omega, ?_⟩
      refine hD.calls rfl ?_
      have hcc : decide (c = c) = true := by simp
      simp -implicitDefEqProofs only [go_sem]
      refine fun _ => (CSame c c).calls (by simp -implicitDefEqProofs only [go_sem]) ?_
      simp -implicitDefEqProofs only [go_sem, hcc]
      refine awake.calls rfl ?_
      simp -implicitDefEqProofs only [go_sem]
theorem CommitReadsV (s : ByteArray) (cut : Int) : VPure env 4 [.str s, .int .i64 cut] (.bool true) := by
  refine vpure_vc (fn := Tryz.f4) Tryz.func4 rfl (by rw [Tryz.ntmps4]; simp) (by simp -implicitDefEqProofs only [go_sem]) rfl ?_
  simp -implicitDefEqProofs only [go_sem, Tryz.f4]
  refine fun hm => ⟨fun h => ?_, fun h => ?_⟩
  · refine awake.calls rfl ?_
    simp -implicitDefEqProofs only [go_sem]
  have hs : s.size ≤ 2000 := by omega
  refine (DecodeP (by omega) (fun c rest h => (read_ok hs h).1)).calls rfl ?_
  unfold decodeV
  cases hdc : decodeC parseS s with
  | none =>
    simp -implicitDefEqProofs only [go_sem, noCm]
    refine awake.calls rfl ?_
    simp -implicitDefEqProofs only [go_sem]
  | some x =>
    obtain ⟨c, rest⟩ := x
    have hcp : commitP parseS (str s) = some (c, rest) ∧ cmErr c = 0 := by
      unfold decodeC at hdc
      split at hdc
      · split at hdc
        · cases hdc
          exact ⟨by assumption, by assumption⟩
        · cases hdc
      · cases hdc
    obtain ⟨hcp, d⟩ := hcp
    obtain ⟨ok, hstr⟩ := read_ok hs hcp
    have ht : cmText c = toB (commitE c) := by rw [cmText, if_pos d]
    have hl := congrArg List.length hstr
    rw [str_len, List.length_append] at hl
    have hn : s.size - rest.length = (commitE c).length := by omega
    have hcut : s.extract 0 (commitE c).length = toB (commitE c) := by
      apply ba_ext
      have : (s.extract 0 (commitE c).length).data.toList = s.data.toList.take (commitE c).length := by simp [ByteArray.extract, ByteArray.copySlice]
      rw [this, show s.data.toList = commitE c ++ rest from hstr]
      simp [toB_list]
    have hdz : ∀ k : Nat, k < (commitE c).length → VPure env 9 [.str (s.extract 0 k)] (.tuple [.agg noCm.enc, .int .i64 0, .int .i64 1]) := fun k hk => by
      have e : str (s.extract 0 k) = (str s).take k := by simp [str, ByteArray.extract, ByteArray.copySlice]
      have hz : (s.extract 0 k).size ≤ 2000 := by rw [← str_len, e, List.length_take, str_len]; omega
      have := DecodeP (s := s.extract 0 k) (by omega) (fun c' rest' h => (read_ok hz h).1)
      have hno : decodeC parseS (s.extract 0 k) = none := by
        unfold decodeC
        cases h1 : commitP parseS (str (s.extract 0 k)) with
        | none => rfl
        | some x =>
          obtain ⟨c', rest'⟩ := x
          simp only
          split
          · rename_i he
            rw [e] at h1
            exact absurd (read_cut hs hcp hk h1 he) id
          · rfl
      rw [decodeV, hno] at this
      exact this
    simp only [hn]
    rw [← ht] at hcut
    generalize (commitE c).length = n at hl hn hcut hdz ⊢
    simp -implicitDefEqProofs only [go_sem]
    refine (Cencode c ok).calls (by simp -implicitDefEqProofs only [go_sem]) ?_
    simp -implicitDefEqProofs only [go_sem, encodeV, d]
    refine (Ccheck c ok).calls (by simp -implicitDefEqProofs only [go_sem]) ?_
    have g1 : ¬ ((n : Nat) : Int) < 0 := by omega
    have g2 : ¬ ((s.size : Nat) : Int) < ((n : Nat) : Int) := by omega
    simp -implicitDefEqProofs only [go_sem, d, g1, g2]
    rw [Int.toNat_natCast, hcut]
    refine fun _ => ⟨by omega, fun hx => (by simp at hx), fun _ => ⟨fun k0 => ⟨fun k1 => ⟨⟨k0, by omega⟩, ?_⟩, fun k1 => ?_⟩, fun k0 => ?_⟩⟩
    · refine (hdz cut.toNat (by omega)).calls rfl ?_
      simp -implicitDefEqProofs only [go_sem, noCm]
      refine awake.calls rfl ?_
      simp -implicitDefEqProofs only [go_sem]
    · refine awake.calls rfl ?_
      simp -implicitDefEqProofs only [go_sem]
    · refine awake.calls rfl ?_
      simp -implicitDefEqProofs only [go_sem]
end Go.Proofs.YtnlgaipnpebajaaGreatDoor
