/- Numbers that were written are read again. -/
import Derived.Lib.AtoiAll
import Derived.Lib.ItoaNum
set_option linter.unusedVariables false
set_option linter.unusedSimpArgs false
namespace Go.Vg
open Go Go.Lib

theorem pu_app : ∀ (l : List UInt8) (acc v : Nat) (d : UInt8), parseUint10 acc l = .ok v → parseUint10 acc (l ++ [d]) = parseUint10 v [d]
  | [], acc, v, d, h => by
    simp only [parseUint10, NumEnd.ok.injEq] at h
    subst h; rfl
  | c :: r, acc, v, d, h => by
    simp only [parseUint10] at h
    simp only [List.cons_append]
    rw [parseUint10]
    split at h
    · rename_i h1
      rw [if_pos h1]
      split at h
      · cases h
      · rename_i h2
        rw [if_neg h2]
        split at h
        · cases h
        · rename_i h3
          rw [if_neg h3]
          exact pu_app r _ v d h
    · cases h

theorem dig_nat {k : Nat} (h : k < 10) : (UInt8.ofNat (48 + k)).toNat = 48 + k := by
  show (48 + k) % 256 = 48 + k
  omega

theorem pu_dec (u : Nat) : u < 18446744073709551616 → parseUint10 0 (decDigits u) = .ok u := by
  induction u using Nat.strongRecOn with
  | _ u ih =>
  intro hu
  rw [decDigits]
  split
  · rename_i h
    have := dig_nat h
    simp only [parseUint10, this]
    rw [if_pos (by omega), if_neg (by omega), if_neg (by omega)]
    congr 1; omega
  · rename_i h
    rw [pu_app _ _ _ _ (ih (u / 10) (by omega) (by omega))]
    have := dig_nat (k := u % 10) (by omega)
    simp only [parseUint10, this]
    rw [if_pos (by omega), if_neg (by omega), if_neg (by omega)]
    congr 1; omega

/-- The digits of a number: digits, and at least one. -/
theorem dec_all (u : Nat) : ∀ c ∈ decDigits u, 48 ≤ c.toNat ∧ c.toNat ≤ 57 := by
  induction u using Nat.strongRecOn with
  | _ u ih =>
  rw [decDigits]
  split
  · rename_i h
    intro c hc
    simp only [List.mem_singleton] at hc
    subst hc
    have := dig_nat h
    omega
  · intro c hc
    rcases List.mem_append.1 hc with hc | hc
    · exact ih (u / 10) (by omega) c hc
    · simp only [List.mem_singleton] at hc
      subst hc
      have := dig_nat (k := u % 10) (by omega)
      omega
theorem dec_ne (u : Nat) : decDigits u ≠ [] := by
  rw [decDigits]; split <;> simp

theorem atoi_itoa {n : Int} (h0 : -9223372036854775808 ≤ n) (h1 : n ≤ 9223372036854775807) : atoiAll (itoa n) = .ok n := by
  unfold itoa
  split
  · rename_i hn
    have := pu_dec n.natAbs (by omega)
    have hne := dec_ne n.natAbs
    simp only [atoiAll, parseMag]
    have e1 : (45 : UInt8).toNat = 45 := rfl
    simp only [e1, or_true, if_true, hne, if_false, this, not_true, false_and, true_and]
    rw [if_neg (by omega)]
    congr 1; omega
  · rename_i hn
    have := pu_dec n.toNat (by omega)
    have hne := dec_ne n.toNat
    have hall := dec_all n.toNat
    generalize decDigits n.toNat = l at this hne hall
    cases l with
    | nil => exact absurd rfl hne
    | cons c r =>
      have hc := hall c (by simp)
      simp only [atoiAll, parseMag]
      rw [if_neg (by omega : ¬ (c.toNat = 43 ∨ c.toNat = 45)), if_neg (by simp), this]
      simp only
      rw [if_neg (by omega), if_neg (by omega), if_neg (by omega)]
      congr 1; omega
end Go.Vg
