/- strings.ReplaceAll of one byte by another. -/
import Derived.Test.YtellnbgljmocgaaGreatDoorTcC
import Derived.Lib.CountLaws
import Derived.Lib.Replace
import Derived.Lib.SplitLaws
set_option linter.unusedVariables false
set_option linter.unusedSimpArgs false
set_option maxRecDepth 20000
namespace Go.Vg
open Go Go.Lib
theorem index_cons (a c : UInt8) (r : List UInt8) : index (c :: r) [a] = if c = a then 0 else if index r [a] = -1 then -1 else index r [a] + 1 := by
  by_cases h : c = a
  · subst h; simp [index]
  · have : ¬ a = c := fun e => h e.symm
    simp [index, h, this]
theorem count_cons_eq (a : UInt8) (r : List UInt8) : count (a :: r) [a] = 1 + count r [a] := by
  have h : index (a :: r) [a] = ((0 : Nat) : Int) := by rw [index_cons, if_pos rfl]; rfl
  rw [count_hit (i := 0) (by simp) h]
  rfl
theorem count_cons_ne (a c : UInt8) (r : List UInt8) (hc : c ≠ a) : count (c :: r) [a] = count r [a] := by
  have h := index_cons a c r
  rw [if_neg hc] at h
  by_cases hr : index r [a] = -1
  · rw [if_pos hr] at h
    rw [count_miss h, count_miss hr]
  · rw [if_neg hr] at h
    have hge := index_ge r [a]
    obtain ⟨i, hi⟩ : ∃ i : Nat, index r [a] = i := ⟨(index r [a]).toNat, by omega⟩
    rw [count_hit (i := i + 1) (by simp) (by rw [h, hi]; simp), count_hit (i := i) (by simp) hi]
    rfl
theorem replaceK_cons_ne (a b c : UInt8) (r : List UInt8) (hc : c ≠ a) (k : Nat) : replaceK [a] [b] k (c :: r) = c :: replaceK [a] [b] k r := by
  cases k with
  | zero => rfl
  | succ k =>
    have h := index_cons a c r
    rw [if_neg hc] at h
    by_cases hr : index r [a] = -1
    · rw [if_pos hr] at h
      simp [replaceK, h, hr]
    · rw [if_neg hr] at h
      have hge := index_ge r [a]
      obtain ⟨i, hi⟩ : ∃ i : Nat, index r [a] = i := ⟨(index r [a]).toNat, by omega⟩
      rw [replaceK_hit _ _ k (c :: r) (i + 1) (by rw [h, hi]; simp), replaceK_hit _ _ k r i hi]
      rfl
theorem replaceK_map (a b : UInt8) : ∀ (s : List UInt8), replaceK [a] [b] (count s [a]) s = s.map fun c => if c = a then b else c
  | [] => rfl
  | c :: r => by
    by_cases hc : c = a
    · subst hc
      rw [count_cons_eq, Nat.add_comm, replaceK_hit _ _ _ _ 0 (by rw [index_cons, if_pos rfl]; rfl)]
      simp [replaceK_map c b r]
    · rw [count_cons_ne a c r hc, replaceK_cons_ne a b c r hc, replaceK_map a b r]
      simp [hc]
theorem replaceAll_map (a b : UInt8) (h : a ≠ b) (s : List UInt8) : replaceAll s [a] [b] = s.map fun c => if c = a then b else c := by
  have e : ¬ (([a] : List UInt8) == [b]) = true := by simpa using h
  rw [replaceAll, replace, if_neg e, replaceNum, if_pos (by simp), replaceK_map]
end Go.Vg
namespace Go.Proofs.YtellnbgljmocgaaGreatDoor
open Go Go.Vg Go.Proofs
theorem cell_of_var {w : World} {n : String} {g : Nat} {v : Value} (hg : Tryz.prog.globalNamed n = some g) (h : w.var? Tryz.prog n = some #[v]) : w.cell? ⟨g, 0, none⟩ = some v := by
  unfold World.var? at h
  rw [hg] at h
  simp only [Option.bind_some] at h
  unfold World.cell?
  simp only
  split at h
  · rename_i cs a b hh
    cases h
    rw [hh]; rfl
  · cases h
theorem maxLen {w : World} (h : iniW w) : ∃ m, w.cell? ⟨3, 0, none⟩ = some (.int .i64 m) := by
  obtain ⟨m, hm⟩ := h.2.1
  exact ⟨m, cell_of_var (by kernel_rfl) hm⟩
theorem swapB_size (a b : UInt8) (s : ByteArray) : (swapB a b s).size = s.size := by
  rw [size_list, size_list]; simp [swapB]
theorem ReplaceAll (a b : UInt8) (hab : a ≠ b) (s : ByteArray) (hs : s.size ≤ 1000000000) : VPure env 55 [.str s, .str ⟨#[a]⟩, .str ⟨#[b]⟩] (.str (swapB a b s)) := by
  refine vpure_shelf (val := .string (swapB a b s)) rfl rfl (fun G arr => .str _ (by rw [swapB_size]; omega)) fun G w0 w vals hr ha => ?_
  obtain ⟨v, vs, rfl, hv, ha⟩ := ha.cons
  obtain ⟨v2, vs, rfl, hv2, ha⟩ := ha.cons
  obtain ⟨v3, vs, rfl, hv3, ha⟩ := ha.cons
  rw [ha.nil]
  cases hv
  cases hv2
  cases hv3
  obtain ⟨m, hm⟩ := maxLen hr.iniW
  have hc := Lib.countB_le ⟨#[a]⟩ (by simp [ByteArray.size]) s.size s (Nat.le_refl _)
  have h1 : (⟨#[b]⟩ : ByteArray).size = 1 := rfl
  refine (Tryz.strings_ReplaceAll s ⟨#[a]⟩ ⟨#[b]⟩ m w (by omega) hm (Nat.le_refl 1) (by rw [h1]; omega)).mono fun e w' ⟨he, hw⟩ => ⟨?_, hw⟩
  rw [he, show (⟨#[a]⟩ : ByteArray).data.toList = [a] from rfl, show (⟨#[b]⟩ : ByteArray).data.toList = [b] from rfl, replaceAll_map a b hab]
  rfl
end Go.Proofs.YtellnbgljmocgaaGreatDoor
