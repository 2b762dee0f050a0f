/- Refactorings as texts: Print. -/
import Derived.Test.YtellnbgljmocgaaGreatDoorTcF
import Derived.Test.YtellnbgljmocgaaGreatDoorTcR
import Derived.Lib.ItoaLen
set_option linter.unusedVariables false
set_option linter.unusedSimpArgs false
set_option maxRecDepth 20000
namespace Go.Proofs.YtellnbgljmocgaaGreatDoor
open Go Go.Vg Go.Proofs
/-- The kind with a number. -/
def kindC (n : Int) : V := if n = 1 then .func 83 [] else if n = 2 then .func 85 [] else if n = 3 then .func 87 [] else if n = 4 then .func 89 [] else if n = 5 then .func 91 [] else .nilfunc
def kindA (n : Int) : V := if n = 1 then .func 84 [] else if n = 2 then .func 86 [] else if n = 3 then .func 88 [] else if n = 4 then .func 90 [] else if n = 5 then .func 92 [] else .nilfunc
@[go_sem] theorem kindC_pure (n : Int) : (kindC n).pure = true := by
  unfold kindC
  repeat' split
  all_goals rfl
@[go_sem] theorem kindA_pure (n : Int) : (kindA n).pure = true := by
  unfold kindA
  repeat' split
  all_goals rfl
@[go_sem] theorem kindC_share (n : Int) : share1 (kindC n) = kindC n := by
  unfold kindC
  repeat' split
  all_goals rfl
@[go_sem] theorem kindA_share (n : Int) : share1 (kindA n) = kindA n := by
  unfold kindA
  repeat' split
  all_goals rfl
@[go_sem] theorem kindC_cell (n : Int) : (kindC n).cell = true := by
  unfold kindC
  repeat' split
  all_goals rfl
@[go_sem] theorem kindA_cell (n : Int) : (kindA n).cell = true := by
  unfold kindA
  repeat' split
  all_goals rfl
theorem Rfind (n : Int) : VPure env 50 [.int .i64 n] (.tuple [.agg [.str (wordB n), kindC n, kindA n], .bool (!decide (wordB n = ⟨#[]⟩))]) := by
  refine vpure_vc (fn := Tryz.f50) Tryz.func50 rfl (by rw [Tryz.ntmps50]; simp) rfl (by simp -implicitDefEqProofs only [go_sem]) ?_
  simp -implicitDefEqProofs only [go_sem, Tryz.f50]
  refine ⟨?_, fun h1 => ⟨?_, fun h2 => ⟨?_, fun h3 => ⟨?_, fun h4 => ⟨?_, fun h5 => ?_⟩⟩⟩⟩⟩
  · rintro rfl; rfl
  · rintro rfl; rfl
  · rintro rfl; rfl
  · rintro rfl; rfl
  · rintro rfl; rfl
  · simp [wordB, kindC, kindA, h1, h2, h3, h4, h5]
theorem fieldB_size (k v : ByteArray) : (fieldB k v).size ≤ k.size + v.size + 2 := by
  unfold fieldB
  split
  · exact Nat.zero_le _
  · simp only [ByteArray.size_append]
    have e1 : (⟨#[32]⟩ : ByteArray).size = 1 := rfl
    have e2 : (⟨#[61]⟩ : ByteArray).size = 1 := rfl
    omega
theorem set_same {h : List VObj} {id : Nat} {x : VObj} (hh : h[id]? = some x) : h.set id x = h := by
  obtain ⟨hl, rfl⟩ := List.getElem?_eq_some_iff.1 hh
  simp
theorem ba_nil (s : ByteArray) : s ++ ⟨#[]⟩ = s := ba_ext (by rw [ba_append]; simp)
theorem nil_ba (s : ByteArray) : ⟨#[]⟩ ++ s = s := ba_ext (by rw [ba_append]; simp)
theorem ba_assoc (a b c : ByteArray) : a ++ b ++ c = a ++ (b ++ c) := ba_ext (by simp only [ba_append, List.append_assoc])
theorem fieldB_nil (k : ByteArray) : fieldB k ⟨#[]⟩ = ⟨#[]⟩ := rfl
theorem PText {h : List VObj} {a : List Nat} {id : Nat} {s key v : ByteArray} {K : Cont} (hh : h[id]? = some (.builder 64 s)) (hn : noB (h.set id .dead) = true) (hl : s.size + key.size + v.size + 2 ≤ 140737488355328)
    (hK : K (.tuple []) (h.set id (.builder 64 (s ++ fieldB key v))) a) : VCalls env 52 [.str key, .str v, .ptr id 0] h a K := by
  refine vcalls_vc (fn := Tryz.f52) Tryz.func52 rfl (by rw [Tryz.ntmps52]; simp) ?_
  simp -implicitDefEqProofs only [go_sem, Tryz.f52]
  have e1 : (#[32] : Array UInt8).size = 1 := rfl
  have e2 : (#[61] : Array UInt8).size = 1 := rfl
  have e3 : (⟨#[32]⟩ : ByteArray).size = 1 := rfl
  have e4 : (⟨#[61]⟩ : ByteArray).size = 1 := rfl
  refine ⟨fun c => ⟨by omega, by omega, by omega, ?_⟩, fun c => ?_⟩
  · refine WriteString rfl rfl hh hn (by simp only [ByteArray.size_append]; omega) ?_
    simp -implicitDefEqProofs only [go_sem]
    have : fieldB key v = ⟨#[32]⟩ ++ key ++ ⟨#[61]⟩ ++ v := by
      unfold fieldB
      rw [if_neg (by simpa using c)]
    rw [this] at hK
    exact hK
  · have hv : v = ⟨#[]⟩ := by simpa using c
    subst hv
    rw [fieldB_nil, ba_nil, set_same hh] at hK
    exact hK
theorem itoaB_size (n : Int) (h0 : -9223372036854775808 ≤ n) (h1 : n ≤ 9223372036854775807) : (itoaB n).size ≤ 21 := by
  rw [size_list]; exact Lib.itoa_length_le n h0 h1
theorem PNum {h : List VObj} {a : List Nat} {id jd : Nat} {s key : ByteArray} {n : Int} {K : Cont} (hh : h[id]? = some (.builder 64 s)) (hj : h[jd]? = some (.cells [.func 52 [.ptr id 0]])) (hn : noB (h.set id .dead) = true) (h0 : -9223372036854775808 ≤ n) (h1 : n ≤ 9223372036854775807)
    (hl : s.size + key.size + 23 ≤ 140737488355328)
    (hK : K (.tuple []) (h.set id (.builder 64 (s ++ fieldB key (numB n)))) a) : VCalls env 53 [.str key, .int .i64 n, .ptr jd 0] h a K := by
  refine vcalls_vc (fn := Tryz.f53) Tryz.func53 rfl (by rw [Tryz.ntmps53]; simp) ?_
  have hz := itoaB_size n h0 h1
  simp -implicitDefEqProofs only [go_sem, Tryz.f53, hj]
  refine ⟨fun c => ?_, fun c => ?_⟩
  · refine snd_draw (cs := [4]) mixed (by kernel_rfl) ?_
    simp -implicitDefEqProofs only [go_sem, hj]
    refine vPC_of (Itoa n h0 h1 (by omega)) rfl ?_
    simp -implicitDefEqProofs only [go_sem]
    refine PText hh hn (by omega) ?_
    simp -implicitDefEqProofs only [go_sem]
    have c : n ≠ 0 := by simpa using c
    rw [numB, if_neg c] at hK
    exact hK
  · have c : n = 0 := by simpa using c
    subst c
    rw [show numB 0 = ⟨#[]⟩ from rfl, fieldB_nil, ba_nil, set_same hh] at hK
    exact hK
end Go.Proofs.YtellnbgljmocgaaGreatDoor
namespace Go.Vg
/-- What a refactoring's values may be: no text above a million bytes, no list above ten millions, numbers that are numbers. -/
structure Rf.ok (r : Rf) : Prop where
  s1 : r.path.size ≤ 1000000
  s2 : r.cls.size ≤ 1000000
  s3 : r.fn.size ≤ 1000000
  s4 : r.name.size ≤ 1000000
  s5 : r.new.size ≤ 1000000
  n1 : -9223372036854775808 ≤ r.node
  n2 : r.node ≤ 9223372036854775807
  n3 : -9223372036854775808 ≤ r.pos
  n4 : r.pos ≤ 9223372036854775807
  n5 : ∀ n ∈ r.order, -9223372036854775808 ≤ n ∧ n ≤ 9223372036854775807
  l1 : r.order.length ≤ 10000000
  l2 : r.types.length ≤ 10000000
  l3 : r.texts.length ≤ 10000000
  t1 : ∀ s ∈ r.types, s.size ≤ 1000000
  t2 : ∀ s ∈ r.texts, s.size ≤ 1000000
theorem lens_le (B : Nat) : ∀ l : List ByteArray, (∀ s ∈ l, s.size ≤ B) → Lib.lens (l.map fun x => x.data.toList) ≤ B * l.length
  | [], _ => Nat.le_refl _
  | x :: r, h => by
    have h1 := h x (by simp)
    have h2 := lens_le B r fun s hs => h s (by simp [hs])
    rw [size_list] at h1
    simp only [List.map_cons, Lib.lens, List.length_cons, Nat.mul_add, Nat.mul_one, List.sum_cons] at h2 ⊢
    omega
theorem joinB_size (B : Nat) (l : List ByteArray) (h : ∀ s ∈ l, s.size ≤ B) : (joinB l).size ≤ (B + 1) * l.length := by
  cases l with
  | nil => exact Nat.le_refl _
  | cons x r =>
    have := lens_le B (x :: r) h
    rw [size_list]
    show (Lib.join _ _).length ≤ _
    simp only [List.map_cons, Lib.join_length] at this ⊢
    simp only [List.length_cons, List.length_map, List.length_nil] at this ⊢
    rw [Nat.add_mul]
    have e : (⟨#[44]⟩ : ByteArray).size = 1 := rfl
    simp [Nat.mul_add, Nat.add_mul] at this ⊢
    omega
theorem swapB_join (a b : UInt8) (h : a ≠ 44) (l : List ByteArray) : joinB (l.map (swapB a b)) = swapB a b (joinB l) := by
  have tail : ∀ r : List ByteArray, Lib.joinTail [44] ((r.map (swapB a b)).map fun x => x.data.toList) = (Lib.joinTail [44] (r.map fun x => x.data.toList)).map fun c => if c = a then b else c := by
    intro r
    induction r with
    | nil => rfl
    | cons y r ih =>
      have h4 : ¬ (44 : UInt8) = a := fun e => h e.symm
      have e : ∀ (z : List UInt8) r, Lib.joinTail [44] (z :: r) = 44 :: (z ++ Lib.joinTail [44] r) := fun z r => by simp [Lib.joinTail]
      simp only [List.map_cons, e, ih, List.map_append, h4, if_false]
      rfl
  cases l with
  | nil => rfl
  | cons x r =>
    apply ba_ext
    show Lib.join _ _ = List.map _ (Lib.join _ _)
    simp only [List.map_cons, Lib.join_cons, tail, List.map_append]
    rfl
end Go.Vg
namespace Go.Proofs.YtellnbgljmocgaaGreatDoor
open Go Go.Vg Go.Proofs
theorem Rprint (r : Rf) (hok : r.ok) : VPure env 27 [.agg r.enc] (printV r) := by
  obtain ⟨a1, a2, a3, a4, a5, a6, a7, a8, a9, a10, a11⟩ := r
  refine vpure_vc (fn := Tryz.f27) Tryz.func27 rfl (by rw [Tryz.ntmps27]; simp) (by simp -implicitDefEqProofs only [go_sem]) rfl ?_
  simp -implicitDefEqProofs only [go_sem, Tryz.f27]
  refine (Rfind a1).calls rfl ?_
  simp -implicitDefEqProofs only [go_sem]
  refine ⟨fun c => ?_, fun c => ?_⟩
  · simp at c
    simp [printV, rfErr, c]
  refine (Rvalid ⟨a1, a2, a3, a4, a5, a6, a7, a8, a9, a10, a11⟩).calls (by simp -implicitDefEqProofs only [go_sem]) ?_
  have hw : wordB a1 ≠ ⟨#[]⟩ := by simpa using c
  have he : rfErr ⟨a1, a2, a3, a4, a5, a6, a7, a8, a9, a10, a11⟩ = (if !decide (a2 = ⟨#[]⟩) && !pathB a2 then 4 else restErr ⟨a1, a2, a3, a4, a5, a6, a7, a8, a9, a10, a11⟩) := by
    simp only [rfErr, restErr, hw, if_false]
    cases (!decide (a2 = ⟨#[]⟩) && !pathB a2) <;> simp
  rw [← he]
  simp -implicitDefEqProofs only [go_sem]
  refine ⟨fun d => ?_, fun d => ?_⟩
  · have : rfErr ⟨a1, a2, a3, a4, a5, a6, a7, a8, a9, a10, a11⟩ ≠ 0 := by simpa using d
    simp [printV, this]
  have d : rfErr ⟨a1, a2, a3, a4, a5, a6, a7, a8, a9, a10, a11⟩ = 0 := by simpa using d
  have hws : (wordB a1).size ≤ 9 := by
    unfold wordB
    repeat' split
    all_goals decide
  obtain ⟨s1, s2, s3, s4, s5, n1, n2, n3, n4, n5, l1, l2, l3, t1, t2⟩ := hok
  simp only at s1 s2 s3 s4 s5 n1 n2 n3 n4 n5 l1 l2 l3 t1 t2
  have f1 := fieldB_size ⟨#[112, 97, 116, 104]⟩ a2
  have f2 := fieldB_size ⟨#[99, 108, 97, 115, 115]⟩ a3
  have f3 := fieldB_size ⟨#[102, 117, 110, 99]⟩ a4
  have f4 := fieldB_size ⟨#[110, 97, 109, 101]⟩ a5
  have f5 := fieldB_size ⟨#[116, 111]⟩ a6
  have f6 := fieldB_size ⟨#[110, 111, 100, 101]⟩ (numB a7)
  have f7 := fieldB_size ⟨#[112, 111, 115]⟩ (numB a8)
  have k1 : (⟨#[112, 97, 116, 104]⟩ : ByteArray).size = 4 := rfl
  have k2 : (⟨#[99, 108, 97, 115, 115]⟩ : ByteArray).size = 5 := rfl
  have k3 : (⟨#[102, 117, 110, 99]⟩ : ByteArray).size = 4 := rfl
  have k4 : (⟨#[110, 97, 109, 101]⟩ : ByteArray).size = 4 := rfl
  have k5 : (⟨#[116, 111]⟩ : ByteArray).size = 2 := rfl
  have k6 : (⟨#[110, 111, 100, 101]⟩ : ByteArray).size = 4 := rfl
  have k7 : (⟨#[112, 111, 115]⟩ : ByteArray).size = 3 := rfl
  have k8 : (⟨#[111, 114, 100, 101, 114]⟩ : ByteArray).size = 5 := rfl
  have k9 : (⟨#[116, 121, 112, 101, 115]⟩ : ByteArray).size = 5 := rfl
  have k10 : (⟨#[116, 101, 120, 116, 115]⟩ : ByteArray).size = 5 := rfl
  have z7 : (numB a7).size ≤ 21 := by unfold numB; split; exact Nat.zero_le _; exact itoaB_size _ n1 n2
  have z8 : (numB a8).size ≤ 21 := by unfold numB; split; exact Nat.zero_le _; exact itoaB_size _ n3 n4
  refine WriteString rfl rfl (id := 2) rfl rfl (by have : (⟨#[]⟩ : ByteArray).size = 0 := rfl; omega) ?_
  rw [nil_ba]
  simp -implicitDefEqProofs only [go_sem]
  refine PText (id := 2) rfl rfl (by omega) ?_
  simp -implicitDefEqProofs only [go_sem]
  refine PText (id := 2) rfl rfl (by simp only [ByteArray.size_append]; omega) ?_
  simp -implicitDefEqProofs only [go_sem]
  refine PText (id := 2) rfl rfl (by simp only [ByteArray.size_append]; omega) ?_
  simp -implicitDefEqProofs only [go_sem]
  refine PText (id := 2) rfl rfl (by simp only [ByteArray.size_append]; omega) ?_
  simp -implicitDefEqProofs only [go_sem]
  refine PText (id := 2) rfl rfl (by simp only [ByteArray.size_append]; omega) ?_
  simp -implicitDefEqProofs only [go_sem]
  refine PNum (id := 2) (jd := 3) rfl rfl rfl n1 n2 (by simp only [ByteArray.size_append]; omega) ?_
  simp -implicitDefEqProofs only [go_sem]
  refine PNum (id := 2) (jd := 3) rfl rfl rfl n3 n4 (by simp only [ByteArray.size_append]; omega) ?_
  simp -implicitDefEqProofs only [go_sem]
  refine fun _ => fun hl => ?_
  generalize hs8 : wordB a1 ++ fieldB ⟨#[112, 97, 116, 104]⟩ a2 ++ fieldB ⟨#[99, 108, 97, 115, 115]⟩ a3 ++ fieldB ⟨#[102, 117, 110, 99]⟩ a4 ++ fieldB ⟨#[110, 97, 109, 101]⟩ a5 ++ fieldB ⟨#[116, 111]⟩ a6 ++ fieldB ⟨#[110, 111, 100, 101]⟩ (numB a7) ++ fieldB ⟨#[112, 111, 115]⟩ (numB a8) = s8
  have z8 : s8.size ≤ 10000000 := by rw [← hs8]; simp only [ByteArray.size_append]; omega
  refine snd_list (β := Unit) a9 (fun pre _ => ⟨[(62, .int .i64 pre.length), (61, .int .i64 a9.length), (60, sl 3 (a9.map encI)), (10, .slice (.arr 0) 9 ((pre.map itoaB).map encS)), (1, .ptr 0 0), (7, .ptr 2 0), (8, .ptr 3 0)],
      [.cells (Rf.enc ⟨a1, a2, a3, a4, a5, a6, a7, a8, a9, a10, a11⟩), .dead, .builder 64 s8, .cells [.func 52 [.ptr 2 0]]], [pre.length]⟩)
    (fun _ _ _ => True) () ?_ trivial ?_ ?_
  · simp -implicitDefEqProofs only [go_sem]
    rfl
  · intro _ _
    simp -implicitDefEqProofs only [go_sem]
    have hv : restErr ⟨a1, a2, a3, a4, a5, a6, a7, a8, a9, a10, a11⟩ = 0 := by
      rw [he] at d
      split at d
      · cases d
      · exact d
    have hle : a9.length ≤ 16 ∧ a10.length ≤ 16 ∧ a11.length ≤ 16 := by
      unfold restErr at hv
      simp only at hv
      split at hv
      · cases hv
      split at hv
      · cases hv
      split at hv
      · cases hv
      omega
    have j9 := joinB_size 21 (a9.map itoaB) (by
      intro x hx
      obtain ⟨n, hn, rfl⟩ := List.mem_map.1 hx
      exact itoaB_size n (n5 n hn).1 (n5 n hn).2)
    have j10 := joinB_size 1000000 a10 t1
    have j11 := joinB_size 1000000 a11 t2
    rw [List.length_map] at j9
    have q9 := fieldB_size ⟨#[111, 114, 100, 101, 114]⟩ (joinB (a9.map itoaB))
    have q10 := fieldB_size ⟨#[116, 121, 112, 101, 115]⟩ (joinB a10)
    have q11 := fieldB_size ⟨#[116, 101, 120, 116, 115]⟩ (swapB 32 126 (joinB a11))
    rw [swapB_size] at q11
    have hlen : (a9.map itoaB).length = a9.length := by simp
    refine snd_draw (cs := [3]) mixed (by kernel_rfl) ?_
    simp -implicitDefEqProofs only [go_sem]
    refine vPC_of (Join (a9.map itoaB) (by omega) (by omega)) (by simp -implicitDefEqProofs only [go_sem]) ?_
    simp -implicitDefEqProofs only [go_sem]
    refine PText (id := 2) rfl rfl (by omega) ?_
    simp -implicitDefEqProofs only [go_sem]
    refine snd_draw (cs := [4]) mixed (by kernel_rfl) ?_
    simp -implicitDefEqProofs only [go_sem]
    refine vPC_of (Join a10 (by omega) (by omega)) (by simp -implicitDefEqProofs only [go_sem]) ?_
    simp -implicitDefEqProofs only [go_sem]
    refine PText (id := 2) rfl rfl (by simp only [ByteArray.size_append]; omega) ?_
    simp -implicitDefEqProofs only [go_sem]
    refine snd_draw (cs := [5]) mixed (by kernel_rfl) ?_
    simp -implicitDefEqProofs only [go_sem]
    refine vPC_of (Join a11 (by omega) (by omega)) (by simp -implicitDefEqProofs only [go_sem]) ?_
    simp -implicitDefEqProofs only [go_sem]
    refine vPC_of (ReplaceAll 32 126 (by decide) (joinB a11) (by omega)) rfl ?_
    simp -implicitDefEqProofs only [go_sem]
    refine PText (id := 2) rfl rfl (by rw [swapB_size]; simp only [ByteArray.size_append]; omega) ?_
    simp -implicitDefEqProofs only [go_sem]
    have hwz : (wordB a1).size ≠ 0 := fun h => hw (ba_ext (List.eq_nil_of_length_eq_zero (by rw [← size_list]; exact h)))
    have hz8 : s8.size ≠ 0 := by rw [← hs8]; simp only [ByteArray.size_append]; omega
    refine BString rfl rfl (id := 2) rfl (by simp only [ByteArray.size_append]; omega) (by simp only [ByteArray.size_append]; omega) ?_
    simp -implicitDefEqProofs only [go_sem]
    subst hs8
    simp only [printV, d, if_true, rfText, swapB_join 32 126 (by decide)]
  · rintro pre x post _ rfl _
    have hx := n5 x (by simp)
    clear he d
    simp -implicitDefEqProofs only [go_sem, encI]
    refine (Itoa x hx.1 hx.2 (by have := itoaB_size x hx.1 hx.2; omega)).calls rfl ?_
    simp -implicitDefEqProofs only [go_sem]
    exact ⟨by simp at l1; omega, (), wrap_next (by simp at hl; omega), rfl⟩
end Go.Proofs.YtellnbgljmocgaaGreatDoor
