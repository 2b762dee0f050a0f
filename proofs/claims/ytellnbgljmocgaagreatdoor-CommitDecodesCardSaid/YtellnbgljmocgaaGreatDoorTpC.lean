/- refactor.Parse. -/
import Derived.Test.YtellnbgljmocgaaGreatDoorTpB
import Derived.Test.YtellnbgljmocgaaGreatDoorTcJ
set_option linter.unusedVariables false
set_option linter.unusedSimpArgs false
set_option maxRecDepth 20000
namespace Go.Vg
open Go.Proofs.YtellnbgljmocgaaGreatDoor in
theorem swapZ (a b : UInt8) (s : ByteArray) : (swapB a b s).size = s.size := swapB_size a b s
def cutB (c : UInt8) (s : ByteArray) : ByteArray × ByteArray := (toB (cutL c (str s)).1, toB (cutL c (str s)).2)
/-- All fields set, if they may be. -/
def setAll : List ByteArray → Rf → Option Rf
  | [], r => some r
  | f :: l, r => if (setK r (cutB 61 f).1 (cutB 61 f).2).2 then setAll l (setK r (cutB 61 f).1 (cutB 61 f).2).1 else none
def kindRf (n : Int) : Rf := ⟨n, ⟨#[]⟩, ⟨#[]⟩, ⟨#[]⟩, ⟨#[]⟩, ⟨#[]⟩, 0, 0, [], [], []⟩
def spaces (s : ByteArray) : List ByteArray := (splitL 32 (str s)).map toB
def readRf (s : ByteArray) : Option Rf := match spaces s with
  | [] => none
  | w :: l => setAll l (kindRf (kindOf w))
def parseS (s : ByteArray) : Option Rf := match readRf s with
  | none => none
  | some r => if rfErr r = 0 ∧ rfText r = s then some r else none
theorem spaces_mem (v : ByteArray) : ∀ x ∈ spaces v, x.size ≤ v.size := by
  intro x hx
  obtain ⟨y, hy, rfl⟩ := List.mem_map.1 hx
  have := splitL_mem 32 (str v) y hy
  rw [size_list, size_list]
  exact this
theorem cut_sizes (c : UInt8) : ∀ l : List UInt8, (cutL c l).1.length ≤ l.length ∧ (cutL c l).2.length ≤ l.length
  | [] => by simp [cutL]
  | x :: r => by
    have := cut_sizes c r
    unfold cutL
    split <;> simp <;> omega
theorem cutB_size (c : UInt8) (s : ByteArray) : (cutB c s).1.size ≤ s.size ∧ (cutB c s).2.size ≤ s.size := by
  have := cut_sizes c (str s)
  unfold cutB
  rw [size_list, size_list, size_list]
  exact this
theorem atoiN_bounds (s : ByteArray) : -9223372036854775808 ≤ atoiN s ∧ atoiN s ≤ 9223372036854775807 := by
  unfold atoiN
  split
  · rename_i v h; exact Lib.atoiAll_bounds h
  · exact Lib.atoiSat_bounds _
  · decide
theorem kindRf_ok (n : Int) : (kindRf n).ok := ⟨Nat.zero_le _, Nat.zero_le _, Nat.zero_le _, Nat.zero_le _, Nat.zero_le _, by simp [kindRf], by simp [kindRf], by simp [kindRf], by simp [kindRf], by simp [kindRf], by simp [kindRf], by simp [kindRf], by simp [kindRf], by simp [kindRf], by simp [kindRf]⟩
theorem setK_ok {r : Rf} (h : r.ok) (k v : ByteArray) (hv : v.size ≤ 900000) : (setK r k v).1.ok := by
  have hc := commas_len v
  have hm := commas_mem v
  have hc2 := commas_len (swapB 126 32 v)
  have hm2 := commas_mem (swapB 126 32 v)
  have ha := atoiN_bounds v
  rw [swapZ] at hc2
  have hm2' : ∀ x ∈ commas (swapB 126 32 v), x.size ≤ 1000000 := fun x hx => by have := hm2 x hx; rw [swapZ] at this; omega
  have hm1' : ∀ x ∈ commas v, x.size ≤ 1000000 := fun x hx => by have := hm x hx; omega
  obtain ⟨s1, s2, s3, s4, s5, n1, n2, n3, n4, n5, l1, l2, l3, t1, t2⟩ := h
  unfold setK
  repeat' split
  all_goals (refine ⟨?_, ?_, ?_, ?_, ?_, ?_, ?_, ?_, ?_, ?_, ?_, ?_, ?_, ?_, ?_⟩ <;> first | assumption | (simp only; omega) | exact ha.1 | exact ha.2 | skip)
  · intro n hn
    obtain ⟨x, _, rfl⟩ := List.mem_map.1 hn
    exact atoiN_bounds x
  · simp only [List.length_map]; omega
theorem setAll_ok : ∀ (l : List ByteArray) (r r' : Rf), r.ok → (∀ x ∈ l, x.size ≤ 900000) → setAll l r = some r' → r'.ok
  | [], r, r', h, _, he => by cases he; exact h
  | f :: l, r, r', h, hl, he => by
    have hf := hl f (by simp)
    have hc := cutB_size 61 f
    unfold setAll at he
    split at he
    · exact setAll_ok l _ r' (setK_ok h _ _ (by omega)) (fun x hx => hl x (by simp [hx])) he
    · cases he
theorem spaces_cons (s : ByteArray) : ∃ w l, spaces s = w :: l := by
  have h := splitL_ne 32 (str s)
  unfold spaces
  cases hs : splitL 32 (str s) with
  | nil => exact absurd hs h
  | cons w l => exact ⟨toB w, l.map toB, rfl⟩
end Go.Vg
namespace Go.Proofs.YtellnbgljmocgaaGreatDoor
open Go Go.Vg Go.Proofs
theorem Rparse (s : ByteArray) (hs : s.size ≤ 900000) : VPure env 40 [.str s] (parseV (parseS s)) := by
  refine vpure_snd (fn := Tryz.f40) Tryz.func40 rfl (by rw [Tryz.ntmps40]; simp) rfl (by unfold parseV; split <;> simp -implicitDefEqProofs only [go_sem, Rf.enc, noRf]) ?_
  simp only [Tryz.f40]
  refine vc_snd _ _ _ ?_
  simp -implicitDefEqProofs only [go_sem]
  refine (Split s 32 (by omega)).calls rfl ?_
  have hm := spaces_mem s
  obtain ⟨w, l, hwl⟩ := spaces_cons s
  have hl0 : l.length ≤ 1000000 := by
    have := splitL_len 32 (str s)
    have h2 := congrArg List.length hwl
    rw [spaces, List.length_map] at h2
    have h3 : (str s).length = s.size := by rw [size_list]; rfl
    simp at h2
    omega
  rw [show List.map toB (splitL 32 (str s)) = w :: l from hwl]
  rw [hwl] at hm
  simp -implicitDefEqProofs only [go_sem, encS]
  refine ⟨by omega, ?_⟩
  refine (RNumber w).calls rfl ?_
  simp -implicitDefEqProofs only [go_sem, encS]
  have htake : List.drop 1 (List.take (↑(l.length + 1) : Int).toNat ([V.str w] :: List.map encS l)) = l.map encS := by
    rw [Int.toNat_natCast, List.take_of_length_le (by simp)]
    rfl
  rw [htake, List.length_map]
  refine ⟨⟨by omega, by omega⟩, fun hl1 hl2 => ?_⟩
  refine snd_list (β := Rf) l (fun pre r => ⟨[(23, .int .i64 pre.length), (22, .int .i64 l.length), (21, sl 9 (l.map encS)), (5, .ptr 1 0), (3, .int .i64 0), (2, .ptr 0 0), (0, .str s)], [.cells zeroRf, .cells r.enc], []⟩)
    (fun pre post r => setAll l (kindRf (kindOf w)) = setAll post r ∧ r.ok) (kindRf (kindOf w)) ?_ ⟨rfl, kindRf_ok _⟩ ?_ ?_
  · simp -implicitDefEqProofs only [go_sem, zeroRf, Rf.enc, kindRf]
    rfl
  · rintro r ⟨hset, hok⟩
    have hr : readRf s = some r := by rw [readRf, hwl]; exact hset
    simp -implicitDefEqProofs only [go_sem, zeroRf]
    refine (Rprint r hok).calls (by simp -implicitDefEqProofs only [go_sem, Rf.enc]) ?_
    unfold printV
    simp -implicitDefEqProofs only [go_sem, zeroRf]
    have hp : parseS s = if rfErr r = 0 ∧ rfText r = s then some r else none := by rw [parseS, hr]
    refine ⟨fun c => ⟨fun d => ?_, fun d => ?_⟩, fun c => ?_⟩
    · have c : rfErr r = 0 := by simpa using c
      rw [if_pos c] at d
      have d : rfText r ≠ s := by simpa using d
      rw [hp, if_neg (fun h => d h.2)]
      rfl
    · have c : rfErr r = 0 := by simpa using c
      rw [if_pos c] at d
      have d : rfText r = s := by simpa using d
      rw [hp, if_pos ⟨c, d⟩]
      rfl
    · have c : rfErr r ≠ 0 := by simpa using c
      rw [hp, if_neg (fun h => c h.1)]
      rfl
  · rintro pre x post r hx ⟨hset, hok⟩
    have hxs := hm x (by rw [hx]; simp)
    have hcz := cutB_size 61 x
    have hx2 : l.length = pre.length + 1 + post.length := by rw [hx]; simp; omega
    simp -implicitDefEqProofs only [go_sem, zeroRf, hx, encS]
    obtain ⟨b, hc⟩ := Cut x 61 (by omega)
    refine hc.calls rfl ?_
    simp -implicitDefEqProofs only [go_sem, zeroRf]
    refine SetC (D := fun _ _ => False) (r := r) (key := (cutB 61 x).1) (v := (cutB 61 x).2) (by omega) fun z a' => ?_
    rw [setAll] at hset
    have hok' := setK_ok hok (cutB 61 x).1 (cutB 61 x).2 (by omega)
    generalize setK r (cutB 61 x).1 (cutB 61 x).2 = q at hset hok' ⊢
    obtain ⟨q1, q2⟩ := q
    simp -implicitDefEqProofs only [go_sem, zeroRf]
    refine ⟨fun c => ?_, fun c => ?_⟩
    · have c : q2 = false := by simpa using c
      subst c
      have hp : parseS s = none := by
        have hr : readRf s = none := by rw [readRf, hwl]; exact hset
        rw [parseS, hr]
      rw [hp]
      rfl
    · have c : q2 = true := by simpa using c
      subst c
      rw [hx] at hset
      exact ⟨q1, ⟨hset, hok'⟩, Go.Vg.wrap_small (by omega) (by omega), by rw [tellL_same]; trivial⟩
end Go.Proofs.YtellnbgljmocgaaGreatDoor
