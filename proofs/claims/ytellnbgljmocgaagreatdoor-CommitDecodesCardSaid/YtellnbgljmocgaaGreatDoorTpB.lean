/- Reading a refactoring: its word and its fields. -/
import Derived.Test.YtellnbgljmocgaaGreatDoorTcI
import Derived.Lib.SplitLaws
import Derived.Lib.CutLaws
import Derived.Test.YtellnbgljmocgaaGreatDoorVgV
set_option linter.unusedVariables false
set_option linter.unusedSimpArgs false
set_option maxRecDepth 20000
namespace Go.Vg
open Go Go.Lib
/-- The parts of a text between a byte. -/
def splitL (c : UInt8) : List UInt8 → List (List UInt8)
  | [] => [[]]
  | x :: r => if x = c then [] :: splitL c r else match splitL c r with
    | h :: t => (x :: h) :: t
    | [] => [[x]]
theorem splitL_ne (c : UInt8) : ∀ l, splitL c l ≠ []
  | [] => by simp [splitL]
  | x :: r => by
    unfold splitL
    split
    · simp
    · split <;> simp
theorem index_same (c : UInt8) (l : List UInt8) : index (c :: l) [c] = 0 := by rw [index]; simp [List.isPrefixOf]
theorem index_other {b c : UInt8} (l : List UInt8) (h : b ≠ c) : index (b :: l) [c] = if index l [c] == -1 then -1 else index l [c] + 1 := by
  have hp : ([c] : List UInt8).isPrefixOf (b :: l) = false := by simp [List.isPrefixOf, Ne.symm h]
  rw [index, hp]; simp
theorem split_L (c : UInt8) : ∀ l : List UInt8, splitK [c] 0 (count l [c]) l = splitL c l
  | [] => by rw [count_miss (by simp [index])]; rfl
  | x :: r => by
    by_cases h : x = c
    · subst h
      rw [count_cons_eq, Nat.add_comm, splitK, index_same]
      simp only [splitL, if_true]
      rw [if_neg (by decide)]
      simp only [Int.toNat_zero, Nat.add_zero, List.take_zero, List.length_cons, List.length_nil, List.drop_succ_cons, Nat.zero_add, List.drop_zero]
      rw [split_L x r]
    · rw [Go.Lib.count_cons_ne x c r (by first | exact h | exact fun e => h e.symm)]
      have ih := split_L c r
      rw [splitL, if_neg h, ← ih]
      cases hk : count r [c] with
      | zero => simp only [splitK]
      | succ k =>
        simp only [splitK]
        rw [index_other r h]
        by_cases hm : index r [c] = -1
        · rw [hm]; simp
        · have hge := index_ge r [c]
          obtain ⟨j, hj⟩ : ∃ j : Nat, index r [c] = j := ⟨(index r [c]).toNat, by omega⟩
          have hm' : (index r [c] == -1) = false := by simpa using hm
          rw [hm']
          have hm2 : ((if false = true then (-1 : Int) else index r [c] + 1) == -1) = false := by simp; omega
          simp only [Bool.false_eq_true, if_false] at hm2 ⊢
          rw [hm2]
          simp only [Bool.false_eq_true, if_false, Nat.add_zero]
          have e : (index r [c] + 1).toNat = (index r [c]).toNat + 1 := by omega
          rw [e]
          simp [List.take_succ_cons, List.drop_succ_cons, Nat.add_right_comm]
theorem split_B (c : UInt8) (s : ByteArray) : splitB ⟨#[c]⟩ 0 (countB s ⟨#[c]⟩) s = (splitL c (str s)).map toB := by
  have h := splitB_data ⟨#[c]⟩ 0 (countB s ⟨#[c]⟩) s
  have e : splitK (⟨#[c]⟩ : ByteArray).data.toList 0 (countB s ⟨#[c]⟩) s.data.toList = splitL c (str s) := split_L c (str s)
  rw [e] at h
  rw [← h, List.map_map]
  conv => lhs; rw [← List.map_id (splitB ⟨#[c]⟩ 0 (countB s ⟨#[c]⟩) s)]
  refine List.map_congr_left fun x _ => ?_
  exact (toB_of x).symm
theorem splitL_len (c : UInt8) : ∀ l, (splitL c l).length ≤ l.length + 1
  | [] => by simp [splitL]
  | x :: r => by
    have ih := splitL_len c r
    unfold splitL
    split
    · simp; omega
    · split
      · rename_i h; rw [h] at ih; simp at ih ⊢; omega
      · simp
theorem splitL_mem (c : UInt8) : ∀ l, ∀ x ∈ splitL c l, x.length ≤ l.length
  | [], x, hx => by simp [splitL] at hx; subst hx; simp
  | y :: r, x, hx => by
    have ih := splitL_mem c r
    unfold splitL at hx
    split at hx
    · rcases List.mem_cons.1 hx with rfl | hx
      · simp
      · have := ih x hx; simp; omega
    · split at hx
      · rename_i h t he
        rw [he] at ih
        rcases List.mem_cons.1 hx with rfl | hx
        · have := ih h (by simp); simp; omega
        · have := ih x (by simp [hx]); simp; omega
      · simp at hx; subst hx; simp
/-- A text cut at the first of a byte. -/
def cutL (c : UInt8) : List UInt8 → List UInt8 × List UInt8
  | [] => ([], [])
  | x :: r => if x = c then ([], r) else (x :: (cutL c r).1, (cutL c r).2)
theorem cut_L (c : UInt8) : ∀ l : List UInt8, (Lib.cut l [c]).1 = (cutL c l).1 ∧ (Lib.cut l [c]).2.1 = (cutL c l).2
  | [] => by simp [Lib.cut, index, cutL]
  | x :: r => by
    by_cases h : x = c
    · subst h
      simp [Lib.cut, index_same, cutL]
    · have ih := cut_L c r
      unfold Lib.cut at ih ⊢
      rw [index_other r h]
      have hge := index_ge r [c]
      by_cases hm : index r [c] = -1
      · simp [hm] at ih ⊢
        simp [cutL, h, ← ih.1, ← ih.2]
      · have hm' : (index r [c] == -1) = false := by simpa using hm
        have h0 : 0 ≤ index r [c] := by omega
        rw [hm']
        simp only [Bool.false_eq_true, if_false]
        rw [if_pos h0] at ih
        rw [if_pos (by omega : (0 : Int) ≤ index r [c] + 1)]
        have e : (index r [c] + 1).toNat = (index r [c]).toNat + 1 := by omega
        simp only [e, cutL, h, if_false, ← ih.1, ← ih.2, List.take_succ_cons, true_and]
        simp [Nat.add_right_comm]
end Go.Vg
namespace Go.Proofs.YtellnbgljmocgaaGreatDoor
open Go Go.Vg Go.Proofs
theorem Cut (s : ByteArray) (c : UInt8) (hs : s.size ≤ 1000000000) : ∃ b : Bool, VPure env 63 [.str s, .str ⟨#[c]⟩] (.tuple [.str (toB (cutL c (str s)).1), .str (toB (cutL c (str s)).2), .bool b]) := by
  have hc := cut_L c (str s)
  have hl1 : (cutL c (str s)).1.length ≤ s.size ∧ (cutL c (str s)).2.length ≤ s.size := by
    have : ∀ l : List UInt8, (cutL c l).1.length ≤ l.length ∧ (cutL c l).2.length ≤ l.length := by
      intro l
      induction l with
      | nil => simp [cutL]
      | cons x r ih =>
        unfold cutL
        split
        · simp
        · simp; omega
    have := this (str s)
    rw [size_list]
    exact this
  refine ⟨(Lib.cut (str s) [c]).2.2, ?_⟩
  refine vpure_shelf2 rfl rfl fun G w0 w vals hr ha => ?_
  obtain ⟨v, vs, rfl, hv, ha⟩ := ha.cons
  obtain ⟨v2, vs, rfl, hv2, ha⟩ := ha.cons
  rw [ha.nil]
  cases hv; cases hv2
  obtain ⟨m, hm⟩ := maxLen hr.iniW
  refine (Tryz.strings_Cut s ⟨#[c]⟩ m w (by omega) hm).mono fun e w' ⟨he, n, hw⟩ => ⟨⟨_, he, fun G arr => ?_⟩, ?_⟩
  · refine .tuple _ _ rfl fun j x u hx hu => ?_
    rcases j with _ | _ | _ | j
    · simp at hx hu; subst hx; subst hu
      rw [show (Lib.cut s.data.toList [c]).1 = (cutL c (str s)).1 from hc.1]
      exact .str _ (by rw [toB_size]; omega)
    · simp at hx hu; subst hx; subst hu
      rw [show (Lib.cut s.data.toList [c]).2.1 = (cutL c (str s)).2 from hc.2]
      exact .str _ (by rw [toB_size]; omega)
    · simp at hx hu; subst hx; subst hu; exact .bool _
    · simp at hx
  · subst hw
    exact ⟨rfl, rfl, rfl, Nat.le_refl _, fun _ _ => rfl⟩
theorem Split (s : ByteArray) (c : UInt8) (hs : s.size ≤ 1000000000) : VPure env 61 [.str s, .str ⟨#[c]⟩] (sl 9 (((splitL c (str s)).map toB).map encS)) := by
  refine ⟨rfl, by simp -implicitDefEqProofs only [go_sem], ?_⟩
  intro G w0 w vals hr ha
  obtain ⟨v, vs, rfl, hv, ha⟩ := ha.cons
  obtain ⟨v2, vs, rfl, hv2, ha⟩ := ha.cons
  rw [ha.nil]
  cases hv; cases hv2
  obtain ⟨m, hm⟩ := maxLen hr.iniW
  refine (Tryz.strings_Split s ⟨#[c]⟩ m w (by omega) hm (by show 1 ≤ 1; omega)).mono fun e w' ⟨he, hw⟩ => ?_
  subst he; subst hw
  have hall := Lib.splitB_all ⟨#[c]⟩ (by show 1 ≤ 1; omega) 0 _ s rfl
  rw [split_B] at hall ⊢
  have h1 : ∀ (j : Nat) v, ((((splitL c (str s)).map toB).map Value.string).toArray)[j]? = some v → v.oneCell' = true := by
    intro j v hj
    simp at hj
    obtain ⟨a, _, rfl⟩ := hj
    rfl
  refine .inl ⟨_, rfl, sl 9 (((splitL c (str s)).map toB).map encS), [], [], _, rfl, hr.extF _, hr.allocF _ _ h1, ?_⟩
  have hn : (((splitL c (str s)).map toB).map encS).length = Lib.countB s ⟨#[c]⟩ + 1 := by rw [List.length_map]; exact hall
  have hle : (((splitL c (str s)).map toB).map encS).length ≤ 1000000001 := by
    have := splitL_len c (str s)
    have hz : (str s).length = s.size := size_list.symm
    simp only [List.length_map]
    omega
  rw [← hn]
  have b16 : env.alive.P.bytesOf 9 = 16 := by
    show Tryz.prog.bytesOf 9 = 16
    kernel_rfl
  refine RV.sl (RV.ofCells (o := .shared) trivial (fun i el hi => ?_) ?_ ?_ (Nat.le_refl _) fun i el j x hi hj => ?_)
  · rw [List.getElem?_map] at hi
    obtain ⟨a, _, rfl⟩ := Option.map_eq_some_iff.1 hi
    exact cells9.symm
  · rw [b16]; omega
  · rw [b16]; omega
  · rw [List.getElem?_map] at hi
    obtain ⟨a, ha, rfl⟩ := Option.map_eq_some_iff.1 hi
    rcases j with _ | j
    rotate_left
    · simp [encS] at hj
    · simp [encS] at hj
      subst hj
      refine ⟨.string a, ?_, .str _ ?_⟩
      · have hc1 : env.alive.P.cellsOf 9 = 1 := cells9
        rw [hc1]
        simp only [Gh.freezeNew, Nat.zero_add, Nat.mul_one, Nat.add_zero, if_true]
        rw [List.getElem?_toArray, List.getElem?_map, ha]
        rfl
      · have hm : a ∈ (splitL c (str s)).map toB := List.mem_of_getElem? ha
        obtain ⟨l, hl, rfl⟩ := List.mem_map.1 hm
        have := splitL_mem c (str s) l hl
        have hz : (str s).length = s.size := size_list.symm
        rw [toB_size]
        omega
end Go.Proofs.YtellnbgljmocgaaGreatDoor
set_option linter.unusedVariables false
set_option linter.unusedSimpArgs false
set_option maxRecDepth 20000
namespace Go.Vg
def kindOf (w : ByteArray) : Int := if w = ⟨#[114, 101, 110, 97, 109, 101]⟩ then 1 else if w = ⟨#[114, 101, 108, 111, 99, 97, 116, 101]⟩ then 2 else if w = ⟨#[105, 110, 108, 105, 110, 101]⟩ then 3 else if w = ⟨#[101, 120, 116, 114, 97, 99, 116]⟩ then 4 else if w = ⟨#[115, 105, 103, 110, 97, 116, 117, 114, 101]⟩ then 5 else 0
theorem kindOf_word {n : Int} (h0 : 1 ≤ n) (h1 : n ≤ 5) : kindOf (wordB n) = n := by
  have : n = 1 ∨ n = 2 ∨ n = 3 ∨ n = 4 ∨ n = 5 := by omega
  rcases this with rfl | rfl | rfl | rfl | rfl <;> rfl
theorem kindOf_none {w : ByteArray} (h : ∀ k : Int, 1 ≤ k → k < 6 → wordB k ≠ w) : kindOf w = 0 := by
  have h1 := h 1 (by decide) (by decide)
  have h2 := h 2 (by decide) (by decide)
  have h3 := h 3 (by decide) (by decide)
  have h4 := h 4 (by decide) (by decide)
  have h5 := h 5 (by decide) (by decide)
  unfold kindOf
  rw [if_neg (fun e => h1 e.symm), if_neg (fun e => h2 e.symm), if_neg (fun e => h3 e.symm), if_neg (fun e => h4 e.symm), if_neg (fun e => h5 e.symm)]
end Go.Vg
namespace Go.Proofs.YtellnbgljmocgaaGreatDoor
open Go Go.Vg Go.Proofs
theorem RNumber (w : ByteArray) : VPure env 62 [.str w] (.int .i64 (kindOf w)) := by
  refine vpure_snd (fn := Tryz.f62) Tryz.func62 rfl (by rw [Tryz.ntmps62]; simp) rfl rfl ?_
  simp only [Tryz.f62]
  refine vc_snd _ _ _ ?_
  simp -implicitDefEqProofs only [go_sem]
  refine snd_for (α := Int) (fun n => ⟨[(3, .int .i64 n), (0, .str w)], [], []⟩) (fun n => 1 ≤ n ∧ n ≤ 6 ∧ ∀ k : Int, 1 ≤ k → k < n → wordB k ≠ w) (fun n => (6 - n).toNat) 1 ?_ ⟨by decide, by decide, fun k h0 h1 => by omega⟩ ?_
  · simp -implicitDefEqProofs only [go_sem]
  · rintro n ⟨h0, h1, hk⟩
    simp -implicitDefEqProofs only [go_sem]
    refine ⟨fun c => ?_, fun c => ?_⟩
    · refine (Rfind n).calls rfl ?_
      simp -implicitDefEqProofs only [go_sem]
      refine ⟨fun d => ?_, fun d => ?_⟩
      · subst d
        rw [kindOf_word h0 c]
      · refine ⟨n + 1, by omega, ⟨by omega, by omega, fun k g0 g1 => ?_⟩, ?_⟩
        · by_cases e : k = n
          · subst e; exact d
          · exact hk k g0 (by omega)
        · rw [Go.Vg.wrap_small (by omega) (by omega)]
    · have : n = 6 := by omega
      subst this
      rw [kindOf_none hk]
theorem Set1 {D : List VObj → List Nat → Prop} {h : List VObj} {a : List Nat} {id : Nat} {s : ByteArray} {b : Bool} {K : Cont} (hs : s.size ≤ 1000000000) (hh : h[id]? = some (.cells [.bool b]))
    (hK : K (.int .i64 (match Lib.atoiAll (str s) with | .ok v => v | .range => Lib.atoiSat (str s) | _ => 0)) (h.set id (.cells [.bool (b && match Lib.atoiAll (str s) with | .ok _ => true | _ => false)])) a) :
    VCalls (envD D) 103 [.str s, .ptr id 0] h a K := by
  refine vcalls_snd (fn := Tryz.f103) Tryz.func103 rfl (by rw [Tryz.ntmps103]; simp) ?_
  simp only [Tryz.f103]
  refine vc_snd _ _ _ ?_
  simp -implicitDefEqProofs only [go_sem, hh]
  refine (VPure.toD (Atoi s hs)).calls rfl ?_
  unfold atoiV
  rcases hat : Lib.atoiAll (str s) with v | _ | _
  · rw [hat] at hK
    simp -implicitDefEqProofs only [go_sem, hh]
    cases b <;> simp_all
  · rw [hat] at hK
    simp -implicitDefEqProofs only [go_sem, hh]
    cases b <;> simp_all
  · rw [hat] at hK
    simp -implicitDefEqProofs only [go_sem, hh]
    cases b <;> simp_all
end Go.Proofs.YtellnbgljmocgaaGreatDoor
namespace Go.Vg
def atoiN (s : ByteArray) : Int := match Lib.atoiAll (str s) with | .ok v => v | .range => Lib.atoiSat (str s) | _ => 0
def atoiOk (s : ByteArray) : Bool := match Lib.atoiAll (str s) with | .ok _ => true | _ => false
def commas (s : ByteArray) : List ByteArray := (splitL 44 (str s)).map toB
theorem commas_len (v : ByteArray) : (commas v).length ≤ v.size + 1 := by
  unfold commas
  rw [List.length_map, size_list]
  exact splitL_len 44 (str v)
theorem commas_mem (v : ByteArray) : ∀ x ∈ commas v, x.size ≤ v.size := by
  intro x hx
  obtain ⟨y, hy, rfl⟩ := List.mem_map.1 hx
  have := splitL_mem 44 (str v) y hy
  rw [size_list, size_list]
  exact this
/-- A field's value set, and whether that may be. -/
def setK (r : Rf) (key v : ByteArray) : Rf × Bool :=
  if key = ⟨#[112, 97, 116, 104]⟩ then ({ r with path := v }, true)
  else if key = ⟨#[99, 108, 97, 115, 115]⟩ then ({ r with cls := v }, true)
  else if key = ⟨#[102, 117, 110, 99]⟩ then ({ r with fn := v }, true)
  else if key = ⟨#[110, 97, 109, 101]⟩ then ({ r with name := v }, true)
  else if key = ⟨#[116, 111]⟩ then ({ r with new := v }, true)
  else if key = ⟨#[110, 111, 100, 101]⟩ then ({ r with node := atoiN v }, atoiOk v)
  else if key = ⟨#[112, 111, 115]⟩ then ({ r with pos := atoiN v }, atoiOk v)
  else if key = ⟨#[111, 114, 100, 101, 114]⟩ then ({ r with order := (commas v).map atoiN }, (commas v).all atoiOk)
  else if key = ⟨#[116, 121, 112, 101, 115]⟩ then ({ r with types := commas v }, true)
  else if key = ⟨#[116, 101, 120, 116, 115]⟩ then ({ r with texts := commas (swapB 126 32 v) }, true)
  else (r, false)
theorem setK_path {r : Rf} {v : ByteArray} : setK r ⟨#[112, 97, 116, 104]⟩ v = ({ r with path := v }, true) := rfl
theorem setK_class {r : Rf} {v : ByteArray} : setK r ⟨#[99, 108, 97, 115, 115]⟩ v = ({ r with cls := v }, true) := rfl
theorem setK_func {r : Rf} {v : ByteArray} : setK r ⟨#[102, 117, 110, 99]⟩ v = ({ r with fn := v }, true) := rfl
theorem setK_name {r : Rf} {v : ByteArray} : setK r ⟨#[110, 97, 109, 101]⟩ v = ({ r with name := v }, true) := rfl
theorem setK_to {r : Rf} {v : ByteArray} : setK r ⟨#[116, 111]⟩ v = ({ r with new := v }, true) := rfl
theorem setK_node {r : Rf} {v : ByteArray} : setK r ⟨#[110, 111, 100, 101]⟩ v = ({ r with node := atoiN v }, atoiOk v) := rfl
theorem setK_pos {r : Rf} {v : ByteArray} : setK r ⟨#[112, 111, 115]⟩ v = ({ r with pos := atoiN v }, atoiOk v) := rfl
theorem setK_order {r : Rf} {v : ByteArray} : setK r ⟨#[111, 114, 100, 101, 114]⟩ v = ({ r with order := (commas v).map atoiN }, (commas v).all atoiOk) := rfl
theorem setK_types {r : Rf} {v : ByteArray} : setK r ⟨#[116, 121, 112, 101, 115]⟩ v = ({ r with types := commas v }, true) := rfl
theorem setK_texts {r : Rf} {v : ByteArray} : setK r ⟨#[116, 101, 120, 116, 115]⟩ v = ({ r with texts := commas (swapB 126 32 v) }, true) := rfl
def zeroRf : List V := [.int .i64 0, .str ⟨#[]⟩, .str ⟨#[]⟩, .str ⟨#[]⟩, .str ⟨#[]⟩, .str ⟨#[]⟩, .int .i64 0, .int .i64 0, .slice .nil 0 [], .slice .nil 0 [], .slice .nil 0 []]
end Go.Vg
namespace Go.Proofs.YtellnbgljmocgaaGreatDoor
open Go Go.Vg Go.Proofs
def wkSet : Wk := .one 0 (.one 1 (.one 2 (.one 3 (.one 5 (.one 6 (.br 4 (.one 7 (.one 8 (.one 9 (.one 10 (.one 11 (.one 12 .stop)))))) (.br 7 (.one 4 (.one 8 (.one 9 (.one 10 (.one 11 (.one 12 .stop)))))) .stop)))))))
theorem SetC {D : List VObj → List Nat → Prop} {r : Rf} {key v : ByteArray} {K : Cont} (hv : v.size ≤ 1000000)
    (hK : ∀ z a', K (.bool (setK r key v).2) (.cells zeroRf :: .cells (setK r key v).1.enc :: z) a') : VCalls (envD D) 64 [.ptr 1 0, .str key, .str v] [.cells zeroRf, .cells r.enc] [] K := by
  refine vcalls_snd (fn := Tryz.f64) Tryz.func64 rfl (by rw [Tryz.ntmps64]; simp) ?_
  simp only [Tryz.f64]
  obtain ⟨r1, r2, r3, r4, r5, r6, r7, r8, r9, r10, r11⟩ := r
  refine snd_cut ⟨[(0, .ptr 1 0), (1, .str key), (2, .str v)], [.cells zeroRf, .cells (Rf.enc ⟨r1, r2, r3, r4, r5, r6, r7, r8, r9, r10, r11⟩)], []⟩ (by simp -implicitDefEqProofs only [go_sem, zeroRf]) ?_
  refine snd_cut ⟨[(7, .ptr 2 0), (0, .ptr 1 0), (1, .str key), (2, .str v)], [.cells zeroRf, .cells (Rf.enc ⟨r1, r2, r3, r4, r5, r6, r7, r8, r9, r10, r11⟩), .cells [.bool true]], []⟩ (by simp -implicitDefEqProofs only [go_sem, zeroRf]) ?_
  refine snd_cut ⟨[(8, .func 103 [.ptr 2 0]), (7, .ptr 2 0), (0, .ptr 1 0), (1, .str key), (2, .str v)], [.cells zeroRf, .cells (Rf.enc ⟨r1, r2, r3, r4, r5, r6, r7, r8, r9, r10, r11⟩), .cells [.bool true]], []⟩ (by simp -implicitDefEqProofs only [go_sem, zeroRf]) ?_
  refine snd_cut ⟨[(7, .ptr 2 0)], [.cells zeroRf, .cells (setK ⟨r1, r2, r3, r4, r5, r6, r7, r8, r9, r10, r11⟩ key v).1.enc, .cells [.bool (setK ⟨r1, r2, r3, r4, r5, r6, r7, r8, r9, r10, r11⟩ key v).2]], []⟩ ?_ ?_
  · simp -implicitDefEqProofs only [go_sem, zeroRf]
    refine ⟨fun k1 => ?_, fun k1 => ⟨fun k2 => ?_, fun k2 => ⟨fun k3 => ?_, fun k3 => ⟨fun k4 => ?_, fun k4 => ⟨fun k5 => ?_, fun k5 => ?_⟩⟩⟩⟩⟩
    · subst k1
      rw [setK_path]
      simp -implicitDefEqProofs only [go_sem, zeroRf]
    · subst k2
      rw [setK_class]
      simp -implicitDefEqProofs only [go_sem, zeroRf]
    · subst k3
      rw [setK_func]
      simp -implicitDefEqProofs only [go_sem, zeroRf]
    · subst k4
      rw [setK_name]
      simp -implicitDefEqProofs only [go_sem, zeroRf]
    · subst k5
      rw [setK_to]
      simp -implicitDefEqProofs only [go_sem, zeroRf]
    refine ⟨fun k6 => ?_, fun k6 => ⟨fun k7 => ?_, fun k7 => ⟨fun k8 => ?_, fun k8 => ⟨fun k9 => ?_, fun k9 => ⟨fun k10 => ?_, fun k10 => ?_⟩⟩⟩⟩⟩
    · subst k6
      rw [setK_node]
      refine Set1 (b := true) (by omega) rfl ?_
      simp -implicitDefEqProofs only [go_sem, zeroRf, Rf.enc, atoiN, atoiOk]
    · subst k7
      rw [setK_pos]
      refine Set1 (b := true) (by omega) rfl ?_
      simp -implicitDefEqProofs only [go_sem, zeroRf, Rf.enc, atoiN, atoiOk]
    · subst k8
      rw [setK_order]
      refine (VPure.toD (Split v 44 (by omega))).calls rfl ?_
      have hxl : (commas v).length ≤ v.size + 1 := commas_len v
      have hxm : ∀ x ∈ commas v, x.size ≤ v.size := commas_mem v
      rw [show List.map toB (splitL 44 (str v)) = commas v from rfl]
      generalize commas v = xs at hxl hxm ⊢
      simp -implicitDefEqProofs only [go_sem, zeroRf, encS]
      intro hl1 hl2
      refine snd_list (β := Unit) xs (fun pre _ => ⟨[(67, .int .i64 pre.length), (66, .int .i64 xs.length), (65, sl 9 (xs.map encS)), (8, .func 103 [.ptr 2 0]), (7, .ptr 2 0), (0, .ptr 1 0)],
        [.cells zeroRf, .cells [.int .i64 r1, .str r2, .str r3, .str r4, .str r5, .str r6, .int .i64 r7, .int .i64 r8, .slice (.arr 0) 3 ((pre.map atoiN).map encI), sl 9 (r10.map encS), sl 9 (r11.map encS)], .cells [.bool (pre.all atoiOk)]], [pre.length]⟩) (fun _ _ _ => True) () ?_ trivial ?_ ?_
      · simp -implicitDefEqProofs only [go_sem, zeroRf]
        rfl
      · intro _ _
        simp -implicitDefEqProofs only [go_sem, zeroRf, Rf.enc]
      · intro pre x post _ hx _
        have hx1 := hxm x (by rw [hx]; simp)
        have hx2 : xs.length = pre.length + 1 + post.length := by rw [hx]; simp; omega
        simp -implicitDefEqProofs only [go_sem, zeroRf, hx, encS]
        refine snd_walk (cs := [7]) wkSet mixed (by kernel_rfl) ?_
        simp -implicitDefEqProofs only [go_sem, zeroRf, wkSet]
        refine ⟨?_, ?_⟩
        · refine Set1 (b := pre.all atoiOk) (by omega) rfl ?_
          simp -implicitDefEqProofs only [go_sem, zeroRf]
          exact ⟨by omega, (), Go.Vg.wrap_small (by omega) (by omega), rfl, by simp [atoiOk]⟩
        · refine Set1 (b := pre.all atoiOk) (by omega) rfl ?_
          simp -implicitDefEqProofs only [go_sem, zeroRf]
          exact ⟨by omega, (), Go.Vg.wrap_small (by omega) (by omega), rfl, by simp [atoiOk]⟩
    · subst k9
      rw [setK_types]
      refine (VPure.toD (Split v 44 (by omega))).calls rfl ?_
      simp -implicitDefEqProofs only [go_sem, zeroRf, encS, Rf.enc, commas]
    · subst k10
      rw [setK_texts]
      refine (VPure.toD (ReplaceAll 126 32 (by decide) v (by omega))).calls rfl ?_
      simp -implicitDefEqProofs only [go_sem, zeroRf]
      refine (VPure.toD (Split _ 44 (by rw [swapB_size]; omega))).calls rfl ?_
      simp -implicitDefEqProofs only [go_sem, zeroRf, encS, Rf.enc, commas]
    · have : setK ⟨r1, r2, r3, r4, r5, r6, r7, r8, r9, r10, r11⟩ key v = (⟨r1, r2, r3, r4, r5, r6, r7, r8, r9, r10, r11⟩, false) := by
        unfold setK
        rw [if_neg k1, if_neg k2, if_neg k3, if_neg k4, if_neg k5, if_neg k6, if_neg k7, if_neg k8, if_neg k9, if_neg k10]
      rw [this] at hK
      exact hK [_] []
  · refine vc_snd _ _ _ ?_
    simp -implicitDefEqProofs only [go_sem, zeroRf]
    exact hK [_] []
end Go.Proofs.YtellnbgljmocgaaGreatDoor
