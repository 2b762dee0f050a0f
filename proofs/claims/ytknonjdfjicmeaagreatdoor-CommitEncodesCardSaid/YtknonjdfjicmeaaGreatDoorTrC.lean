/- The reference's printing. -/
import Derived.Test.YtknonjdfjicmeaaGreatDoorTrB
set_option linter.unusedVariables false
set_option linter.unusedSimpArgs false
set_option maxRecDepth 20000
namespace Go.Vg
/-- A slice that was made without elements, and appended to. -/
def appS (e : TypeId) : List (List V) → V
  | [] => .slice .full e []
  | x :: r => .slice (.arr 0) e (x :: r)
theorem share_appS {e : TypeId} {es : List (List V)} : share (appS e es) = sl e es := by cases es <;> rfl
theorem strOf_one (c : UInt8) : strOf [(c.toNat : Int)] = toB [c] := by
  apply ba_ext
  simp [strOf, toB]
theorem swapB_snoc {a b y : UInt8} {q : List UInt8} : swapB a b (toB (q ++ [y])) = swapB a b (toB q) ++ toB [if y = a then b else y] := by
  apply ba_ext
  simp [swapB, toB]
theorem if_max {a b : Int} : (if a < b then b else a) = max a b := by rw [Int.max_def]; split <;> split <;> omega
def appA : List (List V) → List Nat
  | [] => []
  | x :: r => [(x :: r).length]
end Go.Vg
namespace Go.Proofs.YtknonjdfjicmeaaGreatDoor
open Go Go.Vg Go.Proofs
theorem R49word (k : Int) : VPure env 48 [.int .i64 k] (.str (wordB k)) := by
  refine vpure_vc (fn := Tryz.f48) Tryz.func48 rfl (by rw [Tryz.ntmps48]; simp) rfl rfl ?_
  simp -implicitDefEqProofs only [go_sem, Tryz.f48]
  refine ⟨fun c => by subst c; rfl, fun c1 => ⟨fun c => by subst c; rfl, fun c2 => ⟨fun c => by subst c; rfl, fun c3 => ⟨fun c => by subst c; rfl, fun c4 => ⟨fun c => by subst c; rfl, fun c5 => ?_⟩⟩⟩⟩⟩
  simp only [wordB, c1, c2, c3, c4, c5, if_false]
theorem R49field (k v : ByteArray) (hk : k.size ≤ 100) (hv : v.size ≤ 1000000000) : VPure env 52 [.str k, .str v] (.str (fieldB k v)) := by
  refine vpure_vc (fn := Tryz.f52) Tryz.func52 rfl (by rw [Tryz.ntmps52]; simp) rfl rfl ?_
  simp -implicitDefEqProofs only [go_sem, Tryz.f52]
  have e1 : (#[32] : Array UInt8).size = 1 := rfl
  have e2 : (#[61] : Array UInt8).size = 1 := rfl
  refine ⟨fun c => ?_, fun c => ⟨by omega, by omega, by omega, ?_⟩⟩
  · rw [fieldB, if_pos c]
  · rw [fieldB, if_neg c]
theorem R49number (n : Int) (h0 : -9223372036854775808 ≤ n) (h1 : n ≤ 9223372036854775807) : VPure env 53 [.int .i64 n] (.str (numB n)) := by
  refine vpure_vc (fn := Tryz.f53) Tryz.func53 rfl (by rw [Tryz.ntmps53]; simp) rfl rfl ?_
  simp -implicitDefEqProofs only [go_sem, Tryz.f53]
  refine ⟨fun c => ?_, fun c => ?_⟩
  · rw [numB, if_pos c]
  · refine (Itoa n h0 h1 (by have := itoaB_size n h0 h1; omega)).calls rfl ?_
    simp -implicitDefEqProofs only [go_sem]
    rw [numB, if_neg c]
theorem R49numbers (l : List Int) (hl : ∀ n ∈ l, -9223372036854775808 ≤ n ∧ n ≤ 9223372036854775807) (hn : l.length ≤ 1000) : VPure env 55 [sl 3 (l.map encI)] (sl 9 ((l.map itoaB).map encS)) := by
  refine vpure_vc (fn := Tryz.f55) Tryz.func55 rfl (by rw [Tryz.ntmps55]; simp) (by simp -implicitDefEqProofs only [go_sem]) (by simp -implicitDefEqProofs only [go_sem]) ?_
  simp -implicitDefEqProofs only [go_sem, Tryz.f55]
  refine snd_list (β := Unit) l (fun pre _ => ⟨[(4, .int .i64 pre.length), (3, appS 9 ((pre.map itoaB).map encS)), (0, sl 3 (l.map encI))], [], appA ((pre.map itoaB).map encS)⟩) (fun _ _ _ => True) () ?_ trivial ?_ ?_
  · simp -implicitDefEqProofs only [go_sem, appS, appA, List.map_nil]
    rfl
  · intro _ _
    simp -implicitDefEqProofs only [go_sem]
    refine fun _ _ => ?_
    rw [share_appS]
  · rintro pre x post _ rfl _
    have hl2 : ((pre.length : Int) < ((pre ++ x :: post).length : Int)) = True := mid_lt
    have hx := hl x (by simp)
    simp -implicitDefEqProofs only [go_sem, hl2, encI]
    refine fun _ h2 => (Itoa x hx.1 hx.2 (by have := itoaB_size x hx.1 hx.2; omega)).calls rfl ?_
    have hb : (pre.length + 1) * 16 ≤ 140737488355328 := by rw [List.length_append] at hn; omega
    rcases pre with _ | ⟨p, ps⟩
    · simp -implicitDefEqProofs only [go_sem, appS, appA, List.map_nil]
      exact ⟨by simp, (), rfl⟩
    · simp -implicitDefEqProofs only [go_sem, appS, appA, List.map_cons]
      exact ⟨by simpa using hb, (), wrap_next (by simp at h2; omega), rfl⟩
theorem R49join (l : List ByteArray) (hl : ∀ s ∈ l, s.size ≤ 1000000) (hn : l.length ≤ 1000) : VPure env 54 [sl 9 (l.map encS)] (.str (joinB l)) := by
  refine vpure_vc (fn := Tryz.f54) Tryz.func54 rfl (by rw [Tryz.ntmps54]; simp) (by simp -implicitDefEqProofs only [go_sem]) rfl ?_
  simp -implicitDefEqProofs only [go_sem, Tryz.f54]
  refine snd_list (β := Unit) l (fun pre _ => ⟨[(4, .int .i64 pre.length), (3, .str (joinB pre)), (0, sl 9 (l.map encS))], [], []⟩) (fun _ _ _ => True) () ?_ trivial ?_ ?_
  · simp -implicitDefEqProofs only [go_sem]
    exact ⟨rfl, rfl⟩
  · intro _ _
    simp -implicitDefEqProofs only [go_sem]
  · rintro pre x post _ rfl _
    have hl2 : ((pre.length : Int) < ((pre ++ x :: post).length : Int)) = True := mid_lt
    simp -implicitDefEqProofs only [go_sem, hl2, encS]
    have h1 := hl x (by simp)
    have h3 := joinB_size 1000000 pre (fun s hs => hl s (by simp [hs]))
    have h4 : pre.length ≤ 1000 := by rw [List.length_append] at hn; omega
    have h5 : (joinB pre).size ≤ 1000001000 := Nat.le_trans h3 (by omega)
    have e44 : (#[44] : Array UInt8).size = 1 := rfl
    refine fun _ h2 => ⟨fun c => ⟨by omega, by omega, (), wrap_next (mid_len' h2 (by decide)), ?_⟩, fun c => ⟨by omega, (), wrap_next (mid_len' h2 (by decide)), ?_⟩⟩
    · have : pre ≠ [] := by rintro rfl; simp at c
      rw [joinB_snoc, if_neg this]
    · have : pre = [] := List.eq_nil_of_length_eq_zero (by omega)
      subst this
      exact ba_ext (by rw [ba_append, joinB_snoc, if_pos rfl]; rfl)
theorem R49swap (l : List ByteArray) (a b : UInt8) (hl : ∀ s ∈ l, s.size ≤ 1000000) (hn : l.length ≤ 1000) : VPure env 56 [sl 9 (l.map encS), .int .u8 a.toNat, .int .u8 b.toNat] (sl 9 ((l.map (swapB a b)).map encS)) := by
  refine vpure_vc (fn := Tryz.f56) Tryz.func56 rfl (by rw [Tryz.ntmps56]; simp) (by simp -implicitDefEqProofs only [go_sem]) (by simp -implicitDefEqProofs only [go_sem]) ?_
  simp -implicitDefEqProofs only [go_sem, Tryz.f56]
  refine snd_list (β := Unit) l (fun pre _ => ⟨[(8, .int .i64 pre.length), (7, appS 9 ((pre.map (swapB a b)).map encS)), (0, sl 9 (l.map encS)), (1, .int .u8 a.toNat), (2, .int .u8 b.toNat)], [], appA ((pre.map (swapB a b)).map encS)⟩) (fun _ _ _ => True) () ?_ trivial ?_ ?_
  · simp -implicitDefEqProofs only [go_sem, appS, appA, List.map_nil]
    rfl
  · intro _ _
    simp -implicitDefEqProofs only [go_sem]
    refine fun _ _ => ?_
    rw [share_appS]
  · rintro pre x post _ rfl _
    have hl2 : ((pre.length : Int) < ((pre ++ x :: post).length : Int)) = True := mid_lt
    simp -implicitDefEqProofs only [go_sem, hl2, encS]
    refine fun _ h2 => ?_
    refine snd_list (β := Unit) x.data.toList (fun q _ => ⟨[(10, .int .i64 q.length), (9, .str (swapB a b (toB q))), (8, .int .i64 pre.length), (7, appS 9 ((pre.map (swapB a b)).map encS)), (0, sl 9 ((pre ++ x :: post).map encS)), (1, .int .u8 a.toNat), (2, .int .u8 b.toNat)], [], appA ((pre.map (swapB a b)).map encS)⟩) (fun _ _ _ => True) () ?_ trivial ?_ ?_
    · simp -implicitDefEqProofs only [go_sem, hl2]
      exact ⟨rfl, rfl⟩
    · intro _ _
      have hb : (pre.length + 1) * 16 ≤ 140737488355328 := by rw [List.length_append] at hn; omega
      have hcx : (((x.data.toList.length : Nat) : Int) < (x.size : Int)) = False := eq_false (by rw [size_list]; omega)
      simp -implicitDefEqProofs only [go_sem, hl2, encS, hcx]
      refine fun _ => ?_
      rw [toB_of]
      rcases pre with _ | ⟨p, ps⟩
      · simp -implicitDefEqProofs only [go_sem, appS, appA, List.map_nil]
        exact ⟨by simp, (), rfl⟩
      · simp -implicitDefEqProofs only [go_sem, appS, appA, List.map_cons]
        exact ⟨by simpa using hb, (), wrap_next (by simp at h2; omega), rfl⟩
    · rintro q y r _ hx _
      have hz := size_mid hx
      simp -implicitDefEqProofs only [go_sem, hz, byteAt_mid hx, hl2, encS]
      have hxs := hl x (by simp)
      have hqs : (swapB a b (toB q)).size ≤ 1000000 := by rw [swapB_size, toB_size]; rw [hz] at hxs; simp at hxs; omega
      refine fun hb => ⟨fun c => ⟨by rw [strOf_size]; simp; omega, (), wrap_next (mid_len hb), ?_⟩, fun c => ⟨by rw [strOf_size]; simp; omega, (), wrap_next (mid_len hb), ?_⟩⟩
      · have e : y = a := UInt8.toNat_inj.1 (by omega)
        rw [swapB_snoc, if_pos e, strOf_one]
      · have e : ¬ y = a := fun e => c (by rw [e])
        rw [swapB_snoc, if_neg e, strOf_one]
theorem R49fine (s : ByteArray) : VPure env 51 [.str s] (.bool (fineB s)) := by
  refine vpure_vc (fn := Tryz.f51) Tryz.func51 rfl (by rw [Tryz.ntmps51]; simp) rfl rfl ?_
  simp -implicitDefEqProofs only [go_sem, Tryz.f51]
  refine snd_list (β := Unit) s.data.toList (fun pre _ => ⟨[(3, .int .i64 pre.length), (2, .bool false), (0, .str s)], [], []⟩) (fun pre _ _ => (pre.all fun c => decide (32 ≤ (c.toNat : Int)) && decide ((c.toNat : Int) ≤ 125) && !decide (c = 44))) () ?_ rfl ?_ ?_
  · simp -implicitDefEqProofs only [go_sem]
    rfl
  · intro _ i1
    have i1 : (s.data.toList.all fun c => decide (32 ≤ (c.toNat : Int)) && decide ((c.toNat : Int) ≤ 125) && !decide (c = 44)) = true := i1
    simp -implicitDefEqProofs only [go_sem, ← size_list]
    exact fun _ => by rw [fineB, i1, Bool.true_and]
  · rintro pre x post _ hx i1
    have hz := size_mid hx
    simp -implicitDefEqProofs only [go_sem, hz, byteAt_mid hx]
    have e44 : x = 44 ↔ (x.toNat : Int) = 44 := by rw [← UInt8.toNat_inj]; simp; omega
    have bad : (decide (32 ≤ (x.toNat : Int)) && decide ((x.toNat : Int) ≤ 125) && !decide (x = 44)) = false → fineB s = false := fun h => by
      have : (s.data.toList.all fun c => decide (32 ≤ (c.toNat : Int)) && decide ((c.toNat : Int) ≤ 125) && !decide (c = 44)) = false := by rw [hx]; exact allNo h
      unfold fineB
      rw [this]; rfl
    refine fun hb => ⟨fun c1 => ⟨fun c2 => ⟨fun c3 => ?_, fun c3 => ⟨(), ?_, wrap_next (mid_len hb)⟩⟩, fun c2 => ?_⟩, fun c1 => ?_⟩
    · rw [bad (by simp [e44, c3])]
    · rw [List.all_append, i1, List.all_cons, List.all_nil, decide_eq_true (by omega : 32 ≤ (x.toNat : Int)), decide_eq_true (by omega : (x.toNat : Int) ≤ 125), decide_eq_false (fun e => c3 (e44.1 e))]
      rfl
    · rw [bad (by rw [decide_eq_false (by omega : ¬ (x.toNat : Int) ≤ 125)]; simp)]
    · rw [bad (by rw [decide_eq_false (by omega : ¬ 32 ≤ (x.toNat : Int))]; simp)]
theorem R49named (l : List ByteArray) : VPure env 50 [sl 9 (l.map encS)] (.bool (l.all validName)) := by
  refine vpure_vc (fn := Tryz.f50) Tryz.func50 rfl (by rw [Tryz.ntmps50]; simp) (by simp -implicitDefEqProofs only [go_sem]) rfl ?_
  simp -implicitDefEqProofs only [go_sem, Tryz.f50]
  refine snd_list (β := Unit) l (fun pre _ => ⟨[(3, .int .i64 pre.length), (0, sl 9 (l.map encS))], [], []⟩) (fun pre _ _ => pre.all validName) () ?_ rfl ?_ ?_
  · simp -implicitDefEqProofs only [go_sem]
    rfl
  · intro _ i1
    have i1 : l.all validName = true := i1
    simp -implicitDefEqProofs only [go_sem, i1]
  · rintro pre x post _ rfl i1
    have hl2 : ((pre.length : Int) < ((pre ++ x :: post).length : Int)) = True := mid_lt
    simp -implicitDefEqProofs only [go_sem, hl2, encS]
    refine fun _ h2 => (R03Valid x).calls rfl ?_
    simp -implicitDefEqProofs only [go_sem]
    refine ⟨fun c => ?_, fun c => ⟨(), ?_, wrap_next (mid_len' h2 (by decide))⟩⟩
    · rw [allNo (by simpa using c)]
    · rw [List.all_append, i1]; simpa using c
theorem R49maybe (s : ByteArray) : VPure env 49 [.str s] (.bool (maybeB s)) := by
  refine vpure_vc (fn := Tryz.f49) Tryz.func49 rfl (by rw [Tryz.ntmps49]; simp) rfl rfl ?_
  simp -implicitDefEqProofs only [go_sem, Tryz.f49]
  refine ⟨fun c => (R03Valid s).calls rfl ?_, fun c => ?_⟩
  · simp -implicitDefEqProofs only [go_sem]
    rw [maybeB, decide_eq_false c, Bool.false_or]
  · rw [maybeB, decide_eq_true c, Bool.true_or]
theorem R49Print (r : Rf) (hok : r.ok) : VPure env 24 [.agg r.enc] (printV r) := by
  obtain ⟨a1, a2, a3, a4, a5, a6, a7, a8, a9, a10, a11⟩ := r
  refine vpure_snd (fn := Tryz.f24) Tryz.func24 rfl (by rw [Tryz.ntmps24]; simp) (by simp -implicitDefEqProofs only [go_sem]) rfl ?_
  simp only [Tryz.f24]
  refine snd_cut ⟨[(1, .ptr 0 0)], [VObj.cells (Rf.enc ⟨a1, a2, a3, a4, a5, a6, a7, a8, a9, a10, a11⟩)], []⟩ (by simp -implicitDefEqProofs only [go_sem]) ?_
  by_cases c : wordB a1 = ⟨#[]⟩
  · refine vc_snd _ _ _ ?_
    simp -implicitDefEqProofs only [go_sem]
    refine (R49word a1).calls rfl ?_
    simp -implicitDefEqProofs only [go_sem, c]
    simp [printV, rfErr, c]
  refine snd_cut ⟨[(1, .ptr 0 0)], [VObj.cells (Rf.enc ⟨a1, a2, a3, a4, a5, a6, a7, a8, a9, a10, a11⟩)], []⟩ ?_ ?_
  · simp -implicitDefEqProofs only [go_sem]
    refine (R49word a1).calls rfl ?_
    simp -implicitDefEqProofs only [go_sem, c]
  by_cases hb : ((!decide (a2 = ⟨#[]⟩) && !pathB a2) || !maybeB a3 || !maybeB a4 || !maybeB a5 || !maybeB a6 || !a10.all validName) = true
  · have he : rfErr ⟨a1, a2, a3, a4, a5, a6, a7, a8, a9, a10, a11⟩ = 4 := by simp only [rfErr, c, if_false, hb, if_true]
    have hp : printV ⟨a1, a2, a3, a4, a5, a6, a7, a8, a9, a10, a11⟩ = .tuple [.str ⟨#[]⟩, .int .i64 4] := by rw [printV, he]; rfl
    rw [hp]
    refine vc_snd _ _ _ ?_
    simp -implicitDefEqProofs only [go_sem]
    repeat' (first | apply And.intro | (refine (R03Path a2).calls rfl ?_; simp -implicitDefEqProofs only [go_sem]) | (refine (R49maybe a3).calls rfl ?_; simp -implicitDefEqProofs only [go_sem]) | (refine (R49maybe a4).calls rfl ?_; simp -implicitDefEqProofs only [go_sem]) | (refine (R49maybe a5).calls rfl ?_; simp -implicitDefEqProofs only [go_sem]) | (refine (R49maybe a6).calls rfl ?_; simp -implicitDefEqProofs only [go_sem]) | (refine (R49named a10).calls (by simp -implicitDefEqProofs only [go_sem]) ?_; simp -implicitDefEqProofs only [go_sem]) | (refine fun (_ : @Eq Bool _ _) => ?_) | (refine fun (_ : @LE.le Nat _ _ _) => ?_))
    all_goals (exfalso; simp_all)
  refine snd_cut ⟨[(1, .ptr 0 0)], [VObj.cells (Rf.enc ⟨a1, a2, a3, a4, a5, a6, a7, a8, a9, a10, a11⟩)], []⟩ ?_ ?_
  · simp -implicitDefEqProofs only [go_sem]
    repeat' (first | apply And.intro | (refine (R03Path a2).calls rfl ?_; simp -implicitDefEqProofs only [go_sem]) | (refine (R49maybe a3).calls rfl ?_; simp -implicitDefEqProofs only [go_sem]) | (refine (R49maybe a4).calls rfl ?_; simp -implicitDefEqProofs only [go_sem]) | (refine (R49maybe a5).calls rfl ?_; simp -implicitDefEqProofs only [go_sem]) | (refine (R49maybe a6).calls rfl ?_; simp -implicitDefEqProofs only [go_sem]) | (refine (R49named a10).calls (by simp -implicitDefEqProofs only [go_sem]) ?_; simp -implicitDefEqProofs only [go_sem]) | (refine fun (_ : @Eq Bool _ _) => ?_) | (refine fun (_ : @LE.le Nat _ _ _) => ?_))
    all_goals (exfalso; simp_all)
  by_cases hf : a11.all fineB = true
  rotate_left
  · have he : rfErr ⟨a1, a2, a3, a4, a5, a6, a7, a8, a9, a10, a11⟩ = 1 := by simp only [rfErr, c, if_false, hb, hf]; simp
    have hp : printV ⟨a1, a2, a3, a4, a5, a6, a7, a8, a9, a10, a11⟩ = .tuple [.str ⟨#[]⟩, .int .i64 1] := by rw [printV, he]; rfl
    rw [hp]
    refine vc_snd _ _ _ ?_
    simp -implicitDefEqProofs only [go_sem]
    refine snd_list (β := Unit) a11 (fun pre _ => ⟨[(4, .int .i64 pre.length), (1, .ptr 0 0)], [VObj.cells (Rf.enc ⟨a1, a2, a3, a4, a5, a6, a7, a8, a9, a10, a11⟩)], []⟩) (fun pre _ _ => pre.all fineB = true) () ?_ rfl ?_ ?_
    · simp -implicitDefEqProofs only [go_sem]
      rfl
    · intro _ i1
      exact absurd i1 hf
    · rintro pre x post _ rfl i1
      have hl2 : ((pre.length : Int) < ((pre ++ x :: post).length : Int)) = True := mid_lt
      simp -implicitDefEqProofs only [go_sem, hl2, encS]
      refine fun _ h2 => (R49fine x).calls rfl ?_
      simp -implicitDefEqProofs only [go_sem]
      refine fun d => ⟨(), ?_, wrap_next (mid_len' h2 (by decide))⟩
      rw [List.all_append, i1]; simpa using d
  refine snd_cut ⟨[(1, .ptr 0 0)], [VObj.cells (Rf.enc ⟨a1, a2, a3, a4, a5, a6, a7, a8, a9, a10, a11⟩)], []⟩ ?_ ?_
  · simp -implicitDefEqProofs only [go_sem]
    refine snd_list (β := Unit) a11 (fun pre _ => ⟨[(4, .int .i64 pre.length), (1, .ptr 0 0)], [VObj.cells (Rf.enc ⟨a1, a2, a3, a4, a5, a6, a7, a8, a9, a10, a11⟩)], []⟩) (fun pre _ _ => pre.all fineB = true) () ?_ rfl ?_ ?_
    · simp -implicitDefEqProofs only [go_sem]
      rfl
    · intro _ i1
      simp -implicitDefEqProofs only [go_sem]
    · rintro pre x post _ rfl i1
      have hl2 : ((pre.length : Int) < ((pre ++ x :: post).length : Int)) = True := mid_lt
      have hx : fineB x = true := List.all_eq_true.1 hf x (by simp)
      simp -implicitDefEqProofs only [go_sem, hl2, encS]
      refine fun _ h2 => (R49fine x).calls rfl ?_
      simp -implicitDefEqProofs only [go_sem, hx]
      exact ⟨(), by rw [List.all_append, i1]; simpa using hx, wrap_next (mid_len' h2 (by decide))⟩
  by_cases hm : 16 < max (max a9.length a10.length) a11.length
  · have he : rfErr ⟨a1, a2, a3, a4, a5, a6, a7, a8, a9, a10, a11⟩ = 3 := by simp only [rfErr, c, if_false, hb, hf, hm]; simp
    have hp : printV ⟨a1, a2, a3, a4, a5, a6, a7, a8, a9, a10, a11⟩ = .tuple [.str ⟨#[]⟩, .int .i64 3] := by rw [printV, he]; rfl
    rw [hp]
    refine vc_snd _ _ _ ?_
    have hm2 : (16 < if (if (a9.length : Int) < a10.length then (a10.length : Int) else a9.length) < a11.length then (a11.length : Int) else if (a9.length : Int) < a10.length then (a10.length : Int) else a9.length) = True := eq_true (by
      rw [if_max, if_max]; omega)
    simp -implicitDefEqProofs only [go_sem, hm2]
  refine snd_cut ⟨[(1, .ptr 0 0)], [VObj.cells (Rf.enc ⟨a1, a2, a3, a4, a5, a6, a7, a8, a9, a10, a11⟩)], []⟩ ?_ ?_
  · have hm2 : (16 < if (if (a9.length : Int) < a10.length then (a10.length : Int) else a9.length) < a11.length then (a11.length : Int) else if (a9.length : Int) < a10.length then (a10.length : Int) else a9.length) = False := eq_false (by
      rw [if_max, if_max]; omega)
    simp -implicitDefEqProofs only [go_sem, hm2]
  have he : rfErr ⟨a1, a2, a3, a4, a5, a6, a7, a8, a9, a10, a11⟩ = 0 := by simp only [rfErr, c, if_false, hb, hf, hm]; simp
  have hp : printV ⟨a1, a2, a3, a4, a5, a6, a7, a8, a9, a10, a11⟩ = .tuple [.str (rfText ⟨a1, a2, a3, a4, a5, a6, a7, a8, a9, a10, a11⟩), .int .i64 0] := by rw [printV, he]; rfl
  rw [hp]
  obtain ⟨s1, s2, s3, s4, s5, n1, n2, n3, n4, n5, l1, l2, l3, t1, t2⟩ := hok
  simp only at s1 s2 s3 s4 s5 n1 n2 n3 n4 n5 l1 l2 l3 t1 t2
  refine vc_snd _ _ _ ?_
  simp -implicitDefEqProofs only [go_sem]
  have f1 := fieldB_size ⟨#[112, 97, 116, 104]⟩ a2
  have f2 := fieldB_size ⟨#[99, 108, 97, 115, 115]⟩ a3
  have f3 := fieldB_size ⟨#[102, 117, 110, 99]⟩ a4
  have f4 := fieldB_size ⟨#[110, 97, 109, 101]⟩ a5
  have f5 := fieldB_size ⟨#[116, 111]⟩ a6
  have f6 := fieldB_size ⟨#[110, 111, 100, 101]⟩ (numB a7)
  have f7 := fieldB_size ⟨#[112, 111, 115]⟩ (numB a8)
  have f8 := fieldB_size ⟨#[111, 114, 100, 101, 114]⟩ (joinB (a9.map itoaB))
  have f9 := fieldB_size ⟨#[116, 121, 112, 101, 115]⟩ (joinB a10)
  have f10 := fieldB_size ⟨#[116, 101, 120, 116, 115]⟩ (joinB (a11.map (swapB 32 126)))
  have k1 : (⟨#[112, 97, 116, 104]⟩ : ByteArray).size = 4 := rfl
  have k2 : (⟨#[99, 108, 97, 115, 115]⟩ : ByteArray).size = 5 := rfl
  have k3 : (⟨#[102, 117, 110, 99]⟩ : ByteArray).size = 4 := rfl
  have k4 : (⟨#[110, 97, 109, 101]⟩ : ByteArray).size = 4 := rfl
  have k5 : (⟨#[116, 111]⟩ : ByteArray).size = 2 := rfl
  have k6 : (⟨#[110, 111, 100, 101]⟩ : ByteArray).size = 4 := rfl
  have k7 : (⟨#[112, 111, 115]⟩ : ByteArray).size = 3 := rfl
  have k8 : (⟨#[111, 114, 100, 101, 114]⟩ : ByteArray).size = 5 := rfl
  have k9 : (⟨#[116, 121, 112, 101, 115]⟩ : ByteArray).size = 5 := rfl
  have k10 : (⟨#[116, 101, 120, 116, 115]⟩ : ByteArray).size = 5 := rfl
  have z7 : (numB a7).size ≤ 21 := by unfold numB; split; exact Nat.zero_le _; exact itoaB_size _ n1 n2
  have z8 : (numB a8).size ≤ 21 := by unfold numB; split; exact Nat.zero_le _; exact itoaB_size _ n3 n4
  have hws : (wordB a1).size ≤ 9 := by
    unfold wordB
    repeat' split
    all_goals decide
  have hm' : a9.length ≤ 16 ∧ a10.length ≤ 16 ∧ a11.length ≤ 16 := by omega
  have t9 : ∀ x ∈ a9.map itoaB, x.size ≤ 21 := by
    intro x hx
    obtain ⟨n, hn, rfl⟩ := List.mem_map.1 hx
    exact itoaB_size n (n5 n hn).1 (n5 n hn).2
  have t11 : ∀ x ∈ a11.map (swapB 32 126), x.size ≤ 1000000 := by
    intro x hx
    obtain ⟨n, hn, rfl⟩ := List.mem_map.1 hx
    rw [swapB_size]
    exact t2 n hn
  have j9 := joinB_size 21 (a9.map itoaB) t9
  have j10 := joinB_size 1000000 a10 t1
  have j11 := joinB_size 1000000 (a11.map (swapB 32 126)) t11
  rw [List.length_map] at j9 j11
  have y9 : (joinB (a9.map itoaB)).size ≤ 1000 := Nat.le_trans j9 (by omega)
  have y10 : (joinB a10).size ≤ 20000000 := Nat.le_trans j10 (by omega)
  have y11 : (joinB (a11.map (swapB 32 126))).size ≤ 20000000 := Nat.le_trans j11 (by omega)
  clear j9 j10 j11 hm hm' he hp hf hb
  refine snd_draw (cs := []) mixed (by kernel_rfl) ?_
  simp -implicitDefEqProofs only [go_sem]
  refine vPC_of (R49word a1) rfl ?_
  simp -implicitDefEqProofs only [go_sem]
  refine vPC_of (R49field ⟨#[112, 97, 116, 104]⟩ a2 (by omega) (by omega)) rfl ?_
  simp -implicitDefEqProofs only [go_sem]
  refine ⟨by omega, vPC_of (R49field ⟨#[99, 108, 97, 115, 115]⟩ a3 (by omega) (by omega)) rfl ?_⟩
  simp -implicitDefEqProofs only [go_sem]
  refine ⟨by omega, vPC_of (R49field ⟨#[102, 117, 110, 99]⟩ a4 (by omega) (by omega)) rfl ?_⟩
  simp -implicitDefEqProofs only [go_sem]
  refine ⟨by omega, vPC_of (R49field ⟨#[110, 97, 109, 101]⟩ a5 (by omega) (by omega)) rfl ?_⟩
  simp -implicitDefEqProofs only [go_sem]
  refine ⟨by omega, vPC_of (R49field ⟨#[116, 111]⟩ a6 (by omega) (by omega)) rfl ?_⟩
  simp -implicitDefEqProofs only [go_sem]
  refine ⟨by omega, ?_⟩
  refine snd_draw (cs := []) mixed (by kernel_rfl) ?_
  simp -implicitDefEqProofs only [go_sem]
  refine vPC_of (R49number a7 n1 n2) rfl ?_
  simp -implicitDefEqProofs only [go_sem]
  refine vPC_of (R49field ⟨#[110, 111, 100, 101]⟩ (numB a7) (by omega) (by omega)) rfl ?_
  simp -implicitDefEqProofs only [go_sem]
  refine ⟨by omega, vPC_of (R49number a8 n3 n4) rfl ?_⟩
  simp -implicitDefEqProofs only [go_sem]
  refine vPC_of (R49field ⟨#[112, 111, 115]⟩ (numB a8) (by omega) (by omega)) rfl ?_
  simp -implicitDefEqProofs only [go_sem]
  refine ⟨by omega, vPC_of (R49numbers a9 n5 l1) (by simp -implicitDefEqProofs only [go_sem]) ?_⟩
  simp -implicitDefEqProofs only [go_sem]
  refine vPC_of (R49join (a9.map itoaB) (fun x hx => Nat.le_trans (t9 x hx) (by decide)) (by rw [List.length_map]; exact l1)) (by simp -implicitDefEqProofs only [go_sem]) ?_
  simp -implicitDefEqProofs only [go_sem]
  refine vPC_of (R49field ⟨#[111, 114, 100, 101, 114]⟩ (joinB (a9.map itoaB)) (by omega) (by omega)) rfl ?_
  simp -implicitDefEqProofs only [go_sem]
  refine ⟨by omega, vPC_of (R49join a10 t1 l2) (by simp -implicitDefEqProofs only [go_sem]) ?_⟩
  simp -implicitDefEqProofs only [go_sem]
  refine vPC_of (R49field ⟨#[116, 121, 112, 101, 115]⟩ (joinB a10) (by omega) (by omega)) rfl ?_
  simp -implicitDefEqProofs only [go_sem]
  have e32 : (((32 : UInt8).toNat : Nat) : Int) = 32 := rfl
  have e126 : (((126 : UInt8).toNat : Nat) : Int) = 126 := rfl
  refine ⟨by omega, (R49swap a11 32 126 t2 l3).calls (by simp -implicitDefEqProofs only [go_sem, e32, e126]) ?_⟩
  simp -implicitDefEqProofs only [go_sem]
  refine (R49join (a11.map (swapB 32 126)) t11 (by rw [List.length_map]; exact l3)).calls (by simp -implicitDefEqProofs only [go_sem]) ?_
  simp -implicitDefEqProofs only [go_sem]
  refine (R49field ⟨#[116, 101, 120, 116, 115]⟩ (joinB (a11.map (swapB 32 126))) (by omega) (by omega)).calls rfl ?_
  simp -implicitDefEqProofs only [go_sem]
  exact ⟨by omega, rfl⟩
end Go.Proofs.YtknonjdfjicmeaaGreatDoor
