/- The reference's parts about changed signatures. -/
import Derived.Test.YtamednbojpnalaaGreatDoorToT
set_option linter.unusedVariables false
set_option linter.unusedSimpArgs false
set_option maxRecDepth 20000
namespace Go.Vg
theorem joinTail_app (sep : List UInt8) (a b : List (List UInt8)) : Lib.joinTail sep (a ++ b) = Lib.joinTail sep a ++ Lib.joinTail sep b := by simp [Lib.joinTail]
theorem joinC_nil : joinC [] = ⟨#[]⟩ := rfl
theorem ba_of (a b : ByteArray) (h : a.data.toList = b.data.toList) : a = b := by
  obtain ⟨⟨a⟩⟩ := a
  obtain ⟨⟨b⟩⟩ := b
  simp at h
  rw [h]
theorem joinC_data (l : List ByteArray) : (joinC l).data.toList = Lib.join (l.map fun x => x.data.toList) [44, 32] := by simp [joinC]
theorem joinC_one (x : ByteArray) : joinC [x] = x := ba_of _ _ (by rw [joinC_data]; exact Lib.join_one _ _)
theorem joinC_snoc (l : List ByteArray) (x : ByteArray) (h : l ≠ []) : joinC (l ++ [x]) = joinC l ++ ⟨#[44, 32]⟩ ++ x := by
  cases l with
  | nil => exact absurd rfl h
  | cons y r =>
    apply ba_of
    rw [ByteArray.data_append, ByteArray.data_append, Array.toList_append, Array.toList_append, joinC_data, joinC_data]
    simp only [List.cons_append, List.map_cons, List.map_append, List.map_nil]
    rw [Lib.join_cons, Lib.join_cons, joinTail_app]
    simp [Lib.joinTail]
end Go.Vg
namespace Go.Proofs.YtamednbojpnalaaGreatDoor
open Go Go.Vg Go.Proofs
theorem R40Written (s : Sg) (h1 : ∀ p ∈ s.params, p.size ≤ 1000000) (h2 : s.params.length ≤ 1000000) (h3 : s.result.size ≤ 1000000) : VPure env 71 [.agg s.enc] (.str (signS s)) := by
  refine vpure_vc (fn := Tryz.f71) Tryz.func71 rfl (by rw [Tryz.ntmps71]; simp) (by simp -implicitDefEqProofs only [go_sem, Sg.enc]) (by simp -implicitDefEqProofs only [go_sem]) ?_
  simp -implicitDefEqProofs only [go_sem, Tryz.f71, Sg.enc]
  refine snd_list (β := Unit) s.params (fun pre _ => ⟨[(4, .int .i64 pre.length), (3, .str (⟨#[40]⟩ ++ joinC pre)), (2, .str ⟨#[]⟩), (1, .ptr 0 0)], [.cells [sl 9 (s.params.map encS), .str s.result]], []⟩) (fun _ _ _ => True) () ?_ trivial ?_ ?_
  · simp -implicitDefEqProofs only [go_sem]
    exact ⟨rfl, by decide +kernel⟩
  · intro _ _
    have hs := joinC_size s.params h1 h2
    simp -implicitDefEqProofs only [go_sem]
    simp only [List.size_toArray, List.length_cons, List.length_nil]
    exact fun _ _ => ⟨by omega, by omega, rfl⟩
  · rintro pre x post _ hx _
    have hpl : s.params.length = pre.length + 1 + post.length := by rw [hx]; simp; omega
    have hgx : (s.params.map encS).getD (pre.length : Int).toNat [] = encS x := by rw [hx]; simp [List.getD_eq_getElem?_getD]
    have hw : IntKind.i64.wrap (↑pre.length + 1) = ↑(pre.length + 1) := wrap_next (by omega)
    have hlt : ((pre.length : Int) < s.params.length) = True := by simp; omega
    have hs := joinC_size pre (fun p hp => h1 p (by rw [hx]; simp [hp])) (by omega)
    have hxs := h1 x (by rw [hx]; simp)
    simp -implicitDefEqProofs only [go_sem, hgx, hlt, encS]
    simp only [List.size_toArray, List.length_cons, List.length_nil]
    refine fun _ _ => ⟨fun hp => ⟨by omega, by omega, (), hw, ?_⟩, fun hp => ⟨by omega, (), hw, ?_⟩⟩
    · rw [joinC_snoc pre x (by rintro rfl; simp at hp), ByteArray.append_assoc, ByteArray.append_assoc, ByteArray.append_assoc]
    · have : pre = [] := by cases pre with | nil => rfl | cons _ _ => simp at hp
      subst this
      rw [List.nil_append, joinC_one, joinC_nil]
      rfl
theorem R14SameSign (s t : Sg) : VPure env 72 [.agg s.enc, .agg t.enc] (.bool (decide (s.params = t.params) && decide (s.result = t.result))) := by
  refine vpure_vc (fn := Tryz.f72) Tryz.func72 rfl (by rw [Tryz.ntmps72]; simp) (by simp -implicitDefEqProofs only [go_sem, Sg.enc]) (by simp -implicitDefEqProofs only [go_sem]) ?_
  simp -implicitDefEqProofs only [go_sem, Tryz.f72, Sg.enc]
  intro _ _ _ _
  refine ⟨fun hl => ⟨fun hr => ?_, fun hr => ?_⟩, fun hl => ?_⟩
  · have : ¬ s.result = t.result := by simpa using hr
    simp [this]
  · have hl' : s.params.length = t.params.length := by simp at hl; omega
    have hr' : s.result = t.result := by simpa using hr
    refine snd_list (β := Unit) s.params (fun pre _ => ⟨[(5, .int .i64 pre.length), (4, .bool false), (3, .ptr 1 0), (2, .ptr 0 0)], [.cells [sl 9 (s.params.map encS), .str s.result], .cells [sl 9 (t.params.map encS), .str t.result]], []⟩) (fun pre _ _ => t.params.take pre.length = pre) () ?_ rfl ?_ ?_
    · simp -implicitDefEqProofs only [go_sem]
      try rfl
    · intro _ hi
      rw [hl', List.take_length] at hi
      simp -implicitDefEqProofs only [go_sem]
      intro _ _
      rw [hi, hr']
      simp
    · rintro pre x post _ hx hi
      have hpl : s.params.length = pre.length + 1 + post.length := by rw [hx]; simp; omega
      have hgx : (s.params.map encS).getD (pre.length : Int).toNat [] = encS x := by rw [hx]; simp [List.getD_eq_getElem?_getD]
      have hyl : pre.length < t.params.length := by omega
      have hgy : (t.params.map encS).getD (pre.length : Int).toNat [] = encS t.params[pre.length] := by simp [List.getD_eq_getElem?_getD, List.getElem?_eq_getElem hyl]
      have hsn : t.params.take (pre.length + 1) = pre ++ [t.params[pre.length]] := by rw [List.take_succ_eq_append_getElem hyl, hi]
      generalize t.params[pre.length] = y at hgy hsn
      have hw : IntKind.i64.wrap (↑pre.length + 1) = ↑(pre.length + 1) := wrap_next (by omega)
      have hlt : ((pre.length : Int) < s.params.length) = True := by simp; omega
      have hlt2 : ((pre.length : Int) < t.params.length) = True := by simp; omega
      simp -implicitDefEqProofs only [go_sem, hgx, hgy, hlt, hlt2, encS]
      intro _ _
      refine snd_draw (cs := []) mixed (by kernel_rfl) ?_
      simp -implicitDefEqProofs only [go_sem, hgx, hgy, hlt, hlt2, encS]
      refine ⟨fun h => ?_, fun h => ?_⟩
      · have hne : ¬ x = y := by simpa using h
        have : ¬ s.params = t.params := by
          intro e
          have h1 : s.params.take (pre.length + 1) = pre ++ [x] := by
            rw [hx, List.take_append, List.take_of_length_le (by omega)]
            simp
          rw [e, hsn] at h1
          exact hne (by simpa using h1.symm)
        simp [this]
      · have he : x = y := by simpa using h
        subst he
        exact ⟨(), hsn, hw⟩
  · have : ¬ s.params.length = t.params.length := by simp at hl; omega
    have : ¬ s.params = t.params := fun e => this (by rw [e])
    simp [this]
def qualD (d : Dl) : ByteArray := if d.kind = 1 then d.name else if d.kind = 4 then d.owner ++ ⟨#[46]⟩ ++ d.name else ⟨#[]⟩
def ownD (d : Dl) : ByteArray := if d.kind = 4 then d.owner else ⟨#[]⟩
theorem R40qualified (d : Dl) (h1 : d.owner.size ≤ 3000000) (h2 : d.name.size ≤ 1000000) : VPure env 46 [.agg d.enc] (.str (qualD d)) := by
  refine vpure_vc (fn := Tryz.f46) Tryz.func46 rfl (by rw [Tryz.ntmps46]; simp) (by simp -implicitDefEqProofs only [go_sem]) (by simp -implicitDefEqProofs only [go_sem]) ?_
  simp -implicitDefEqProofs only [go_sem, Tryz.f46]
  refine ⟨fun h => by rw [qualD, if_pos h], fun h => ⟨fun h4 => ?_, fun h4 => by rw [qualD, if_neg h, if_neg h4]⟩⟩
  simp only [List.size_toArray, List.length_cons, List.length_nil]
  exact ⟨by omega, by omega, by rw [qualD, if_neg h, if_pos h4]⟩
theorem R40owner (d : Dl) : VPure env 70 [.agg d.enc] (.str (ownD d)) := by
  refine vpure_vc (fn := Tryz.f70) Tryz.func70 rfl (by rw [Tryz.ntmps70]; simp) (by simp -implicitDefEqProofs only [go_sem]) (by simp -implicitDefEqProofs only [go_sem]) ?_
  simp -implicitDefEqProofs only [go_sem, Tryz.f70]
  exact ⟨fun h => by rw [ownD, if_pos h], fun h => by rw [ownD, if_neg h]⟩
def pst (s : ByteArray) (p : List ByteArray × Bool) (x : ByteArray) : List ByteArray × Bool := if p.2 = false ∧ ¬ x = s ∧ ltB x s = false then (p.1 ++ [s, x], true) else (p.1 ++ [x], p.2 || decide (x = s))
def pstL (s : ByteArray) (l : List ByteArray) : List ByteArray × Bool := l.foldl (pst s) ([], false)
def putS (l : List ByteArray) (s : ByteArray) : List ByteArray := if (pstL s l).2 = true then (pstL s l).1 else (pstL s l).1 ++ [s]
theorem pstL_snoc (s : ByteArray) (l : List ByteArray) (x : ByteArray) : pstL s (l ++ [x]) = pst s (pstL s l) x := by simp [pstL]
theorem pst_len (s : ByteArray) (p : List ByteArray × Bool) (x : ByteArray) : (pst s p x).1.length ≤ p.1.length + 2 := by
  unfold pst; split <;> simp
theorem pstL_len (s : ByteArray) (l : List ByteArray) : (pstL s l).1.length ≤ 2 * l.length := by
  have key : ∀ (l : List ByteArray) (p : List ByteArray × Bool), (l.foldl (pst s) p).1.length ≤ p.1.length + 2 * l.length := by
    intro l
    induction l with
    | nil => intro p; simp
    | cons x r ih =>
      intro p
      have h1 := ih (pst s p x)
      have h2 := pst_len s p x
      rw [List.foldl_cons, List.length_cons]; omega
  have := key l ([], false)
  simpa [pstL] using this
theorem R03put (l : List ByteArray) (s : ByteArray) (hl : l.length ≤ 1000000) : VPure env 73 [sl 9 (l.map encS), .str s] (sl 9 ((putS l s).map encS)) := by
  refine vpure_vc (fn := Tryz.f73) Tryz.func73 rfl (by rw [Tryz.ntmps73]; simp) (by simp -implicitDefEqProofs only [go_sem]) (by simp -implicitDefEqProofs only [go_sem]) ?_
  simp -implicitDefEqProofs only [go_sem, Tryz.f73]
  refine snd_list (β := Unit) l (fun pre _ => ⟨[(7, .int .i64 pre.length), (6, .bool (pstL s pre).2), (5, .slice (.arr 0) 9 ((pstL s pre).1.map encS)), (4, .slice .nil 0 []), (0, sl 9 (l.map encS)), (1, .str s)], [], [(pstL s pre).1.length]⟩) (fun _ _ _ => True) () ?_ trivial ?_ ?_
  · simp -implicitDefEqProofs only [go_sem]
    exact ⟨rfl, rfl, rfl⟩
  · intro _ _
    have hpl := pstL_len s l
    unfold putS
    generalize pstL s l = p at hpl ⊢
    simp -implicitDefEqProofs only [go_sem]
    refine fun _ _ => ⟨fun h => ⟨by omega, ?_⟩, fun h => ?_⟩
    · have : ¬ p.2 = true := by simpa using h
      rw [if_neg this, List.map_append]; rfl
    · have : p.2 = true := by simpa using h
      rw [if_pos this]
  · rintro pre x post _ hx _
    have hpl : l.length = pre.length + 1 + post.length := by rw [hx]; simp; omega
    have hgx : (l.map encS).getD (pre.length : Int).toNat [] = encS x := by rw [hx]; simp [List.getD_eq_getElem?_getD]
    have hw : IntKind.i64.wrap (↑pre.length + 1) = ↑(pre.length + 1) := wrap_next (by omega)
    have hlt : ((pre.length : Int) < l.length) = True := by simp; omega
    have hsn := pstL_snoc s pre x
    have hml := pstL_len s pre
    generalize pstL s pre = p at hsn hml ⊢
    simp -implicitDefEqProofs only [go_sem, hgx, hlt, encS]
    rw [hsn]
    refine fun _ _ => ⟨fun he => ?_, fun he => ⟨fun hd => ⟨fun hg => ?_, fun hg => ?_⟩, fun hd => ?_⟩⟩
    · have hp : pst s p x = (p.1 ++ [x], true) := by rw [pst, if_neg (fun h => h.2.1 he)]; simp [he]
      rw [hp]
      exact ⟨by omega, (), ⟨hw, rfl, by simp [encS]⟩, by simp⟩
    · have hd' : p.2 = false := by simpa using hd
      have hg' : ltB x s = false := by
        simp only [Bool.not_eq_true', Bool.or_eq_false_iff] at hg
        exact hg.1
      have hp : pst s p x = (p.1 ++ [s, x], true) := by rw [pst, if_pos ⟨hd', he, hg'⟩]
      rw [hp]
      exact ⟨by omega, by omega, (), ⟨hw, rfl, by simp [encS]⟩, by simp⟩
    · have hd' : p.2 = false := by simpa using hd
      have hg' : ltB x s = true := by
        have : decide (x = s) = false := by simpa using he
        rw [this, Bool.or_false, Bool.not_eq_false'] at hg
        exact hg
      have hp : pst s p x = (p.1 ++ [x], p.2) := by rw [pst, if_neg (fun h => by rw [hg'] at h; exact absurd h.2.2 (by simp))]; simp [he]
      rw [hp]
      exact ⟨by omega, (), ⟨hw, rfl, by simp [encS]⟩, by simp⟩
    · have hd' : p.2 = true := by simpa using hd
      have hp : pst s p x = (p.1 ++ [x], p.2) := by rw [pst, if_neg (fun h => by rw [hd'] at h; exact absurd h.1 (by simp))]; simp [hd']
      rw [hp]
      exact ⟨by omega, (), ⟨hw, rfl, by simp [encS]⟩, by simp⟩
def cB (b : Bool) : Nat := if b = true then 0 else 1
theorem pst_len2 (s : ByteArray) (p : List ByteArray × Bool) (x : ByteArray) : (pst s p x).1.length + cB (pst s p x).2 ≤ p.1.length + cB p.2 + 1 := by
  unfold pst
  split
  · rename_i h
    rw [h.1]
    simp [cB]
  · simp only [List.length_append, List.length_cons, List.length_nil, cB]
    cases p.2 <;> cases decide (x = s) <;> simp
theorem putS_len (l : List ByteArray) (s : ByteArray) : (putS l s).length ≤ l.length + 1 := by
  have key : ∀ (l : List ByteArray) (p : List ByteArray × Bool), (l.foldl (pst s) p).1.length + cB (l.foldl (pst s) p).2 ≤ p.1.length + cB p.2 + l.length := by
    intro l
    induction l with
    | nil => intro p; simp
    | cons x r ih =>
      intro p
      have h1 := ih (pst s p x)
      have h2 := pst_len2 s p x
      rw [List.foldl_cons, List.length_cons]; omega
  have := key l ([], false)
  unfold putS pstL
  generalize l.foldl (pst s) ([], false) = p at this
  simp only [cB, List.length_nil] at this
  split
  · rename_i h
    simp [h] at this
    omega
  · rename_i h
    simp [h] at this
    simp
    omega
def insS (l : List ByteArray) (s : ByteArray) : List ByteArray := putS (l.foldl putS []) s
theorem foldP_len (l : List ByteArray) : (l.foldl putS []).length ≤ l.length := by
  have key : ∀ (l p : List ByteArray), (l.foldl putS p).length ≤ p.length + l.length := by
    intro l
    induction l with
    | nil => intro p; simp
    | cons x r ih =>
      intro p
      have h1 := ih (putS p x)
      have h2 := putS_len p x
      rw [List.foldl_cons, List.length_cons]; omega
  simpa using key l []
theorem R03Insert (l : List ByteArray) (s : ByteArray) (hl : l.length ≤ 1000000) : VPure env 48 [sl 9 (l.map encS), .str s] (sl 9 ((insS l s).map encS)) := by
  refine vpure_vc (fn := Tryz.f48) Tryz.func48 rfl (by rw [Tryz.ntmps48]; simp) (by simp -implicitDefEqProofs only [go_sem]) (by simp -implicitDefEqProofs only [go_sem]) ?_
  simp -implicitDefEqProofs only [go_sem, Tryz.f48]
  refine snd_list (β := Unit) l (fun pre _ => ⟨[(6, .int .i64 pre.length), (5, sl 9 ((pre.foldl putS []).map encS)), (4, .slice .nil 0 []), (0, sl 9 (l.map encS)), (1, .str s)], [], []⟩) (fun _ _ _ => True) () ?_ trivial ?_ ?_
  · simp -implicitDefEqProofs only [go_sem]
    exact ⟨rfl, rfl⟩
  · intro _ _
    have h1 := foldP_len l
    simp -implicitDefEqProofs only [go_sem]
    intro _ _
    refine (R03put (l.foldl putS []) s (by omega)).calls (by simp -implicitDefEqProofs only [go_sem]) ?_
    simp -implicitDefEqProofs only [go_sem]
    try rfl
  · rintro pre x post _ hx _
    have hpl : l.length = pre.length + 1 + post.length := by rw [hx]; simp; omega
    have hgx : (l.map encS).getD (pre.length : Int).toNat [] = encS x := by rw [hx]; simp [List.getD_eq_getElem?_getD]
    have hw : IntKind.i64.wrap (↑pre.length + 1) = ↑(pre.length + 1) := wrap_next (by omega)
    have hlt : ((pre.length : Int) < l.length) = True := by simp; omega
    have h1 := foldP_len pre
    have hsn : (pre ++ [x]).foldl putS [] = putS (pre.foldl putS []) x := by simp
    simp -implicitDefEqProofs only [go_sem, hgx, hlt, encS]
    intro _ _
    refine (R03put (pre.foldl putS []) x (by omega)).calls (by simp -implicitDefEqProofs only [go_sem]) ?_
    simp -implicitDefEqProofs only [go_sem]
    rw [hsn]
    exact ⟨(), hw, rfl⟩
/-- The first declaration of a qualified name. -/
def firstD (u : List Un) (name : ByteArray) : Option Dl := (declsU u 0).find? fun d => !decide (name = ⟨#[]⟩) && decide (qualD d = name)
theorem R40first (u : List Un) (hu : fitU u) (name : ByteArray) (hS : ∀ d ∈ declsU u 0, d.owner.size ≤ 3000000 ∧ d.name.size ≤ 1000000) : VPure env 49 [sl 34 (u.map Un.enc), .str name] (.tuple [.agg ((firstD u name).getD Dl.zero).enc, .bool (firstD u name).isSome]) := by
  refine vpure_vc (fn := Tryz.f49) Tryz.func49 rfl (by rw [Tryz.ntmps49]; simp) (by simp -implicitDefEqProofs only [go_sem]; exact uns_pure _) (by simp -implicitDefEqProofs only [go_sem]) ?_
  simp -implicitDefEqProofs only [go_sem, Tryz.f49]
  refine (R11Decls u hu).calls (by simp -implicitDefEqProofs only [go_sem]) ?_
  simp -implicitDefEqProofs only [go_sem]
  unfold firstD
  have hdl := declsU_len u 0 fun y hy => (hu.2 y hy).1
  have hul := hu.1
  generalize declsU u 0 = dl at hS hdl ⊢
  refine snd_list (β := Unit) dl (fun pre _ => ⟨[(7, .int .i64 pre.length), (6, sl 61 (dl.map Dl.enc)), (5, .bool false), (4, .ptr 0 0), (1, .str name)], [.cells Dl.zero.enc], []⟩)
    (fun pre post _ => (dl.find? fun d => !decide (name = ⟨#[]⟩) && decide (qualD d = name)) = post.find? fun d => !decide (name = ⟨#[]⟩) && decide (qualD d = name)) () ?_ rfl ?_ ?_
  · simp -implicitDefEqProofs only [go_sem, Dl.zero, Dl.enc]
    try rfl
  · intro _ hi
    rw [hi]
    simp -implicitDefEqProofs only [go_sem, List.find?_nil, Dl.zero, Dl.enc]
    exact fun _ _ => rfl
  · rintro pre d post _ hx hi
    have hpl : dl.length = pre.length + 1 + post.length := by rw [hx]; simp; omega
    have hgx : (dl.map Dl.enc).getD (pre.length : Int).toNat [] = d.enc := by rw [hx]; simp [List.getD_eq_getElem?_getD]
    have hw : IntKind.i64.wrap (↑pre.length + 1) = ↑(pre.length + 1) := wrap_next (by omega)
    have hlt : ((pre.length : Int) < dl.length) = True := by simp; omega
    have hsz := hS d (by rw [hx]; simp)
    rw [List.find?_cons] at hi
    by_cases he : name = ⟨#[]⟩
    · simp -implicitDefEqProofs only [go_sem, hgx, hlt, he]
      exact fun _ _ => ⟨(), by rw [List.find?_eq_none.2 (fun _ _ => by simp), List.find?_eq_none.2 (fun _ _ => by simp)], hw⟩
    · simp only [he, decide_false, Bool.not_false, Bool.true_and] at hi
      simp -implicitDefEqProofs only [go_sem, hgx, hlt, he]
      intro _ _
      refine (R40qualified d hsz.1 hsz.2).calls (by simp -implicitDefEqProofs only [go_sem]) ?_
      simp -implicitDefEqProofs only [go_sem]
      by_cases hq : qualD d = name
      · rw [decide_eq_true hq] at hi
        simp only [hi]
        simp -implicitDefEqProofs only [go_sem, hgx, hlt, hq]
        exact ⟨Nat.le_refl 5, rfl⟩
      · rw [decide_eq_false hq] at hi
        simp -implicitDefEqProofs only [go_sem, hgx, hlt, hq]
        exact ⟨(), hi, hw⟩
/-- Two projects and a name: both signatures, and whether they differ. -/
def sigD (u : List Un) (d : Dl) : Sg := (sigU u (ownD d) d.name).getD ⟨[], ⟨#[]⟩⟩
def chgS (a b : List Un) (name : ByteArray) : ByteArray × ByteArray × Bool := match firstD a name, firstD b name with
  | some x, some y => (signS (sigD a x), signS (sigD b y), !(decide ((sigD a x).params = (sigD b y).params) && decide ((sigD a x).result = (sigD b y).result)))
  | _, _ => (⟨#[]⟩, ⟨#[]⟩, false)
theorem sigD_short {u : List Un} (h : sgOK u) (d : Dl) : (∀ p ∈ (sigD u d).params, p.size ≤ 1000000) ∧ (sigD u d).params.length ≤ 1000000 ∧ (sigD u d).result.size ≤ 1000000 := by
  unfold sigD
  cases hs : sigU u (ownD d) d.name with
  | none => exact ⟨fun p hp => by simp at hp, by simp, Nat.zero_le _⟩
  | some s => exact ⟨(sig_short h hs).1, (sig_short h hs).2, sig_res h hs⟩
theorem sigD_enc (u : List Un) (d : Dl) : ∃ e, encSig (sigU u (ownD d) d.name) = .tuple [.agg (sigD u d).enc, .int .i64 e] := by
  unfold sigD
  cases sigU u (ownD d) d.name with
  | none => exact ⟨5, rfl⟩
  | some s => exact ⟨0, rfl⟩
theorem R40changed (a b : List Un) (ha : sgOK a) (hb : sgOK b) (name : ByteArray) (hA : ∀ d ∈ declsU a 0, d.owner.size ≤ 3000000 ∧ d.name.size ≤ 1000000) (hB : ∀ d ∈ declsU b 0, d.owner.size ≤ 3000000 ∧ d.name.size ≤ 1000000) :
    VPure env 47 [sl 34 (a.map Un.enc), sl 34 (b.map Un.enc), .str name] (.tuple [.str (chgS a b name).1, .str (chgS a b name).2.1, .bool (chgS a b name).2.2]) := by
  refine vpure_vc (fn := Tryz.f47) Tryz.func47 rfl (by rw [Tryz.ntmps47]; simp) (by simp -implicitDefEqProofs only [go_sem]; simp only [uns_pure]; rfl) (by simp -implicitDefEqProofs only [go_sem]) ?_
  simp -implicitDefEqProofs only [go_sem, Tryz.f47]
  refine (R40first a ha.fit name hA).calls (by simp -implicitDefEqProofs only [go_sem]) ?_
  simp -implicitDefEqProofs only [go_sem]
  refine (R40first b hb.fit name hB).calls (by simp -implicitDefEqProofs only [go_sem]) ?_
  unfold chgS
  cases hx : firstD a name with
  | none =>
    simp -implicitDefEqProofs only [go_sem]
    exact fun h => by cases h
  | some x =>
    cases hy : firstD b name with
    | none =>
      simp -implicitDefEqProofs only [go_sem]
      exact fun h => by cases h
    | some y =>
      obtain ⟨ea, hea⟩ := sigD_enc a x
      obtain ⟨eb, heb⟩ := sigD_enc b y
      have hsa := R14Signature a ha.fit ha.gaps (ownD x) x.name fun z hz => ha.ok _ _ z hz
      have hsb := R14Signature b hb.fit hb.gaps (ownD y) y.name fun z hz => hb.ok _ _ z hz
      rw [hea] at hsa
      rw [heb] at hsb
      have hwa := R40Written (sigD a x) (sigD_short ha x).1 (sigD_short ha x).2.1 (sigD_short ha x).2.2
      have hwb := R40Written (sigD b y) (sigD_short hb y).1 (sigD_short hb y).2.1 (sigD_short hb y).2.2
      have hss := R14SameSign (sigD a x) (sigD b y)
      have ex : (some x : Option Dl).getD Dl.zero = x := rfl
      have ey : (some y : Option Dl).getD Dl.zero = y := rfl
      simp -implicitDefEqProofs only [go_sem, ex, ey]
      refine snd_draw (cs := []) mixed (by kernel_rfl) ?_
      simp -implicitDefEqProofs only [go_sem, ex, ey]
      refine vPC_of (R40owner x) (by simp -implicitDefEqProofs only [go_sem]) ?_
      simp -implicitDefEqProofs only [go_sem, ex, ey]
      refine vPC_of hsa (by simp -implicitDefEqProofs only [go_sem]) ?_
      simp -implicitDefEqProofs only [go_sem, ex, ey]
      refine snd_draw (cs := []) mixed (by kernel_rfl) ?_
      simp -implicitDefEqProofs only [go_sem, ex, ey]
      refine vPC_of (R40owner y) (by simp -implicitDefEqProofs only [go_sem]) ?_
      simp -implicitDefEqProofs only [go_sem, ex, ey]
      refine vPC_of hsb (by simp -implicitDefEqProofs only [go_sem]) ?_
      simp -implicitDefEqProofs only [go_sem, ex, ey]
      refine snd_draw (cs := []) mixed (by kernel_rfl) ?_
      simp -implicitDefEqProofs only [go_sem]
      refine vPC_of hwa (by simp -implicitDefEqProofs only [go_sem, Sg.enc]) ?_
      simp -implicitDefEqProofs only [go_sem]
      refine vPC_of hwb (by simp -implicitDefEqProofs only [go_sem, Sg.enc]) ?_
      simp -implicitDefEqProofs only [go_sem]
      refine vPC_of hss (by simp -implicitDefEqProofs only [go_sem, Sg.enc]) ?_
      simp -implicitDefEqProofs only [go_sem]
theorem pst_mem (s : ByteArray) (p : List ByteArray × Bool) (x y : ByteArray) : y ∈ (pst s p x).1 ↔ y ∈ p.1 ∨ y = x ∨ (y = s ∧ (pst s p x).2 = true ∧ p.2 = false) ∨ (y = s ∧ p.2 = true ∧ False) := by
  unfold pst
  split
  · rename_i h
    simp [h.1]
    constructor
    · rintro (h | h | h)
      · exact .inl h
      · exact .inr (.inr h)
      · exact .inr (.inl h)
    · rintro (h | h | h)
      · exact .inl h
      · exact .inr (.inr h)
      · exact .inr (.inl h)
  · simp
    constructor
    · rintro (h | h)
      · exact .inl h
      · exact .inr (.inl h)
    · rintro (h | h | ⟨h1, h2, h3⟩)
      · exact .inl h
      · exact .inr h
      · rcases h2 with h2 | h2
        · rw [h2] at h3; cases h3
        · exact .inr (by rw [h1, h2])
theorem pstL_mem (s y : ByteArray) : ∀ (l : List ByteArray) (p : List ByteArray × Bool), (y ∈ (l.foldl (pst s) p).1 ↔ y ∈ p.1 ∨ y ∈ l ∨ (y = s ∧ (l.foldl (pst s) p).2 = true ∧ p.2 = false)) ∧ (p.2 = true → (l.foldl (pst s) p).2 = true)
  | [], p => by
    refine ⟨?_, fun h => h⟩
    simp
  | x :: r, p => by
    obtain ⟨h1, h2⟩ := pstL_mem s y r (pst s p x)
    have h3 := pst_mem s p x y
    have h4 : p.2 = true → (pst s p x).2 = true := fun h => by
      unfold pst
      split
      · rfl
      · simp [h]
    rw [List.foldl_cons]
    refine ⟨?_, fun h => h2 (h4 h)⟩
    rw [h1, h3]
    simp only [List.mem_cons, and_false, or_false]
    constructor
    · rintro ((h | h | ⟨h, h', h''⟩) | h | ⟨h, h', h''⟩)
      · exact .inl h
      · exact .inr (.inl (.inl h))
      · exact .inr (.inr ⟨h, h2 h', h''⟩)
      · exact .inr (.inl (.inr h))
      · refine .inr (.inr ⟨h, h', ?_⟩)
        cases hp : p.2 with
        | false => rfl
        | true => rw [h4 hp] at h''; cases h''
    · rintro (h | (h | h) | ⟨h, h', h''⟩)
      · exact .inl (.inl h)
      · exact .inl (.inr (.inl h))
      · exact .inr (.inl h)
      · cases hp : (pst s p x).2 with
        | false => exact .inr (.inr ⟨h, h', rfl⟩)
        | true => exact .inl (.inr (.inr ⟨h, rfl, h''⟩))
theorem putS_mem (l : List ByteArray) (s y : ByteArray) : y ∈ putS l s ↔ y ∈ l ∨ y = s := by
  obtain ⟨h1, h2⟩ := pstL_mem s y l ([], false)
  unfold putS pstL
  simp only [List.not_mem_nil, false_or, and_true] at h1
  split
  · rename_i h
    rw [h1]
    constructor
    · rintro (h | h)
      · exact .inl h
      · exact .inr h.1
    · rintro (h' | h')
      · exact .inl h'
      · exact .inr ⟨h', h⟩
  · rename_i h
    rw [List.mem_append, h1]
    simp only [List.mem_singleton]
    constructor
    · rintro ((h' | h') | h')
      · exact .inl h'
      · exact .inr h'.1
      · exact .inr h'
    · rintro (h' | h')
      · exact .inl (.inl h')
      · exact .inr h'
theorem foldP_mem (y : ByteArray) : ∀ (l p : List ByteArray), y ∈ l.foldl putS p ↔ y ∈ p ∨ y ∈ l
  | [], p => by simp
  | x :: r, p => by
    rw [List.foldl_cons, foldP_mem y r, putS_mem, List.mem_cons]
    constructor
    · rintro ((h | h) | h)
      · exact .inl h
      · exact .inr (.inl h)
      · exact .inr (.inr h)
    · rintro (h | h | h)
      · exact .inl (.inl h)
      · exact .inl (.inr h)
      · exact .inr h
theorem insS_mem (l : List ByteArray) (s y : ByteArray) : y ∈ insS l s ↔ y ∈ l ∨ y = s := by
  rw [insS, putS_mem, foldP_mem]; simp
theorem insS_len (l : List ByteArray) (s : ByteArray) : (insS l s).length ≤ l.length + 1 := by
  have h1 := putS_len (l.foldl putS []) s
  have h2 := foldP_len l
  unfold insS; omega
end Go.Proofs.YtamednbojpnalaaGreatDoor
