/- What functions of the program compute, as pure functions of their arguments. Conditions: those that each theorem names. -/
import Derived.Test.YtamednbojpnalaaGreatDoorTnB
set_option linter.unusedVariables false
set_option linter.unusedSimpArgs false
namespace Go.Vg
section
variable {a l : List Nat} {k i g g' n m : Nat}
theorem as_sets (hk : k < a.length) : (a.set k g ++ l).set k g' = a.set k g' ++ l := by rw [List.set_append_left _ _ (by simpa using hk), List.set_set]
theorem as_at : (a.set k g ++ l)[a.length]? = l[0]? := by rw [List.getElem?_append_right (by simp)]; simp
theorem as_st : (a.set k g ++ l).set a.length n = a.set k g ++ l.set 0 n := by rw [List.set_append_right _ _ (by simp)]; simp
theorem as_len : (a.set k g).length = a.length := List.length_set
theorem as_get (hk : k < a.length) : (a.set k g ++ l)[k]? = some g := by rw [List.getElem?_append_left (by simpa using hk), List.getElem?_set_self hk]
theorem ar_at' {m : Nat} : (a ++ l)[a.length + m]? = l[m]? := by rw [List.getElem?_append_right (by omega)]; simp
theorem ar_set' {m : Nat} : (a ++ l).set (a.length + m) n = a ++ l.set m n := by rw [List.set_append_right _ _ (by omega)]; simp
theorem ar_set0 : (a ++ l).set a.length n = a ++ l.set 0 n := by rw [List.set_append_right _ _ (by omega)]; simp
theorem tellA_grow : ∀ {a l : List Nat}, tellA a (a ++ l)
  | [], l => by cases l <;> trivial
  | x :: r, l => ⟨rfl, tellA_grow⟩
theorem as_app : (l ++ a).length = l.length + a.length := List.length_append
end
end Go.Vg
namespace Go.Proofs.YtamednbojpnalaaGreatDoor
open Go Go.Vg Go.Proofs
theorem R06rows : (n : Nd) → ∀ (h : List VObj) (a : List Nat) (id k gen : Nat) (rs : List Rw) (p : Int), h[id]? = some (.vec k gen 100 (encRs rs)) → a[k]? = some gen → 0 < rs.length → rs.length + (nodes n).length ≤ 1000000 →
    VCalls (envV 80) 165 [.vec id k gen rs.length 100, .agg n.enc, .int .i64 p] h a fun v h' a' => ∃ gen' z y, v = .vec id k gen' (rs.length + (nodes n).length) 100 ∧
      h' = h.set id (.vec k gen' 100 (encRs (rs ++ rowsN n p rs.length))) ++ z ∧ a' = a.set k gen' ++ y := by
  refine Nd.all fun k t g ks ih h a id kk gen rs p hid hak hrs hn => ?_
  have hlt : id < h.length := (List.getElem?_eq_some_iff.1 hid).1
  refine vcalls_vc (fn := Tryz.f165) Tryz.func165 rfl (by rw [Tryz.ntmps165]; simp) ?_
  simp -implicitDefEqProofs only [go_sem, Tryz.f165]
  intro hl1
  simp -implicitDefEqProofs only [go_sem, hp_get hid, hp_set hlt, hp_gets hlt, hp_sets hlt, hp_at, hp_at', hp_st, hp_st', hp_len]
  rw [nodes_mk] at hn ⊢
  have hkl0 : kk < a.length := (List.getElem?_eq_some_iff.1 hak).1
  have hel := encRs_len rs
  have e0 : ∀ kl : List Nat, encRs rs ++ [[V.int .i64 p, .int .i64 k, .str t, sl 9 (g.map encS), sl 3 (kl.map encI)]].flatten = encRs (rs ++ [⟨p, k, t, g, kl⟩]) := fun kl => by
    rw [encRs_app]; rfl
  have e1 : encRs rs ++ [[V.int .i64 p, .int .i64 k, .str t, sl 9 (g.map encS), V.slice .shared 0 []]].flatten = encRs (rs ++ [⟨p, k, t, g, []⟩]) := e0 []
  rw [e1]
  refine ⟨by simp, ⟨hel, by omega⟩, ?_⟩
  refine snd_listW (β := Nat × List VObj × List Nat) ks (fun pre b => ⟨[(9, .int .i64 pre.length), (8, .slice (.arr a.length) 3 ((kidsAt pre (rs.length + 1)).map encI)), (7, .int .i64 rs.length), (4, .ptr h.length 0),
        (0, .vec id kk b.1 (rs.length + 1 + (nodesL pre).length) 100)],
      h.set id (.vec kk b.1 100 (encRs (rs ++ ⟨p, k, t, g, []⟩ :: rowsL pre rs.length (rs.length + 1)))) ++ .cells (Nd.mk k t g ks).enc :: b.2.1, a.set kk b.1 ++ pre.length :: b.2.2⟩)
    (fun _ _ _ => True) (gen + 1, [], []) (fun b => ⟨[(9, .int .i64 ks.length), (8, sl 3 ((kidsAt ks (rs.length + 1)).map encI)), (7, .int .i64 rs.length), (4, .ptr h.length 0),
        (0, .vec id kk b.1 (rs.length + 1 + (nodesL ks).length) 100)],
      h.set id (.vec kk b.1 100 (encRs (rs ++ ⟨p, k, t, g, []⟩ :: rowsL ks rs.length (rs.length + 1)))) ++ .cells (Nd.mk k t g ks).enc :: b.2.1, a.set kk b.1 ++ ks.length :: b.2.2⟩) ?_ trivial ?_ ?_ ?_
  · simp only [nodesL, rowsL, kidsAt, List.length_nil, Nat.add_zero, List.map_nil]
    simp -implicitDefEqProofs only [go_sem, hp_len, as_len]
    exact ⟨⟨rfl, by omega⟩, tellA_grow⟩
  · intro b _
    refine Told.weak ?_
    simp -implicitDefEqProofs only [go_sem, hp_len, as_len]
    rw [as_app, as_len]
    omega
  · intro b _
    simp -implicitDefEqProofs only [go_sem, hp_get hid, hp_set hlt, hp_gets hlt, hp_sets hlt, hp_at, hp_at', hp_st, hp_st', hp_len, List.getElem?_cons_succ, List.set_cons_succ]
    intro _ _
    have e2 := encRs_len (rs ++ (⟨p, k, t, g, []⟩ : Rw) :: rowsL ks rs.length (rs.length + 1))
    refine ⟨by omega, by rw [e2]; simp; omega, b.1, .cells (Nd.mk k t g ks).enc :: b.2.1, ks.length :: b.2.2, by congr 1; omega, ?_, rfl⟩
    rw [enc_mk]
    congr 3
    rw [rowsN]
    exact put_kids rs ⟨p, k, t, g, []⟩ _ _ rfl
  · rintro pre x post b rfl _
    have hsz : (nodesL (pre ++ x :: post)).length = (nodesL pre).length + (nodes x).length + (nodesL post).length := by
      rw [nodesL_app, nodesL]; simp; omega
    simp -implicitDefEqProofs only [go_sem, hp_get hid, hp_set hlt, hp_gets hlt, hp_sets hlt, hp_at, hp_at', hp_st, hp_st', hp_len, List.getElem?_cons_succ, List.set_cons_succ, as_at, as_st, as_len]
    intro hb hl hlen
    have hp := mid_len hl
    have hkl := kidsAt_len pre (rs.length + 1)
    have hpl : pre.length < (pre ++ x :: post).length := by simp
    refine ⟨by rw [hkl]; omega, by rw [hkl], ?_⟩
    have e : (rs ++ (⟨p, k, t, g, []⟩ : Rw) :: rowsL pre rs.length (rs.length + 1)).length = rs.length + 1 + (nodesL pre).length := by
      simp [rowsL_len]; omega
    rw [← e]
    refine VCalls.mono (ih x mem_mid _ _ id kk b.1 (rs ++ (⟨p, k, t, g, []⟩ : Rw) :: rowsL pre rs.length (rs.length + 1)) rs.length (hp_gets hlt) (as_get hkl0) (by omega) (by omega)) ?_
    rintro v h' a' ⟨gen', z, y, rfl, rfl, rfl⟩
    simp -implicitDefEqProofs only [go_sem, hp_get hid, hp_set hlt, hp_gets hlt, hp_sets hlt, hp_at, hp_at', hp_st, hp_st', hp_len, List.getElem?_cons_succ, List.set_cons_succ, as_at, as_st, as_len, as_sets hkl0]
    have e2 : rs.length + 1 + (nodesL (pre ++ [x])).length = rs.length + 1 + (nodesL pre).length + (nodes x).length := by rw [nodesL_snoc, List.length_append]; omega
    have e3 : rs ++ (⟨p, k, t, g, []⟩ : Rw) :: rowsL pre rs.length (rs.length + 1) ++ rowsN x rs.length (rs.length + 1 + (nodesL pre).length) = rs ++ ⟨p, k, t, g, []⟩ :: rowsL (pre ++ [x]) rs.length (rs.length + 1) := by
      rw [rowsL_snoc, List.append_assoc, List.cons_append]
    refine ⟨(gen', b.2.1 ++ z, b.2.2 ++ y), ⟨wrap_next (by omega), ?_, ?_⟩, ?_⟩
    · rw [e, kidsAt_snoc, List.map_append]; rfl
    · rw [e, e2, tell_same]; trivial
    · rw [e, e3, hkl, List.append_assoc, List.cons_append]
      refine ⟨tellH_refl, by rw [tellA_same]; trivial, by rw [as_app, as_len]; omega, .inl ⟨?_, Nat.le_refl _⟩⟩
      simp only [List.length_append]
      omega
/-- With no table yet. -/
theorem R06rows0 (h : List VObj) (a : List Nat) (n : Nd) (p : Int) (hn : (nodes n).length ≤ 1000000) : VCalls (envV 80) 165 [.slice .nil 0 [], .agg n.enc, .int .i64 p] h a fun v h' a' => ∃ gen' y, v = .vec (h.length + 1) a.length gen' (nodes n).length 100 ∧
      h'[h.length + 1]? = some (.vec a.length gen' 100 (encRs (rowsN n p 0))) ∧ a' = a ++ gen' :: y := by
  obtain ⟨k, t, g, ks⟩ := n
  refine vcalls_vc (fn := Tryz.f165) Tryz.func165 rfl (by rw [Tryz.ntmps165]; simp) ?_
  simp -implicitDefEqProofs only [go_sem, Tryz.f165]
  rw [nodes_mk] at hn ⊢
  have e1 : [].flatten ++ [[V.int .i64 p, .int .i64 k, .str t, sl 9 (g.map encS), V.slice .shared 0 []]].flatten = encRs [⟨p, k, t, g, []⟩] := rfl
  rw [e1]
  refine ⟨by simp, ?_⟩
  refine snd_listW (β := Nat × List VObj × List Nat) ks (fun pre b => ⟨[(9, .int .i64 pre.length), (8, .slice (.arr (a.length + 1)) 3 ((kidsAt pre 1).map encI)), (7, .int .i64 (0 : Nat)), (4, .ptr h.length 0),
        (0, .vec (h.length + 1) a.length b.1 (1 + (nodesL pre).length) 100)],
      h ++ .cells (Nd.mk k t g ks).enc :: .vec a.length b.1 100 (encRs (⟨p, k, t, g, []⟩ :: rowsL pre 0 1)) :: b.2.1, a ++ b.1 :: pre.length :: b.2.2⟩)
    (fun _ _ _ => True) (gen0, [], []) (fun b => ⟨[(9, .int .i64 ks.length), (8, sl 3 ((kidsAt ks 1).map encI)), (7, .int .i64 (0 : Nat)), (4, .ptr h.length 0),
        (0, .vec (h.length + 1) a.length b.1 (1 + (nodesL ks).length) 100)],
      h ++ .cells (Nd.mk k t g ks).enc :: .vec a.length b.1 100 (encRs (⟨p, k, t, g, []⟩ :: rowsL ks 0 1)) :: b.2.1, a ++ b.1 :: ks.length :: b.2.2⟩) ?_ trivial ?_ ?_ ?_
  · simp only [nodesL, rowsL, kidsAt, List.length_nil, Nat.add_zero, List.map_nil]
    simp -implicitDefEqProofs only [go_sem]
    exact ⟨⟨rfl, by simp⟩, by rw [show a ++ [gen0, 0] = (a ++ [gen0]) ++ [0] by simp]; exact tellA_grow, by simp, .inl (by simp)⟩
  · intro b _
    refine Told.weak ?_
    simp -implicitDefEqProofs only [go_sem]
    simp
  · intro b _
    simp -implicitDefEqProofs only [go_sem, List.getElem?_cons_succ, List.set_cons_succ]
    intro _ _
    have e2 := encRs_len ((⟨p, k, t, g, []⟩ : Rw) :: rowsL ks 0 1)
    refine ⟨by omega, by rw [e2]; simp; omega, b.1, ks.length :: b.2.2, by congr 1; omega, ?_, rfl⟩
    refine congrArg (fun x => some (VObj.vec a.length b.1 100 x)) ?_
    rw [rowsN]
    exact put_kids [] ⟨p, k, t, g, []⟩ _ _ rfl
  · rintro pre x post b rfl _
    have hsz : (nodesL (pre ++ x :: post)).length = (nodesL pre).length + (nodes x).length + (nodesL post).length := by
      rw [nodesL_app, nodesL]; simp; omega
    simp -implicitDefEqProofs only [go_sem, List.getElem?_cons_succ, List.set_cons_succ, ar_at', ar_set']
    intro hb hl hlen
    have hp := mid_len hl
    have hkl := kidsAt_len pre 1
    have hpl : pre.length < (pre ++ x :: post).length := by simp
    refine ⟨by rw [hkl]; omega, by rw [hkl], ?_⟩
    have e : ((⟨p, k, t, g, []⟩ : Rw) :: rowsL pre 0 1).length = 1 + (nodesL pre).length := by
      simp [rowsL_len]; omega
    rw [← e]
    refine VCalls.mono (R06rows x _ _ (h.length + 1) a.length b.1 ((⟨p, k, t, g, []⟩ : Rw) :: rowsL pre 0 1) (0 : Nat) (by rw [List.getElem?_append_right (by omega)]; simp) (by rw [List.getElem?_append_right (by omega)]; simp) (by omega) (by omega)) ?_
    rintro v h' a' ⟨gen', z, y, rfl, rfl, rfl⟩
    simp -implicitDefEqProofs only [go_sem, List.getElem?_cons_succ, List.set_cons_succ, ar_at', ar_set', ar_set0]
    have e3 : (rowsL pre 0 1).length + 1 = 1 + (nodesL pre).length := by rw [rowsL_len]; omega
    have e2 : 1 + (nodesL (pre ++ [x])).length = 1 + (nodesL pre).length + (nodes x).length := by rw [nodesL_snoc, List.length_append]; omega
    refine ⟨(gen', b.2.1 ++ z, b.2.2 ++ y), ⟨wrap_next (by omega), ?_, ?_⟩, ⟨?_, tellH_refl⟩, ?_, by simp, .inl ⟨?_, ?_⟩⟩
    · rw [e3, kidsAt_snoc, List.map_append]; rfl
    · rw [e3, e2, tell_same]; trivial
    · rw [e3, rowsL_snoc, tellO_same]; trivial
    · rw [hkl, List.append_assoc, List.cons_append, List.cons_append, tellA_same]; trivial
    · simp only [List.length_append]
      omega
    · rw [hkl]; simp
theorem R06Rows (n : Nd) (hn : (nodes n).length ≤ 1000000) : VPure env 128 [.agg n.enc] (sl 100 ((rowsN n (-1) 0).map Rw.enc)) := by
  refine VPure.ofV (tv := 80) ?_
  refine vpure_vc (fn := Tryz.f128) Tryz.func128 rfl (by rw [Tryz.ntmps128]; simp) (by simp -implicitDefEqProofs only [go_sem]) (by simp -implicitDefEqProofs only [go_sem]; exact rows_pure _) ?_
  simp -implicitDefEqProofs only [go_sem, Tryz.f128]
  refine VCalls.thawV (VCalls.mono (R06rows0 _ _ n (-1) hn) ?_)
  rintro v h' a' ⟨gen', y, rfl, h1, rfl⟩
  have hl := rowsN_len n (-1) 0
  have hp : 0 < (nodes n).length := by cases n; rw [nodes_mk]; omega
  have e := encRs_len (rowsN n (-1) 0)
  refine ⟨_, _, _, _, _, _, rfl, h1, by omega, by simp -implicitDefEqProofs only [go_sem], by simp -implicitDefEqProofs only [go_sem]; omega, ?_⟩
  simp -implicitDefEqProofs only [go_sem]
  rw [← hl, chunkR]
end Go.Proofs.YtamednbojpnalaaGreatDoor
