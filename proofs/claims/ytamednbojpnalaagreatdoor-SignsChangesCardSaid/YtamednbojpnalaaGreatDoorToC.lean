/- classes.Supers. -/
import Derived.Test.YtamednbojpnalaaGreatDoorToA
set_option linter.unusedVariables false
set_option linter.unusedSimpArgs false
set_option maxRecDepth 20000
namespace Go.Vg
/-- The first kid that is a KdBase, and where it stands. -/
def baseL : List Nd → Int → Nd × Int
  | [], _ => (Nd.zero, 0)
  | x :: r, k => if x.kind = 8 then (x, k) else baseL r (k + (nodes x).length)
theorem declT_of {k : Int} {t : ByteArray} {u m : Int} {x : Ar} {d : Dl} (h : declT k t u m x = some d) : d.unit = u ∧ d.node = m ∧ d.name = t ∧ (d.kind = 2 → k = 7) ∧ (d.kind = 1 ∨ d.kind = 4 → k = 2) := by
  unfold declT at h
  repeat' split at h
  all_goals first | (cases h; done) | (cases h; simp; try omega)
def placed (n : Nd) (m : Nat) (d : Dl) : Prop := ∃ j y, d.node = ((m + j : Nat) : Int) ∧ (nodes n)[j]? = some y ∧ d.name = y.text ∧ (d.kind = 2 → y.kind = 7) ∧ (d.kind = 1 ∨ d.kind = 4 → y.kind = 2)
theorem walkD_at : ∀ (n : Nd) (u : Int) (m : Nat) (x : Ar) (d : Dl), d ∈ walkD n u m x → d.unit = u ∧ placed n m d := by
  refine Nd.all fun k t g ks ih u m x d hd => ?_
  have hs : ∀ (l : List Nd), (∀ y ∈ l, ∀ (u : Int) (m : Nat) (x : Ar) (d : Dl), d ∈ walkD y u m x → d.unit = u ∧ placed y m d) → ∀ (m : Nat) (x : Ar) (d : Dl), d ∈ walkDs l u m x →
      d.unit = u ∧ ∃ j y, d.node = ((m + j : Nat) : Int) ∧ (nodesL l)[j]? = some y ∧ d.name = y.text ∧ (d.kind = 2 → y.kind = 7) ∧ (d.kind = 1 ∨ d.kind = 4 → y.kind = 2) := by
    intro l
    induction l with
    | nil => intro _ m x d hd; simp [walkDs] at hd
    | cons z r ihr =>
      intro h m x d hd
      rw [walkDs, List.mem_append] at hd
      rcases hd with hd | hd
      · obtain ⟨h1, j, y, h2, h3, h4⟩ := h z (by simp) u m x d hd
        refine ⟨h1, j, y, h2, ?_, h4⟩
        rw [nodesL, List.getElem?_append_left (List.getElem?_eq_some_iff.1 h3).1]; exact h3
      · obtain ⟨h1, j, y, h2, h3, h4⟩ := ihr (fun y hy => h y (by simp [hy])) _ x d hd
        refine ⟨h1, (nodes z).length + j, y, by rw [h2, Nat.add_assoc], ?_, h4⟩
        rw [nodesL, List.getElem?_append_right (by omega)]; simpa using h3
  rw [walkD, List.mem_append] at hd
  rcases hd with hd | hd
  · cases hdt : declT k t u m x with
    | none => rw [hdt] at hd; cases hd
    | some d' =>
      rw [hdt] at hd
      simp at hd
      subst hd
      obtain ⟨h1, h2, h3, h4⟩ := declT_of hdt
      exact ⟨h1, 0, .mk k t g ks, by simpa using h2, by simp [nodes], h3, h4⟩
  · obtain ⟨h1, j, y, h2, h3, h4⟩ := hs ks ih _ _ d hd
    exact ⟨h1, j + 1, y, by rw [h2]; congr 1; omega, by simpa [nodes] using h3, h4⟩
theorem declsU_at : ∀ (u : List Un) (i : Nat) (d : Dl), d ∈ declsU u i → ∃ un x, d.unit = ((i + un : Nat) : Int) ∧ u[un]? = some x ∧ x.broken = false ∧ placed x.tree 0 d
  | [], i, d, h => by simp [declsU] at h
  | x :: r, i, d, h => by
    rw [declsU, List.mem_append] at h
    rcases h with h | h
    · split at h
      · cases h
      · rename_i hb
        obtain ⟨h1, h2⟩ := walkD_at x.tree i 0 Ar.none d h
        exact ⟨0, x, by simpa using h1, rfl, by simpa using hb, h2⟩
    · obtain ⟨un, y, h1, h2, h3⟩ := declsU_at r (i + 1) d h
      exact ⟨un + 1, y, by rw [h1]; congr 1; omega, by simpa using h2, h3⟩
theorem nodes_le : ∀ (n y : Nd), y ∈ nodes n → (nodes y).length ≤ (nodes n).length := by
  refine Nd.all fun k t g ks ih y hy => ?_
  have hs : ∀ (l : List Nd), (∀ z ∈ l, ∀ y ∈ nodes z, (nodes y).length ≤ (nodes z).length) → ∀ y ∈ nodesL l, (nodes y).length ≤ (nodesL l).length := by
    intro l
    induction l with
    | nil => intro _ y hy; simp [nodesL] at hy
    | cons z r ihr =>
      intro h y hy
      rw [nodesL, List.mem_append] at hy
      rw [nodesL, List.length_append]
      rcases hy with hy | hy
      · have := h z (by simp) y hy; omega
      · have := ihr (fun w hw => h w (by simp [hw])) y hy; omega
  rw [nodes] at hy
  rcases List.mem_cons.1 hy with rfl | hy
  · exact Nat.le_refl _
  · have := hs ks (fun z hz y hy => ih z hz y hy) y hy
    rw [nodes_mk]; omega
theorem kid_nodes {k t g} {ks : List Nd} {x : Nd} (hx : x ∈ ks) : (nodes x).length ≤ (nodes (.mk k t g ks)).length := by
  refine nodes_le _ _ (mem_kid hx ?_)
  obtain ⟨a, b, c, d⟩ := x
  rw [nodes]; simp
theorem kids_nodes : ∀ ks : List Nd, ks.length ≤ (nodesL ks).length
  | [] => Nat.le_refl _
  | x :: r => by
    have := kids_nodes r
    have h1 := cnt_pos x
    unfold cntN at h1
    rw [nodesL, List.length_append, List.length_cons]; omega
theorem baseL_fst : ∀ (l : List Nd) (a b : Int), (baseL l a).1 = (baseL l b).1
  | [], _, _ => rfl
  | x :: r, a, b => by
    rw [baseL, baseL]
    split
    · rfl
    · exact baseL_fst r _ _
/-- The text of the base of a class. -/
def btU (u : List Un) (d : Dl) : ByteArray := match u[d.unit.toNat]? with
  | some x => match (nodes x.tree)[d.node.toNat]? with
    | some n => (baseL n.kids 0).1.text
    | none => ⟨#[]⟩
  | none => ⟨#[]⟩
/-- The bases by the names of the classes. -/
def mapB (B : List (ByteArray × ByteArray)) : List (V × V) := B.map fun p => (.str p.1, .str p.2)
def getB (B : List (ByteArray × ByteArray)) (n : ByteArray) : Option ByteArray := (B.find? fun p => decide (p.1 = n)).map (·.2)
/-- The base classes behind a class. -/
def supB (B : List (ByteArray × ByteArray)) (cls : ByteArray) : Nat → List ByteArray → ByteArray → List ByteArray × ByteArray
  | 0, out, next => (out, next)
  | f + 1, out, next => if (decide (next = ⟨#[]⟩) || !(getB B next).isSome || (cls :: out).any fun x => decide (x = next)) = true then (out, next) else supB B cls f (out ++ [next]) ((getB B next).getD ⟨#[]⟩)
theorem findB (n : ByteArray) : ∀ (B : List (ByteArray × ByteArray)) (i : Nat), (∃ j v, findV .string (.str n) (mapB B) i = some (some (j, .str v)) ∧ getB B n = some v) ∨ (findV .string (.str n) (mapB B) i = some none ∧ getB B n = none)
  | [], i => .inr ⟨rfl, rfl⟩
  | (a, b) :: r, i => by
    by_cases h : a = n
    · subst h
      refine .inl ⟨i, b, ?_, by simp [getB]⟩
      simp only [mapB, List.map_cons, findV, sameV]
      have : (a == a) = true := (MapKept.bytes_beq a a).2 rfl
      rw [this]
    · have h2 : (n == a) = false := by
        cases hc : (n == a) with
        | false => rfl
        | true => exact absurd ((MapKept.bytes_beq n a).1 hc).symm h
      have e : findV .string (.str n) (mapB ((a, b) :: r)) i = findV .string (.str n) (mapB r) (i + 1) := by
        simp only [mapB, List.map_cons, findV, sameV, h2]
      have e2 : getB ((a, b) :: r) n = getB r n := by simp [getB, h]
      rw [e, e2]
      exact findB n r (i + 1)
theorem getB_mem {B : List (ByteArray × ByteArray)} {n : ByteArray} (h : (getB B n).isSome = true) : n ∈ B.map (·.1) := by
  unfold getB at h
  cases hf : B.find? fun p => decide (p.1 = n) with
  | none => rw [hf] at h; cases h
  | some p =>
    have h1 := List.mem_of_find?_eq_some hf
    have h2 := List.find?_some hf
    exact List.mem_map.2 ⟨p, h1, by simpa using h2⟩
theorem pigeon {α : Type} [DecidableEq α] : ∀ (l m : List α), l.Nodup → (∀ x ∈ l, x ∈ m) → l.length ≤ m.length
  | [], m, _, _ => Nat.zero_le _
  | x :: l, m, hn, hm => by
    have hx := hm x (by simp)
    have h1 := pigeon l (m.erase x) (List.nodup_cons.1 hn).2 fun y hy => by
      refine (List.mem_erase_of_ne ?_).2 (hm y (by simp [hy]))
      rintro rfl; exact (List.nodup_cons.1 hn).1 hy
    have h2 := List.length_erase_of_mem hx
    have h3 := List.length_pos_of_mem hx
    simp only [List.length_cons]; omega
/-- A set of texts. -/
def seenM (l : List ByteArray) : List (V × V) := l.map fun x => (.str x, .bool true)
theorem findS (n : ByteArray) : ∀ (l : List ByteArray) (i : Nat), (∃ j, findV .string (.str n) (seenM l) i = some (some (j, .bool true)) ∧ (l.any fun x => decide (x = n)) = true) ∨ (findV .string (.str n) (seenM l) i = some none ∧ (l.any fun x => decide (x = n)) = false)
  | [], i => .inr ⟨rfl, rfl⟩
  | a :: r, i => by
    by_cases h : a = n
    · subst h
      refine .inl ⟨i, ?_, by simp⟩
      simp only [seenM, List.map_cons, findV, sameV]
      have : (a == a) = true := (MapKept.bytes_beq a a).2 rfl
      rw [this]
    · have h2 : (n == a) = false := by
        cases hc : (n == a) with
        | false => rfl
        | true => exact absurd ((MapKept.bytes_beq n a).1 hc).symm h
      have e : findV .string (.str n) (seenM (a :: r)) i = findV .string (.str n) (seenM r) (i + 1) := by
        simp only [seenM, List.map_cons, findV, sameV, h2]
      have e2 : ((a :: r).any fun x => decide (x = n)) = r.any fun x => decide (x = n) := by simp [h]
      rw [e, e2]
      exact findS n r (i + 1)
end Go.Vg
namespace Go.Proofs.YtamednbojpnalaaGreatDoor
open Go Go.Vg Go.Proofs
theorem look_B {B : List (ByteArray × ByteArray)} {n : ByteArray} {K : V → Prop} : vLookF env 9 (findV .string (.str n) (mapB B) 0) false K = K (.str ((getB B n).getD ⟨#[]⟩)) := by
  rcases findB n B 0 with ⟨j, v, h1, h2⟩ | ⟨h1, h2⟩
  · rw [h1, h2]; simp -implicitDefEqProofs only [go_sem]; rfl
  · rw [h1, h2]; simp -implicitDefEqProofs only [go_sem]; rfl
theorem look_B2 {B : List (ByteArray × ByteArray)} {n : ByteArray} {K : V → Prop} : vLookF env 9 (findV .string (.str n) (mapB B) 0) true K = K (.tuple [.str ((getB B n).getD ⟨#[]⟩), .bool (getB B n).isSome]) := by
  rcases findB n B 0 with ⟨j, v, h1, h2⟩ | ⟨h1, h2⟩
  · rw [h1, h2]; simp -implicitDefEqProofs only [go_sem]; rfl
  · rw [h1, h2]; simp -implicitDefEqProofs only [go_sem]; rfl
theorem look_S {l : List ByteArray} {n : ByteArray} {K : V → Prop} : vLookF env 4 (findV .string (.str n) (seenM l) 0) false K = K (.bool (l.any fun x => decide (x = n))) := by
  rcases findS n l 0 with ⟨j, h1, h2⟩ | ⟨h1, h2⟩
  · rw [h1, h2]; simp -implicitDefEqProofs only [go_sem]
  · rw [h1, h2]; simp -implicitDefEqProofs only [go_sem]; rfl
theorem set_S {l : List ByteArray} {n : ByteArray} {h : List VObj} {id : Nat} {L : List VObj → Prop} (hn : (l.any fun x => decide (x = n)) = false) : vSetF h id (seenM l) (.str n) (.bool true) (findV .string (.str n) (seenM l) 0) L = L (h.set id (.map (seenM (l ++ [n])))) := by
  rcases findS n l 0 with ⟨j, h1, h2⟩ | ⟨h1, h2⟩
  · rw [h2] at hn; cases hn
  · rw [h1]; simp -implicitDefEqProofs only [go_sem]; simp [seenM]
theorem Cbase (u : List Un) (hu : fitU u) (un nd : Nat) (x : Un) (n : Nd) (hx : u[un]? = some x) (hn : (nodes x.tree)[nd]? = some n) (hs : ∀ k ∈ n.kids, (nodes k).length ≤ 1000) (hks : n.kids.length ≤ 1000) : VPure env 101 [sl 34 (u.map Un.enc), .agg [.int .i64 un, .int .i64 nd]] (.tuple [.agg (baseL n.kids (nd + 1)).1.enc, .int .i64 (baseL n.kids (nd + 1)).2]) := by
  obtain ⟨k, t, g, ks⟩ := n
  simp only [Nd.kids] at hs hks ⊢
  have hul : un < u.length := (List.getElem?_eq_some_iff.1 hx).1
  have hxm : x ∈ u := List.mem_of_getElem? hx
  have hnl : nd < (nodes x.tree).length := (List.getElem?_eq_some_iff.1 hn).1
  have hnn : (nodes x.tree).length ≤ 1000 := (hu.2 x hxm).1
  have hel : (u.map Un.enc).getD (un : Int).toNat [] = x.enc := un_getD (by simpa using hx)
  have hlt : ((un : Int) < (u.length : Int)) = True := by simp; omega
  have hAt := TAt x.tree (by omega) nd (by omega)
  rw [if_pos (by omega), Int.toNat_natCast, hn] at hAt
  refine vpure_vc (fn := Tryz.f101) Tryz.func101 rfl (by rw [Tryz.ntmps101]; simp) (by simp -implicitDefEqProofs only [go_sem]; exact uns_pure _) (by simp -implicitDefEqProofs only [go_sem]) ?_
  simp -implicitDefEqProofs only [go_sem, Tryz.f101]
  refine snd_draw (cs := []) mixed (by kernel_rfl) ?_
  simp -implicitDefEqProofs only [go_sem, hel, hlt]
  refine vPC_of hAt (by simp -implicitDefEqProofs only [go_sem]) ?_
  simp -implicitDefEqProofs only [go_sem, Option.getD_some, Option.isSome]
  intro _ _
  refine snd_list (β := Int) ks (fun pre kk => ⟨[(29, .int .i64 pre.length), (28, .int .i64 ks.length), (27, sl 32 (ks.map Nd.enc)), (8, .int .i64 kk), (5, .int .i64 0), (4, .ptr 1 0)],
      [.dead, .cells [.int .i64 0, .str ⟨#[]⟩, .slice .nil 0 [], .slice .nil 0 []], .cells (Nd.mk k t g ks).enc], []⟩)
    (fun pre post kk => baseL ks (nd + 1) = baseL post kk ∧ 0 ≤ kk ∧ kk ≤ 1001 + pre.length * 1000) (nd + 1) ?_ ⟨rfl, by omega, by simp; omega⟩ ?_ ?_
  · have : IntKind.i64.wrap ((nd : Int) + 1) = nd + 1 := wrap_ok (by omega) (by omega)
    simp -implicitDefEqProofs only [go_sem, this]
    try rfl
  · rintro kk ⟨hi, _, _⟩
    simp -implicitDefEqProofs only [go_sem]
    rw [hi]; rfl
  · rintro pre y post kk hy ⟨hi, b0, b1⟩
    have hpl : ks.length = pre.length + 1 + post.length := by rw [hy]; simp; omega
    have hgx : (ks.map Nd.enc).getD (pre.length : Int).toNat [] = y.enc := by rw [hy]; simp [List.getD_eq_getElem?_getD]
    have hlt2 : ((pre.length : Int) < ks.length) = True := by simp; omega
    have hym : y ∈ ks := by rw [hy]; simp
    have hyn := hs y hym
    rw [hi, baseL]
    simp -implicitDefEqProofs only [go_sem, hgx, hlt2]
    refine ⟨fun h8 => ?_, fun h8 => ?_⟩
    · rw [if_pos h8]
    · refine (TSize y (by omega)).calls (by simp -implicitDefEqProofs only [go_sem]) ?_
      simp -implicitDefEqProofs only [go_sem]
      exact ⟨_, ⟨by rw [if_neg h8], by omega, by omega⟩, wrap_next (by omega), wrap_ok (by omega) (by omega)⟩
theorem Csupers (B : List (ByteArray × ByteArray)) (nm ds : V) (es : List (V × V)) (a : Nat) (cls : ByteArray) (hB : B.length ≤ 1000000) (hnm : nm.some? = true) (hds : ds.some? = true) :
    VCalls env 102 [.ptr 2 0, .str cls] [.map (mapB B), .map es, .cells [nm, .map 0, .map 1, ds]] [a] fun v h' a' => ∃ n z, v = .tuple [.slice (.arr 1) 9 ((supB B cls (B.length + 1) [] ((getB B cls).getD ⟨#[]⟩)).1.map encS), .str (supB B cls (B.length + 1) [] ((getB B cls).getD ⟨#[]⟩)).2] ∧ h' = [.map (mapB B), .map es, .cells [nm, .map 0, .map 1, ds], z] ∧ a' = [a, n] := by
  refine vcalls_vc (fn := Tryz.f102) Tryz.func102 rfl (by rw [Tryz.ntmps102]; simp) ?_
  simp -implicitDefEqProofs only [go_sem, Tryz.f102, look_B]
  generalize hgo : supB B cls (B.length + 1) [] ((getB B cls).getD ⟨#[]⟩) = goal
  refine snd_for (α := List ByteArray × ByteArray) (fun s => ⟨[(8, .str s.2), (7, .map 3), (6, .slice (.arr 1) 9 (s.1.map encS)), (5, .str ⟨#[]⟩), (4, .slice .nil 0 []), (0, .ptr 2 0), (1, .str cls)],
      [.map (mapB B), .map es, .cells [nm, .map 0, .map 1, ds], .map (seenM (cls :: s.1))], [a, s.1.length]⟩)
    (fun s => supB B cls (B.length + 1 - s.1.length) s.1 s.2 = goal ∧ s.1.Nodup ∧ ∀ x ∈ s.1, (getB B x).isSome = true) (fun s => B.length + 1 - s.1.length) ([], (getB B cls).getD ⟨#[]⟩) ?_ ⟨by simpa using hgo, by simp, by simp⟩ ?_
  · simp -implicitDefEqProofs only [go_sem]
    rfl
  · rintro ⟨out, next⟩ ⟨i1, i2, i3⟩
    simp only at i1 i2 i3
    have hle : out.length ≤ B.length := by
      have := pigeon out (B.map (·.1)) i2 fun x hx => getB_mem (i3 x hx)
      simpa using this
    obtain ⟨f, hf⟩ : ∃ f, B.length + 1 - out.length = f + 1 := ⟨B.length - out.length, by omega⟩
    rw [hf, supB] at i1
    have hstop : (decide (next = ⟨#[]⟩) || !(getB B next).isSome || (cls :: out).any fun x => decide (x = next)) = true → ∃ n z, V.tuple [.slice (.arr 1) 9 (out.map encS), .str next] = V.tuple [.slice (.arr 1) 9 (goal.1.map encS), .str goal.2] ∧ [VObj.map (mapB B), VObj.map es, VObj.cells [nm, .map 0, .map 1, ds], VObj.map (seenM (cls :: out))] = [.map (mapB B), .map es, .cells [nm, .map 0, .map 1, ds], z] ∧ [a, out.length] = [a, n] := fun h => by
      rw [if_pos h] at i1; rw [← i1]; exact ⟨_, _, rfl, rfl, rfl⟩
    simp -implicitDefEqProofs only [go_sem, look_B, look_B2, look_S]
    refine ⟨fun h1 => ⟨fun h2 => ⟨fun h3 => hstop (by simp [h3]), fun h3 => ?_⟩, fun h2 => hstop (by simp [h2])⟩, fun h1 => hstop (by simp [h1])⟩
    have hsm : (getB B next).isSome = true := by simpa using h2
    have hc : ¬ (decide (next = ⟨#[]⟩) || !(getB B next).isSome || (cls :: out).any fun x => decide (x = next)) = true := by
      rw [h3, h2]; simp [h1]
    rw [if_neg hc] at i1
    rw [set_S h3]
    simp -implicitDefEqProofs only [go_sem, look_B]
    have hno : next ∉ out := fun hm => by
      have : ((cls :: out).any fun x => decide (x = next)) = true := by simp; exact .inr hm
      rw [h3] at this; cases this
    refine ⟨by omega, (out ++ [next], (getB B next).getD ⟨#[]⟩), by simp; omega, ⟨?_, ?_, ?_⟩, ⟨rfl, by simp [encS]⟩, rfl, by simp⟩
    · have : B.length + 1 - (out ++ [next]).length = f := by simp; omega
      simp only [this]; exact i1
    · simp only []
      rw [List.nodup_append]
      exact ⟨i2, by simp, fun x hx y hy => by simp at hy; subst hy; rintro rfl; exact hno hx⟩
    · intro x hx
      rcases List.mem_append.1 hx with h | h
      · exact i3 x h
      · simp at h; subst h; exact hsm
end Go.Proofs.YtamednbojpnalaaGreatDoor
set_option linter.unusedVariables false
set_option linter.unusedSimpArgs false
set_option maxRecDepth 20000
namespace Go.Vg
def addB (bt : Dl → ByteArray) (B : List (ByteArray × ByteArray)) (d : Dl) : List (ByteArray × ByteArray) := if d.kind = 2 ∧ (getB B d.name).isSome = false then B ++ [(d.name, bt d)] else B
def sameM (d e : Dl) : Bool := decide (d.owner = e.owner) && decide (d.name = e.name)
def addM (M : List Dl) (d : Dl) : List Dl := if d.kind = 4 ∧ (M.any (sameM d)) = false then M ++ [d] else M
def basesL (bt : Dl → ByteArray) (l : List Dl) : List (ByteArray × ByteArray) := l.foldl (addB bt) []
def methL (l : List Dl) : List Dl := l.foldl addM []
def mapM (M : List Dl) : List (V × V) := M.map fun d => (.agg [.str d.owner, .str d.name], .agg d.enc)
theorem basesL_snoc {bt : Dl → ByteArray} {l : List Dl} {d : Dl} : basesL bt (l ++ [d]) = addB bt (basesL bt l) d := by simp [basesL]
theorem methL_snoc {l : List Dl} {d : Dl} : methL (l ++ [d]) = addM (methL l) d := by simp [methL]
theorem basesL_len (bt : Dl → ByteArray) (l : List Dl) : (basesL bt l).length ≤ l.length := by
  have key : ∀ (l : List Dl) (B : List (ByteArray × ByteArray)), (l.foldl (addB bt) B).length ≤ B.length + l.length := by
    intro l
    induction l with
    | nil => intro B; simp
    | cons x r ih =>
      intro B
      have := ih (addB bt B x)
      have h2 : (addB bt B x).length ≤ B.length + 1 := by unfold addB; split <;> simp
      simp only [List.foldl_cons, List.length_cons]; omega
  simpa [basesL] using key l []
theorem findM (d : Dl) : ∀ (M : List Dl) (i : Nat), (∃ j e, findA [0, 0] [.str d.owner, .str d.name] (mapM M) i = some (some (j, .agg (Dl.enc e))) ∧ (M.any (sameM d)) = true) ∨ (findA [0, 0] [.str d.owner, .str d.name] (mapM M) i = some none ∧ (M.any (sameM d)) = false)
  | [], i => .inr ⟨rfl, rfl⟩
  | e :: r, i => by
    have heq : eqL [V.str d.owner, V.str d.name] [V.str e.owner, V.str e.name] = some (sameM d e) := by
      simp only [eqL, eq1, Bool.and_true]; rfl
    have h1 : findA [0, 0] [.str d.owner, .str d.name] (mapM (e :: r)) i = if sameM d e = true then some (some (i, .agg e.enc)) else findA [0, 0] [.str d.owner, .str d.name] (mapM r) (i + 1) := by
      simp only [mapM, List.map_cons, findA, heq]
      have hf : fits [0, 0] [V.str d.owner, V.str d.name] [V.str e.owner, V.str e.name] = true := rfl
      rw [if_pos hf]
      cases sameM d e <;> rfl
    rw [h1, List.any_cons]
    by_cases h : sameM d e = true
    · exact .inl ⟨i, _, by rw [if_pos h], by rw [h]; rfl⟩
    · rw [if_neg h]
      have : sameM d e = false := by simpa using h
      rw [this, Bool.false_or]
      exact findM d r (i + 1)
/-- The base classes of a class. -/
def supU (u : List Un) (cls : ByteArray) : List ByteArray := (supB (basesL (btU u) (declsU u 0)) cls ((basesL (btU u) (declsU u 0)).length + 1) [] ((getB (basesL (btU u) (declsU u 0)) cls).getD ⟨#[]⟩)).1
end Go.Vg
namespace Go.Proofs.YtamednbojpnalaaGreatDoor
open Go Go.Vg Go.Proofs
theorem set_B {B : List (ByteArray × ByteArray)} {n b : ByteArray} {h : List VObj} {id : Nat} {L : List VObj → Prop} (hn : (getB B n).isSome = false) : vSetF h id (mapB B) (.str n) (.str b) (findV .string (.str n) (mapB B) 0) L = L (h.set id (.map (mapB (B ++ [(n, b)])))) := by
  rcases findB n B 0 with ⟨j, v, h1, h2⟩ | ⟨h1, h2⟩
  · rw [h2] at hn; cases hn
  · rw [h1]; simp -implicitDefEqProofs only [go_sem]; simp [mapB]
theorem set_M {M : List Dl} {d : Dl} {h : List VObj} {id : Nat} {L : List VObj → Prop} (hn : (M.any (sameM d)) = false) : vSetF h id (mapM M) (.agg [.str d.owner, .str d.name]) (.agg d.enc) (findA [0, 0] [.str d.owner, .str d.name] (mapM M) 0) L = L (h.set id (.map (mapM (M ++ [d])))) := by
  rcases findM d M 0 with ⟨j, v, h1, h2⟩ | ⟨h1, h2⟩
  · rw [h2] at hn; cases hn
  · rw [h1]; simp -implicitDefEqProofs only [go_sem]; simp [mapM]
theorem ltP_B (k ka : Nat) : ∀ B : List (ByteArray × ByteArray), ltP k ka (mapB B) = true
  | [] => rfl
  | x :: r => by
    have := ltP_B k ka r
    simp only [mapB, List.map_cons, ltP, go_sem] at this ⊢
    simp [this, V.lt]
theorem ltP_M (k ka : Nat) : ∀ M : List Dl, ltP k ka (mapM M) = true
  | [] => rfl
  | x :: r => by
    have := ltP_M k ka r
    have hx : (V.agg x.enc).lt k ka = true := by simp [V.lt, Dl.enc, ltL]
    simp only [mapM, List.map_cons, ltP] at this ⊢
    rw [hx, this]
    simp [V.lt, ltL]
theorem lt_names (k ka : Nat) : ∀ B : List (ByteArray × ByteArray), ltLL k ka (B.map fun p => [V.str p.1]) = true
  | [] => rfl
  | x :: r => by simp only [List.map_cons, ltLL, lt_names k ka r]; rfl
theorem zero_Dl : zeroVP Tryz.prog 61 = .agg Dl.zero.enc := by kernel_rfl
theorem flat_method : flatK Tryz.prog 194 = some [0, 0] := by kernel_rfl
theorem Cnew (u : List Un) (hu : fitU u) : VCalls env 100 [sl 34 (u.map Un.enc)] [] [] fun v h a =>
    v = .ptr 2 0 ∧ h = [.map (mapB (basesL (btU u) (declsU u 0))), .map (mapM (methL (declsU u 0))), .cells [.slice (.arr 0) 9 ((basesL (btU u) (declsU u 0)).map fun p => [.str p.1]), .map 0, .map 1, sl 61 ((declsU u 0).map Dl.enc)]] ∧ a = [(basesL (btU u) (declsU u 0)).length] := by
  have hD := PDecls u hu
  rw [declsPU_eq] at hD
  have hdl := declsU_len u 0 fun y hy => (hu.2 y hy).1
  have hul := hu.1
  have hat : ∀ d ∈ declsU u 0, _ := fun d hd => declsU_at u 0 d hd
  refine vcalls_vc (fn := Tryz.f100) Tryz.func100 rfl (by rw [Tryz.ntmps100]; simp) ?_
  simp -implicitDefEqProofs only [go_sem, Tryz.f100]
  refine hD.calls (by simp -implicitDefEqProofs only [go_sem]) ?_
  simp -implicitDefEqProofs only [go_sem]
  intro _ _
  generalize hdd : declsU u 0 = dl at hat hdl ⊢
  have hdl2 : dl.length ≤ 1000000 := by omega
  refine snd_list (β := Unit) dl (fun pre _ => ⟨[(24, .int .i64 pre.length), (23, .int .i64 dl.length), (22, sl 61 (dl.map Dl.enc)), (3, .ptr 2 0), (0, sl 34 (u.map Un.enc))],
      [.map (mapB (basesL (btU u) pre)), .map (mapM (methL pre)), .cells [.slice (.arr 0) 9 ((basesL (btU u) pre).map fun p => [.str p.1]), .map 0, .map 1, sl 61 (dl.map Dl.enc)]], [(basesL (btU u) pre).length]⟩)
    (fun _ _ _ => True) () ?_ trivial ?_ ?_
  · simp -implicitDefEqProofs only [go_sem]
    exact ⟨rfl, rfl, rfl, rfl⟩
  · intro _ _
    simp -implicitDefEqProofs only [go_sem]
  · rintro pre d post _ hx _
    have hpl : dl.length = pre.length + 1 + post.length := by rw [hx]; simp; omega
    have hgx : (dl.map Dl.enc).getD (pre.length : Int).toNat [] = d.enc := by rw [hx]; simp [List.getD_eq_getElem?_getD]
    have hlt : ((pre.length : Int) < dl.length) = True := by simp; omega
    have hbl := basesL_len (btU u) pre
    have hw : IntKind.i64.wrap (↑pre.length + 1) = ↑(pre.length + 1) := wrap_next (by omega)
    obtain ⟨un, x, e1, e2, e3, nd, n, e4, e5, e6, e7, e8⟩ := hat d (by rw [hx]; simp)
    simp -implicitDefEqProofs only [go_sem, hgx, hlt]
    refine ⟨fun h2 => ?_, fun h2 => ⟨fun h4 => ?_, fun h4 => ?_⟩⟩
    · refine snd_draw (cs := []) mixed (by kernel_rfl) ?_
      simp -implicitDefEqProofs only [go_sem, look_B2]
      refine ⟨fun hn => ?_, fun hn => ?_⟩
      · have hn' : (getB (basesL (btU u) pre) d.name).isSome = false := by simpa using hn
        have hxm : x ∈ u := List.mem_of_getElem? e2
        have hnm : n ∈ nodes x.tree := List.mem_of_getElem? e5
        have hnl := nodes_le x.tree n hnm
        have hxl := (hu.2 x hxm).1
        have hbs := Cbase u hu un nd x n e2 e5 (fun kk hk => by
          obtain ⟨k, t, g, ks⟩ := n
          have := kid_nodes (k := k) (t := t) (g := g) (ks := ks) (x := kk) hk; omega) (by
          obtain ⟨k, t, g, ks⟩ := n
          have := kids_nodes ks
          rw [nodes_mk] at hnl
          simp only [Nd.kids]; omega)
        have hb : (baseL n.kids (nd + 1)).1.text = btU u d := by
          unfold btU
          rw [e1, e4]
          simp only [Nat.zero_add, Int.toNat_natCast, e2, e5]
          rw [baseL_fst n.kids (nd + 1) 0]
        have hpa : basesL (btU u) (pre ++ [d]) = basesL (btU u) pre ++ [(d.name, btU u d)] := by
          rw [basesL_snoc, addB, if_pos ⟨h2, hn'⟩]
        have hpm : methL (pre ++ [d]) = methL pre := by
          rw [methL_snoc, addM, if_neg (by omega)]
        rw [e1, e4, Nat.zero_add, Nat.zero_add]
        refine hbs.calls (by simp -implicitDefEqProofs only [go_sem]) ?_
        generalize baseL n.kids (nd + 1) = bb at hb ⊢
        obtain ⟨⟨bk, bx, bg, bks⟩, bi⟩ := bb
        replace hb : bx = btU u d := hb
        simp -implicitDefEqProofs only [go_sem, hb, set_B hn']
        refine snd_draw (cs := []) mixed (by kernel_rfl) ?_
        simp -implicitDefEqProofs only [go_sem, hb, set_B hn']
        refine snd_draw (cs := []) mixed (by kernel_rfl) ?_
        simp -implicitDefEqProofs only [go_sem, hb, set_B hn']
        rw [ltP_B, ltP_M, lt_names, ltLL_pure _ _ _ (dls_pure _), ltLL_pure _ _ _ (uns_pure _)]
        exact ⟨by omega, (), hw, ⟨by rw [hpa], by rw [hpm], by rw [hpa]; simp⟩, by rw [hpa]; simp, .inr ⟨rfl, rfl⟩⟩
      · have hn' : (getB (basesL (btU u) pre) d.name).isSome = true := by simpa using hn
        have hpa : basesL (btU u) (pre ++ [d]) = basesL (btU u) pre := by
          rw [basesL_snoc, addB, if_neg (by rw [hn']; simp)]
        have hpm : methL (pre ++ [d]) = methL pre := by
          rw [methL_snoc, addM, if_neg (by omega)]
        rw [hpa, hpm, ltP_B, ltP_M, lt_names, ltLL_pure _ _ _ (dls_pure _), ltLL_pure _ _ _ (uns_pure _)]
        exact ⟨(), hw, ⟨rfl, rfl, rfl⟩, rfl, .inr ⟨rfl, rfl⟩⟩
    · refine snd_draw (cs := []) mixed (by kernel_rfl) ?_
      simp -implicitDefEqProofs only [go_sem, flat_method]
      have hpa : basesL (btU u) (pre ++ [d]) = basesL (btU u) pre := by
        rw [basesL_snoc, addB, if_neg (by omega)]
      rcases findM d (methL pre) 0 with ⟨j, v, q1, q2⟩ | ⟨q1, q2⟩
      · have hpm : methL (pre ++ [d]) = methL pre := by
          rw [methL_snoc, addM, if_neg (by rw [q2]; simp)]
        rw [q1]
        simp -implicitDefEqProofs only [go_sem]
        rw [hpa, hpm, ltP_B, ltP_M, lt_names, ltLL_pure _ _ _ (dls_pure _), ltLL_pure _ _ _ (uns_pure _)]
        exact ⟨(), hw, ⟨rfl, rfl, rfl⟩, rfl, .inr ⟨rfl, rfl⟩⟩
      · have hpm : methL (pre ++ [d]) = methL pre ++ [d] := by
          rw [methL_snoc, addM, if_pos ⟨h4, q2⟩]
        rw [q1]
        simp -implicitDefEqProofs only [go_sem, zero_Dl]
        refine snd_draw (cs := []) mixed (by kernel_rfl) ?_
        simp -implicitDefEqProofs only [go_sem, flat_method, set_M q2]
        rw [ltP_B, ltP_M, lt_names, ltLL_pure _ _ _ (dls_pure _), ltLL_pure _ _ _ (uns_pure _)]
        exact ⟨(), hw, ⟨by rw [hpa], by rw [hpm], by rw [hpa]⟩, by rw [hpa], .inr ⟨rfl, rfl⟩⟩
    · have hpa : basesL (btU u) (pre ++ [d]) = basesL (btU u) pre := by
        rw [basesL_snoc, addB, if_neg (by omega)]
      have hpm : methL (pre ++ [d]) = methL pre := by
        rw [methL_snoc, addM, if_neg (by omega)]
      rw [hpa, hpm, ltP_B, ltP_M, lt_names, ltLL_pure _ _ _ (dls_pure _), ltLL_pure _ _ _ (uns_pure _)]
      exact ⟨(), hw, ⟨rfl, rfl, rfl⟩, rfl, .inr ⟨rfl, rfl⟩⟩
theorem CSupers (u : List Un) (hu : fitU u) (cls : ByteArray) : VPure env 87 [sl 34 (u.map Un.enc), .str cls] (sl 9 ((supU u cls).map encS)) := by
  have hdl := declsU_len u 0 fun y hy => (hu.2 y hy).1
  have hul := hu.1
  have hbl := basesL_len (btU u) (declsU u 0)
  refine vpure_vc (fn := Tryz.f87) Tryz.func87 rfl (by rw [Tryz.ntmps87]; simp) (by simp -implicitDefEqProofs only [go_sem]; exact uns_pure _) (by simp -implicitDefEqProofs only [go_sem]) ?_
  simp -implicitDefEqProofs only [go_sem, Tryz.f87]
  refine VCalls.mono (Cnew u hu) ?_
  rintro v h a ⟨rfl, rfl, rfl⟩
  simp -implicitDefEqProofs only [go_sem]
  refine VCalls.mono (Csupers (basesL (btU u) (declsU u 0)) _ _ _ _ cls (by omega) rfl rfl) ?_
  rintro v h a ⟨n, z, rfl, rfl, rfl⟩
  simp -implicitDefEqProofs only [go_sem]
  rfl
theorem TFits (u : List Un) (hu : fitU u) (a b : ByteArray) : VPure env 59 [sl 34 (u.map Un.enc), .str a, .str b] (.bool (decide (a = b) || (supU u a).any fun x => decide (x = b))) := by
  refine vpure_vc (fn := Tryz.f59) Tryz.func59 rfl (by rw [Tryz.ntmps59]; simp) (by simp -implicitDefEqProofs only [go_sem]; exact uns_pure _) rfl ?_
  simp -implicitDefEqProofs only [go_sem, Tryz.f59]
  refine ⟨fun h => by simp [h], fun h => ?_⟩
  refine (CSupers u hu a).calls (by simp -implicitDefEqProofs only [go_sem]) ?_
  simp -implicitDefEqProofs only [go_sem]
  intro b1 b2
  generalize supU u a = l at b1 b2 ⊢
  refine snd_list (β := Unit) l (fun pre _ => ⟨[(16, .int .i64 pre.length), (15, .int .i64 l.length), (14, sl 9 (l.map encS)), (6, .bool false), (2, .str b)], [], []⟩) (fun pre post _ => (l.any fun x => decide (x = b)) = post.any fun x => decide (x = b)) () ?_ rfl ?_ ?_
  · simp -implicitDefEqProofs only [go_sem]
    try rfl
  · intro _ hi
    simp -implicitDefEqProofs only [go_sem]
    rw [hi]; simp [h]
  · intro pre x post _ hx hi
    have hpl : l.length = pre.length + 1 + post.length := by rw [hx]; simp; omega
    have hgx : (l.map encS).getD (pre.length : Int).toNat [] = [V.str x] := by rw [hx]; simp [List.getD_eq_getElem?_getD, encS]
    have hw : IntKind.i64.wrap (↑pre.length + 1) = ↑(pre.length + 1) := wrap_next (by omega)
    have hlt : ((pre.length : Int) < l.length) = True := by simp; omega
    simp -implicitDefEqProofs only [go_sem, hgx, hlt]
    refine ⟨fun hb => by rw [hi]; simp [hb], fun hb => ⟨(), by rw [hi]; simp [hb], hw⟩⟩
end Go.Proofs.YtamednbojpnalaaGreatDoor
