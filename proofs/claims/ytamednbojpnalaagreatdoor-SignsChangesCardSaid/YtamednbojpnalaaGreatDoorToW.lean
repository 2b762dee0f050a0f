/- Changed names: the program's. -/
import Derived.Test.YtamednbojpnalaaGreatDoorToV
set_option linter.unusedVariables false
set_option linter.unusedSimpArgs false
set_option maxRecDepth 20000
namespace Go.Proofs.YtamednbojpnalaaGreatDoor
open Go Go.Vg Go.Proofs
theorem Schanged (a b : List Un) (l : List Ch) (hC : VPure env 45 [sl 34 (a.map Un.enc), sl 34 (b.map Un.enc)] (sl 86 (l.map Ch.enc))) (hl : l.length ≤ 1000000) :
    VPure env 17 [sl 34 (a.map Un.enc), sl 34 (b.map Un.enc)] (sl 9 ((l.map Ch.name).map encS)) := by
  refine vpure_vc (fn := Tryz.f17) Tryz.func17 rfl (by rw [Tryz.ntmps17]; simp) (by simp -implicitDefEqProofs only [go_sem]; simp only [uns_pure]; rfl) (by simp -implicitDefEqProofs only [go_sem]) ?_
  simp -implicitDefEqProofs only [go_sem, Tryz.f17]
  refine hC.calls (by simp -implicitDefEqProofs only [go_sem]) ?_
  simp -implicitDefEqProofs only [go_sem]
  intro _ _
  refine snd_list (β := Unit) l (fun pre _ => ⟨[(12, .int .i64 pre.length), (11, .int .i64 l.length), (10, sl 86 (l.map Ch.enc)), (5, .slice (.arr 0) 9 ((pre.map Ch.name).map encS)), (4, .slice .nil 0 [])], [], [pre.length]⟩) (fun _ _ _ => True) () ?_ trivial ?_ ?_
  · simp -implicitDefEqProofs only [go_sem]
    try rfl
  · intro _ _
    simp -implicitDefEqProofs only [go_sem]
  · rintro pre c post _ hx _
    have hpl : l.length = pre.length + 1 + post.length := by rw [hx]; simp; omega
    have hgx : (l.map Ch.enc).getD (pre.length : Int).toNat [] = c.enc := by rw [hx]; simp [List.getD_eq_getElem?_getD]
    have hw : IntKind.i64.wrap (↑pre.length + 1) = ↑(pre.length + 1) := wrap_next (by omega)
    have hlt : ((pre.length : Int) < l.length) = True := by simp; omega
    simp -implicitDefEqProofs only [go_sem, hgx, hlt, Ch.enc]
    have hp := encS_pure ((pre.map Ch.name) ++ [c.name])
    rw [List.map_append] at hp
    exact ⟨by omega, (), ⟨hw, rfl⟩, .inr (ltLL_pure _ _ _ hp)⟩
end Go.Proofs.YtamednbojpnalaaGreatDoor
namespace Go.Vg
open Go.Proofs.YtamednbojpnalaaGreatDoor
/-- A list of texts with one more, as it is written by hand. -/
def putR (s : ByteArray) : List ByteArray → List ByteArray
  | [] => [s]
  | x :: r => if x = s then x :: r else if ltB x s = true then x :: putR s r else s :: x :: r
theorem pst_done (s : ByteArray) : ∀ (l o : List ByteArray), l.foldl (pst s) (o, true) = (o ++ l, true)
  | [], o => by simp
  | x :: r, o => by
    have : pst s (o, true) x = (o ++ [x], true) := by unfold pst; simp
    rw [List.foldl_cons, this, pst_done s r]; simp
theorem pst_R (s : ByteArray) : ∀ (l o : List ByteArray), (if (l.foldl (pst s) (o, false)).2 = true then (l.foldl (pst s) (o, false)).1 else (l.foldl (pst s) (o, false)).1 ++ [s]) = o ++ putR s l
  | [], o => by simp [putR]
  | x :: r, o => by
    rw [List.foldl_cons, putR]
    by_cases h1 : x = s
    · have : pst s (o, false) x = (o ++ [x], true) := by unfold pst; simp [h1]
      rw [this, pst_done, if_pos rfl, if_pos h1]; simp
    · rw [if_neg h1]
      cases h2 : ltB x s with
      | true =>
        have : pst s (o, false) x = (o ++ [x], false) := by unfold pst; simp [h1, h2]
        rw [this, if_pos rfl, pst_R s r]; simp
      | false =>
        have : pst s (o, false) x = (o ++ [s, x], true) := by unfold pst; simp [h1, h2]
        rw [this, pst_done, if_pos rfl, if_neg (by simp)]; simp
theorem putS_R (l : List ByteArray) (s : ByteArray) : putS l s = putR s l := by
  have := pst_R s l []
  rw [List.nil_append] at this
  unfold putS pstL
  exact this
def Asc (l : List ByteArray) : Prop := l.Pairwise fun a b => ltB a b = true
theorem putR_mem (s y : ByteArray) : ∀ l, y ∈ putR s l → y = s ∨ y ∈ l
  | [], h => .inl (by simpa [putR] using h)
  | x :: r, h => by
    rw [putR] at h
    split at h
    · exact .inr h
    · split at h
      · rcases List.mem_cons.1 h with h | h
        · exact .inr (by simp [h])
        · rcases putR_mem s y r h with h | h
          · exact .inl h
          · exact .inr (by simp [h])
      · rcases List.mem_cons.1 h with h | h
        · exact .inl h
        · exact .inr h
theorem putR_asc (s : ByteArray) : ∀ l, Asc l → Asc (putR s l)
  | [], _ => by simp [putR, Asc]
  | x :: r, h => by
    have hc := List.pairwise_cons.1 h
    rw [putR]
    split
    · exact h
    · rename_i hne
      split
      · rename_i hlt
        refine List.pairwise_cons.2 ⟨fun y hy => ?_, putR_asc s r hc.2⟩
        rcases putR_mem s y r hy with rfl | hy
        · exact hlt
        · exact hc.1 y hy
      · rename_i hnl
        have hsx : ltB s x = true := by
          cases hs : ltB s x with
          | true => rfl
          | false => exact absurd (ltB_tri (by simpa using hnl) hs) hne
        refine List.pairwise_cons.2 ⟨fun y hy => ?_, h⟩
        rcases List.mem_cons.1 hy with rfl | hy
        · exact hsx
        · exact ltB_trans hsx (hc.1 y hy)
theorem insS_asc (l : List ByteArray) (s : ByteArray) : Asc (insS l s) := by
  have key : ∀ (l p : List ByteArray), Asc p → Asc (l.foldl putS p) := by
    intro l
    induction l with
    | nil => intro p h; exact h
    | cons x r ih =>
      intro p h
      rw [List.foldl_cons]
      exact ih _ (by rw [putS_R]; exact putR_asc _ _ h)
  unfold insS
  rw [putS_R]
  exact putR_asc _ _ (key l [] List.Pairwise.nil)
theorem chgL_asc (x y : List Un) (l : List Dl) : Asc (chgL x y l) := by
  have key : ∀ (l : List Dl) (p : List ByteArray), Asc p → Asc (l.foldl (addG x y) p) := by
    intro l
    induction l with
    | nil => intro p h; exact h
    | cons d r ih =>
      intro p h
      rw [List.foldl_cons]
      refine ih _ ?_
      unfold addG
      split
      · exact insS_asc _ _
      · exact h
  exact key l [] List.Pairwise.nil
/-- Two ascending lists of the same elements are the same. -/
theorem asc_eq : ∀ {l1 l2 : List ByteArray}, Asc l1 → Asc l2 → (∀ n, n ∈ l1 ↔ n ∈ l2) → l1 = l2
  | [], [], _, _, _ => rfl
  | [], b :: s, _, _, h => by have := (h b).2 (by simp); cases this
  | a :: r, [], _, _, h => by have := (h a).1 (by simp); cases this
  | a :: r, b :: s, h1, h2, h => by
    have c1 := List.pairwise_cons.1 h1
    have c2 := List.pairwise_cons.1 h2
    have hab : a = b := by
      rcases List.mem_cons.1 ((h a).1 (by simp)) with e | e
      · exact e
      · rcases List.mem_cons.1 ((h b).2 (by simp)) with e' | e'
        · exact e'.symm
        · have := ltB_trans (c1.1 b e') (c2.1 a e)
          rw [ltB_irrefl] at this; cases this
    subst hab
    rw [asc_eq c1.2 c2.2 fun n => ?_]
    constructor
    · intro hn
      rcases List.mem_cons.1 ((h n).1 (by simp [hn])) with e | e
      · subst e; have := c1.1 n hn; rw [ltB_irrefl] at this; cases this
      · exact e
    · intro hn
      rcases List.mem_cons.1 ((h n).2 (by simp [hn])) with e | e
      · subst e; have := c2.1 n hn; rw [ltB_irrefl] at this; cases this
      · exact e
end Go.Vg
