/- The reference's changed names and findings. -/
import Derived.Test.YtamednbojpnalaaGreatDoorToU
set_option linter.unusedVariables false
set_option linter.unusedSimpArgs false
set_option maxRecDepth 20000
namespace Go.Proofs.YtamednbojpnalaaGreatDoor
open Go Go.Vg Go.Proofs
def shortD (u : List Un) : Prop := ∀ d ∈ declsU u 0, d.owner.size ≤ 3000000 ∧ d.name.size ≤ 1000000
def addG (x y : List Un) (out : List ByteArray) (d : Dl) : List ByteArray := if (chgS x y (qualD d)).2.2 = true then insS out (qualD d) else out
def chgL (x y : List Un) (dl : List Dl) : List ByteArray := dl.foldl (addG x y) []
theorem chgL_snoc (x y : List Un) (pre : List Dl) (d : Dl) : chgL x y (pre ++ [d]) = addG x y (chgL x y pre) d := by simp [chgL]
theorem chgL_len (x y : List Un) (l : List Dl) : (chgL x y l).length ≤ l.length := by
  have key : ∀ (l : List Dl) (p : List ByteArray), (l.foldl (addG x y) p).length ≤ p.length + l.length := by
    intro l
    induction l with
    | nil => intro p; simp
    | cons d r ih =>
      intro p
      have h1 := ih (addG x y p d)
      have h2 : (addG x y p d).length ≤ p.length + 1 := by
        unfold addG
        split
        · exact insS_len _ _
        · omega
      rw [List.foldl_cons, List.length_cons]; omega
  simpa [chgL] using key l []
theorem chgL_mem (x y : List Un) (n : ByteArray) (l : List Dl) : n ∈ chgL x y l ↔ ∃ d ∈ l, qualD d = n ∧ (chgS x y n).2.2 = true := by
  have key : ∀ (l : List Dl) (p : List ByteArray), n ∈ l.foldl (addG x y) p ↔ n ∈ p ∨ ∃ d ∈ l, qualD d = n ∧ (chgS x y n).2.2 = true := by
    intro l
    induction l with
    | nil => intro p; simp
    | cons d r ih =>
      intro p
      rw [List.foldl_cons, ih, addG]
      split
      · rename_i h
        rw [insS_mem]
        constructor
        · rintro ((h' | h') | ⟨e, he, h'⟩)
          · exact .inl h'
          · exact .inr ⟨d, by simp, h'.symm, by rw [h']; exact h⟩
          · exact .inr ⟨e, by simp [he], h'⟩
        · rintro (h' | ⟨e, he, h1, h2⟩)
          · exact .inl (.inl h')
          · rcases List.mem_cons.1 he with rfl | he
            · exact .inl (.inr h1.symm)
            · exact .inr ⟨e, he, h1, h2⟩
      · rename_i h
        constructor
        · rintro (h' | ⟨e, he, h'⟩)
          · exact .inl h'
          · exact .inr ⟨e, by simp [he], h'⟩
        · rintro (h' | ⟨e, he, h1, h2⟩)
          · exact .inl h'
          · rcases List.mem_cons.1 he with rfl | he
            · rw [h1] at h; exact absurd h2 h
            · exact .inr ⟨e, he, h1, h2⟩
  have := key l []
  simpa [chgL] using this
theorem R40Changed (a b : List Un) (hga : gapsU a) (hgb : gapsU b) (hla : a.length ≤ 1000) (hlb : b.length ≤ 1000) (ha : sgOK (a.filter soundB)) (hb : sgOK (b.filter soundB)) (hA : shortD (a.filter soundB)) (hB : shortD (b.filter soundB)) :
    VPure env 18 [sl 34 (a.map Un.enc), sl 34 (b.map Un.enc)] (sl 9 ((chgL (a.filter soundB) (b.filter soundB) (declsU (a.filter soundB) 0)).map encS)) := by
  have hD := R11Decls (a.filter soundB) ha.fit
  have hdl := declsU_len (a.filter soundB) 0 fun y hy => (ha.fit.2 y hy).1
  have hul := ha.fit.1
  refine vpure_vc (fn := Tryz.f18) Tryz.func18 rfl (by rw [Tryz.ntmps18]; simp) (by simp -implicitDefEqProofs only [go_sem]; simp only [uns_pure]; rfl) (by simp -implicitDefEqProofs only [go_sem]) ?_
  simp -implicitDefEqProofs only [go_sem, Tryz.f18]
  refine (R40Sound a hga hla).calls (by simp -implicitDefEqProofs only [go_sem]) ?_
  simp -implicitDefEqProofs only [go_sem]
  refine (R40Sound b hgb hlb).calls (by simp -implicitDefEqProofs only [go_sem]) ?_
  simp -implicitDefEqProofs only [go_sem]
  refine hD.calls (by simp -implicitDefEqProofs only [go_sem]) ?_
  simp -implicitDefEqProofs only [go_sem]
  generalize a.filter soundB = x at ha hA hdl hul ⊢
  generalize b.filter soundB = y at hb hB ⊢
  have hQ := fun d hd => R40qualified d (hA d hd).1 (hA d hd).2
  generalize hdd : declsU x 0 = dl at hdl hQ ⊢
  refine snd_list (β := Unit) dl (fun pre _ => ⟨[(9, .int .i64 pre.length), (8, sl 9 ((chgL x y pre).map encS)), (7, sl 61 (dl.map Dl.enc)), (6, sl 34 (y.map Un.enc)), (5, sl 34 (x.map Un.enc)), (4, .slice .nil 0 [])], [], []⟩) (fun _ _ _ => True) () ?_ trivial ?_ ?_
  · simp -implicitDefEqProofs only [go_sem]
    exact ⟨rfl, rfl⟩
  · intro _ _
    simp -implicitDefEqProofs only [go_sem]
  · rintro pre d post _ hx _
    have hpl : dl.length = pre.length + 1 + post.length := by rw [hx]; simp; omega
    have hgx : (dl.map Dl.enc).getD (pre.length : Int).toNat [] = d.enc := by rw [hx]; simp [List.getD_eq_getElem?_getD]
    have hw : IntKind.i64.wrap (↑pre.length + 1) = ↑(pre.length + 1) := wrap_next (by omega)
    have hlt : ((pre.length : Int) < dl.length) = True := by simp; omega
    have hq := hQ d (by rw [hx]; simp)
    have hsn := chgL_snoc x y pre d
    have hml := chgL_len x y pre
    have hch := R40changed x y ha hb (qualD d) hA hB
    generalize chgL x y pre = out at hsn hml ⊢
    simp -implicitDefEqProofs only [go_sem, hgx, hlt]
    intro _ _
    refine hq.calls (by simp -implicitDefEqProofs only [go_sem]) ?_
    simp -implicitDefEqProofs only [go_sem]
    refine hch.calls (by simp -implicitDefEqProofs only [go_sem]) ?_
    unfold addG at hsn
    cases hc : (chgS x y (qualD d)).2.2 with
    | false =>
      rw [if_neg (by rw [hc]; simp)] at hsn
      simp -implicitDefEqProofs only [go_sem]
      rw [hsn]
      exact ⟨(), hw, rfl⟩
    | true =>
      rw [if_pos hc] at hsn
      simp -implicitDefEqProofs only [go_sem]
      refine (R03Insert out (qualD d) (by omega)).calls (by simp -implicitDefEqProofs only [go_sem]) ?_
      simp -implicitDefEqProofs only [go_sem]
      rw [hsn]
      exact ⟨(), hw, rfl⟩
def pathF (y : List Un) (n : ByteArray) : ByteArray := match firstD y n with | some d => pathU y d.unit | none => ⟨#[]⟩
def fiG (x y : List Un) (n : ByteArray) : Fi := ⟨4, pathF y n, n, ⟨#[119, 97, 115, 32]⟩ ++ (chgS x y n).1 ++ ⟨#[44, 32, 105, 115, 32]⟩ ++ (chgS x y n).2.1⟩
theorem signS_size {s : Sg} (h1 : ∀ p ∈ s.params, p.size ≤ 1000000) (h2 : s.params.length ≤ 1000000) (h3 : s.result.size ≤ 1000000) : (signS s).size ≤ 3000000000000 := by
  have := joinC_size s.params h1 h2
  unfold signS
  rw [ByteArray.size_append, ByteArray.size_append, ByteArray.size_append]
  have e1 : (⟨#[40]⟩ : ByteArray).size = 1 := rfl
  have e2 : (⟨#[41, 32]⟩ : ByteArray).size = 2 := rfl
  omega
theorem chgS_size {x y : List Un} (hx : sgOK x) (hy : sgOK y) (n : ByteArray) : (chgS x y n).1.size ≤ 3000000000000 ∧ (chgS x y n).2.1.size ≤ 3000000000000 := by
  unfold chgS
  split
  · rename_i d e _ _
    exact ⟨signS_size (sigD_short hx d).1 (sigD_short hx d).2.1 (sigD_short hx d).2.2, signS_size (sigD_short hy e).1 (sigD_short hy e).2.1 (sigD_short hy e).2.2⟩
  · exact ⟨Nat.zero_le _, Nat.zero_le _⟩
theorem chgS_first {x y : List Un} {n : ByteArray} (h : (chgS x y n).2.2 = true) : ∃ d e, firstD x n = some d ∧ firstD y n = some e := by
  unfold chgS at h
  split at h
  · rename_i d e h1 h2
    exact ⟨d, e, h1, h2⟩
  · cases h
theorem R40Diff (a b : List Un) (hga : gapsU a) (hgb : gapsU b) (hla : a.length ≤ 1000) (hlb : b.length ≤ 1000) (ha : sgOK (a.filter soundB)) (hb : sgOK (b.filter soundB)) (hA : shortD (a.filter soundB)) (hB : shortD (b.filter soundB)) :
    VPure env 20 [sl 34 (a.map Un.enc), sl 34 (b.map Un.enc)] (sl 42 (((chgL (a.filter soundB) (b.filter soundB) (declsU (a.filter soundB) 0)).map (fiG (a.filter soundB) (b.filter soundB))).map Fi.enc)) := by
  have hC := R40Changed a b hga hgb hla hlb ha hb hA hB
  have hdl := declsU_len (a.filter soundB) 0 fun y hy => (ha.fit.2 y hy).1
  have hul := ha.fit.1
  have hcl := chgL_len (a.filter soundB) (b.filter soundB) (declsU (a.filter soundB) 0)
  have hmem := fun n (h : n ∈ chgL (a.filter soundB) (b.filter soundB) (declsU (a.filter soundB) 0)) => (chgL_mem _ _ n _).1 h
  refine vpure_vc (fn := Tryz.f20) Tryz.func20 rfl (by rw [Tryz.ntmps20]; simp) (by simp -implicitDefEqProofs only [go_sem]; simp only [uns_pure]; rfl) (by simp -implicitDefEqProofs only [go_sem]; exact fis_pure _) ?_
  simp -implicitDefEqProofs only [go_sem, Tryz.f20]
  refine (R40Sound a hga hla).calls (by simp -implicitDefEqProofs only [go_sem]) ?_
  simp -implicitDefEqProofs only [go_sem]
  refine (R40Sound b hgb hlb).calls (by simp -implicitDefEqProofs only [go_sem]) ?_
  simp -implicitDefEqProofs only [go_sem]
  refine hC.calls (by simp -implicitDefEqProofs only [go_sem]) ?_
  simp -implicitDefEqProofs only [go_sem]
  generalize a.filter soundB = x at ha hA hdl hul hcl hmem ⊢
  generalize b.filter soundB = y at hb hB hcl hmem ⊢
  generalize hll : chgL x y (declsU x 0) = l at hcl hmem ⊢
  refine snd_list (β := Unit) l (fun pre _ => ⟨[(9, .int .i64 pre.length), (8, .slice (.arr 0) 42 ((pre.map (fiG x y)).map Fi.enc)), (7, sl 9 (l.map encS)), (6, sl 34 (y.map Un.enc)), (5, sl 34 (x.map Un.enc)), (4, .slice .nil 0 [])], [], [pre.length]⟩) (fun _ _ _ => True) () ?_ trivial ?_ ?_
  · simp -implicitDefEqProofs only [go_sem]
    try rfl
  · intro _ _
    simp -implicitDefEqProofs only [go_sem]
  · rintro pre n post _ hx _
    have hpl : l.length = pre.length + 1 + post.length := by rw [hx]; simp; omega
    have hgx : (l.map encS).getD (pre.length : Int).toNat [] = encS n := by rw [hx]; simp [List.getD_eq_getElem?_getD]
    have hw : IntKind.i64.wrap (↑pre.length + 1) = ↑(pre.length + 1) := wrap_next (by omega)
    have hlt : ((pre.length : Int) < l.length) = True := by simp; omega
    have hch := R40changed x y ha hb n hA hB
    have hfi := R40first y hb.fit n hB
    obtain ⟨_, _, _, hcn⟩ := hmem n (by rw [hx]; simp)
    obtain ⟨d0, d, hfx, hfy⟩ := chgS_first hcn
    have hdm : d ∈ declsU y 0 := List.mem_of_find?_eq_some hfy
    obtain ⟨un, z, u1, u2, _, _⟩ := declsU_at y 0 d hdm
    have hpu : pathF y n = z.path := by rw [pathF, hfy]; show pathU y d.unit = _; rw [pathU, u1, Nat.zero_add, Int.toNat_natCast, u2]
    have hu0 : (d.unit < 0) = False := by simp [u1]
    have hu1 : (d.unit < (y.length : Int)) = True := by
      have := (List.getElem?_eq_some_iff.1 u2).1
      simp [u1]; omega
    have hug : (y.map Un.enc).getD d.unit.toNat [] = z.enc := un_getD (by rw [u1, Nat.zero_add, Int.toNat_natCast]; exact u2)
    have hsz := chgS_size ha hb n
    rw [hfy] at hfi
    have efi : (some d : Option Dl).getD Dl.zero = d := rfl
    rw [efi] at hfi
    simp -implicitDefEqProofs only [go_sem, hgx, hlt, encS]
    intro _ _
    refine hch.calls (by simp -implicitDefEqProofs only [go_sem]) ?_
    simp -implicitDefEqProofs only [go_sem, hgx, hlt, encS]
    refine hfi.calls (by simp -implicitDefEqProofs only [go_sem]) ?_
    simp -implicitDefEqProofs only [go_sem, hgx, hlt, encS, hug, hu0, hu1]
    refine snd_draw (cs := []) mixed (by kernel_rfl) ?_
    simp -implicitDefEqProofs only [go_sem, hgx, hlt, encS, hug, hu0, hu1, List.map_append]
    have e1 : (#[119, 97, 115, 32] : Array UInt8).size = 4 := rfl
    have e2 : (#[44, 32, 105, 115, 32] : Array UInt8).size = 5 := rfl
    rw [e1, e2]
    have hfl := fis_pure ((pre.map (fiG x y)) ++ [fiG x y n])
    rw [List.map_append] at hfl
    refine ⟨by omega, by omega, by omega, by omega, by omega, (), ⟨hw, ?_⟩, .inr ?_⟩
    · rw [← hpu]; rfl
    · have h1 := ltLL_pure 0 1 _ hfl
      have h2 := ltLL_pure 0 1 _ (uns_pure y)
      have h3 := ltLL_pure 0 1 _ (uns_pure x)
      rw [h2, h3]
      simp only [Bool.and_true]
      exact h1
end Go.Proofs.YtamednbojpnalaaGreatDoor
