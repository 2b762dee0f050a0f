/- The law about changes without the reference. -/
import Derived.Test.YtamednbojpnalaaGreatDoorUaE
set_option linter.unusedVariables false
set_option linter.unusedSimpArgs false
set_option maxRecDepth 20000
namespace Go.Proofs.YtamednbojpnalaaGreatDoor
open Go Go.Vg Go.Proofs
theorem nodup_eq : ∀ {l : List Cb}, (l.Pairwise fun p q => p.name ≠ q.name) → ∀ {p q : Cb}, p ∈ l → q ∈ l → p.name = q.name → p = q
  | [], _, p, _, h, _, _ => by cases h
  | a :: r, h, p, q, hp, hq, e => by
    have hc := List.pairwise_cons.1 h
    rcases List.mem_cons.1 hp with rfl | hp2
    · rcases List.mem_cons.1 hq with rfl | hq2
      · rfl
      · exact absurd e (hc.1 q hq2)
    · rcases List.mem_cons.1 hq with rfl | hq2
      · exact absurd e.symm (hc.1 p hp2)
      · exact nodup_eq hc.2 hp2 hq2 e
theorem chL_self (a : List Un) : chL (calA a) (calA a) = [] := by
  cases h : chL (calA a) (calA a) with
  | nil => rfl
  | cons c r =>
    obtain ⟨p, hp, q, hq, h1, h2, _⟩ := (chL_mem (calA_nodup a) c).1 (by rw [h]; simp)
    exact absurd (by rw [nodup_eq (calA_nodup a) hp hq h1]) h2
theorem chL_symm (a b : List Un) : (chL (calA b) (calA a)).map Ch.name = (chL (calA a) (calA b)).map Ch.name := by
  refine asc_eq (chL_asc (sortC_asc (calL_nodup _ _))) (chL_asc (sortC_asc (calL_nodup _ _))) fun n => ?_
  have key : ∀ a b : List Un, n ∈ (chL (calA a) (calA b)).map Ch.name → n ∈ (chL (calA b) (calA a)).map Ch.name := by
    intro a b h
    obtain ⟨c, hc, rfl⟩ := List.mem_map.1 h
    obtain ⟨p, hp, q, hq, h1, h2, rfl⟩ := (chL_mem (calA_nodup a) c).1 hc
    exact List.mem_map.2 ⟨_, (chL_mem (calA_nodup b) _).2 ⟨q, hq, p, hp, h1.symm, fun e => h2 e.symm, rfl⟩, h1⟩
  exact ⟨key b a, key a b⟩
theorem decl_in {u : List Un} {x : Un} (hx : x ∈ u) (hb : x.broken = false) {j : Int} {d : Dl} (hd : d ∈ walkD x.tree j 0 Ar.none) : ∀ i : Nat, ∃ e ∈ declsU u i, e.off 0 = d.off 0 := by
  induction u with
  | nil => cases hx
  | cons y r ih =>
    intro i
    rw [declsU]
    rcases List.mem_cons.1 hx with rfl | hx
    · have h1 : d.off 0 ∈ walkD x.tree 0 0 Ar.none := by
        rw [walkD_off x.tree j] at hd
        obtain ⟨d0, h0, rfl⟩ := List.mem_map.1 hd
        have := (walkD_at x.tree 0 0 Ar.none d0 h0).1
        have e : (d0.off j).off 0 = d0 := by
          show ({ d0 with unit := 0 } : Dl) = d0
          rw [← this]
        rw [e]; exact h0
      refine ⟨(d.off 0).off i, ?_, rfl⟩
      rw [List.mem_append]
      left
      rw [if_neg (by rw [hb]; simp), walkD_off x.tree i]
      exact List.mem_map.2 ⟨_, h1, rfl⟩
    · obtain ⟨e, he, h2⟩ := ih hx (i + 1)
      exact ⟨e, by rw [List.mem_append]; exact .inr he, h2⟩
theorem declared_of {a : List Un} {n : ByteArray} {e : Dl} (h : firstD (a.filter soundB) n = some e) : ((declsU a 0).any fun d => isC d && decide (nameD d = n)) = true := by
  have hn : n ≠ ⟨#[]⟩ := by
    rintro rfl
    have := List.find?_some h
    simp at this
  rw [firstD_findC _ hn] at h
  obtain ⟨h1, h2⟩ := findC_name h
  obtain ⟨x, hx, hb, j, hj⟩ := declsU_walk _ 0 e (List.mem_of_find?_eq_some h)
  obtain ⟨e', he', h3⟩ := decl_in (List.mem_filter.1 hx).1 hb hj 0
  rw [List.any_eq_true]
  refine ⟨e', he', ?_⟩
  have i1 : isC (e'.off 0) = isC (e.off 0) := by rw [h3]
  have i2 : nameD (e'.off 0) = nameD (e.off 0) := by rw [h3]
  replace i1 : isC e' = isC e := i1
  replace i2 : nameD e' = nameD e := i2
  rw [i1, i2, h1, h2]
  simp
theorem R03Sorted (l : List ByteArray) (h : Asc l) (hl : l.length ≤ 1000000) : VPure env 21 [sl 9 (l.map encS)] (.bool true) := by
  refine vpure_vc (fn := Tryz.f21) Tryz.func21 rfl (by rw [Tryz.ntmps21]; simp) (by simp -implicitDefEqProofs only [go_sem]) rfl ?_
  simp -implicitDefEqProofs only [go_sem, Tryz.f21]
  cases l with
  | nil =>
    refine snd_list (β := Unit) ([] : List ByteArray) (fun pre _ => ⟨[(3, .int .i64 (pre.length + 1 : Nat)), (2, .bool false), (0, sl 9 (([] : List ByteArray).map encS))], [], []⟩) (fun _ _ _ => True) () ?_ trivial ?_ ?_
    · simp -implicitDefEqProofs only [go_sem]
      try rfl
    · intro _ _
      simp -implicitDefEqProofs only [go_sem]
      exact fun h => absurd h (by omega)
    · rintro pre x post _ hx _
      simp at hx
  | cons a0 r =>
    refine snd_list (β := Unit) r (fun pre _ => ⟨[(3, .int .i64 (pre.length + 1 : Nat)), (2, .bool false), (0, sl 9 ((a0 :: r).map encS))], [], []⟩) (fun _ _ _ => True) () ?_ trivial ?_ ?_
    · simp -implicitDefEqProofs only [go_sem]
      try rfl
    · intro _ _
      simp -implicitDefEqProofs only [go_sem]
    · rintro pre x post _ hx _
      have hpl : r.length = pre.length + 1 + post.length := by rw [hx]; simp; omega
      have hxg : (a0 :: r)[pre.length + 1]? = some x := by rw [List.getElem?_cons_succ, hx]; simp
      have hyl : pre.length < (a0 :: r).length := by simp; omega
      have hyg : (a0 :: r)[pre.length]? = some (a0 :: r)[pre.length] := List.getElem?_eq_getElem hyl
      have hasc : ltB (a0 :: r)[pre.length] x = true := by
        have := List.pairwise_iff_getElem.1 h pre.length (pre.length + 1) hyl (by simp; omega) (by omega)
        have e : (a0 :: r)[pre.length + 1]'(by simp; omega) = x := by
          rw [List.getElem?_eq_getElem (by simp; omega)] at hxg
          exact Option.some.inj hxg
        rw [e] at this
        exact this
      generalize (a0 :: r)[pre.length] = y at hyg hasc
      have hgx : ([V.str a0] :: r.map encS).getD (pre.length + 1) [] = [V.str x] := by
        have : ([V.str a0] :: r.map encS) = (a0 :: r).map encS := rfl
        rw [this, List.getD_eq_getElem?_getD, List.getElem?_map, hxg]; rfl
      have hgy : ([V.str a0] :: r.map encS).getD pre.length [] = [V.str y] := by
        have : ([V.str a0] :: r.map encS) = (a0 :: r).map encS := rfl
        rw [this, List.getD_eq_getElem?_getD, List.getElem?_map, hyg]; rfl
      have hnl : Op.bytesLess x.toList y.toList = false := by
        cases hb : Op.bytesLess x.toList y.toList with
        | false => rfl
        | true => have := ltB_trans hasc (show ltB x y = true from hb); rw [ltB_irrefl] at this; cases this
      have hne : ¬ x = y := by rintro rfl; rw [ltB_irrefl] at hasc; cases hasc
      have hw : IntKind.i64.wrap (↑(pre.length + 1) + 1) = ↑(pre.length + 1 + 1) := wrap_next (by simp at hl; omega)
      have hw1 : IntKind.i64.wrap (↑(pre.length + 1) - 1) = ↑pre.length := by
        rw [wrap_ok (by omega) (by simp at hl; omega)]; omega
      have hlt : ((↑(pre.length + 1) : Int) < ↑(r.length + 1)) = True := by simp; omega
      have hlt2 : ((↑pre.length : Int) < ↑(r.length + 1)) = True := by simp; omega
      simp -implicitDefEqProofs only [go_sem]
      intro _ _ _
      refine snd_draw (cs := []) mixed (by kernel_rfl) ?_
      simp -implicitDefEqProofs only [go_sem, hw1, hlt, hlt2, Int.toNat_natCast, hgx, hgy, encS, hnl, hne]
      exact ⟨(), hw⟩
theorem Ldeclared (u : List Un) (hu : fitU u) (n : ByteArray) : VPure env 22 [sl 34 (u.map Un.enc), .str n] (.bool ((declsU u 0).any fun d => isC d && decide (nameD d = n))) := by
  have hD := PDecls u hu
  rw [declsPU_eq] at hD
  have hS := shortD_of hu
  have hdl := declsU_len u 0 fun y hy => (hu.2 y hy).1
  have hul := hu.1
  refine vpure_vc (fn := Tryz.f22) Tryz.func22 rfl (by rw [Tryz.ntmps22]; simp) (by simp -implicitDefEqProofs only [go_sem]; exact uns_pure _) rfl ?_
  simp -implicitDefEqProofs only [go_sem, Tryz.f22]
  refine hD.calls (by simp -implicitDefEqProofs only [go_sem]) ?_
  simp -implicitDefEqProofs only [go_sem]
  unfold shortD at hS
  generalize declsU u 0 = dl at hS hdl ⊢
  refine snd_list (β := Unit) dl (fun pre _ => ⟨[(6, .int .i64 pre.length), (5, sl 61 (dl.map Dl.enc)), (4, .bool false), (1, .str n)], [], []⟩) (fun pre post _ => (dl.any fun d => isC d && decide (nameD d = n)) = post.any fun d => isC d && decide (nameD d = n)) () ?_ rfl ?_ ?_
  · simp -implicitDefEqProofs only [go_sem]
    try rfl
  · intro _ hi
    rw [hi]
    simp -implicitDefEqProofs only [go_sem]
    exact fun _ _ => rfl
  · rintro pre d post _ hx hi
    have hpl : dl.length = pre.length + 1 + post.length := by rw [hx]; simp; omega
    have hgx : (dl.map Dl.enc).getD (pre.length : Int).toNat [] = d.enc := by rw [hx]; simp [List.getD_eq_getElem?_getD]
    have hw : IntKind.i64.wrap (↑pre.length + 1) = ↑(pre.length + 1) := wrap_next (by omega)
    have hlt : ((pre.length : Int) < dl.length) = True := by simp; omega
    have hsz := hS d (by rw [hx]; simp)
    rw [List.any_cons] at hi
    simp -implicitDefEqProofs only [go_sem, hgx, hlt]
    intro _ _
    refine snd_draw (cs := []) mixed (by kernel_rfl) ?_
    simp -implicitDefEqProofs only [go_sem, hgx, hlt]
    have hT : (isC d && decide (nameD d = n)) = true → (dl.any fun d => isC d && decide (nameD d = n)) = true := fun h => by rw [hi, h]; rfl
    have hF : (isC d && decide (nameD d = n)) = false → (dl.any fun d => isC d && decide (nameD d = n)) = post.any fun d => isC d && decide (nameD d = n) := fun h => by rw [hi, h]; rfl
    have e46 : (#[46] : Array UInt8).size = 1 := rfl
    rw [e46]
    refine ⟨fun h1 => ⟨fun hne => ⟨fun h4 => by omega, fun _ => ⟨(), hF ?_, hw⟩⟩, fun he => by rw [hT]; simp [isC, nameD, h1, he]⟩, fun h1 => ⟨fun h4 => ⟨by omega, by omega, fun he => by rw [hT]; simp [isC, nameD, h4, he], fun hne => ⟨(), hF ?_, hw⟩⟩, fun h4 => ⟨(), hF ?_, hw⟩⟩⟩
    · simp [isC, nameD, h1, hne]
    · simp [isC, nameD, h4, hne]
    · simp [isC, h1, h4]
theorem SignsChanges_law (a b : List Un) : VPure env 6 [sl 34 (a.map Un.enc), sl 34 (b.map Un.enc)] (.bool true) := by
  refine vpure_vc (fn := Tryz.f6) Tryz.func6 rfl (by rw [Tryz.ntmps6]; simp) (by simp -implicitDefEqProofs only [go_sem]; simp only [uns_pure]; rfl) rfl ?_
  simp -implicitDefEqProofs only [go_sem, Tryz.f6]
  refine (Lfit a).calls (by simp -implicitDefEqProofs only [go_sem]) ?_
  cases hfa : fitB a with
  | false =>
    simp -implicitDefEqProofs only [go_sem]
    refine Lawake.calls (by simp -implicitDefEqProofs only [go_sem]) ?_
    simp -implicitDefEqProofs only [go_sem]
  | true =>
    simp -implicitDefEqProofs only [go_sem]
    refine (Lfit b).calls (by simp -implicitDefEqProofs only [go_sem]) ?_
    cases hfb : fitB b with
    | false =>
      simp -implicitDefEqProofs only [go_sem]
      refine Lawake.calls (by simp -implicitDefEqProofs only [go_sem]) ?_
      simp -implicitDefEqProofs only [go_sem]
    | true =>
      have hfu : fitsU a 3 160 6000 = true := by
        unfold fitB at hfa
        exact (Bool.and_eq_true_iff.1 hfa).1
      have hfv : fitsU b 3 160 6000 = true := by
        unfold fitB at hfb
        exact (Bool.and_eq_true_iff.1 hfb).1
      obtain ⟨hu, hg⟩ := fits_of hfu
      obtain ⟨hv, hk⟩ := fits_of hfv
      have cab := changed_of hu hg hv hk
      have dab := diff_of hu hg hv hk
      have caa := changed_of hu hg hu hg
      have dbb := diff_of hv hk hv hk
      have cba := changed_of hv hk hu hg
      rw [chL_self] at caa dbb
      rw [chL_symm] at cba
      have hasc : Asc ((chL (calA a) (calA b)).map Ch.name) := chL_asc (sortC_asc (calL_nodup _ _))
      have hlen : (chL (calA a) (calA b)).length ≤ 1000000 := chA_len hv
      have hda := Ldeclared a hu
      have hdb := Ldeclared b hv
      have hmem : ∀ c ∈ chL (calA a) (calA b), ((declsU a 0).any fun d => isC d && decide (nameD d = c.name)) = true ∧ ((declsU b 0).any fun d => isC d && decide (nameD d = c.name)) = true := by
        intro c hc
        obtain ⟨_, h1, _⟩ := ch_fi hc
        obtain ⟨d, e, f1, f2⟩ := chgS_first h1
        exact ⟨declared_of f1, declared_of f2⟩
      generalize chL (calA a) (calA b) = l at cab dab cba hasc hlen hmem ⊢
      have hsr := R03Sorted (l.map Ch.name) hasc (by rw [List.length_map]; exact hlen)
      simp -implicitDefEqProofs only [go_sem]
      refine cab.calls (by simp -implicitDefEqProofs only [go_sem]) ?_
      simp -implicitDefEqProofs only [go_sem]
      refine dab.calls (by simp -implicitDefEqProofs only [go_sem]) ?_
      simp -implicitDefEqProofs only [go_sem]
      refine caa.calls (by simp -implicitDefEqProofs only [go_sem]) ?_
      simp -implicitDefEqProofs only [go_sem]
      have z0 : (!decide (((0 : Nat) : Int) = 0)) = false := rfl
      refine ⟨fun _ => ?_, fun h => by rw [z0] at h; cases h⟩
      refine dbb.calls (by simp -implicitDefEqProofs only [go_sem]) ?_
      simp -implicitDefEqProofs only [go_sem]
      refine ⟨fun _ => ?_, fun h => by rw [z0] at h; cases h⟩
      refine cba.calls (by simp -implicitDefEqProofs only [go_sem]) ?_
      simp -implicitDefEqProofs only [go_sem]
      refine (R03Strings (l.map Ch.name) (l.map Ch.name)).calls (by simp -implicitDefEqProofs only [go_sem]) ?_
      have e1 : decide (l.map Ch.name = l.map Ch.name) = true := by simp
      rw [e1]
      simp -implicitDefEqProofs only [go_sem]
      intro _ _ _ _
      refine hsr.calls (by simp -implicitDefEqProofs only [go_sem]) ?_
      simp -implicitDefEqProofs only [go_sem]
      refine snd_list (β := Unit) l (fun pre _ => ⟨[(7, .int .i64 pre.length), (6, sl 42 ((l.map chT).map Fi.enc)), (5, sl 9 ((l.map Ch.name).map encS)), (4, .bool false), (0, sl 34 (a.map Un.enc)), (1, sl 34 (b.map Un.enc))], [], []⟩) (fun _ _ _ => True) () ?_ trivial ?_ ?_
      · simp -implicitDefEqProofs only [go_sem]
        try rfl
      · intro _ _
        simp -implicitDefEqProofs only [go_sem]
        intro _ _
        refine Lawake.calls (by simp -implicitDefEqProofs only [go_sem]) ?_
        simp -implicitDefEqProofs only [go_sem]
      · rintro pre c post _ hx _
        have hpl : l.length = pre.length + 1 + post.length := by rw [hx]; simp; omega
        have hgx : ((l.map Ch.name).map encS).getD (pre.length : Int).toNat [] = encS c.name := by rw [hx]; simp [List.getD_eq_getElem?_getD]
        have hgf : ((l.map chT).map Fi.enc).getD (pre.length : Int).toNat [] = (chT c).enc := by rw [hx]; simp [List.getD_eq_getElem?_getD]
        have hw : IntKind.i64.wrap (↑pre.length + 1) = ↑(pre.length + 1) := wrap_next (by omega)
        have hlt : ((pre.length : Int) < l.length) = True := by simp; omega
        obtain ⟨m1, m2⟩ := hmem c (by rw [hx]; simp)
        have hda' := hda c.name
        have hdb' := hdb c.name
        rw [m1] at hda'
        rw [m2] at hdb'
        have hft : (chT c).enc = [.int .i64 4, .str c.path, .str c.name, .str (chT c).text] := rfl
        rw [hft] at hgf
        simp -implicitDefEqProofs only [go_sem, hgx, hgf, hlt, encS]
        intro _ _
        refine snd_draw (cs := []) mixed (by kernel_rfl) ?_
        simp -implicitDefEqProofs only [go_sem, hgx, hgf, hlt, encS]
        refine vPC_of hda' (by simp -implicitDefEqProofs only [go_sem]) ?_
        simp -implicitDefEqProofs only [go_sem, hgx, hgf, hlt, encS]
        refine vPC_of hdb' (by simp -implicitDefEqProofs only [go_sem]) ?_
        simp -implicitDefEqProofs only [go_sem, hgx, hgf, hlt, encS]
        exact ⟨(), hw⟩
end Go.Proofs.YtamednbojpnalaaGreatDoor
