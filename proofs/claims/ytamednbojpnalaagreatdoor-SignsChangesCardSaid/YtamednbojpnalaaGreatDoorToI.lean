/- Mismatches. -/
import Derived.Test.YtamednbojpnalaaGreatDoorTmA
import Derived.Test.YtamednbojpnalaaGreatDoorToH
set_option linter.unusedVariables false
namespace Go.Vg
mutual
def bare : Nd → Nd
  | .mk k t _ ks => .mk k t [] (bares ks)
def bares : List Nd → List Nd
  | [] => []
  | n :: r => bare n :: bares r
end
theorem bares_map : ∀ l, bares l = l.map bare
  | [] => rfl
  | n :: r => by rw [bares, bares_map r]; rfl
end Go.Vg
namespace Go.Proofs.YtamednbojpnalaaGreatDoor
open Go Go.Vg Go.Proofs
theorem bare_ok : (nd : Nd) → VPure env 31 [.agg nd.enc] (.agg (bare nd).enc) := by
  refine Nd.all fun k t g ks ih => ?_
  refine vpure_vc (fn := Tryz.f31) Tryz.func31 rfl (by rw [Tryz.ntmps31]; simp) (by simp -implicitDefEqProofs only [go_sem]) (by simp -implicitDefEqProofs only [go_sem]) ?_
  simp -implicitDefEqProofs only [go_sem, Tryz.f31]
  intro hb hl
  refine snd_list (β := Unit) ks (fun pre _ => ⟨[(14, .int .i64 pre.length), (13, .int .i64 ks.length), (12, sl 32 (ks.map Nd.enc)), (3, .ptr 2 0), (2, .ptr 1 0)],
      [.dead, .cells [.int .i64 0, .str ⟨#[]⟩, .slice .nil 0 [], .slice .nil 0 []], .cells [.int .i64 k, .str t, .slice .nil 0 [], .slice (.arr 0) 32 ((bares pre).map Nd.enc)]], [pre.length]⟩)
    (fun _ _ _ => True) () ?_ trivial ?_ ?_
  · simp -implicitDefEqProofs only [go_sem]
    exact ⟨rfl, rfl⟩
  · intro _ _
    simp -implicitDefEqProofs only [go_sem, bare]
  · rintro pre x post _ rfl _
    have hp := mid_len hl
    have hlen : (bares pre).length = pre.length := by rw [bares_map, List.length_map]
    simp -implicitDefEqProofs only [go_sem]
    refine snd_draw (cs := []) mixed (by kernel_rfl) ?_
    simp -implicitDefEqProofs only [go_sem]
    refine vPC_of (ih x mem_mid) (by simp -implicitDefEqProofs only [go_sem]) ?_
    simp -implicitDefEqProofs only [go_sem, hlen]
    refine ⟨by simp at hb; omega, (), wrap_next (by omega), ?_⟩
    simp only [bares_map, go_sem]
end Go.Proofs.YtamednbojpnalaaGreatDoor
set_option linter.unusedVariables false
set_option linter.unusedSimpArgs false
set_option maxRecDepth 20000
namespace Go.Proofs.YtamednbojpnalaaGreatDoor
open Go Go.Vg Go.Proofs
/-- The finding about one node. -/
def textT (u : List Un) (ms : List Dl) (n : Nd) : ByteArray := if n.kind = 20 then callT u n else if n.kind = 21 then sendT u ms n else ⟨#[]⟩
def fiN (u : List Un) (ms : List Dl) (path : ByteArray) (n : Nd) : List Fi := if textT u ms n = ⟨#[]⟩ then [] else [⟨4, path, n.text, textT u ms n⟩]
/-- What a node must be for the text of its finding to be found. -/
structure ndOK (n : Nd) : Prop where
  sh : short n
  par : parOK n
  bin : binOK n
  len : n.kids.length ≤ 1000000
  send : n.kind = 21 → 1 ≤ n.kids.length
theorem set_same {α : Type} {l : List α} {i : Nat} {x : α} (h : l[i]? = some x) : l.set i x = l := by
  apply List.ext_getElem?
  intro j
  by_cases hj : i = j
  · subst hj
    rw [List.getElem?_set_self (List.getElem?_eq_some_iff.1 h).1, h]
  · rw [List.getElem?_set_ne hj]
theorem fiN_len {u : List Un} {ms : List Dl} {p : ByteArray} {n : Nd} : (fiN u ms p n).length ≤ 1 := by unfold fiN; split <;> simp
theorem Sclos (u : List Un) (hu : sgOK u) (ms : List Dl) (p : ByteArray) (xs : List V) (fs : List Fi) (n : Nd) (hn : ndOK n) (h : List VObj) (a : List Nat) (hfl : fs.length ≤ 1000000) (g0 : h[0]? = some (.cells [sl 34 (u.map Un.enc)])) (g1 : h[1]? = some (.cells [.slice (.arr 0) 61 (ms.map Dl.enc)]))
    (g2 : h[2]? = some (.cells [.slice (.arr 1) 42 (fs.map Fi.enc)])) (g3 : h[3]? = some (.cells (.str p :: xs))) (ga : a[1]? = some fs.length) :
    VCalls env 32 [.agg n.enc, .ptr 0 0, .ptr 1 0, .ptr 2 0, .ptr 3 0] h a fun v h' a' => v = .tuple [] ∧ (∃ z, h' = h.set 2 (.cells [.slice (.arr 1) 42 ((fs ++ fiN u ms p n).map Fi.enc)]) ++ z) ∧ a' = a.set 1 (fs ++ fiN u ms p n).length := by
  have hC := Scall u hu n hn.sh hn.par hn.bin hn.len
  have hS := fun h1 => Ssend u hu ms n h1 hn.len
  have hsend := hn.send
  have hl2 : 2 < h.length := (List.getElem?_eq_some_iff.1 g2).1
  have hl1 : 1 < a.length := (List.getElem?_eq_some_iff.1 ga).1
  obtain ⟨k, t, g, ks⟩ := n
  simp only [Nd.kind, Nd.kids] at hsend
  have htx : textT u ms (.mk k t g ks) = if k = 20 then callT u (.mk k t g ks) else if k = 21 then sendT u ms (.mk k t g ks) else ⟨#[]⟩ := rfl
  have hfi : fiN u ms p (.mk k t g ks) = if textT u ms (.mk k t g ks) = ⟨#[]⟩ then [] else [⟨4, p, t, textT u ms (.mk k t g ks)⟩] := rfl
  generalize fiN u ms p (.mk k t g ks) = fi at hfi ⊢
  refine vcalls_vc (fn := Tryz.f32) Tryz.func32 rfl (by rw [Tryz.ntmps32]; simp) ?_
  simp -implicitDefEqProofs only [go_sem, Tryz.f32, hp_get g0, hp_get g1, hp_get g2, hp_get g3]
  have hnil : fi = [] → h = h.set 2 (.cells [.slice (.arr 1) 42 ((fs ++ fi).map Fi.enc)]) ∧ a = a.set 1 (fs ++ fi).length := fun e => by
    subst e
    rw [List.append_nil]
    exact ⟨(set_same g2).symm, (set_same ga).symm⟩
  have hone : ∀ tx, tx ≠ ⟨#[]⟩ → textT u ms (.mk k t g ks) = tx → fi = [⟨4, p, t, tx⟩] := fun tx h1 h2 => by
    rw [hfi, h2, if_neg h1]
  have hzero : textT u ms (.mk k t g ks) = ⟨#[]⟩ → fi = [] := fun h2 => by
    rw [hfi, h2, if_pos rfl]
  refine ⟨fun h20 => ?_, fun h20 => ⟨fun h21 => ?_, fun h21 => ?_⟩⟩
  · rw [if_pos h20] at htx
    refine hC.calls (by simp -implicitDefEqProofs only [go_sem]) ?_
    simp -implicitDefEqProofs only [go_sem, hp_get g0, hp_get g1, hp_get g2, hp_get g3]
    refine ⟨fun hc => ?_, fun hc => ?_⟩
    · have e := hone _ (by simpa using hc) htx
      refine ⟨by omega, ga, ⟨[.cells (Nd.mk k t g ks).enc], ?_⟩, by rw [e]; simp⟩
      rw [e, List.set_append_left _ _ hl2]
      simp -implicitDefEqProofs only [go_sem]
      simp [Fi.enc]
    · obtain ⟨e1, e2⟩ := hnil (hzero (by rw [htx]; simpa using hc))
      exact ⟨⟨_, by rw [← e1]⟩, e2⟩
  · rw [if_neg h20, if_pos h21] at htx
    refine (hS (hsend h21)).calls (by simp -implicitDefEqProofs only [go_sem]) ?_
    simp -implicitDefEqProofs only [go_sem, hp_get g0, hp_get g1, hp_get g2, hp_get g3]
    refine ⟨fun hc => ?_, fun hc => ?_⟩
    · have e := hone _ (by simpa using hc) htx
      refine ⟨by omega, ga, ⟨[.cells (Nd.mk k t g ks).enc], ?_⟩, by rw [e]; simp⟩
      rw [e, List.set_append_left _ _ hl2]
      simp -implicitDefEqProofs only [go_sem]
      simp [Fi.enc]
    · obtain ⟨e1, e2⟩ := hnil (hzero (by rw [htx]; simpa using hc))
      exact ⟨⟨_, by rw [← e1]⟩, e2⟩
  · rw [if_neg h20, if_neg h21] at htx
    obtain ⟨e1, e2⟩ := hnil (hzero htx)
    exact ⟨⟨_, by rw [← e1]⟩, e2⟩
def misN (u : List Un) (ms : List Dl) (p : ByteArray) (n : Nd) : List Fi := (nodes n).flatMap (fiN u ms p)
def misL (u : List Un) (ms : List Dl) (p : ByteArray) (l : List Nd) : List Fi := (nodesL l).flatMap (fiN u ms p)
theorem mis_len {u : List Un} {ms : List Dl} {p : ByteArray} : ∀ l : List Nd, (l.flatMap (fiN u ms p)).length ≤ l.length
  | [] => by simp
  | x :: r => by
    have := mis_len (u := u) (ms := ms) (p := p) r
    have := @fiN_len u ms p x
    simp only [List.flatMap_cons, List.length_append, List.length_cons]; omega
theorem Swalk (u : List Un) (hu : sgOK u) (ms : List Dl) (p : ByteArray) (xs : List V) : (n : Nd) → (∀ y ∈ nodes n, ndOK y) → ∀ (fs : List Fi) (h : List VObj) (a : List Nat) (hfl : fs.length + (nodes n).length ≤ 1000000) (g0 : h[0]? = some (.cells [sl 34 (u.map Un.enc)])) (g1 : h[1]? = some (.cells [.slice (.arr 0) 61 (ms.map Dl.enc)]))
    (g2 : h[2]? = some (.cells [.slice (.arr 1) 42 (fs.map Fi.enc)])) (g3 : h[3]? = some (.cells (.str p :: xs))) (ga : a[1]? = some fs.length),
    VCalls env 30 [.agg n.enc, .func 32 [.ptr 0 0, .ptr 1 0, .ptr 2 0, .ptr 3 0]] h a fun v h' a' => v = .tuple [] ∧ (∃ z, h' = h.set 2 (.cells [.slice (.arr 1) 42 ((fs ++ misN u ms p n).map Fi.enc)]) ++ z) ∧ a' = a.set 1 (fs ++ misN u ms p n).length := by
  refine Nd.all fun k t g ks ih hok fs h a hfl g0 g1 g2 g3 ga => ?_
  have hl2 : 2 < h.length := (List.getElem?_eq_some_iff.1 g2).1
  have hl3 : 3 < h.length := (List.getElem?_eq_some_iff.1 g3).1
  have hl1 : 1 < a.length := (List.getElem?_eq_some_iff.1 ga).1
  have hmn : misN u ms p (.mk k t g ks) = fiN u ms p (.mk k t g ks) ++ misL u ms p ks := by simp [misN, misL, nodes]
  have hn0 : ndOK (.mk k t g ks) := hok _ (by rw [nodes]; simp)
  rw [nodes_mk] at hfl
  refine vcalls_vc (fn := Tryz.f30) Tryz.func30 rfl (by rw [Tryz.ntmps30]; simp) ?_
  simp -implicitDefEqProofs only [go_sem, Tryz.f30]
  have hcl := Sclos u hu ms p xs fs (.mk k t g ks) hn0 (h ++ [.cells (Nd.mk k t g ks).enc]) a (by omega) (hp_get g0) (hp_get g1) (hp_get g2) (hp_get g3) ga
  simp only [enc_mk] at hcl
  refine VCalls.mono hcl ?_
  rintro v h' a' ⟨rfl, ⟨z, rfl⟩, rfl⟩
  have hfl1 := @fiN_len u ms p (.mk k t g ks)
  generalize fiN u ms p (.mk k t g ks) = fi at hmn hfl1 ⊢
  rw [hp_set hl2, List.append_assoc]
  simp -implicitDefEqProofs only [go_sem, hp_at, hp_at']
  intro _ _
  rw [hmn]
  refine snd_list (β := List VObj) ks (fun pre hh => ⟨[(12, .int .i64 pre.length), (11, .int .i64 ks.length), (10, sl 32 (ks.map Nd.enc)), (1, .func 32 [.ptr 0 0, .ptr 1 0, .ptr 2 0, .ptr 3 0])],
      hh, a.set 1 (fs ++ (fi ++ misL u ms p pre)).length⟩) (fun pre _ hh => ∃ z, hh = h.set 2 (.cells [.slice (.arr 1) 42 ((fs ++ (fi ++ misL u ms p pre)).map Fi.enc)]) ++ z)
      (h.set 2 (.cells [.slice (.arr 1) 42 ((fs ++ fi).map Fi.enc)]) ++ (.cells (Nd.mk k t g ks).enc :: z)) ?_ ⟨.cells (Nd.mk k t g ks).enc :: z, by rw [show misL u ms p [] = [] from rfl, List.append_nil]⟩ ?_ ?_
  · have e0 : misL u ms p [] = [] := rfl
    rw [e0, List.append_nil]
    simp -implicitDefEqProofs only [go_sem]
    exact ⟨rfl, by rw [hp_len]; omega⟩
  · rintro hh ⟨z, rfl⟩
    simp -implicitDefEqProofs only [go_sem]
    exact ⟨_, rfl⟩
  · rintro pre x post hh hx ⟨z, hz⟩
    have hpl : ks.length = pre.length + 1 + post.length := by rw [hx]; simp; omega
    have hgx : (ks.map Nd.enc).getD (pre.length : Int).toNat [] = x.enc := by rw [hx]; simp [List.getD_eq_getElem?_getD]
    have hw : IntKind.i64.wrap (↑pre.length + 1) = ↑(pre.length + 1) := wrap_next (by omega)
    have hlt : ((pre.length : Int) < ks.length) = True := by simp; omega
    have hxm : x ∈ ks := by rw [hx]; simp
    have hnl : (nodesL ks).length = (nodesL pre).length + (nodes x).length + (nodesL post).length := by rw [hx, nodesL_app, nodesL]; simp; omega
    have hml : (misL u ms p pre).length ≤ (nodesL pre).length := mis_len _
    simp -implicitDefEqProofs only [go_sem, hgx, hlt]
    have hfs : (fs ++ (fi ++ misL u ms p pre)).length + (nodes x).length ≤ 1000000 := by
      simp only [List.length_append]; omega
    have gp : ∀ (j : Nat) v, j ≠ 2 → h[j]? = some v → (hh ++ [VObj.cells x.enc])[j]? = some v := fun j v hj hv => by
      have hjl := (List.getElem?_eq_some_iff.1 hv).1
      rw [hz, List.append_assoc, List.getElem?_append_left (by simpa using hjl), List.getElem?_set_ne (Ne.symm hj)]; exact hv
    have g2' : (hh ++ [VObj.cells x.enc])[2]? = some (.cells [.slice (.arr 1) 42 ((fs ++ (fi ++ misL u ms p pre)).map Fi.enc)]) := by
      rw [hz, List.append_assoc, List.getElem?_append_left (by simpa using hl2), List.getElem?_set_self hl2]
    refine VCalls.mono (ih x hxm (fun y hy => hok y (mem_kid hxm hy)) (fs ++ (fi ++ misL u ms p pre)) _ _ hfs (gp 0 _ (by decide) g0) (gp 1 _ (by decide) g1) g2' (gp 3 _ (by decide) g3) (List.getElem?_set_self hl1)) ?_
    rintro v h' a' ⟨rfl, ⟨z', rfl⟩, rfl⟩
    have hms : misL u ms p (pre ++ [x]) = misL u ms p pre ++ misN u ms p x := by
      simp [misL, misN, nodesL_snoc]
    have hfe : (fs ++ (fi ++ misL u ms p pre)) ++ misN u ms p x = fs ++ (fi ++ misL u ms p (pre ++ [x])) := by rw [hms]; simp
    rw [hfe, List.set_set]
    simp -implicitDefEqProofs only [go_sem]
    refine ⟨_, ⟨z ++ ([.cells x.enc] ++ z'), ?_⟩, hw, tellH_refl, ?_, .inl (by simp)⟩
    · rw [hz, List.append_assoc (h.set 2 _), hp_sets hl2]; simp
    · rw [hz]; simp; omega
theorem methods_eq (l : List Dl) : (l.filter fun d => decide (d.kind = 4)).length ≤ l.length := List.length_filter_le ..
/-- The findings of a project, by units that are sound or broken. -/
def misU (u : List Un) (ms : List Dl) : List Un → List Fi
  | [] => []
  | x :: r => (if x.broken = true then [] else misN u ms x.path (bare x.tree)) ++ misU u ms r
theorem misU_snoc {u : List Un} {ms : List Dl} {x : Un} : ∀ l : List Un, misU u ms (l ++ [x]) = misU u ms l ++ (if x.broken = true then [] else misN u ms x.path (bare x.tree))
  | [] => by simp [misU]
  | y :: r => by simp only [List.cons_append, misU, misU_snoc r, List.append_assoc]
theorem misU_len {u : List Un} {ms : List Dl} : ∀ l : List Un, (∀ x ∈ l, (nodes (bare x.tree)).length ≤ 1000) → (misU u ms l).length ≤ l.length * 1000
  | [], _ => by simp [misU]
  | x :: r, h => by
    have h1 := misU_len (u := u) (ms := ms) r fun y hy => h y (by simp [hy])
    have h2 := h x (by simp)
    have h3 : (misN u ms x.path (bare x.tree)).length ≤ (nodes (bare x.tree)).length := mis_len _
    rw [misU, List.length_append, List.length_cons]
    split
    · simp; omega
    · omega
def methU (u : List Un) : List Dl := (declsU u 0).filter fun d => decide (d.kind = 4)
theorem Smis (u : List Un) (hu : sgOK u) (hv : sgOK (u.map Un.sound)) (hn : ∀ x ∈ u.map Un.sound, x.broken = false → ∀ y ∈ nodes (bare x.tree), ndOK y) (hbl : ∀ x ∈ u.map Un.sound, (nodes (bare x.tree)).length ≤ 1000) :
    VPure env 11 [sl 34 (u.map Un.enc)] (sl 42 ((misU (u.map Un.sound) (methU (u.map Un.sound)) (u.map Un.sound)).map Fi.enc)) := by
  have hD := PDecls (u.map Un.sound) hv.fit
  rw [declsPU_eq] at hD
  have hdl := declsU_len (u.map Un.sound) 0 fun y hy => (hv.fit.2 y hy).1
  have hul := hv.fit.1
  refine vpure_vc (fn := Tryz.f11) Tryz.func11 rfl (by rw [Tryz.ntmps11]; simp) (by simp -implicitDefEqProofs only [go_sem]; exact uns_pure _) (by simp -implicitDefEqProofs only [go_sem]; exact fis_pure _) ?_
  simp -implicitDefEqProofs only [go_sem, Tryz.f11]
  refine (Ssound u hu.gaps hu.fit.1).calls (by simp -implicitDefEqProofs only [go_sem]) ?_
  simp -implicitDefEqProofs only [go_sem]
  refine hD.calls (by simp -implicitDefEqProofs only [go_sem]) ?_
  simp -implicitDefEqProofs only [go_sem]
  unfold methU
  generalize hvv : u.map Un.sound = v at hv hn hbl hdl hul ⊢
  generalize declsU v 0 = dl at hdl ⊢
  intro _ _
  refine snd_list (β := Unit) dl (fun pre _ => ⟨[(15, .int .i64 pre.length), (14, .int .i64 dl.length), (13, sl 61 (dl.map Dl.enc)), (4, .ptr 1 0), (3, .ptr 0 0), (2, .slice .nil 0 [])],
      [.cells [sl 34 (v.map Un.enc)], .cells [.slice (.arr 0) 61 ((pre.filter fun d => decide (d.kind = 4)).map Dl.enc)]], [(pre.filter fun d => decide (d.kind = 4)).length]⟩) (fun _ _ _ => True) () ?_ trivial ?_ ?_
  · simp -implicitDefEqProofs only [go_sem]
    exact ⟨rfl, rfl⟩
  · intro _ _
    simp -implicitDefEqProofs only [go_sem]
    intro _ _
    generalize (dl.filter fun d => decide (d.kind = 4)) = ms
    refine snd_list (β := Unit) v (fun pre _ => ⟨[(29, .int .i64 pre.length), (28, .int .i64 v.length), (27, sl 34 (v.map Un.enc)), (7, .ptr 2 0), (4, .ptr 1 0), (3, .ptr 0 0), (2, .slice .nil 0 [])],
      [.cells [sl 34 (v.map Un.enc)], .cells [.slice (.arr 0) 61 (ms.map Dl.enc)], .cells [.slice (.arr 1) 42 ((misU v ms pre).map Fi.enc)]], [ms.length, (misU v ms pre).length]⟩) (fun _ _ _ => True) () ?_ trivial ?_ ?_
    · simp -implicitDefEqProofs only [go_sem]
      exact ⟨rfl, rfl⟩
    · intro _ _
      simp -implicitDefEqProofs only [go_sem]
    · rintro pre x post _ hx _
      have hpl : v.length = pre.length + 1 + post.length := by rw [hx]; simp; omega
      have hgx : (v.map Un.enc).getD (pre.length : Int).toNat [] = x.enc := by rw [hx]; simp [List.getD_eq_getElem?_getD]
      have hw : IntKind.i64.wrap (↑pre.length + 1) = ↑(pre.length + 1) := wrap_next (by omega)
      have hlt : ((pre.length : Int) < v.length) = True := by simp; omega
      have hxm : x ∈ v := by rw [hx]; simp
      have hml := misU_len (u := v) (ms := ms) pre fun y hy => hbl y (by rw [hx]; simp [hy])
      have hbx := hbl x hxm
      simp -implicitDefEqProofs only [go_sem, hgx, hlt]
      refine ⟨fun hb => ?_, fun hb => ?_⟩
      · have hsn := @misU_snoc v ms x pre
        rw [if_pos hb, List.append_nil] at hsn
        rw [hsn]
        exact ⟨(), hw, rfl, rfl, .inr ⟨by rw [ltLL_pure _ _ _ (uns_pure _), ltLL_pure _ _ _ (dls_pure _), ltLL_pure _ _ _ (fis_pure _)]; rfl, ltLL_pure _ _ _ (uns_pure _)⟩⟩
      · have hsn := @misU_snoc v ms x pre
        rw [if_neg (by rw [hb]; simp)] at hsn
        refine (bare_ok x.tree).calls (by simp -implicitDefEqProofs only [go_sem]) ?_
        simp -implicitDefEqProofs only [go_sem]
        refine VCalls.mono (Swalk v hv ms x.path (.str x.text :: (x.tree.enc ++ [.bool x.broken])) (bare x.tree) (hn x hxm hb) (misU v ms pre) _ _ (by omega) rfl rfl rfl rfl rfl) ?_
        rintro v' h' a' ⟨rfl, ⟨z, rfl⟩, rfl⟩
        rw [← hsn]
        simp -implicitDefEqProofs only [go_sem]
        exact ⟨(), hw, .inr ⟨by rw [ltLL_pure _ _ _ (uns_pure _), ltLL_pure _ _ _ (dls_pure _), ltLL_pure _ _ _ (fis_pure _)]; rfl, ltLL_pure _ _ _ (uns_pure _)⟩⟩
  · rintro pre d post _ hx _
    have hpl : dl.length = pre.length + 1 + post.length := by rw [hx]; simp; omega
    have hgx : (dl.map Dl.enc).getD (pre.length : Int).toNat [] = d.enc := by rw [hx]; simp [List.getD_eq_getElem?_getD]
    have hw : IntKind.i64.wrap (↑pre.length + 1) = ↑(pre.length + 1) := wrap_next (by omega)
    have hlt : ((pre.length : Int) < dl.length) = True := by simp; omega
    have hml : (pre.filter fun d => decide (d.kind = 4)).length ≤ pre.length := List.length_filter_le ..
    simp -implicitDefEqProofs only [go_sem, hgx, hlt]
    have hlp : ltLL 2 1 (List.map Un.enc v) = true ∧ ltLL 2 1 (List.map Dl.enc ((pre ++ [d]).filter fun d => decide (d.kind = 4))) = true ∧ ltLL 2 1 (List.map Dl.enc dl) = true := ⟨ltLL_pure _ _ _ (uns_pure _), ltLL_pure _ _ _ (dls_pure _), ltLL_pure _ _ _ (dls_pure _)⟩
    rw [hlp.1, hlp.2.1, hlp.2.2]
    refine ⟨fun h4 => ⟨by omega, (), hw, by simp [h4], by simp [h4], .inr ⟨rfl, rfl⟩⟩, fun h4 => ⟨(), hw, by simp [h4], by simp [h4], .inr ⟨rfl, rfl⟩⟩⟩
end Go.Proofs.YtamednbojpnalaaGreatDoor
