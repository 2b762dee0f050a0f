/- The reference's base classes: the loop. -/
import Derived.Test.YtamednbojpnalaaGreatDoorToC
set_option linter.unusedVariables false
set_option linter.unusedSimpArgs false
namespace Go.Vg
theorem rows_root {k : Int} {t g} {ks : List Nd} {p : Int} {a : Nat} : rowsN (.mk k t g ks) p a = ⟨p, k, t, g, kidsAt ks (a + 1)⟩ :: rowsL ks a (a + 1) := by rw [rowsN]
theorem split_at : ∀ (n : Nd) (i : Nat) (y : Nd), (nodes n)[i]? = some y → ∃ A B, nodes n = A ++ nodes y ++ B ∧ A.length = i ∧ ∀ p a, ∃ q A' B', rowsN n p a = A' ++ rowsN y q (a + i) ++ B' ∧ A'.length = i := by
  refine Nd.all fun k t g ks ih i y hy => ?_
  have hs : ∀ (l : List Nd), (∀ z ∈ l, ∀ (i : Nat) (y : Nd), (nodes z)[i]? = some y → ∃ A B, nodes z = A ++ nodes y ++ B ∧ A.length = i ∧ ∀ p a, ∃ q A' B', rowsN z p a = A' ++ rowsN y q (a + i) ++ B' ∧ A'.length = i) → ∀ (i : Nat) (y : Nd), (nodesL l)[i]? = some y →
      ∃ A B, nodesL l = A ++ nodes y ++ B ∧ A.length = i ∧ ∀ (p : Nat) a, ∃ q A' B', rowsL l p a = A' ++ rowsN y q (a + i) ++ B' ∧ A'.length = i := by
    intro l
    induction l with
    | nil => intro _ i y hy; simp [nodesL] at hy
    | cons z r ihr =>
      intro h i y hy
      rw [nodesL] at hy
      by_cases hi : i < (nodes z).length
      · rw [List.getElem?_append_left hi] at hy
        obtain ⟨A, B, h1, h2, h3⟩ := h z (by simp) i y hy
        refine ⟨A, B ++ nodesL r, by rw [nodesL, h1]; simp, h2, fun p a => ?_⟩
        obtain ⟨q, A', B', g1, g2⟩ := h3 p a
        exact ⟨q, A', B' ++ rowsL r p (a + (nodes z).length), by rw [rowsL, g1]; simp, g2⟩
      · rw [List.getElem?_append_right (by omega)] at hy
        obtain ⟨A, B, h1, h2, h3⟩ := ihr (fun w hw => h w (by simp [hw])) _ y hy
        refine ⟨nodes z ++ A, B, by rw [nodesL, h1]; simp, by rw [List.length_append]; omega, fun p a => ?_⟩
        obtain ⟨q, A', B', g1, g2⟩ := h3 p (a + (nodes z).length)
        refine ⟨q, rowsN z p a ++ A', B', ?_, by rw [List.length_append, rowsN_len]; omega⟩
        rw [rowsL, g1, show a + (nodes z).length + (i - (nodes z).length) = a + i by omega]; simp
  rw [nodes] at hy
  cases i with
  | zero =>
    simp at hy
    subst hy
    exact ⟨[], [], by simp, rfl, fun p a => ⟨p, [], [], by simp, rfl⟩⟩
  | succ i =>
    rw [List.getElem?_cons_succ] at hy
    obtain ⟨A, B, h1, h2, h3⟩ := hs ks ih i y hy
    refine ⟨.mk k t g ks :: A, B, by rw [nodes, h1]; simp, by simp [h2], fun p a => ?_⟩
    obtain ⟨q, A', B', g1, g2⟩ := h3 a (a + 1)
    refine ⟨q, ⟨p, k, t, g, kidsAt ks (a + 1)⟩ :: A', B', ?_, by simp [g2]⟩
    rw [rows_root, g1, show a + 1 + i = a + (i + 1) by omega]; simp
/-- The row of a node. -/
theorem row_at {n : Nd} {i : Nat} {k : Int} {t g} {ks : List Nd} (h : (nodes n)[i]? = some (.mk k t g ks)) : ∃ q, (rowsN n (-1) 0)[i]? = some ⟨q, k, t, g, kidsAt ks (i + 1)⟩ := by
  obtain ⟨A, B, h1, h2, h3⟩ := split_at n i _ h
  obtain ⟨q, A', B', g1, g2⟩ := h3 (-1) 0
  refine ⟨q, ?_⟩
  rw [g1, rows_root, List.append_assoc, List.getElem?_append_right (by omega), g2, Nat.zero_add]
  simp
theorem rwAt_at {n : Nd} {i : Nat} {k : Int} {t g} {ks : List Nd} (h : (nodes n)[i]? = some (.mk k t g ks)) : (rwAt (rowsN n (-1) 0) i).kind = k ∧ (rwAt (rowsN n (-1) 0) i).text = t ∧ (rwAt (rowsN n (-1) 0) i).kids = kidsAt ks (i + 1) := by
  obtain ⟨q, hq⟩ := row_at h
  simp [rwAt, List.getD_eq_getElem?_getD, hq]
/-- The kids of a node stand where its row says. -/
theorem kidsL_at : ∀ (ks : List Nd) (b j : Nat) (z : Nd), ks[j]? = some z → ∃ o, (kidsAt ks b)[j]? = some (b + o) ∧ (nodesL ks)[o]? = some z
  | [], b, j, z, h => by simp at h
  | x :: r, b, j, z, h => by
    cases j with
    | zero =>
      simp at h; subst h
      refine ⟨0, by simp [kidsAt], ?_⟩
      obtain ⟨a1, a2, a3, a4⟩ := x
      simp [nodesL, nodes]
    | succ j =>
      obtain ⟨o, h1, h2⟩ := kidsL_at r (b + (nodes x).length) j z (by simpa using h)
      refine ⟨(nodes x).length + o, by rw [kidsAt, List.getElem?_cons_succ, h1, Nat.add_assoc], ?_⟩
      rw [nodesL, List.getElem?_append_right (by omega)]; simpa using h2
theorem kid_at {n : Nd} {i j : Nat} {k : Int} {t g} {ks : List Nd} {z : Nd} (h : (nodes n)[i]? = some (.mk k t g ks)) (hz : ks[j]? = some z) : ∃ c, (kidsAt ks (i + 1))[j]? = some c ∧ (nodes n)[c]? = some z := by
  obtain ⟨A, B, h1, h2, h3⟩ := split_at n i _ h
  obtain ⟨o, g1, g2⟩ := kidsL_at ks (i + 1) j z hz
  refine ⟨i + 1 + o, g1, ?_⟩
  have hol := (List.getElem?_eq_some_iff.1 g2).1
  rw [h1, List.append_assoc, List.getElem?_append_right (by omega), nodes]
  rw [List.getElem?_append_left (by simp; omega), h2, show i + 1 + o - i = o + 1 by omega, List.getElem?_cons_succ]
  exact g2
/-- The first kid of a row that is a KdBase: where it stands, and its text. -/
def bR (l : List Rw) : List Nat → Int × ByteArray
  | [] => (-1, ⟨#[]⟩)
  | k :: r => if (rwAt l k).kind = 8 then (k, (rwAt l k).text) else bR l r
theorem bR_base {n : Nd} {i : Nat} {k : Int} {t g} {ks : List Nd} (h : (nodes n)[i]? = some (.mk k t g ks)) : (bR (rowsN n (-1) 0) (kidsAt ks (i + 1))).2 = (baseL ks 0).1.text := by
  have key : ∀ (l : List Nd) (cs : List Nat) (b : Int), cs.length = l.length → (∀ (j : Nat) z, l[j]? = some z → ∃ c, cs[j]? = some c ∧ (nodes n)[c]? = some z) → (bR (rowsN n (-1) 0) cs).2 = (baseL l b).1.text := by
    intro l
    induction l with
    | nil => intro cs b hl _; rw [List.eq_nil_of_length_eq_zero hl]; rfl
    | cons z r ihr =>
      intro cs b hl hc
      cases cs with
      | nil => simp at hl
      | cons c cs =>
        obtain ⟨c', h1, h2⟩ := hc 0 z rfl
        simp at h1; subst h1
        obtain ⟨zk, zt, zg, zks⟩ := z
        obtain ⟨q1, q2, q3⟩ := rwAt_at h2
        rw [bR, baseL, q1, q2]
        by_cases h8 : zk = 8
        · rw [if_pos h8, if_pos (show (Nd.mk zk zt zg zks).kind = 8 from h8)]; rfl
        · rw [if_neg h8, if_neg (show ¬ (Nd.mk zk zt zg zks).kind = 8 from h8)]
          exact ihr cs _ (by simpa using hl) fun j z hz => by
            obtain ⟨c'', g1, g2⟩ := hc (j + 1) z (by simpa using hz)
            exact ⟨c'', by simpa using g1, g2⟩
  exact key ks _ 0 (kidsAt_len _ _) fun j z hz => kid_at h hz
end Go.Vg
set_option linter.unusedVariables false
set_option linter.unusedSimpArgs false
set_option maxRecDepth 20000
namespace Go.Vg
/-- The table of a unit. -/
def tabU (x : Un) : List Rw := if x.broken = true then [] else rowsN x.tree (-1) 0
def tabE (x : Un) : List V := [sl 100 ((tabU x).map Rw.enc)]
def readD (u : List Un) (d : Dl) : Int × ByteArray := if d.kind = 2 then match u[d.unit.toNat]? with
  | some x => bR (tabU x) (rwAt (tabU x) d.node.toNat).kids
  | none => (-1, ⟨#[]⟩) else (-1, ⟨#[]⟩)
def upD (u : List Un) (dl : List Dl) (d : Dl) : Int := if (readD u d).2 = ⟨#[]⟩ then -1 else firstD dl (readD u d).2 0
def encZ (n : Int) : List V := [.int .i64 n]
/-- What is read of the classes. -/
def clsC (u : List Un) (dl : List Dl) : List V := [sl 61 (dl.map Dl.enc), sl 3 ((dl.map fun d => (readD u d).1).map encZ), sl 9 ((dl.map fun d => (readD u d).2).map encS), sl 3 ((dl.map (upD u dl)).map encZ)]
theorem encZ_pure : ∀ l : List Int, pureLL (l.map encZ) = true
  | [] => rfl
  | x :: r => by simp only [List.map_cons, pureLL, encZ_pure r]; rfl
theorem clsC_pure (u : List Un) (dl : List Dl) : pureL (clsC u dl) = true := by
  simp only [clsC, go_sem, encZ_pure, dls_pure, encS_pure]
end Go.Vg
namespace Go.Proofs.YtamednbojpnalaaGreatDoor
open Go Go.Vg Go.Proofs
theorem R13Read (u : List Un) (hu : fitU u) : VPure env 130 [sl 34 (u.map Un.enc)] (.agg (clsC u (declsU u 0))) := by
  have hD := R11Decls u hu
  have hdl := declsU_len u 0 fun y hy => (hu.2 y hy).1
  have hul := hu.1
  have hat : ∀ d ∈ declsU u 0, _ := fun d hd => declsU_at u 0 d hd
  refine vpure_vc (fn := Tryz.f130) Tryz.func130 rfl (by rw [Tryz.ntmps130]; simp) (by simp -implicitDefEqProofs only [go_sem]; exact uns_pure _) (by simp -implicitDefEqProofs only [go_sem]; exact clsC_pure _ _) ?_
  simp -implicitDefEqProofs only [go_sem, Tryz.f130]
  refine hD.calls (by simp -implicitDefEqProofs only [go_sem]) ?_
  simp -implicitDefEqProofs only [go_sem]
  generalize hdd : declsU u 0 = dl at hat hdl ⊢
  have hdl2 : dl.length ≤ 1000000 := by omega
  refine snd_list (β := Unit) u (fun pre _ => ⟨[(5, .int .i64 pre.length), (4, .slice (.arr 0) 80 (pre.map tabE)), (3, .ptr 1 0), (2, .ptr 0 0), (0, sl 34 (u.map Un.enc))],
      [.cells [.slice .nil 0 [], .slice .nil 0 [], .slice .nil 0 [], .slice .nil 0 []], .cells [sl 61 (dl.map Dl.enc), .slice .nil 0 [], .slice .nil 0 [], .slice .nil 0 []]], [pre.length]⟩) (fun _ _ _ => True) () ?_ trivial ?_ ?_
  · simp -implicitDefEqProofs only [go_sem]
    try rfl
  · intro _ _
    simp -implicitDefEqProofs only [go_sem]
    intro _ _
    refine snd_list (β := Unit) dl (fun pre _ => ⟨[(7, .int .i64 pre.length), (4, .slice (.arr 0) 80 (u.map tabE)), (3, .ptr 1 0), (2, .ptr 0 0), (0, sl 34 (u.map Un.enc))],
      [.cells [.slice .nil 0 [], .slice .nil 0 [], .slice .nil 0 [], .slice .nil 0 []], .cells [sl 61 (dl.map Dl.enc), .slice (.arr 1) 3 ((pre.map fun d => (readD u d).1).map encZ), .slice (.arr 2) 9 ((pre.map fun d => (readD u d).2).map encS), .slice (.arr 3) 3 ((pre.map (upD u dl)).map encZ)]], [u.length, pre.length, pre.length, pre.length]⟩) (fun _ _ _ => True) () ?_ trivial ?_ ?_
    · simp -implicitDefEqProofs only [go_sem]
      rfl
    · intro _ _
      simp -implicitDefEqProofs only [go_sem]
      intro _ _
      rfl
    · rintro pre d post _ hx _
      have hpl : dl.length = pre.length + 1 + post.length := by rw [hx]; simp; omega
      have hgx : (dl.map Dl.enc).getD (pre.length : Int).toNat [] = d.enc := by rw [hx]; simp [List.getD_eq_getElem?_getD]
      have hw : IntKind.i64.wrap (↑pre.length + 1) = ↑(pre.length + 1) := wrap_next (by omega)
      have hlt : ((pre.length : Int) < dl.length) = True := by simp; omega
      obtain ⟨un, x, e1, e2, e3, nd, n, e4, e5, e6, e7, e8⟩ := hat d (by rw [hx]; simp)
      have hul2 : un < u.length := (List.getElem?_eq_some_iff.1 e2).1
      have hxm : x ∈ u := List.mem_of_getElem? e2
      have hxl := (hu.2 x hxm).1
      have hndl : nd < (nodes x.tree).length := (List.getElem?_eq_some_iff.1 e5).1
      have htab : tabU x = rowsN x.tree (-1) 0 := by rw [tabU, if_neg (by rw [e3]; simp)]
      obtain ⟨dk, dow, dn, du, dd⟩ := d
      simp only at e1 e4 e6 e7 e8
      rw [Nat.zero_add] at e1 e4
      subst e1 e4
      have hel : (u.map tabE).getD (un : Int).toNat [] = [sl 100 ((tabU x).map Rw.enc)] := by simp [List.getD_eq_getElem?_getD, e2, tabE]
      have hlu : ((un : Int) < (u.length : Int)) = True := by simp; omega
      have hrl : (tabU x).length = (nodes x.tree).length := by rw [htab, rowsN_len]
      have hnl : ((nd : Int) < ((tabU x).length : Int)) = True := by rw [hrl]; simp; omega
      have hrd : ∀ k, readD u ⟨k, dow, dn, (un : Nat), (nd : Nat)⟩ = if k = 2 then bR (tabU x) (rwAt (tabU x) nd).kids else (-1, ⟨#[]⟩) := fun k => by
        simp only [readD, Int.toNat_natCast, e2]
      have hneg : dk ≠ 2 → readD u ⟨dk, dow, dn, (un : Nat), (nd : Nat)⟩ = (-1, ⟨#[]⟩) := fun h => by rw [hrd, if_neg h]
      simp -implicitDefEqProofs only [go_sem, hgx, hlt, Dl.enc]
      intro _ _
      refine ⟨fun h2 => ⟨by omega, ?_⟩, fun h2 => ⟨by omega, by omega, by omega, (), hw, by rw [hneg h2]; rfl, by rw [hneg h2]; rfl, by rw [upD, hneg h2]; rfl⟩⟩
      rw [hel]
      simp -implicitDefEqProofs only [go_sem, hgx, hlt, Dl.enc, hnl, row_getDi (show nd < (tabU x).length by omega)]
      obtain ⟨nk, nt, ng, nks⟩ := n
      have hkd : (rwAt (tabU x) nd).kids = kidsAt nks (nd + 1) := by rw [htab]; exact (rwAt_at e5).2.2
      have hkl : ∀ k ∈ (rwAt (tabU x) nd).kids, k < (tabU x).length := fun k hk => by
        rw [hkd] at hk
        obtain ⟨j, hj, hje⟩ := List.getElem_of_mem hk
        have hjl : j < nks.length := by rw [kidsAt_len] at hj; exact hj
        obtain ⟨c, g1, g2⟩ := kid_at e5 (List.getElem?_eq_getElem hjl)
        have : c = k := by rw [List.getElem?_eq_getElem hj] at g1; simp at g1; omega
        subst this
        rw [hrl]; exact (List.getElem?_eq_some_iff.1 g2).1
      have hksz : (rwAt (tabU x) nd).kids.length ≤ 1000 := by
        rw [hkd, kidsAt_len]
        have h1 := kids_nodes nks
        have h2 := nodes_le _ _ (List.mem_of_getElem? e5)
        rw [nodes_mk] at h2
        omega
      have hR := hrd dk
      rw [if_pos h2] at hR
      generalize hks : (rwAt (tabU x) nd).kids = ks at hkl hksz hR ⊢
      refine snd_list (β := Int × ByteArray) ks (fun p b => ⟨[(13, .int .i64 p.length), (12, sl 3 (ks.map encI)), (11, sl 100 ((tabU x).map Rw.enc)), (10, .int .i64 (-1)), (9, .str b.2), (8, .int .i64 b.1), (7, .int .i64 pre.length), (4, .slice (.arr 0) 80 (u.map tabE)), (3, .ptr 1 0), (2, .ptr 0 0), (0, sl 34 (u.map Un.enc))],
        [.cells [.slice .nil 0 [], .slice .nil 0 [], .slice .nil 0 [], .slice .nil 0 []], .cells [sl 61 (dl.map Dl.enc), .slice (.arr 1) 3 ((pre.map fun d => (readD u d).1).map encZ), .slice (.arr 2) 9 ((pre.map fun d => (readD u d).2).map encS), .slice (.arr 3) 3 ((pre.map (upD u dl)).map encZ)]], [u.length, pre.length, pre.length, pre.length]⟩)
        (fun p q b => (b.1 = -1 ∧ b.2 = ⟨#[]⟩ ∧ bR (tabU x) ks = bR (tabU x) q) ∨ (0 ≤ b.1 ∧ bR (tabU x) ks = b)) (-1, ⟨#[]⟩) ?_ (.inl ⟨rfl, rfl, rfl⟩) ?_ ?_
      · simp -implicitDefEqProofs only [go_sem]
        try rfl
      · rintro ⟨bt, bm⟩ hi
        have hb : bR (tabU x) ks = (bt, bm) := by
          rcases hi with ⟨h1, h2, h3⟩ | ⟨h1, h2⟩
          · rw [h3]; simp only at h1 h2; rw [h1, h2]; rfl
          · exact h2
        rw [hb] at hR
        have hup0 : bm = ⟨#[]⟩ → upD u dl ⟨dk, dow, dn, (un : Nat), (nd : Nat)⟩ = -1 := fun h => by rw [upD, hR, if_pos h]
        have hup1 : bm ≠ ⟨#[]⟩ → upD u dl ⟨dk, dow, dn, (un : Nat), (nd : Nat)⟩ = firstD dl bm 0 := fun h => by rw [upD, hR, if_neg h]
        simp -implicitDefEqProofs only [go_sem]
        intro _ _
        refine ⟨fun hm => ?_, fun hm => ⟨by omega, by omega, by omega, (), hw, by rw [hR]; rfl, by rw [hR]; rfl, by rw [hup0 (by simpa using hm)]; rfl⟩⟩
        refine (R13first dl bm).calls (by simp -implicitDefEqProofs only [go_sem]) ?_
        simp -implicitDefEqProofs only [go_sem]
        exact ⟨by omega, by omega, by omega, (), hw, by rw [hR]; rfl, by rw [hR]; rfl, by rw [hup1 (by simpa using hm)]; rfl⟩
      · rintro p k q ⟨bt, bm⟩ hk hi
        have hpl2 : ks.length = p.length + 1 + q.length := by rw [hk]; simp; omega
        have hgk : (ks.map encI).getD (p.length : Int).toNat [] = [.int .i64 k] := by rw [hk]; simp [List.getD_eq_getElem?_getD, encI]
        have hltk : ((p.length : Int) < ks.length) = True := by simp; omega
        have hkr := hkl k (by rw [hk]; simp)
        simp -implicitDefEqProofs only [go_sem, hgk, hltk, row_getDi hkr]
        intro _ _
        refine ⟨fun hneg => ⟨by omega, ?_⟩, fun hpos => ?_⟩
        · have hi' : bt = -1 ∧ bm = ⟨#[]⟩ ∧ bR (tabU x) ks = bR (tabU x) (k :: q) := by
            rcases hi with h | ⟨h1, h2⟩
            · exact h
            · simp only at h1; omega
          obtain ⟨j1, j2, j3⟩ := hi'
          rw [bR] at j3
          refine ⟨fun h8 => ⟨by omega, (k, (rwAt (tabU x) k).text), .inr ⟨by simp, by rw [j3, if_pos h8]⟩, wrap_next (by omega), rfl, rfl⟩, fun h8 => ⟨(bt, bm), .inl ⟨j1, j2, by rw [j3, if_neg h8]⟩, wrap_next (by omega), rfl, rfl⟩⟩
        · have hb : bR (tabU x) ks = (bt, bm) := by
            rcases hi with ⟨h1, h2, h3⟩ | ⟨h1, h2⟩
            · simp only at h1; omega
            · exact h2
          rw [hb] at hR
          have hup0 : bm = ⟨#[]⟩ → upD u dl ⟨dk, dow, dn, (un : Nat), (nd : Nat)⟩ = -1 := fun h => by rw [upD, hR, if_pos h]
          have hup1 : bm ≠ ⟨#[]⟩ → upD u dl ⟨dk, dow, dn, (un : Nat), (nd : Nat)⟩ = firstD dl bm 0 := fun h => by rw [upD, hR, if_neg h]
          refine ⟨fun hm => ?_, fun hm => ⟨by omega, by omega, by omega, (), hw, by rw [hR]; rfl, by rw [hR]; rfl, by rw [hup0 (by simpa using hm)]; rfl⟩⟩
          refine (R13first dl bm).calls (by simp -implicitDefEqProofs only [go_sem]) ?_
          simp -implicitDefEqProofs only [go_sem]
          exact ⟨by omega, by omega, by omega, (), hw, by rw [hR]; rfl, by rw [hR]; rfl, by rw [hup1 (by simpa using hm)]; rfl⟩
  · rintro pre x post _ hx _
    have hpl : u.length = pre.length + 1 + post.length := by rw [hx]; simp; omega
    have hgx : (u.map Un.enc).getD (pre.length : Int).toNat [] = x.enc := by rw [hx]; simp [List.getD_eq_getElem?_getD]
    have hw : IntKind.i64.wrap (↑pre.length + 1) = ↑(pre.length + 1) := wrap_next (by omega)
    have hlt : ((pre.length : Int) < u.length) = True := by simp; omega
    have hxn : (nodes x.tree).length ≤ 1000 := (hu.2 x (by rw [hx]; simp)).1
    simp -implicitDefEqProofs only [go_sem, hgx, hlt]
    intro _ _
    refine ⟨fun hb => ?_, fun hb => ⟨by omega, (), hw, ?_⟩⟩
    · refine (R06Rows x.tree (by omega)).calls (by simp -implicitDefEqProofs only [go_sem]) ?_
      simp -implicitDefEqProofs only [go_sem]
      refine ⟨by omega, (), hw, ?_⟩
      rw [tabE, tabU, if_neg (by simpa using hb)]
    · rw [tabE, tabU, if_pos (by simpa using hb)]; rfl
end Go.Proofs.YtamednbojpnalaaGreatDoor
set_option linter.unusedVariables false
set_option linter.unusedSimpArgs false
set_option maxRecDepth 20000
namespace Go.Vg
def isCls (n : ByteArray) (d : Dl) : Bool := decide (d.kind = 2) && decide (d.name = n)
theorem firstD_spec (n : ByteArray) : ∀ (dl : List Dl) (i : Nat), (∃ j d, firstD dl n i = ((i + j : Nat) : Int) ∧ dl[j]? = some d ∧ d.kind = 2 ∧ d.name = n ∧ dl.find? (isCls n) = some d) ∨ (firstD dl n i = -1 ∧ dl.find? (isCls n) = none)
  | [], i => .inr ⟨rfl, rfl⟩
  | d :: r, i => by
    by_cases h : d.kind = 2 ∧ d.name = n
    · refine .inl ⟨0, d, by rw [firstD, if_pos h]; rfl, rfl, h.1, h.2, ?_⟩
      rw [List.find?_cons_of_pos (by simp [isCls, h])]
    · rw [firstD, if_neg h, List.find?_cons_of_neg (by simpa [isCls] using h)]
      rcases firstD_spec n r (i + 1) with ⟨j, e, h1, h2, h3⟩ | h1
      · exact .inl ⟨j + 1, e, by rw [h1]; congr 1; omega, by simpa using h2, h3⟩
      · exact .inr h1
theorem getB_app {B : List (ByteArray × ByteArray)} {p : ByteArray × ByteArray} {n : ByteArray} : getB (B ++ [p]) n = match getB B n with | some b => some b | none => if p.1 = n then some p.2 else none := by
  simp only [getB, List.find?_append]
  cases B.find? fun p => decide (p.1 = n) with
  | some q => rfl
  | none =>
    by_cases h : p.1 = n
    · simp [h]
    · simp [h]
theorem getB_bases (bt : Dl → ByteArray) (n : ByteArray) : ∀ (dl : List Dl), getB (basesL bt dl) n = (dl.find? (isCls n)).map bt := by
  have key : ∀ (dl : List Dl) (B : List (ByteArray × ByteArray)), getB (dl.foldl (addB bt) B) n = match getB B n with | some b => some b | none => (dl.find? (isCls n)).map bt := by
    intro dl
    induction dl with
    | nil => intro B; simp; cases getB B n <;> rfl
    | cons d r ih =>
      intro B
      rw [List.foldl_cons, ih]
      by_cases h2 : d.kind = 2
      · by_cases hs : (getB B d.name).isSome = false
        · rw [addB, if_pos ⟨h2, hs⟩, getB_app]
          cases hb : getB B n with
          | some b => rfl
          | none =>
            by_cases hn : d.name = n
            · rw [if_pos hn, List.find?_cons_of_pos (by simp [isCls, h2, hn])]; rfl
            · rw [if_neg hn, List.find?_cons_of_neg (by simp [isCls, hn])]
        · rw [addB, if_neg (by rintro ⟨_, h⟩; exact hs h)]
          cases hb : getB B n with
          | some b => rfl
          | none =>
            have hn : d.name ≠ n := by rintro rfl; rw [hb] at hs; simp at hs
            rw [List.find?_cons_of_neg (by simp [isCls, hn])]
      · rw [addB, if_neg (by omega), List.find?_cons_of_neg (by simp [isCls, h2])]
  intro dl
  have := key dl []
  simpa [basesL, getB] using this
theorem readD_bt {u : List Un} {d : Dl} (hd : d ∈ declsU u 0) (h2 : d.kind = 2) : (readD u d).2 = btU u d := by
  obtain ⟨un, x, e1, e2, e3, nd, n, e4, e5, e6, e7, e8⟩ := declsU_at u 0 d hd
  obtain ⟨nk, nt, ng, nks⟩ := n
  have htab : tabU x = rowsN x.tree (-1) 0 := by rw [tabU, if_neg (by rw [e3]; simp)]
  rw [Nat.zero_add] at e1 e4
  rw [readD, if_pos h2, btU, e1, e4]
  simp only [Int.toNat_natCast, e2, e5, htab, (rwAt_at e5).2.2, Nd.kids]
  exact bR_base e5
def idxN (dl : List Dl) (n : ByteArray) : Int := if n = ⟨#[]⟩ then -1 else firstD dl n 0
end Go.Vg
namespace Go.Proofs.YtamednbojpnalaaGreatDoor
open Go Go.Vg Go.Proofs
theorem R13SupersOf (u : List Un) (hu : fitU u) (cls : ByteArray) : VPure env 129 [.agg (clsC u (declsU u 0)), .str cls] (sl 9 ((supU u cls).map encS)) := by
  have hdl := declsU_len u 0 fun y hy => (hu.2 y hy).1
  have hul := hu.1
  have hbl := basesL_len (btU u) (declsU u 0)
  have hgb := fun n => getB_bases (btU u) n (declsU u 0)
  have hrd : ∀ d ∈ declsU u 0, d.kind = 2 → (readD u d).2 = btU u d := fun d h1 h2 => readD_bt h1 h2
  refine vpure_vc (fn := Tryz.f129) Tryz.func129 rfl (by rw [Tryz.ntmps129]; simp) (by simp -implicitDefEqProofs only [go_sem]; exact clsC_pure _ _) (by simp -implicitDefEqProofs only [go_sem]) ?_
  unfold supU
  generalize basesL (btU u) (declsU u 0) = B at hbl hgb ⊢
  generalize hdd : declsU u 0 = dl at hdl hbl hgb hrd ⊢
  simp -implicitDefEqProofs only [go_sem, Tryz.f129, clsC]
  refine (R13first dl cls).calls (by simp -implicitDefEqProofs only [go_sem]) ?_
  simp -implicitDefEqProofs only [go_sem]
  rcases firstD_spec cls dl 0 with ⟨j, d, q1, q2, q3, q4, q5⟩ | ⟨q1, q2⟩
  · rw [Nat.zero_add] at q1
    have hup : ∀ (j : Nat) d, dl[j]? = some d → ((dl.map (upD u dl)).map encZ).getD (j : Int).toNat [] = [.int .i64 (idxN dl (readD u d).2)] := fun j d h => by
      simp [List.getD_eq_getElem?_getD, h, encZ, upD, idxN]
    have hdg : ∀ (j : Nat) d, dl[j]? = some d → (dl.map Dl.enc).getD (j : Int).toNat [] = d.enc := fun j d h => by
      simp [List.getD_eq_getElem?_getD, h]
    have hjl : j < dl.length := (List.getElem?_eq_some_iff.1 q2).1
    have hlt : ((j : Int) < dl.length) = True := by simp; omega
    have hn0 : ((j : Int) < 0) = False := by simp
    have hgc : getB B cls = some (btU u d) := by rw [hgb, q5]; rfl
    have hbd : (readD u d).2 = btU u d := hrd d (List.mem_of_getElem? q2) q3
    rw [q1, hgc]
    simp -implicitDefEqProofs only [go_sem, hn0, hlt, hup j d q2, hbd, Option.getD_some]
    generalize hgo : supB B cls (B.length + 1) [] (btU u d) = goal
    refine snd_for (α := List ByteArray × ByteArray) (fun s => ⟨[(7, .int .i64 (idxN dl s.2)), (5, .slice (.arr 0) 9 (s.1.map encS)), (4, .slice .nil 0 []), (2, .ptr 0 0), (1, .str cls)],
      [.cells (clsC u dl)], [s.1.length]⟩)
      (fun s => supB B cls (B.length + 1 - s.1.length) s.1 s.2 = goal ∧ s.1.Nodup ∧ ∀ x ∈ s.1, (getB B x).isSome = true) (fun s => B.length + 1 - s.1.length) ([], btU u d) ?_ ⟨by simpa using hgo, by simp, by simp⟩ ?_
    · simp -implicitDefEqProofs only [go_sem, clsC]
    · rintro ⟨out, next⟩ ⟨i1, i2, i3⟩
      simp only at i1 i2 i3
      have hle : out.length ≤ B.length := by
        have := pigeon out (B.map (·.1)) i2 fun x hx => getB_mem (i3 x hx)
        simpa using this
      obtain ⟨f, hf⟩ : ∃ f, B.length + 1 - out.length = f + 1 := ⟨B.length - out.length, by omega⟩
      rw [hf, supB] at i1
      have hstop : (decide (next = ⟨#[]⟩) || !(getB B next).isSome || (cls :: out).any fun x => decide (x = next)) = true → sl 9 (out.map encS) = sl 9 (goal.1.map encS) := fun h => by
        rw [if_pos h] at i1; rw [← i1]
      by_cases hnx : next = ⟨#[]⟩
      · have hi : idxN dl next = -1 := by rw [idxN, if_pos hnx]
        rw [hi]
        simp -implicitDefEqProofs only [go_sem, clsC]
        exact hstop (by simp [hnx])
      have hi : idxN dl next = firstD dl next 0 := by rw [idxN, if_neg hnx]
      rcases firstD_spec next dl 0 with ⟨j2, d2, r1, r2, r3, r4, r5⟩ | ⟨r1, r2⟩
      rotate_left
      · rw [hi, r1]
        simp -implicitDefEqProofs only [go_sem, clsC]
        exact hstop (by rw [hgb, r2]; simp)
      rw [Nat.zero_add] at r1
      rw [hi, r1]
      have hjl2 : j2 < dl.length := (List.getElem?_eq_some_iff.1 r2).1
      have hlt2 : ((j2 : Int) < dl.length) = True := by simp; omega
      have hn2 : (0 ≤ (j2 : Int)) = True := by simp
      have hbd2 : (readD u d2).2 = btU u d2 := hrd d2 (List.mem_of_getElem? r2) r3
      have hgn : getB B next = some (btU u d2) := by rw [hgb, r5]; rfl
      rw [hgn] at i1 hstop
      simp only [Option.isSome_some, Bool.not_true, Bool.or_false, Option.getD_some] at i1 hstop
      simp -implicitDefEqProofs only [go_sem, clsC, hn2, hlt2, hdg j2 d2 r2, hup j2 d2 r2, hbd2, r4]
      refine ⟨fun hc => ?_, fun hc => hstop (by
        have hc : next = cls := by simpa using hc
        subst hc; simp)⟩
      have hnc : ¬ next = cls := by simpa using hc
      refine (R03Has out next).calls (by simp -implicitDefEqProofs only [go_sem]) ?_
      cases hh : out.any fun x => decide (x = next)
      rotate_left
      · simp -implicitDefEqProofs only [go_sem, clsC, hn2, hlt2, hdg j2 d2 r2, hup j2 d2 r2, hbd2, r4]
        exact hstop (by simp only [List.any_cons, hh, Bool.or_true])
      have hany : ((cls :: out).any fun x => decide (x = next)) = false := by
        rw [List.any_cons, hh, Bool.or_false]; simp; exact fun h => hnc h.symm
      have hc2 : ¬ (decide (next = ⟨#[]⟩) || (cls :: out).any fun x => decide (x = next)) = true := by
        rw [hany]; simp [hnx]
      rw [if_neg hc2] at i1
      have hno : next ∉ out := fun hm => by
        have : (out.any fun x => decide (x = next)) = true := by simp; exact hm
        rw [hh] at this; cases this
      simp -implicitDefEqProofs only [go_sem, clsC, hn2, hlt2, hdg j2 d2 r2, hup j2 d2 r2, hbd2, r4]
      refine ⟨by omega, (out ++ [next], btU u d2), by simp; omega, ⟨?_, ?_, ?_⟩, ⟨rfl, by simp [encS]⟩, by simp⟩
      · have : B.length + 1 - (out ++ [next]).length = f := by simp; omega
        simp only [this]; exact i1
      · simp only []
        rw [List.nodup_append]
        exact ⟨i2, by simp, fun x hx y hy => by simp at hy; subst hy; rintro rfl; exact hno hx⟩
      · intro x hx
        rcases List.mem_append.1 hx with h | h
        · exact i3 x h
        · simp at h; subst h; rw [hgn]; rfl
  · rw [q1]
    simp -implicitDefEqProofs only [go_sem]
    have hgc : getB B cls = none := by rw [hgb, q2]; rfl
    rw [hgc, supB, if_pos (by simp)]
    rfl
theorem R13Supers (u : List Un) (hu : fitU u) (cls : ByteArray) : VPure env 93 [sl 34 (u.map Un.enc), .str cls] (sl 9 ((supU u cls).map encS)) := by
  refine vpure_vc (fn := Tryz.f93) Tryz.func93 rfl (by rw [Tryz.ntmps93]; simp) (by simp -implicitDefEqProofs only [go_sem]; exact uns_pure _) (by simp -implicitDefEqProofs only [go_sem]) ?_
  simp -implicitDefEqProofs only [go_sem, Tryz.f93]
  refine (R13Read u hu).calls (by simp -implicitDefEqProofs only [go_sem]) ?_
  simp -implicitDefEqProofs only [go_sem]
  refine (R13SupersOf u hu cls).calls (by simp -implicitDefEqProofs only [go_sem, clsC]) ?_
  simp -implicitDefEqProofs only [go_sem]
theorem R14Fits (u : List Un) (hu : fitU u) (a b : ByteArray) : VPure env 63 [sl 34 (u.map Un.enc), .str a, .str b] (.bool (decide (a = b) || (supU u a).any fun x => decide (x = b))) := by
  refine vpure_vc (fn := Tryz.f63) Tryz.func63 rfl (by rw [Tryz.ntmps63]; simp) (by simp -implicitDefEqProofs only [go_sem]; exact uns_pure _) rfl ?_
  simp -implicitDefEqProofs only [go_sem, Tryz.f63]
  refine ⟨fun h => ?_, fun h => by simp [h]⟩
  refine (R13Supers u hu a).calls (by simp -implicitDefEqProofs only [go_sem]) ?_
  simp -implicitDefEqProofs only [go_sem]
  refine (R14has (supU u a) b).calls (by simp -implicitDefEqProofs only [go_sem]) ?_
  simp -implicitDefEqProofs only [go_sem]
  simp [h]
end Go.Proofs.YtamednbojpnalaaGreatDoor
