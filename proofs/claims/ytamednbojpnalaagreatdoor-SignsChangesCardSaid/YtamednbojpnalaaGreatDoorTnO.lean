/- What functions of the program compute, as pure functions of their arguments. Conditions: those that each theorem names. -/
import Derived.Test.YtamednbojpnalaaGreatDoorTmO
set_option linter.unusedVariables false
set_option linter.unusedSimpArgs false
namespace Go.Vg
mutual
def firstN : Nd → Int
  | .mk k t g ks => if (Nd.mk k t g ks).node = 0 then firstNs ks else (Nd.mk k t g ks).node
def firstNs : List Nd → Int
  | [] => 0
  | x :: r => if firstN x = 0 then firstNs r else firstN x
end
/-- All gaps are short. -/
def shortG (n : Nd) : Prop := ∀ x ∈ nodes n, ∀ s ∈ x.gaps, s.size ≤ 1000000000
theorem mem_kid {k t g} {ks : List Nd} {x y : Nd} (hx : x ∈ ks) (hy : y ∈ nodes x) : y ∈ nodes (.mk k t g ks) := by
  rw [nodes]
  refine List.mem_cons_of_mem _ ?_
  induction ks with
  | nil => cases hx
  | cons z r ih =>
    rw [nodesL]
    rcases List.mem_cons.1 hx with rfl | hx
    · exact List.mem_append_left _ hy
    · exact List.mem_append_right _ (ih hx)
theorem shortG_kid {k t g} {ks : List Nd} {x : Nd} (h : shortG (.mk k t g ks)) (hx : x ∈ ks) : shortG x := fun y hy => h y (mem_kid hx hy)
def checkN (n : Nd) : Int := if 4000 < sizeN n 1 then 3 else firstN n
end Go.Vg
namespace Go.Proofs.YtamednbojpnalaaGreatDoor
open Go Go.Vg Go.Proofs
theorem R07first : (n : Nd) → shortG n → VPure env 65 [.agg n.enc] (.int .i64 (firstN n)) := by
  refine Nd.all fun k t g ks ih hs => ?_
  have hnd := R07node (.mk k t g ks) (hs _ (by rw [nodes]; exact List.mem_cons_self ..))
  refine vpure_vc (fn := Tryz.f65) Tryz.func65 rfl (by rw [Tryz.ntmps65]; simp) (by simp -implicitDefEqProofs only [go_sem]) rfl ?_
  simp -implicitDefEqProofs only [go_sem, Tryz.f65]
  refine hnd.calls (by simp -implicitDefEqProofs only [go_sem]) ?_
  simp -implicitDefEqProofs only [go_sem]
  refine snd_list (β := Int) ks (fun pre e => ⟨[(4, .int .i64 pre.length), (3, .int .i64 e), (2, .int .i64 0), (1, .ptr 0 0)], [VObj.cells (Nd.mk k t g ks).enc], []⟩)
    (fun pre post e => firstN (.mk k t g ks) = if e = 0 then firstNs post else e) (Nd.mk k t g ks).node ?_ ?_ ?_ ?_
  · simp -implicitDefEqProofs only [go_sem]
    rfl
  · rw [firstN]
  · intro e hi
    simp -implicitDefEqProofs only [go_sem]
    intro _ _
    rw [hi, firstNs]
    congr 1
    split <;> simp_all
  · rintro pre x post e rfl hi
    have hxl : (pre ++ x :: post).length = pre.length + 1 + post.length := by simp; omega
    simp -implicitDefEqProofs only [go_sem]
    intro hb hl
    refine ⟨fun he => ?_, fun he => by rw [hi, if_neg he]⟩
    refine (ih x mem_mid (shortG_kid hs mem_mid)).calls (by simp -implicitDefEqProofs only [go_sem]) ?_
    simp -implicitDefEqProofs only [go_sem]
    refine ⟨_, ?_, wrap_next (by omega), rfl⟩
    rw [hi, if_pos he, firstNs]
theorem R07Check (n : Nd) (hs : shortG n) : VPure env 39 [.agg n.enc] (.int .i64 (checkN n)) := by
  refine vpure_vc (fn := Tryz.f39) Tryz.func39 rfl (by rw [Tryz.ntmps39]; simp) (by simp -implicitDefEqProofs only [go_sem]) rfl ?_
  simp -implicitDefEqProofs only [go_sem, Tryz.f39]
  refine (R07size n 1 (by omega) (by omega)).calls (by simp -implicitDefEqProofs only [go_sem]) ?_
  simp -implicitDefEqProofs only [go_sem]
  refine ⟨fun h => ?_, fun h => ?_⟩
  · rw [checkN, if_pos (by omega)]
  · refine (R07first n hs).calls (by simp -implicitDefEqProofs only [go_sem]) ?_
    simp -implicitDefEqProofs only [go_sem]
    rw [checkN, if_neg (by omega)]
end Go.Proofs.YtamednbojpnalaaGreatDoor
set_option linter.unusedVariables false
set_option linter.unusedSimpArgs false
namespace Go.Vg
def soundB (x : Un) : Bool := !x.broken && decide (x.tree.kind = 1) && decide (checkN x.tree = 0)
def Un.sound (x : Un) : Un := if soundB x = true then x else { x with tree := Nd.zero, broken := true }
@[go_sem] theorem un_take2 (d : Un) : List.take 2 d.enc = [.str d.path, .str d.text] := rfl
def gapsU (u : List Un) : Prop := ∀ x ∈ u, shortG x.tree
end Go.Vg
namespace Go.Proofs.YtamednbojpnalaaGreatDoor
open Go Go.Vg Go.Proofs
theorem R14Sound (x : Un) (hs : shortG x.tree) : VPure env 13 [.agg x.enc] (.bool (soundB x)) := by
  refine vpure_vc (fn := Tryz.f13) Tryz.func13 rfl (by rw [Tryz.ntmps13]; simp) (by simp -implicitDefEqProofs only [go_sem]) rfl ?_
  simp -implicitDefEqProofs only [go_sem, Tryz.f13]
  refine ⟨fun hb => ⟨fun hk => ?_, fun hk => by simp [soundB, hk]⟩, fun hb => by simp_all [soundB]⟩
  refine (R07Check x.tree hs).calls (by simp -implicitDefEqProofs only [go_sem]) ?_
  simp -implicitDefEqProofs only [go_sem]
  simp_all [soundB]
theorem R14sounds (u : List Un) (hg : gapsU u) (hu : u.length ≤ 1000) : VPure env 91 [sl 34 (u.map Un.enc)] (sl 34 ((u.map Un.sound).map Un.enc)) := by
  refine vpure_vc (fn := Tryz.f91) Tryz.func91 rfl (by rw [Tryz.ntmps91]; simp) (by simp -implicitDefEqProofs only [go_sem]; exact uns_pure _) (by simp -implicitDefEqProofs only [go_sem]; exact uns_pure _) ?_
  simp -implicitDefEqProofs only [go_sem, Tryz.f91]
  refine snd_list (β := Unit) u (fun pre _ => ⟨[(4, .int .i64 pre.length), (3, .slice (.arr 0) 34 ((pre.map Un.sound).map Un.enc)), (2, .slice .nil 0 []), (0, sl 34 (u.map Un.enc))], [], [pre.length]⟩)
    (fun _ _ _ => True) () ?_ trivial ?_ ?_
  · simp -implicitDefEqProofs only [go_sem]
    rfl
  · intro _ _
    simp -implicitDefEqProofs only [go_sem]
  · rintro pre x post _ rfl _
    have hpl : (pre ++ x :: post).length = pre.length + 1 + post.length := by simp; omega
    simp -implicitDefEqProofs only [go_sem]
    intro hb hl
    refine (R14Sound x (hg x mem_mid)).calls (by simp -implicitDefEqProofs only [go_sem]) ?_
    simp -implicitDefEqProofs only [go_sem]
    have hw : IntKind.i64.wrap (↑pre.length + 1) = ↑(pre.length + 1) := wrap_next (by omega)
    have hp : (ltLL 0 1 (List.map Un.enc (List.map Un.sound pre) ++ [x.sound.enc]) && ltLL 0 1 (List.map Un.enc (pre ++ x :: post))) = true := by
      have e : List.map Un.enc (List.map Un.sound pre) ++ [x.sound.enc] = List.map Un.enc (List.map Un.sound (pre ++ [x])) := by simp
      rw [e, ltLL_pure _ _ _ (uns_pure _), ltLL_pure _ _ _ (uns_pure _)]; rfl
    refine ⟨fun h => ⟨by omega, (), ⟨hw, ?_⟩, .inr hp⟩, fun h => ⟨by omega, (), ⟨hw, ?_⟩, .inr hp⟩⟩
    · have h' : soundB x = false := by simpa using h
      rw [Un.sound, h']; rfl
    · have h' : soundB x = true := by simpa using h
      rw [Un.sound, h']; rfl
theorem R40Sound (u : List Un) (hg : gapsU u) (hu : u.length ≤ 1000) : VPure env 35 [sl 34 (u.map Un.enc)] (sl 34 ((u.filter soundB).map Un.enc)) := by
  refine vpure_vc (fn := Tryz.f35) Tryz.func35 rfl (by rw [Tryz.ntmps35]; simp) (by simp -implicitDefEqProofs only [go_sem]; exact uns_pure _) (by simp -implicitDefEqProofs only [go_sem]; exact uns_pure _) ?_
  simp -implicitDefEqProofs only [go_sem, Tryz.f35]
  refine snd_list (β := Unit) u (fun pre _ => ⟨[(4, .int .i64 pre.length), (3, .slice (.arr 0) 34 ((pre.filter soundB).map Un.enc)), (2, .slice .nil 0 []), (0, sl 34 (u.map Un.enc))], [], [(pre.filter soundB).length]⟩)
    (fun _ _ _ => True) () ?_ trivial ?_ ?_
  · simp only [List.filter_nil]
    simp -implicitDefEqProofs only [go_sem]
    rfl
  · intro _ _
    simp -implicitDefEqProofs only [go_sem]
  · rintro pre x post _ rfl _
    have hpl : (pre ++ x :: post).length = pre.length + 1 + post.length := by simp; omega
    have hfl : (pre.filter soundB).length ≤ pre.length := List.length_filter_le ..
    simp -implicitDefEqProofs only [go_sem]
    intro hb hl
    refine (R14Sound x (hg x mem_mid)).calls (by simp -implicitDefEqProofs only [go_sem]) ?_
    simp -implicitDefEqProofs only [go_sem]
    have hw : IntKind.i64.wrap (↑pre.length + 1) = ↑(pre.length + 1) := wrap_next (by omega)
    refine ⟨fun h => ⟨by omega, (), ⟨hw, by simp [h]⟩, by simp [h]⟩, fun h => ⟨(), ⟨hw, by simp [h]⟩, by simp [h]⟩⟩
end Go.Proofs.YtamednbojpnalaaGreatDoor
set_option linter.unusedVariables false
set_option linter.unusedSimpArgs false
namespace Go.Vg
/-- A finding. -/
structure Fi where
  kind : Int
  path : ByteArray
  name : ByteArray
  text : ByteArray
  deriving DecidableEq
def Fi.enc (x : Fi) : List V := [.int .i64 x.kind, .str x.path, .str x.name, .str x.text]
@[go_sem] theorem fi_len (d : Fi) : d.enc.length = 4 := rfl
@[go_sem] theorem fi_take (d : Fi) : List.take 4 d.enc = d.enc := rfl
@[go_sem] theorem fi_share (d : Fi) : List.map share1 d.enc = d.enc := rfl
@[go_sem] theorem fi_cell (d : Fi) : d.enc.all V.cell = true := rfl
@[go_sem] theorem fi_pure (d : Fi) : pureL d.enc = true := rfl
theorem fis_pure : ∀ l : List Fi, pureLL (l.map Fi.enc) = true
  | [] => rfl
  | x :: r => by simp only [List.map_cons, pureLL, fis_pure r, Bool.and_true, fi_pure]
@[go_sem] theorem encS_head (s : ByteArray) {K : V → Prop} : vHead (encS s) K = K (.str s) := rfl
def firstD : List Dl → ByteArray → Nat → Int
  | [], _, _ => -1
  | d :: r, name, i => if d.kind = 2 ∧ d.name = name then i else firstD r name (i + 1)
def sInt : ByteArray := ⟨#[105, 110, 116]⟩
def sBool : ByteArray := ⟨#[98, 111, 111, 108]⟩
def plainT : Nd → ByteArray
  | .mk k t g ks => if k = 17 then sInt else if k = 18 then sBool else if k = 22 then t else if k = 26 then (match ks with | [] => ⟨#[]⟩ | x :: _ => plainT x)
    else if k = 24 then (if t = ⟨#[43]⟩ ∨ t = ⟨#[45]⟩ ∨ t = ⟨#[42]⟩ ∨ t = ⟨#[47]⟩ then sInt else sBool) else if k = 25 then (if t = ⟨#[45]⟩ then sInt else sBool) else ⟨#[]⟩
/-- Parentheses hold something. -/
def parOK (n : Nd) : Prop := ∀ x ∈ nodes n, x.kind = 26 → x.kids ≠ []
theorem parOK_kid {k t g} {ks : List Nd} {x : Nd} (h : parOK (.mk k t g ks)) (hx : x ∈ ks) : parOK x := fun y hy => h y (mem_kid hx hy)
def fitsU (u : List Un) (m n b : Int) : Bool := decide ((u.length : Int) ≤ m) && u.all fun x => decide (0 ≤ left x.tree n 60) && decide (0 ≤ weigh x.tree b)
end Go.Vg
namespace Go.Proofs.YtamednbojpnalaaGreatDoor
open Go Go.Vg Go.Proofs
theorem R14has (l : List ByteArray) (s : ByteArray) : VPure env 92 [sl 9 (l.map encS), .str s] (.bool (l.any fun x => decide (x = s))) := by
  refine vpure_vc (fn := Tryz.f92) Tryz.func92 rfl (by rw [Tryz.ntmps92]; simp) (by simp -implicitDefEqProofs only [go_sem]) rfl ?_
  simp -implicitDefEqProofs only [go_sem, Tryz.f92]
  refine snd_list (β := Unit) l (fun pre _ => ⟨[(5, .int .i64 pre.length), (4, .bool false), (0, sl 9 (l.map encS)), (1, .str s)], [], []⟩) (fun pre post _ => (l.any fun x => decide (x = s)) = post.any fun x => decide (x = s)) () ?_ rfl ?_ ?_
  · simp -implicitDefEqProofs only [go_sem]
    rfl
  · intro _ hi
    simp -implicitDefEqProofs only [go_sem]
    intro _ _
    rw [hi]; rfl
  · rintro pre x post _ rfl hi
    have hpl : (pre ++ x :: post).length = pre.length + 1 + post.length := by simp; omega
    simp -implicitDefEqProofs only [go_sem]
    intro _ hl
    have hw : IntKind.i64.wrap (↑pre.length + 1) = ↑(pre.length + 1) := wrap_next (by omega)
    rw [hi]
    refine ⟨fun h => by simp [h], fun h => ⟨(), by simp [h], hw⟩⟩
theorem R13first (l : List Dl) (name : ByteArray) : VPure env 166 [sl 61 (l.map Dl.enc), .str name] (.int .i64 (firstD l name 0)) := by
  refine vpure_vc (fn := Tryz.f166) Tryz.func166 rfl (by rw [Tryz.ntmps166]; simp) (by simp -implicitDefEqProofs only [go_sem]; exact dls_pure _) rfl ?_
  simp -implicitDefEqProofs only [go_sem, Tryz.f166]
  refine snd_list (β := Unit) l (fun pre _ => ⟨[(5, .int .i64 pre.length), (4, .int .i64 0), (0, sl 61 (l.map Dl.enc)), (1, .str name)], [], []⟩) (fun pre post _ => firstD l name 0 = firstD post name pre.length) () ?_ rfl ?_ ?_
  · simp -implicitDefEqProofs only [go_sem]
    rfl
  · intro _ hi
    simp -implicitDefEqProofs only [go_sem]
    intro _ _
    rw [hi]; rfl
  · rintro pre x post _ rfl hi
    have hpl : (pre ++ x :: post).length = pre.length + 1 + post.length := by simp; omega
    simp -implicitDefEqProofs only [go_sem]
    intro _ hl
    have hw : IntKind.i64.wrap (↑pre.length + 1) = ↑(pre.length + 1) := wrap_next (by omega)
    rw [hi, firstD]
    refine ⟨fun h1 => ⟨fun h2 => by rw [if_pos ⟨h1, h2⟩], fun h2 => ⟨(), ?_, hw⟩⟩, fun h1 => ⟨(), ?_, hw⟩⟩
    · rw [if_neg (fun h => h2 h.2)]
    · rw [if_neg (fun h => h1 h.1)]
theorem R12Fits (u : List Un) (m n b : Int) (hn : n ≤ 1000000) (hb : b ≤ 1000000) : VPure env 26 [sl 34 (u.map Un.enc), .int .i64 m, .int .i64 n, .int .i64 b] (.bool (fitsU u m n b)) := by
  refine vpure_vc (fn := Tryz.f26) Tryz.func26 rfl (by rw [Tryz.ntmps26]; simp) (by simp -implicitDefEqProofs only [go_sem, uns_pure]) rfl ?_
  simp -implicitDefEqProofs only [go_sem, Tryz.f26]
  intro _ hl
  refine ⟨fun h => by simp [fitsU]; omega, fun h => ?_⟩
  have hm : decide ((u.length : Int) ≤ m) = true := by simp; omega
  rw [fitsU, hm, Bool.true_and]
  refine snd_list (β := Unit) u (fun pre _ => ⟨[(9, .int .i64 pre.length), (8, .bool false), (0, sl 34 (u.map Un.enc)), (1, .int .i64 m), (2, .int .i64 n), (3, .int .i64 b)], [], []⟩) (fun pre post _ => (u.all fun x => decide (0 ≤ left x.tree n 60) && decide (0 ≤ weigh x.tree b)) = post.all fun x => decide (0 ≤ left x.tree n 60) && decide (0 ≤ weigh x.tree b)) () ?_ rfl ?_ ?_
  · simp -implicitDefEqProofs only [go_sem]
    rfl
  · intro _ hi
    simp -implicitDefEqProofs only [go_sem]
    rw [hi]
    intro _ _
    rfl
  · rintro pre x post _ rfl hi
    have hpl : (pre ++ x :: post).length = pre.length + 1 + post.length := by simp; omega
    simp -implicitDefEqProofs only [go_sem]
    intro _ _
    refine (R06Light x.tree n 60 b hn (by omega) hb).calls (by simp -implicitDefEqProofs only [go_sem]) ?_
    simp -implicitDefEqProofs only [go_sem]
    have hw : IntKind.i64.wrap (↑pre.length + 1) = ↑(pre.length + 1) := wrap_next (by omega)
    rw [hi, List.all_cons]
    generalize (decide (0 ≤ left x.tree n 60) && decide (0 ≤ weigh x.tree b)) = c
    refine ⟨fun h => ?_, fun h => ⟨(), ?_, hw⟩⟩
    · have h' : c = false := by simpa using h
      rw [h']; rfl
    · have h' : c = true := by simpa using h
      rw [h']; rfl
theorem R40Plain : (n : Nd) → parOK n → VPure env 62 [.agg n.enc] (.str (plainT n)) := by
  refine Nd.all fun k t g ks ih hp => ?_
  refine vpure_vc (fn := Tryz.f62) Tryz.func62 rfl (by rw [Tryz.ntmps62]; simp) (by simp -implicitDefEqProofs only [go_sem]) rfl ?_
  simp -implicitDefEqProofs only [go_sem, Tryz.f62]
  rw [plainT.eq_def]
  simp only
  unfold sInt sBool
  refine ⟨fun h1 => by rw [if_pos h1], fun h1 => ?_⟩
  rw [if_neg h1]
  refine ⟨fun h2 => by rw [if_pos h2], fun h2 => ?_⟩
  rw [if_neg h2]
  refine ⟨fun h3 => by rw [if_pos h3], fun h3 => ?_⟩
  rw [if_neg h3]
  refine ⟨fun h4 => ?_, fun h4 => ?_⟩
  · rw [if_pos h4]
    cases ks with
    | nil => exact absurd rfl (hp (.mk k t g []) (by rw [nodes]; exact List.mem_cons_self ..) h4)
    | cons x r =>
      refine ⟨by simp, by simp [enc_len], ?_⟩
      have e : List.take 4 ((List.map Nd.enc (x :: r)).getD 0 []) = x.enc := by simp [List.getD_eq_getElem?_getD, enc_take]
      rw [e]
      refine (ih x (by simp) (parOK_kid hp (by simp))).calls (by simp -implicitDefEqProofs only [go_sem]) ?_
      simp -implicitDefEqProofs only [go_sem]
  rw [if_neg h4]
  refine ⟨fun h5 => ?_, fun h5 => ?_⟩
  · rw [if_pos h5]
    refine ⟨fun c1 => ⟨fun c2 => ⟨fun c3 => ⟨fun c4 => ?_, fun c4 => ?_⟩, fun c3 => ?_⟩, fun c2 => ?_⟩, fun c1 => ?_⟩ <;> simp_all
  rw [if_neg h5]
  refine ⟨fun h6 => ?_, fun h6 => by rw [if_neg h6]⟩
  rw [if_pos h6]
  exact ⟨fun c => by rw [if_pos c], fun c => by rw [if_neg c]⟩
end Go.Proofs.YtamednbojpnalaaGreatDoor
set_option linter.unusedVariables false
set_option linter.unusedSimpArgs false
namespace Go.Vg
def Rw.zero : Rw := ⟨0, 0, ⟨#[]⟩, [], []⟩
def rwAt (l : List Rw) (i : Nat) : Rw := l.getD i Rw.zero
def kdAt (l : List Rw) (i j : Nat) : Nat := (rwAt l i).kids.getD j 0
def parsR (l : List Rw) (ks : List Nat) : List ByteArray := ks.map fun k => (rwAt l (kdAt l k 0)).text
/-- The rows that a signature looks at are there. -/
def signOK (l : List Rw) (i : Nat) : Prop := l.length ≤ 1000000 ∧ i < l.length ∧ 2 ≤ (rwAt l i).kids.length ∧ kdAt l i 0 < l.length ∧ kdAt l i 1 < l.length ∧ (rwAt l (kdAt l i 0)).kids.length ≤ 1000000 ∧
  ∀ k ∈ (rwAt l (kdAt l i 0)).kids, k < l.length ∧ 0 < (rwAt l k).kids.length ∧ kdAt l k 0 < l.length
structure Sg where
  params : List ByteArray
  result : ByteArray
def Sg.enc (s : Sg) : List V := [sl 9 (s.params.map encS), .str s.result]
@[go_sem] theorem sg_len (d : Sg) : d.enc.length = 2 := rfl
@[go_sem] theorem sg_take (d : Sg) : List.take 2 d.enc = d.enc := rfl
@[go_sem] theorem sg_share (d : Sg) : List.map share1 d.enc = d.enc := by simp only [Sg.enc, go_sem]
@[go_sem] theorem sg_cell (d : Sg) : d.enc.all V.cell = true := by simp only [Sg.enc, go_sem]
def signR (l : List Rw) (i : Nat) : Sg := ⟨parsR l (rwAt l (kdAt l i 0)).kids, (rwAt l (kdAt l i 1)).text⟩
theorem row_getD {l : List Rw} {i : Nat} (h : i < l.length) : (l.map Rw.enc).getD i [] = (rwAt l i).enc := by
  simp [rwAt, List.getD_eq_getElem?_getD, h]
theorem row_getDi {l : List Rw} {i : Nat} (h : i < l.length) : (l.map Rw.enc).getD (i : Int).toNat [] = (rwAt l i).enc := row_getD h
theorem kid_getD {l : List Rw} {i j : Nat} (h : j < (rwAt l i).kids.length) : ((rwAt l i).kids.map encI).getD j [] = [.int .i64 (kdAt l i j)] := by
  simp [kdAt, List.getD_eq_getElem?_getD, h, encI]
theorem kid_getDi {l : List Rw} {i j : Nat} (h : j < (rwAt l i).kids.length) : ((rwAt l i).kids.map encI).getD (j : Int).toNat [] = [.int .i64 (kdAt l i j)] := kid_getD h
theorem strs_pure : ∀ l : List ByteArray, pureLL (l.map encS) = true
  | [] => rfl
  | x :: r => by simp only [List.map_cons, pureLL, strs_pure r, Bool.and_true]; rfl
theorem kid_eltD {l : List Rw} {k j : Nat} (h : j < (rwAt l k).kids.length) : ((rwAt l k).kids.map encI).getD j [] = [.int .i64 (kdAt l k j)] := kid_getD h
end Go.Vg
namespace Go.Proofs.YtamednbojpnalaaGreatDoor
open Go Go.Vg Go.Proofs
theorem R14sign (l : List Rw) (i : Nat) (h : signOK l i) : VPure env 127 [sl 100 (l.map Rw.enc), .int .i64 i] (.agg (signR l i).enc) := by
  obtain ⟨h0, h1, h2, h3, h4, h6, h5⟩ := h
  refine vpure_vc (fn := Tryz.f127) Tryz.func127 rfl (by rw [Tryz.ntmps127]; simp) (by simp -implicitDefEqProofs only [go_sem]; exact rows_pure _) (by simp -implicitDefEqProofs only [go_sem, Sg.enc]) ?_
  simp -implicitDefEqProofs only [go_sem, Tryz.f127, row_getDi h1, kid_getD (j := 0) (show 0 < (rwAt l i).kids.length by omega), kid_getDi (j := 0) (show 0 < (rwAt l i).kids.length by omega), row_getDi h3]
  refine ⟨by omega, by omega, by omega, ?_⟩
  have hks := h5
  generalize hq : (rwAt l (kdAt l i 0)).kids = ks at h6 h5 hks ⊢
  refine snd_list (β := Unit) ks (fun pre _ => ⟨[(7, .int .i64 pre.length), (6, sl 3 (ks.map encI)), (5, .ptr 1 0), (4, .ptr 0 0), (0, sl 100 (l.map Rw.enc)), (1, .int .i64 i)],
      [.cells [.slice .nil 0 [], .str ⟨#[]⟩], .cells [.slice (.arr 0) 9 ((parsR l pre).map encS), .str ⟨#[]⟩]], [pre.length]⟩) (fun _ _ _ => True) () ?_ trivial ?_ ?_
  · simp only [parsR, List.map_nil]
    simp -implicitDefEqProofs only [go_sem]
    rfl
  · intro _ _
    simp -implicitDefEqProofs only [go_sem, row_getDi h1, kid_getD (j := 1) (show 1 < (rwAt l i).kids.length by omega), kid_getDi (j := 1) (show 1 < (rwAt l i).kids.length by omega), row_getDi h4]
    intro _ _
    refine ⟨by omega, by omega, by omega, ?_⟩
    simp [signR, Sg.enc, hq]
  · rintro pre x post _ rfl _
    have hpl : (pre ++ x :: post).length = pre.length + 1 + post.length := by simp; omega
    obtain ⟨g1, g2, g3⟩ := h5 x (by simp)
    have hgx : ((pre ++ x :: post).map encI).getD (pre.length : Int).toNat [] = [.int .i64 x] := by
      simp [List.getD_eq_getElem?_getD, encI]
    have hpp : parsR l (pre ++ [x]) = parsR l pre ++ [(rwAt l (kdAt l x 0)).text] := by simp [parsR]
    have hppl : (parsR l pre).length = pre.length := by simp [parsR]
    simp -implicitDefEqProofs only [go_sem, hppl]
    intro _ _
    refine snd_draw (cs := []) mixed (by kernel_rfl) ?_
    simp -implicitDefEqProofs only [go_sem, hgx, encI, row_getDi g1, kid_getD (j := 0) g2, kid_getDi (j := 0) g2, row_getDi g3, hppl]
    refine ⟨by omega, by omega, by omega, by omega, (), wrap_next (by omega), ?_⟩
    rw [hpp, List.map_append]; rfl
def encSgO (o : Option Sg) : V := .tuple [.agg (match o with | some s => s.enc | none => [sl 9 [], .str ⟨#[]⟩]), .bool o.isSome]
/-- Where a declaration is found, its rows are there. -/
def declOK (u : List Un) (d : Dl) : Prop := 0 ≤ d.unit ∧ 0 ≤ d.node ∧ ∃ x, u[d.unit.toNat]? = some x ∧ signOK (rowsN x.tree (-1) 0) d.node.toNat
def ofU (u : List Un) (kind : Int) (owner name : ByteArray) : Option Sg := (findD (declsU u 0) kind owner name).bind fun d => (u[d.unit.toNat]?).map fun x => signR (rowsN x.tree (-1) 0) d.node.toNat
theorem un_getD {u : List Un} {i : Int} {x : Un} (h : u[i.toNat]? = some x) : (u.map Un.enc).getD i.toNat [] = x.enc := by
  rw [List.getD_eq_getElem?_getD, List.getElem?_map, h]; rfl
theorem R14of (u : List Un) (hu : fitU u) (kind : Int) (owner name : ByteArray) (hok : ∀ d, findD (declsU u 0) kind owner name = some d → declOK u d) : VPure env 90 [sl 34 (u.map Un.enc), .int .i64 kind, .str owner, .str name] (encSgO (ofU u kind owner name)) := by
  have hfd := R11Find u hu kind owner name
  rw [ofU]
  cases hd : findD (declsU u 0) kind owner name with
  | none =>
    rw [hd] at hfd
    refine vpure_vc (fn := Tryz.f90) Tryz.func90 rfl (by rw [Tryz.ntmps90]; simp) (by simp -implicitDefEqProofs only [go_sem]; exact uns_pure _) (by simp -implicitDefEqProofs only [go_sem, encSgO, Option.bind, Sg.enc]) ?_
    simp -implicitDefEqProofs only [go_sem, Tryz.f90]
    refine hfd.calls (by simp -implicitDefEqProofs only [go_sem]) ?_
    simp -implicitDefEqProofs only [go_sem, encDO, Option.isSome]
    rfl
  | some d =>
    rw [hd] at hfd
    obtain ⟨d1, d2, x, hx, hs⟩ := hok d hd
    have hxu := hu.2 x (List.mem_of_getElem? hx)
    refine vpure_vc (fn := Tryz.f90) Tryz.func90 rfl (by rw [Tryz.ntmps90]; simp) (by simp -implicitDefEqProofs only [go_sem]; exact uns_pure _) (by simp -implicitDefEqProofs only [go_sem, encSgO, Option.bind, Sg.enc, hx, Option.map_some]) ?_
    simp -implicitDefEqProofs only [go_sem, Tryz.f90]
    refine hfd.calls (by simp -implicitDefEqProofs only [go_sem]) ?_
    simp -implicitDefEqProofs only [go_sem, encDO, Option.isSome, Option.getD, un_getD hx]
    refine snd_draw (cs := []) mixed (by kernel_rfl) ?_
    simp -implicitDefEqProofs only [go_sem, un_getD hx]
    have hul : d.unit < u.length := by have := (List.getElem?_eq_some_iff.1 hx).1; omega
    refine ⟨⟨by omega, by omega⟩, ?_⟩
    refine vPC_of (R06Rows x.tree (by omega)) (by simp -implicitDefEqProofs only [go_sem]) ?_
    simp -implicitDefEqProofs only [go_sem]
    have hsg := R14sign (rowsN x.tree (-1) 0) d.node.toNat hs
    rw [show ((d.node.toNat : Nat) : Int) = d.node by omega] at hsg
    refine vPC_of hsg (by simp -implicitDefEqProofs only [go_sem]) ?_
    simp -implicitDefEqProofs only [go_sem]
    simp [encSgO, hx]
end Go.Proofs.YtamednbojpnalaaGreatDoor
set_option linter.unusedVariables false
set_option linter.unusedSimpArgs false
namespace Go.Vg
theorem fit_sound {u : List Un} (hu : fitU u) : fitU (u.map Un.sound) := by
  refine ⟨by rw [List.length_map]; exact hu.1, fun x hx => ?_⟩
  obtain ⟨y, hy, rfl⟩ := List.mem_map.1 hx
  rw [Un.sound]
  split
  · exact hu.2 y hy
  · refine ⟨by simp [Nd.zero, nodes, nodesL], fun z hz => ?_⟩
    simp [Nd.zero, nodes, nodesL] at hz
    subst hz
    exact Nat.zero_le _
def kindOf (owner : ByteArray) : Int := if owner = ⟨#[]⟩ then 1 else 4
end Go.Vg
namespace Go.Proofs.YtamednbojpnalaaGreatDoor
open Go Go.Vg Go.Proofs
/-- The signature of a callable, by the sound units. -/
def sigU (u : List Un) (owner name : ByteArray) : Option Sg := ofU (u.map Un.sound) (kindOf owner) owner name
def encSig (o : Option Sg) : V := .tuple [.agg (match o with | some s => s.enc | none => [sl 9 [], .str ⟨#[]⟩]), .int .i64 (match o with | some _ => 0 | none => 5)]
theorem R14Signature (u : List Un) (hu : fitU u) (hg : gapsU u) (owner name : ByteArray) (hok : ∀ d, findD (declsU (u.map Un.sound) 0) (kindOf owner) owner name = some d → declOK (u.map Un.sound) d) :
    VPure env 61 [sl 34 (u.map Un.enc), .str owner, .str name] (encSig (sigU u owner name)) := by
  have hof := R14of (u.map Un.sound) (fit_sound hu) (kindOf owner) owner name hok
  rw [sigU]
  refine vpure_vc (fn := Tryz.f61) Tryz.func61 rfl (by rw [Tryz.ntmps61]; simp) (by simp -implicitDefEqProofs only [go_sem]; exact uns_pure _) (by unfold encSig; split <;> simp -implicitDefEqProofs only [go_sem, Sg.enc]) ?_
  simp -implicitDefEqProofs only [go_sem, Tryz.f61]
  generalize ofU (u.map Un.sound) (kindOf owner) owner name = o at hof ⊢
  refine ⟨fun h => ?_, fun h => ?_⟩
  · have hk : kindOf owner = 4 := if_neg (by simpa using h)
    rw [hk] at hof
    refine (R14sounds u hg hu.1).calls (by simp -implicitDefEqProofs only [go_sem]) ?_
    simp -implicitDefEqProofs only [go_sem]
    refine hof.calls (by simp -implicitDefEqProofs only [go_sem]) ?_
    cases o
    all_goals
      simp -implicitDefEqProofs only [go_sem, encSgO, Option.isSome]
      rfl
  · have hk : kindOf owner = 1 := if_pos (by simpa using h)
    rw [hk] at hof
    refine (R14sounds u hg hu.1).calls (by simp -implicitDefEqProofs only [go_sem]) ?_
    simp -implicitDefEqProofs only [go_sem]
    refine hof.calls (by simp -implicitDefEqProofs only [go_sem]) ?_
    cases o
    all_goals
      simp -implicitDefEqProofs only [go_sem, encSgO, Option.isSome]
      rfl
end Go.Proofs.YtamednbojpnalaaGreatDoor
set_option linter.unusedVariables false
set_option linter.unusedSimpArgs false
namespace Go.Proofs.YtamednbojpnalaaGreatDoor
open Go Go.Vg Go.Proofs
theorem Gknown (k : Int) : VPure env 118 [.int .i64 k] (.bool (decide (1 ≤ k) && decide (k < 27))) := by
  refine vpure_vc (fn := Tryz.f118) Tryz.func118 rfl (by rw [Tryz.ntmps118]; simp) (by simp -implicitDefEqProofs only [go_sem]) rfl ?_
  simp -implicitDefEqProofs only [go_sem, Tryz.f118]
  exact ⟨fun h => by simp [h], fun h => by simp [h]⟩
theorem GGroup (k : Int) : VPure env 205 [.int .i64 k] (.int .i64 (groupK k)) := by
  refine vpure_vc (fn := Tryz.f205) Tryz.func205 rfl (by rw [Tryz.ntmps205]; simp) (by simp -implicitDefEqProofs only [go_sem]) rfl ?_
  simp -implicitDefEqProofs only [go_sem, Tryz.f205]
  repeat' (first | apply And.intro | intro)
  all_goals (first | contradiction | omega | (congr 1; unfold groupK; grind))
theorem Gmost (k : Int) : VPure env 117 [.int .i64 k] (.int .i64 (mostK k)) := by
  refine vpure_vc (fn := Tryz.f117) Tryz.func117 rfl (by rw [Tryz.ntmps117]; simp) (by simp -implicitDefEqProofs only [go_sem]) rfl ?_
  simp -implicitDefEqProofs only [go_sem, Tryz.f117]
  repeat' (first | apply And.intro | intro)
  all_goals (first | contradiction | omega | (congr 1; unfold mostK; grind))
theorem GLevel (n : Nd) : VPure env 155 [.agg n.enc] (.int .i64 n.level) := by
  obtain ⟨k, t, g, ks⟩ := n
  refine vpure_vc (fn := Tryz.f155) Tryz.func155 rfl (by rw [Tryz.ntmps155]; simp) (by simp -implicitDefEqProofs only [go_sem]) rfl ?_
  simp -implicitDefEqProofs only [go_sem, Tryz.f155]
  refine (GGroup k).calls (by simp -implicitDefEqProofs only [go_sem]) ?_
  simp -implicitDefEqProofs only [go_sem]
  have e : (Nd.mk k t g ks).level = levelK k t := rfl
  rw [e]
  have h24 : groupK 24 = 3 := by decide
  have h25 : groupK 25 = 3 := by decide
  repeat' (first | apply And.intro | intro)
  all_goals (first | contradiction | (congr 1; unfold levelK opLevel; grind))
end Go.Proofs.YtamednbojpnalaaGreatDoor
set_option linter.unusedVariables false
set_option linter.unusedSimpArgs false
namespace Go.Vg
mutual
def withinN : Nd → Int → Int → Int
  | .mk k t g ks, l, d => if l ≤ 0 ∨ d ≤ 0 ∨ mostK k < (ks.length : Int) then -1 else withinNs ks (l - 1) (d - 1)
def withinNs : List Nd → Int → Int → Int
  | [], l, _ => l
  | x :: r, l, d => if withinN x l d < 0 then -1 else withinNs r (withinN x l d) d
end
mutual
theorem withinN_le : ∀ (n : Nd) (l d : Int), l ≤ 1000000 → -1 ≤ withinN n l d ∧ withinN n l d ≤ 1000000
  | .mk k t g ks, l, d, h => by
    rw [withinN]
    split
    · omega
    · rename_i hc
      exact withinNs_le ks (l - 1) (d - 1) (by omega) (by omega)
theorem withinNs_le : ∀ (ks : List Nd) (l d : Int), -1 ≤ l → l ≤ 1000000 → -1 ≤ withinNs ks l d ∧ withinNs ks l d ≤ 1000000
  | [], l, d, h0, h => ⟨h0, h⟩
  | x :: r, l, d, h0, h => by
    have h1 := withinN_le x l d h
    rw [withinNs]
    split
    · omega
    · exact withinNs_le r _ d h1.1 h1.2
end
end Go.Vg
namespace Go.Proofs.YtamednbojpnalaaGreatDoor
open Go Go.Vg Go.Proofs
theorem Gwithin : (n : Nd) → ∀ (l d : Int), l ≤ 1000000 → d ≤ 1000000 → -1000000 ≤ d → VPure env 83 [.agg n.enc, .int .i64 l, .int .i64 d] (.int .i64 (withinN n l d)) := by
  refine Nd.all fun k t g ks ih l d h1 h2 h3 => ?_
  refine vpure_vc (fn := Tryz.f83) Tryz.func83 rfl (by rw [Tryz.ntmps83]; simp) (by simp -implicitDefEqProofs only [go_sem]) rfl ?_
  simp -implicitDefEqProofs only [go_sem, Tryz.f83]
  rw [withinN]
  refine snd_draw (cs := []) mixed (by kernel_rfl) ?_
  simp -implicitDefEqProofs only [go_sem]
  refine ⟨fun a1 => ⟨fun a2 => ?_, fun a2 => by rw [if_pos (by omega)]⟩, fun a1 => by rw [if_pos (by omega)]⟩
  refine vPC_of (Gmost k) rfl ?_
  simp -implicitDefEqProofs only [go_sem]
  refine ⟨fun a3 => by rw [if_pos (by omega)], fun a3 => ?_⟩
  rw [if_neg (by omega)]
  intro hb hl
  refine snd_list (β := Int) ks (fun pre m => ⟨[(29, .int .i64 pre.length), (28, .int .i64 ks.length), (27, sl 32 (ks.map Nd.enc)), (1, .int .i64 m), (2, .int .i64 d)], [.dead], []⟩)
    (fun pre post m => withinNs ks (l - 1) (d - 1) = withinNs post m (d - 1) ∧ 0 ≤ m ∧ m ≤ 1000000) (l - 1) ?_ ⟨rfl, by omega, by omega⟩ ?_ ?_
  · simp -implicitDefEqProofs only [go_sem]
    exact ⟨rfl, wrap_small (by omega) (by omega)⟩
  · rintro m ⟨hi, _⟩
    simp -implicitDefEqProofs only [go_sem]
    rw [hi]; rfl
  · rintro pre x post m rfl ⟨hi, hm0, hm⟩
    have hpl : (pre ++ x :: post).length = pre.length + 1 + post.length := by simp; omega
    simp -implicitDefEqProofs only [go_sem]
    rw [wrap_small (x := d - 1) (by omega) (by omega)]
    have hle := withinN_le x m (d - 1) hm
    refine (ih x mem_mid m (d - 1) hm (by omega) (by omega)).calls (by simp -implicitDefEqProofs only [go_sem]) ?_
    simp -implicitDefEqProofs only [go_sem]
    rw [hi, withinNs]
    refine ⟨fun h => by rw [if_pos h], fun h => ⟨_, ⟨?_, ?_, ?_⟩, wrap_next (by omega), rfl⟩⟩
    · rw [if_neg h]
    · omega
    · omega
end Go.Proofs.YtamednbojpnalaaGreatDoor
